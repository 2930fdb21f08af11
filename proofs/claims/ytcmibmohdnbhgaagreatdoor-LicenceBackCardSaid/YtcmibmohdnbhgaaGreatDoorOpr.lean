import Derived.Test.YtcmibmohdnbhgaaGreatDoorD12
import Derived.Test.YtcmibmohdnbhgaaGreatDoorRows
set_option linter.unusedVariables false
set_option linter.unusedSimpArgs false
set_option linter.unusedSectionVars false
namespace Go.Lad
open Go.RowKit Go.ChangeShapes Go.WideShapes Go.Deep
def TD (t:Ty):Type:=t.den
theorem cells_pos (t:Ty):0 < t.cells:=by induction t <;> simp [Ty.cells] <;> omega
instance (t:Ty):GoRep (TD t) where
 sz:=t.cells
 rd F w cs x:=RdL F w (enc t x) cs
 len h:=by rw[← h.1]; exact enc_len t _
 one h:=h.one
 frame hf h:=h.frame hf
instance (t:Ty):Enc (TD t) where
 enc x:=enc t x
 rd _ h:=h
 pos:=cells_pos t
section
variable {P:Program}
theorem opens_tint {T:TypeId} {k:IntKind} (ht:P.underlying T = some (.int k)):Opens P T (TD (.int k)):=by
 intro H en w base sp held fuel cs y h
 obtain⟨n,rfl,_,hw⟩:=DataW.trod_int ht h
 refine⟨(n:Int),.one1 (.int ?_)⟩
 simp only[Lit.wf,Bool.and_eq_true,decide_eq_true_eq] at hw
 exact hw
theorem opens_tbool {T:TypeId} (ht:P.underlying T = some .bool):Opens P T (TD .bool):=by
 intro H en w base sp held fuel cs y h
 obtain⟨x,hx⟩:=opens_bool ht H en w base sp held fuel cs y h
 have hx:cs = [.bool x]:=hx
 subst hx
 exact⟨x,.one1 .bool⟩
theorem opens_tstr {T:TypeId} (ht:P.underlying T = some .string):Opens P T (TD .str):=by
 intro H en w base sp held fuel cs y h
 obtain⟨s,rfl,_,hw⟩:=DataW.trod_string ht h
 refine⟨bs s,.one1 ?_⟩
 rw[bs_mk]
 exact .str (by simpa [maxLen] using hw)
theorem opens_tsl {T e:TypeId} {te:Ty} (ht:P.underlying T = some (.slice e)) (hC:P.cellsOf e = te.cells) (ho:Opens P e (TD te)):Opens P T (TD (.sl te)):=by
 intro H en w base sp held fuel cs y h
 obtain⟨l,hl⟩:=opens_slice (α:=TD te) ht hC (cells_pos te) ho H en w base sp held fuel cs y h
 have:=EncT.rd (α:=List (TD te)) (F:=Old w) (fun b hb=>hb) hl
 exact⟨l,this⟩
def OpensTF (P:Program) (off:Nat) (fs:List Field) (t:Ty):Prop :=
 ∀ (H:Type) (en:TypeId × Value → H) (w:World) (base:Nat) (sp:Nat → Bool) (held:Bool) (fuel:Nat) (cs:List Value),
  cs.length = off + t.cells → (∀ f ∈ fs,∃ y,DataW.trod en P w base sp held fuel f.type ((cs.drop f.offset).take (P.cellsOf f.type)) = some y) → ∃ x:t.den,RdL (Old w) w (enc t x) (cs.drop off)
theorem opensTF_one {off:Nat} {f:Field} {t:Ty} (ho:f.offset = off) (hC:P.cellsOf f.type = t.cells) (ha:Opens P f.type (TD t)):OpensTF P off [f] t:=by
 intro H en w base sp held fuel cs hl hf
 obtain⟨y,hy⟩:=hf f (by simp)
 obtain⟨x,hx⟩:=ha H en w base sp held fuel _ y hy
 rw[ho,hC] at hx
 have e:(cs.drop off).take t.cells = cs.drop off:=List.take_of_length_le (by rw[List.length_drop]; omega)
 rw[e] at hx
 exact⟨x,hx⟩
theorem opensTF_cons {off:Nat} {f g:Field} {fs:List Field} {a b:Ty} (ho:f.offset = off) (hC:P.cellsOf f.type = a.cells) (ha:Opens P f.type (TD a)) (hb:OpensTF P (off + a.cells) (g :: fs) b):OpensTF P off (f :: g :: fs) (.pair a b):=by
 intro H en w base sp held fuel cs hl hf
 obtain⟨y,hy⟩:=hf f (by simp)
 obtain⟨x,hx⟩:=ha H en w base sp held fuel _ y hy
 obtain⟨z,hz⟩:=hb H en w base sp held fuel cs (by rw[hl]; show off + (a.cells + b.cells) = _; omega) (fun q hq=>hf q (List.mem_cons_of_mem _ hq))
 rw[ho,hC] at hx
 have hx:RdL (Old w) w (enc a x) ((cs.drop off).take a.cells):=hx
 refine⟨(x,z),?_⟩
 have e:cs.drop off = (cs.drop off).take a.cells ++ cs.drop (off + a.cells):=by
  rw[← List.drop_drop,List.take_append_drop]
 show RdL (Old w) w (enc a x ++ enc b z) (cs.drop off)
 rw[e]
 exact hx.app hz
theorem opens_any {T:TypeId} (h:(∃ t,t ≠ .any ∧ isLeaf t = true ∧ Opens P T (TD t)) ∨ ∃ e,P.underlying T = some (.slice e)):Opens P T (TD .any):=by
 intro H en w base sp held fuel cs y hy
 have key:∃ v,cs = [v] ∧ v.oneCell' = true:=by
  rcases h with⟨t,_,hl,ho⟩ | ⟨e,he⟩
  ·obtain⟨x,hx⟩:=ho H en w base sp held fuel cs y hy
   have hx:RdL (Old w) w (enc t x) cs:=hx
   obtain⟨p,hp,_⟩:=enc_leaf hl x
   rw[hp] at hx
   cases cs with
   | nil=>cases hx.1
   | cons v l=>cases l with
    | nil=>exact⟨v,rfl,(hx.2 0 p v rfl rfl).one⟩
    | cons _ _=>have:=hx.1; simp at this
  ·rcases open_slice he hy with⟨rfl,_⟩ | ⟨a,len,cap,m,n,D,Pl,rfl,_⟩
   ·exact⟨_,rfl,rfl⟩
   ·exact⟨_,rfl,rfl⟩
 obtain⟨v,rfl,hv⟩:=key
 exact⟨(v:Value),.one1 (.oth hv)⟩
def opF (P:Program) (op:TypeId → Ty → Bool):Nat → List Field → Ty → Bool
 | off,[f],t=>Nat.beq f.offset off && Nat.beq (P.cellsOf f.type) t.cells && op f.type t
 | off,f :: g :: fs,.pair a b=>Nat.beq f.offset off && Nat.beq (P.cellsOf f.type) a.cells && op f.type a && opF P op (off + a.cells) (g :: fs) b
 | _,_,_=>false
def opTy (P:Program):Nat → TypeId → Ty → Bool
 | 0,_,_=>false
 | n + 1,T,t=>match P.underlying T,t with
  | some (.int _),.any=>true
  | some .bool,.any=>true
  | some .string,.any=>true
  | some (.slice _),.any=>true
  | some (.int k),.int k'=>k == k'
  | some .bool,.bool=>true
  | some .string,.str=>true
  | some (.slice e),.sl te=>Nat.beq (P.cellsOf e) te.cells && opTy P n e te
  | some (.struct fs),t=>Nat.beq (P.cellsOf T) t.cells && opF P (opTy P n) 0 fs.toList t
  | _,_=>false
theorem opF_ok {op:TypeId → Ty → Bool} (hop:∀ T t,op T t = true → Opens P T (TD t)):∀ (fs:List Field) (off:Nat) (t:Ty),opF P op off fs t = true → OpensTF P off fs t
 | [],off,t,h=>by unfold opF at h; cases h
 | [f],off,t,h=>by
  unfold opF at h
  simp only[Bool.and_eq_true,beqN,decide_eq_true_eq] at h
  exact opensTF_one h.1.1 h.1.2 (hop _ _ h.2)
 | f :: g :: fs,off,.pair a b,h=>by
  unfold opF at h
  simp only[Bool.and_eq_true,beqN,decide_eq_true_eq] at h
  exact opensTF_cons h.1.1.1 h.1.1.2 (hop _ _ h.1.2) (opF_ok hop (g :: fs) _ b h.2)
 | f :: g :: fs,off,.int k,h=>by unfold opF at h; cases h
 | f :: g :: fs,off,.any,h=>by unfold opF at h; cases h
 | f :: g :: fs,off,.bool,h=>by unfold opF at h; cases h
 | f :: g :: fs,off,.str,h=>by unfold opF at h; cases h
 | f :: g :: fs,off,.sl e,h=>by unfold opF at h; cases h
theorem opens_ty:∀ (n:Nat) (T:TypeId) (t:Ty),opTy P n T t = true → Opens P T (TD t)
 | 0,T,t,h=>by cases h
 | n + 1,T,t,h=>by
  unfold opTy at h
  split at h
  ·rename_i k hu; exact opens_any (.inl ⟨_,by simp,rfl,opens_tint hu⟩)
  ·rename_i hu; exact opens_any (.inl ⟨_,by simp,rfl,opens_tbool hu⟩)
  ·rename_i hu; exact opens_any (.inl ⟨_,by simp,rfl,opens_tstr hu⟩)
  ·rename_i e hu; exact opens_any (.inr ⟨_,hu⟩)
  ·rename_i k k' hu
   rw[beq_iff_eq] at h
   subst h
   exact opens_tint hu
  ·rename_i hu; exact opens_tbool hu
  ·rename_i hu; exact opens_tstr hu
  ·rename_i e te hu
   rw[Bool.and_eq_true,beqN,decide_eq_true_eq] at h
   exact opens_tsl hu h.1 (opens_ty n e te h.2)
  ·rename_i t x1 x2 fs hu
   rw[Bool.and_eq_true,beqN,decide_eq_true_eq] at h
   have hF:=opF_ok (opens_ty n) fs.toList 0 t h.2
   intro H en w base sp held fuel cs y hy
   obtain⟨xs,m,_,_,hlen,hxl,hg⟩:=DataW.trod_struct hu hy
   have:=hF H en w base sp held m cs (by rw[hlen,h.1,Nat.zero_add]) (fun f hfm=>by
    obtain⟨i,hi⟩:=List.mem_iff_getElem?.1 hfm
    have h1:=hg i f (by simpa using hi)
    have hil:i < fs.toList.length:=(List.getElem?_eq_some_iff.1 hi).1
    have hil':i < xs.length:=by rw[hxl]; simpa using hil
    rw[List.getElem?_eq_getElem hil'] at h1
    exact⟨_,h1⟩)
   obtain⟨x,hx⟩:=this
   rw[List.drop_zero] at hx
   exact⟨x,hx⟩
  ·cases h
theorem srd_tagg {t:Ty} {w:World} {x:TD t} {cs:Array Value} (h:GoRep.rd (Old w) w (Value.agg cs).cells.toList x):SRd ⟨fun _=>0,fun _=>0,fun _=>undef⟩ (hpL []) w (.c (.g ((leavesT t x).map TL.un))) (.agg cs):=by
 have h:RdL (Old w) w (enc t x) cs.toList:=h
 have e:List.map TL.un (leavesT t x) = (enc t x).map .p:=leaves_un t x
 have:=srd_g h
 rw[← e] at this
 exact this
end
end Go.Lad
namespace Go.Proofs.YtcmibmohdnbhgaaGreatDoor.bulks
open Go.Lad Go.RowKit Go.ChangeShapes Go.WideShapes Go.Deep
theorem one_le {H:Type} (d:DataW H):1 ≤ Rows.uptoBulk d:=by
 cases d with
 | lit l=>cases l <;> simp [Rows.uptoBulk]
 | nil=>simp [Rows.uptoBulk]
 | ptr d=>simp [Rows.uptoBulk]
 | slice elems spare=>simp [Rows.uptoBulk]
 | agg parts=>simp [Rows.uptoBulk]
 | iface t d=>simp [Rows.uptoBulk]
 | map entries=>simp [Rows.uptoBulk]
 | held h=>simp [Rows.uptoBulk]
theorem length_le {H:Type} (l:List (DataW H)):l.length ≤ Rows.uptoBulkAll l:=by
 induction l with
 | nil=>simp [Rows.uptoBulkAll]
 | cons x r ih=>have:=one_le x; simp only[Rows.uptoBulkAll,List.length_cons]; omega
end Go.Proofs.YtcmibmohdnbhgaaGreatDoor.bulks
namespace Go.Lad
open Go.RowKit Go.ChangeShapes Go.WideShapes Go.Deep
section
variable {P:Program} {H:Type} {en:TypeId × Value → H} {w:World} {base:Nat} {sp:Nat → Bool} {held:Bool}
theorem slice_at {T e:TypeId} {α:Type} [GoRep α] {fuel:Nat} {cs:List Value} {y:DataW H × List MemPlace} (ht:P.underlying T = some (.slice e)) (hC:P.cellsOf e = GoRep.sz α) (hpos:0 < GoRep.sz α)
  (h:DataW.trod en P w base sp held fuel T cs = some y) (ho:∀ n,fuel = n + 1 → ∀ cs y,DataW.trod en P w base sp held n e cs = some y → ∃ x:α,GoRep.rd (Old w) w cs x):∃ l:List α,GoRep.rd (Old w) w cs l:=by
 rcases DataW.trod_slice ht h with⟨rfl,_⟩ | ⟨a,len,cap,elems,rest,n,hn0,rfl,_,hb,hl,hm,hlen0,hel,_,_⟩
 ·exact⟨[],none,0,0,rfl,Sl.empty _ _⟩
 ·have hex:∀ i:Fin len,∃ x:α,∃ cs',w.cells? base (a.add (i.1 * P.cellsOf e)) (P.cellsOf e) = some cs' ∧ GoRep.rd (Old w) w cs' x:=by
   intro i
   have h1:=hel i.1 i.2
   rw[List.getElem?_eq_getElem (by omega)] at h1
   obtain⟨cs',h2,h3⟩:=Option.bind_eq_some_iff.1 h1
   obtain⟨x,hx'⟩:=ho n hn0 cs' _ h3
   exact⟨x,cs',h2,hx'⟩
  refine⟨List.ofFn fun i=>Classical.choose (hex i),some a,len,cap,rfl,by simp,hl,by simpa [maxLen] using hm,by simp,fun hn=>?_⟩
  have hspot:a.spot = none:=by
   obtain⟨x,cs',h1,_⟩:=hex ⟨0,hn⟩
   obtain⟨_,hlen,hat⟩:=World.cells?_some h1
   have h0:=hat 0 (by rw[hC]; exact hpos)
   have e0:(a.add (0 * P.cellsOf e)).add 0 = a:=by simp [Addr.add]
   rw[e0] at h0
   rw[List.getElem?_eq_getElem (by rw[hlen,hC]; exact hpos)] at h0
   exact World.cell?_spot h0
  obtain⟨b,off,spot⟩:=a
  subst hspot
  refine⟨b,off,rfl,fun i x hi=>?_⟩
  have hil:i < len:=by simpa using (List.getElem?_eq_some_iff.1 hi).1
  rw[List.getElem?_ofFn,dif_pos hil] at hi
  injection hi with hi
  obtain⟨cs',h1,h2⟩:=Classical.choose_spec (hex ⟨i,hil⟩)
  rw[hi] at h2
  refine⟨cs',h2,fun j u hu=>?_⟩
  obtain⟨_,hlen,hat⟩:=World.cells?_some h1
  have hj:j < cs'.length:=(List.getElem?_eq_some_iff.1 hu).1
  have h3:=hat j (by rw[← hlen]; exact hj)
  rw[add_none,add_none,hC,hu] at h3
  exact⟨cell_lt h3,h3⟩
end
section
variable {P:Program}
def OpensM (P:Program) (m:Nat) (T:TypeId) (t:Ty):Prop :=
 ∀ (H:Type) (en:TypeId × Value → H) (w:World) (base:Nat) (sp:Nat → Bool) (held:Bool) (cs:List Value) (y:DataW H × List MemPlace),DataW.trod en P w base sp held m T cs = some y → ∃ x:t.den,RdL (Old w) w (enc t x) cs
def OpensTFm (P:Program) (m off:Nat) (fs:List Field) (t:Ty):Prop :=
 ∀ (H:Type) (en:TypeId × Value → H) (w:World) (base:Nat) (sp:Nat → Bool) (held:Bool) (cs:List Value),
  cs.length = off + t.cells → (∀ f ∈ fs,∃ y,DataW.trod en P w base sp held m f.type ((cs.drop f.offset).take (P.cellsOf f.type)) = some y) → ∃ x:t.den,RdL (Old w) w (enc t x) (cs.drop off)
theorem opensTFm_one {m off:Nat} {f:Field} {t:Ty} (ho:f.offset = off) (hC:P.cellsOf f.type = t.cells) (ha:OpensM P m f.type t):OpensTFm P m off [f] t:=by
 intro H en w base sp held cs hl hf
 obtain⟨y,hy⟩:=hf f (by simp)
 obtain⟨x,hx⟩:=ha H en w base sp held _ y hy
 rw[ho,hC] at hx
 have e:(cs.drop off).take t.cells = cs.drop off:=List.take_of_length_le (by rw[List.length_drop]; omega)
 rw[e] at hx
 exact⟨x,hx⟩
theorem opensTFm_cons {m off:Nat} {f g:Field} {fs:List Field} {a b:Ty} (ho:f.offset = off) (hC:P.cellsOf f.type = a.cells) (ha:OpensM P m f.type a) (hb:OpensTFm P m (off + a.cells) (g :: fs) b):OpensTFm P m off (f :: g :: fs) (.pair a b):=by
 intro H en w base sp held cs hl hf
 obtain⟨y,hy⟩:=hf f (by simp)
 obtain⟨x,hx⟩:=ha H en w base sp held _ y hy
 obtain⟨z,hz⟩:=hb H en w base sp held cs (by rw[hl]; show off + (a.cells + b.cells) = _; omega) (fun q hq=>hf q (List.mem_cons_of_mem _ hq))
 rw[ho,hC] at hx
 refine⟨(x,z),?_⟩
 have e:cs.drop off = (cs.drop off).take a.cells ++ cs.drop (off + a.cells):=by
  rw[← List.drop_drop,List.take_append_drop]
 show RdL (Old w) w (enc a x ++ enc b z) (cs.drop off)
 rw[e]
 exact hx.app hz
theorem opFm_ok {m:Nat} {op:TypeId → Ty → Bool} (hop:∀ T t,op T t = true → OpensM P m T t):∀ (fs:List Field) (off:Nat) (t:Ty),opF P op off fs t = true → OpensTFm P m off fs t
 | [],off,t,h=>by unfold opF at h; cases h
 | [f],off,t,h=>by
  unfold opF at h
  simp only[Bool.and_eq_true,beqN,decide_eq_true_eq] at h
  exact opensTFm_one h.1.1 h.1.2 (hop _ _ h.2)
 | f :: g :: fs,off,.pair a b,h=>by
  unfold opF at h
  simp only[Bool.and_eq_true,beqN,decide_eq_true_eq] at h
  exact opensTFm_cons h.1.1.1 h.1.1.2 (hop _ _ h.1.2) (opFm_ok hop (g :: fs) _ b h.2)
 | f :: g :: fs,off,.int k,h=>by unfold opF at h; cases h
 | f :: g :: fs,off,.any,h=>by unfold opF at h; cases h
 | f :: g :: fs,off,.bool,h=>by unfold opF at h; cases h
 | f :: g :: fs,off,.str,h=>by unfold opF at h; cases h
 | f :: g :: fs,off,.sl e,h=>by unfold opF at h; cases h
 | f :: g :: fs,off,.slu e,h=>by unfold opF at h; cases h
theorem struct_m {m:Nat} {op:TypeId → Ty → Bool} {T:TypeId} {t:Ty} {fs:Array Field} (hu:P.underlying T = some (.struct fs)) (hC:P.cellsOf T = t.cells) (hop:∀ k,m = k + 1 → ∀ T t,op T t = true → OpensM P k T t) (h:opF P op 0 fs.toList t = true):OpensM P m T t:=by
 intro H en w base sp held cs y hy
 obtain⟨xs,k,hk,_,hlen,hxl,hg⟩:=DataW.trod_struct hu hy
 have:=opFm_ok (hop k hk) fs.toList 0 t h H en w base sp held cs (by rw[hlen,hC,Nat.zero_add]) (fun f hfm=>by
  obtain⟨i,hi⟩:=List.mem_iff_getElem?.1 hfm
  have h1:=hg i f (by simpa using hi)
  have hil:i < fs.toList.length:=(List.getElem?_eq_some_iff.1 hi).1
  have hil':i < xs.length:=by rw[hxl]; simpa using hil
  rw[List.getElem?_eq_getElem hil'] at h1
  exact⟨_,h1⟩)
 obtain⟨x,hx⟩:=this
 rw[List.drop_zero] at hx
 exact⟨x,hx⟩
def opR (P:Program) (i:Nat) (T0:TypeId):Nat → TypeId → Ty → Bool
 | 0,_,_=>false
 | n + 1,T,t=>match t with
  | .slu j=>Nat.beq j i && Nat.beq T T0
  | t=>match P.underlying T with
   | some (.struct fs)=>Nat.beq (P.cellsOf T) t.cells && opF P (opR P i T0 n) 0 fs.toList t
   | _=>opTy P (n + 1) T t
theorem opR_ok {i:Nat} {T0:TypeId}:∀ (n m:Nat),(∀ m',m' ≤ m → OpensM P m' T0 (.slu i)) → ∀ T t,opR P i T0 n T t = true → OpensM P m T t
 | 0,m,hrec,T,t,h=>by cases h
 | n + 1,m,hrec,T,t,h=>by
  unfold opR at h
  split at h
  ·rename_i j
   rw[Bool.and_eq_true,beqN,beqN,decide_eq_true_eq,decide_eq_true_eq] at h
   obtain⟨rfl,rfl⟩:=h
   exact hrec m (Nat.le_refl _)
  ·split at h
   ·rename_i fs hu
    rw[Bool.and_eq_true,beqN,decide_eq_true_eq] at h
    exact struct_m hu h.1 (fun k hk=>opR_ok n k fun m' hm'=>hrec m' (by omega)) h.2
   ·intro H en w base sp held cs y hy
    exact opens_ty (n + 1) T t h H en w base sp held m cs y hy
theorem opens_slu {i n:Nat} {T0 e:TypeId} (hu:P.underlying T0 = some (.slice e)) (hC:P.cellsOf e = (Ubody i).cells) (hop:opR P i T0 n e (Ubody i) = true):∀ m,OpensM P m T0 (.slu i):=by
 intro m
 induction m using Nat.strongRecOn with
 | ind m ih =>
  intro H en w base sp held cs y hy
  obtain⟨l,hl⟩:=slice_at (α:=TD (Ubody i)) hu hC (cells_pos _) hy fun k hk cs y h=>opR_ok n k (fun m' hm'=>ih m' (by omega)) e (Ubody i) hop H en w base sp held cs y h
  have h2:GoRep.rd (α:=TD (.sl (Ubody i))) (Old w) w cs l:=EncT.rd (α:=List (TD (Ubody i))) (F:=Old w) (fun b hb=>hb) hl
  have h2:RdL (Old w) w (enc (.sl (Ubody i)) l) cs:=h2
  refine⟨List.map (Umk i) l,?_⟩
  exact (congrArg (fun z=>RdL (Old w) w z cs) (enc_slm i l)).mpr h2
def opTyU (P:Program):Nat → TypeId → Ty → Bool
 | 0,_,_=>false
 | n + 1,T,t=>match P.underlying T,t with
  | some (.slice e),.slu i=>Nat.beq (P.cellsOf e) (Ubody i).cells && opR P i T n e (Ubody i)
  | some (.slice e),.sl te=>Nat.beq (P.cellsOf e) te.cells && opTyU P n e te
  | some (.struct fs),t=>Nat.beq (P.cellsOf T) t.cells && opF P (opTyU P n) 0 fs.toList t
  | _,t=>opTy P (n + 1) T t
theorem opens_tyU:∀ (n:Nat) (T:TypeId) (t:Ty),opTyU P n T t = true → Opens P T (TD t)
 | 0,T,t,h=>by cases h
 | n + 1,T,t,h=>by
  unfold opTyU at h
  split at h
  ·rename_i e i hu
   rw[Bool.and_eq_true,beqN,decide_eq_true_eq] at h
   intro H en w base sp held fuel cs y hy
   exact opens_slu hu h.1 h.2 fuel H en w base sp held cs y hy
  ·rename_i e te hu
   rw[Bool.and_eq_true,beqN,decide_eq_true_eq] at h
   exact opens_tsl hu h.1 (opens_tyU n e te h.2)
  ·rename_i t x1 fs hu
   rw[Bool.and_eq_true,beqN,decide_eq_true_eq] at h
   intro H en w base sp held fuel cs y hy
   exact struct_m (m:=fuel) hu h.1 (fun k hk T t ht H en w base sp held cs y hy=>opens_tyU n T t ht H en w base sp held k cs y hy) h.2 H en w base sp held cs y hy
  ·exact opens_ty (n + 1) T _ h
end
end Go.Lad
