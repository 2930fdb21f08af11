import Derived.Test.YtaocfjifacnokaaD12
namespace Go.Lad
set_option linter.unusedVariables false
set_option linter.unusedSimpArgs false
open Go.RowKit Go.ChangeShapes Go.WideShapes Go.Deep
def TD (t:Ty):Type:=t.den
theorem cells_pos (t:Ty):0 < t.cells:=by induction t <;> simp [Ty.cells] <;> omega
instance (t:Ty):GoRep (TD t) where
 sz:=t.cells
 rd F w cs x:=RdL F w (enc t x) cs
 len h:=by rw[← h.1]; exact enc_len t _
 one h:=h.one
 frame hf h:=h.frame hf
instance (t:Ty):Enc (TD t) where
 enc x:=enc t x
 rd _ h:=h
 pos:=cells_pos t
section
variable {P:Program}
theorem opens_tint {T:TypeId} {k:IntKind} (ht:P.underlying T = some (.int k)):Opens P T (TD (.int k)):=by
 intro H en w base sp held fuel cs y h
 obtain⟨n,rfl,_,hw⟩:=DataW.trod_int ht h
 refine⟨(n:Int),.one1 (.int ?_)⟩
 simp only[Lit.wf,Bool.and_eq_true,decide_eq_true_eq] at hw
 exact hw
theorem opens_tbool {T:TypeId} (ht:P.underlying T = some .bool):Opens P T (TD .bool):=by
 intro H en w base sp held fuel cs y h
 obtain⟨x,hx⟩:=opens_bool ht H en w base sp held fuel cs y h
 have hx:cs = [.bool x]:=hx
 subst hx
 exact⟨x,.one1 .bool⟩
theorem opens_tstr {T:TypeId} (ht:P.underlying T = some .string):Opens P T (TD .str):=by
 intro H en w base sp held fuel cs y h
 obtain⟨s,rfl,_,hw⟩:=DataW.trod_string ht h
 refine⟨bs s,.one1 ?_⟩
 rw[bs_mk]
 exact .str (by simpa [maxLen] using hw)
theorem opens_tsl {T e:TypeId} {te:Ty} (ht:P.underlying T = some (.slice e)) (hC:P.cellsOf e = te.cells) (ho:Opens P e (TD te)):Opens P T (TD (.sl te)):=by
 intro H en w base sp held fuel cs y h
 obtain⟨l,hl⟩:=opens_slice (α:=TD te) ht hC (cells_pos te) ho H en w base sp held fuel cs y h
 have:=EncT.rd (α:=List (TD te)) (F:=Old w) (fun b hb=>hb) hl
 exact⟨l,this⟩
def OpensTF (P:Program) (off:Nat) (fs:List Field) (t:Ty):Prop :=
 ∀ (H:Type) (en:TypeId × Value → H) (w:World) (base:Nat) (sp:Nat → Bool) (held:Bool) (fuel:Nat) (cs:List Value),
  cs.length = off + t.cells → (∀ f ∈ fs,∃ y,DataW.trod en P w base sp held fuel f.type ((cs.drop f.offset).take (P.cellsOf f.type)) = some y) → ∃ x:t.den,RdL (Old w) w (enc t x) (cs.drop off)
theorem opensTF_one {off:Nat} {f:Field} {t:Ty} (ho:f.offset = off) (hC:P.cellsOf f.type = t.cells) (ha:Opens P f.type (TD t)):OpensTF P off [f] t:=by
 intro H en w base sp held fuel cs hl hf
 obtain⟨y,hy⟩:=hf f (by simp)
 obtain⟨x,hx⟩:=ha H en w base sp held fuel _ y hy
 rw[ho,hC] at hx
 have e:(cs.drop off).take t.cells = cs.drop off:=List.take_of_length_le (by rw[List.length_drop]; omega)
 rw[e] at hx
 exact⟨x,hx⟩
theorem opensTF_cons {off:Nat} {f g:Field} {fs:List Field} {a b:Ty} (ho:f.offset = off) (hC:P.cellsOf f.type = a.cells) (ha:Opens P f.type (TD a)) (hb:OpensTF P (off + a.cells) (g :: fs) b):OpensTF P off (f :: g :: fs) (.pair a b):=by
 intro H en w base sp held fuel cs hl hf
 obtain⟨y,hy⟩:=hf f (by simp)
 obtain⟨x,hx⟩:=ha H en w base sp held fuel _ y hy
 obtain⟨z,hz⟩:=hb H en w base sp held fuel cs (by rw[hl]; show off + (a.cells + b.cells) = _; omega) (fun q hq=>hf q (List.mem_cons_of_mem _ hq))
 rw[ho,hC] at hx
 have hx:RdL (Old w) w (enc a x) ((cs.drop off).take a.cells):=hx
 refine⟨(x,z),?_⟩
 have e:cs.drop off = (cs.drop off).take a.cells ++ cs.drop (off + a.cells):=by
  rw[← List.drop_drop,List.take_append_drop]
 show RdL (Old w) w (enc a x ++ enc b z) (cs.drop off)
 rw[e]
 exact hx.app hz
theorem opens_any {T:TypeId} (h:(∃ t,t ≠ .any ∧ isLeaf t = true ∧ Opens P T (TD t)) ∨ ∃ e,P.underlying T = some (.slice e)):Opens P T (TD .any):=by
 intro H en w base sp held fuel cs y hy
 have key:∃ v,cs = [v] ∧ v.oneCell' = true:=by
  rcases h with⟨t,_,hl,ho⟩ | ⟨e,he⟩
  ·obtain⟨x,hx⟩:=ho H en w base sp held fuel cs y hy
   have hx:RdL (Old w) w (enc t x) cs:=hx
   obtain⟨p,hp,_⟩:=enc_leaf hl x
   rw[hp] at hx
   cases cs with
   | nil=>cases hx.1
   | cons v l=>cases l with
    | nil=>exact⟨v,rfl,(hx.2 0 p v rfl rfl).one⟩
    | cons _ _=>have:=hx.1; simp at this
  ·rcases open_slice he hy with⟨rfl,_⟩ | ⟨a,len,cap,m,n,D,Pl,rfl,_⟩
   ·exact⟨_,rfl,rfl⟩
   ·exact⟨_,rfl,rfl⟩
 obtain⟨v,rfl,hv⟩:=key
 exact⟨(v:Value),.one1 (.oth hv)⟩
def opF (P:Program) (op:TypeId → Ty → Bool):Nat → List Field → Ty → Bool
 | off,[f],t=>Nat.beq f.offset off && Nat.beq (P.cellsOf f.type) t.cells && op f.type t
 | off,f :: g :: fs,.pair a b=>Nat.beq f.offset off && Nat.beq (P.cellsOf f.type) a.cells && op f.type a && opF P op (off + a.cells) (g :: fs) b
 | _,_,_=>false
def opTy (P:Program):Nat → TypeId → Ty → Bool
 | 0,_,_=>false
 | n + 1,T,t=>match P.underlying T,t with
  | some (.int _),.any=>true
  | some .bool,.any=>true
  | some .string,.any=>true
  | some (.slice _),.any=>true
  | some (.int k),.int k'=>k == k'
  | some .bool,.bool=>true
  | some .string,.str=>true
  | some (.slice e),.sl te=>Nat.beq (P.cellsOf e) te.cells && opTy P n e te
  | some (.struct fs),t=>Nat.beq (P.cellsOf T) t.cells && opF P (opTy P n) 0 fs.toList t
  | _,_=>false
theorem opF_ok {op:TypeId → Ty → Bool} (hop:∀ T t,op T t = true → Opens P T (TD t)):∀ (fs:List Field) (off:Nat) (t:Ty),opF P op off fs t = true → OpensTF P off fs t
 | [],off,t,h=>by unfold opF at h; cases h
 | [f],off,t,h=>by
  unfold opF at h
  simp only[Bool.and_eq_true,beqN,decide_eq_true_eq] at h
  exact opensTF_one h.1.1 h.1.2 (hop _ _ h.2)
 | f :: g :: fs,off,.pair a b,h=>by
  unfold opF at h
  simp only[Bool.and_eq_true,beqN,decide_eq_true_eq] at h
  exact opensTF_cons h.1.1.1 h.1.1.2 (hop _ _ h.1.2) (opF_ok hop (g :: fs) _ b h.2)
 | f :: g :: fs,off,.int k,h=>by unfold opF at h; cases h
 | f :: g :: fs,off,.any,h=>by unfold opF at h; cases h
 | f :: g :: fs,off,.bool,h=>by unfold opF at h; cases h
 | f :: g :: fs,off,.str,h=>by unfold opF at h; cases h
 | f :: g :: fs,off,.sl e,h=>by unfold opF at h; cases h
theorem opens_ty:∀ (n:Nat) (T:TypeId) (t:Ty),opTy P n T t = true → Opens P T (TD t)
 | 0,T,t,h=>by cases h
 | n + 1,T,t,h=>by
  unfold opTy at h
  split at h
  ·rename_i k hu; exact opens_any (.inl ⟨_,by simp,rfl,opens_tint hu⟩)
  ·rename_i hu; exact opens_any (.inl ⟨_,by simp,rfl,opens_tbool hu⟩)
  ·rename_i hu; exact opens_any (.inl ⟨_,by simp,rfl,opens_tstr hu⟩)
  ·rename_i e hu; exact opens_any (.inr ⟨_,hu⟩)
  ·rename_i k k' hu
   rw[beq_iff_eq] at h
   subst h
   exact opens_tint hu
  ·rename_i hu; exact opens_tbool hu
  ·rename_i hu; exact opens_tstr hu
  ·rename_i e te hu
   rw[Bool.and_eq_true,beqN,decide_eq_true_eq] at h
   exact opens_tsl hu h.1 (opens_ty n e te h.2)
  ·rename_i t x1 x2 fs hu
   rw[Bool.and_eq_true,beqN,decide_eq_true_eq] at h
   have hF:=opF_ok (opens_ty n) fs.toList 0 t h.2
   intro H en w base sp held fuel cs y hy
   obtain⟨xs,m,_,_,hlen,hxl,hg⟩:=DataW.trod_struct hu hy
   have:=hF H en w base sp held m cs (by rw[hlen,h.1,Nat.zero_add]) (fun f hfm=>by
    obtain⟨i,hi⟩:=List.mem_iff_getElem?.1 hfm
    have h1:=hg i f (by simpa using hi)
    have hil:i < fs.toList.length:=(List.getElem?_eq_some_iff.1 hi).1
    have hil':i < xs.length:=by rw[hxl]; simpa using hil
    rw[List.getElem?_eq_getElem hil'] at h1
    exact⟨_,h1⟩)
   obtain⟨x,hx⟩:=this
   rw[List.drop_zero] at hx
   exact⟨x,hx⟩
  ·cases h
theorem srd_tagg {t:Ty} {w:World} {x:TD t} {cs:Array Value} (h:GoRep.rd (Old w) w (Value.agg cs).cells.toList x):SRd ⟨fun _=>0,fun _=>0,fun _=>undef⟩ (hpL []) w (.c (.g ((leavesT t x).map TL.un))) (.agg cs):=by
 have h:RdL (Old w) w (enc t x) cs.toList:=h
 have e:List.map TL.un (leavesT t x) = (enc t x).map .p:=leaves_un t x
 have:=srd_g h
 rw[← e] at this
 exact this
end
end Go.Lad
