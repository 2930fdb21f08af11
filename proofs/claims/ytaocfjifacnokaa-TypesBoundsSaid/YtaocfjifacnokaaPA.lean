import Derived.Test.YtaocfjifacnokaaXModel
import Derived.Test.YtaocfjifacnokaaDPl
import Derived.Test.YtaocfjifacnokaaLs
set_option linter.unusedVariables false
set_option linter.unusedSimpArgs false
namespace Go.Proofs.Ytaocfjifacnokaa
open Go.Lad
set_option maxRecDepth 100000
theorem small_ok:ladinglaw16_small = some true:=by kernel_rfl
end Go.Proofs.Ytaocfjifacnokaa
namespace Go.Proofs.Ytaocfjifacnokaa
open Go.Lad
end Go.Proofs.Ytaocfjifacnokaa
namespace Go.Lad
def FieldT.nm:FieldT → Bs
 | .mk n _ _=>n
def FieldT.kd:FieldT → Int
 | .mk _ k _=>k
def FieldT.fs:FieldT → List FieldT
 | .mk _ _ l=>l
theorem FieldT.eta (f:FieldT):FieldT.mk f.nm f.kd f.fs = f:=by cases f; rfl
end Go.Lad
namespace Go.Proofs.Ytaocfjifacnokaa
open Go.Lad
def unL (l:List FieldT):List GField:=List.map (α:=FieldT) (β:=GField) (Uun 0) l
def mkL (l:List GField):List FieldT:=List.map (α:=GField) (β:=FieldT) (Umk 0) l
theorem fu1 (l:List FieldT):@List.map (UD 0) GField (Uun 0) l = unL l:=rfl
theorem fu2 (l:List FieldT):@List.map FieldT GField (Uun 0) l = unL l:=rfl
theorem fu3 (l:List FieldT):@List.map (UD 0) (Ubody 0).den (Uun 0) l = unL l:=rfl
theorem fu4 (l:List FieldT):@List.map FieldT (Ubody 0).den (Uun 0) l = unL l:=rfl
theorem mk_un:∀ (l:List FieldT),mkL (unL l) = l
 | []=>rfl
 | x :: r=>congr (congrArg List.cons (Umk_un 0 x)) (mk_un r)
theorem fx1 (l:List FieldT):@List.map (Ubody 0).den FieldT (Umk 0) (@List.map (UD 0) (Ubody 0).den (Uun 0) l) = l:=mk_un l
theorem fx2 (l:List FieldT):@List.map (Ubody 0).den (UD 0) (Umk 0) (@List.map (UD 0) (Ubody 0).den (Uun 0) l) = l:=mk_un l
theorem fx3 (l:List FieldT):@List.map GField FieldT (Umk 0) (@List.map (UD 0) GField (Uun 0) l) = l:=mk_un l
theorem Uun0 (f:FieldT):(Uun 0 f:GField) = (f.nm,f.kd,f.fs):=by cases f; rfl
theorem un_len (l:List FieldT):(unL l).length = l.length:=List.length_map _
theorem un_get (l:List FieldT) {k:Nat} (h:k < l.length):(unL l)[k]'(by rw[un_len]; exact h) = (l[k].nm,l[k].kd,l[k].fs) :=
 (List.getElem_map (α:=FieldT) (β:=GField) (Uun 0)).trans (Uun0 _)
theorem idx_un {l:List FieldT} {k:Nat} (h:k < l.length):idx (unL l) (k:Int) = some (l[k].nm,l[k].kd,l[k].fs):=by
 rw[idx_nat (by rw[un_len]; exact h),un_get l h]
def allI {α:Type} (t:Nat → α → Bool):Nat → List α → Bool
 | _,[]=>true
 | k,x :: r=>t k x && allI t (k + 1) r
theorem allI_iff {α:Type} (t:Nat → α → Bool):∀ (l:List α) (k:Nat),allI t k l = true ↔ ∀ i (h:i < l.length),t (k + i) l[i] = true
 | [],k=>by simp [allI]
 | x :: r,k=>by
  unfold allI
  rw[Bool.and_eq_true,allI_iff t r (k + 1)]
  constructor
  ·rintro⟨h1,h2⟩ i hi
   cases i with
   | zero=>exact h1
   | succ i=>rw[List.getElem_cons_succ,show k + (i + 1) = k + 1 + i by omega]; exact h2 i (by simpa using hi)
  ·intro h
   exact⟨h 0 (by simp),fun i hi=>by have:=h (i + 1) (by simpa using hi); rw[List.getElem_cons_succ,show k + (i + 1) = k + 1 + i by omega] at this; exact this⟩
theorem loop_all {α:Type} {body:Int → Option (Int ⊕ Bool)} (l:List α) (t:Nat → α → Bool)
  (h:∀ k (hk:k < l.length),body (k:Int) = some (if t k l[k] = true then .inl ((k + 1:Nat):Int) else .inr false))
  (hd:body (l.length:Int) = some (.inr true)) (hn:l.length < 1606938044258990275541962092341162602522202993782792835301376) :
  loopF body 0 = some (allI t 0 l):=by
 have e:allI t 0 l = (scan (fun k x=>if t k x = true then none else some false) 0 l).getD true:=by
  have:∀ (r:List α) (k:Nat),allI t k r = (scan (fun k x=>if t k x = true then none else some false) k r).getD true:=by
   intro r
   induction r with
   | nil=>intro k; rfl
   | cons x r ih =>
    intro k
    unfold allI scan
    cases t k x with
    | true=>simp [ih (k + 1)]
    | false=>simp
  exact this l 0
 rw[e]
 refine loop_scan l _ true (fun k hk=>?_) hd hn
 rw[h k hk]
 cases t k l[k] <;> simp
theorem letter_ok (c:Int):lex_letter c = some (leZ 97 c && leZ c 122):=by unfold lex_letter; cases leZ 97 c <;> rfl
theorem digit_ok (c:Int):lex_digit c = some (leZ 48 c && leZ c 57):=by unfold lex_digit; cases leZ 48 c <;> rfl
theorem word1_ok (c:Int):lex_Word_1 c = some ((leZ 97 c && leZ c 122) || (leZ 48 c && leZ c 57)):=by
 unfold lex_Word_1
 rw[letter_ok,digit_ok]
 simp only[bind_in]
 cases (leZ 97 c && leZ c 122) <;> rfl
theorem bAt_in {s:Bs} {k:Nat} (h:k < s.length):bAt s (k:Int) = some (s[k].toNat:Int):=by unfold bAt; rw[idx_nat h]; rfl
theorem span_ok (s:Bs) (h:s.length ≤ 20):∃ n,lex_span s = some n:=by
 unfold lex_span
 obtain⟨b,hb,_⟩:=loopF_inv (body:=fun x=>lex_span.b1 s x) (fun k x=>x = (k:Int) ∧ k ≤ s.length) (Q:=fun _=>True) s.length (x:=0) ⟨rfl,Nat.zero_le _⟩ (fun k hk x hx=>by
  obtain⟨rfl,_⟩:=hx
  unfold lex_span.b1 lex_span.j1
  simp only[ltZ_eq]
  rw[decide_eq_true (show (k:Int) < (s.length:Int) by omega),cond_true,bAt_in hk,bind_in,word1_ok]
  simp only[bind_in]
  cases ((leZ 97 (s[k].toNat:Int) && leZ (s[k].toNat:Int) 122) || (leZ 48 (s[k].toNat:Int) && leZ (s[k].toNat:Int) 57)) with
  | true =>
   simp only[cond_true]
   rw[z64_succ (by omega),bind_in]
   exact .inl ⟨_,rfl,rfl,by omega⟩
  | false=>exact .inr ⟨_,rfl,trivial⟩) (fun x hx=>by
  obtain⟨rfl,_⟩:=hx
  unfold lex_span.b1 lex_span.j1
  simp only[ltZ_eq]
  rw[decide_eq_false (by omega),cond_false]
  simp only[bind_in]
  exact⟨_,rfl,trivial⟩) (by omega)
 exact⟨b,hb⟩
theorem word_ok (s:Bs):∃ b,lex_Word s = some b:=by
 unfold lex_Word lex_Word.j1
 by_cases h0:s = []
 ·rw[decide_eq_true h0]; exact⟨false,by subst h0; rfl⟩
 ·have hl:0 < s.length:=List.length_pos_iff.2 h0
  rw[decide_eq_false h0,cond_false,show (0:Int) = ((0:Nat):Int) from rfl,bAt_in hl,bind_in,letter_ok]
  simp only[bind_in]
  cases (leZ 97 (s[0].toNat:Int) && leZ (s[0].toNat:Int) 122) with
  | false=>exact⟨_,rfl⟩
  | true =>
   simp only[Bool.not_true,cond_false,bind_in,ltZ_eq]
   by_cases h20:(20:Int) < (s.length:Int)
   ·rw[decide_eq_true h20]; exact⟨_,rfl⟩
   ·rw[decide_eq_false h20,cond_false]
    obtain⟨n,hn⟩:=span_ok s (by omega)
    rw[hn]; exact⟨_,rfl⟩
noncomputable def nameB (s:Bs):Bool:=(syntax_Name s).getD false
theorem word_len {s:Bs} (h:lex_Word s = some true):s.length ≤ 20:=by
 refine Classical.byContradiction fun hl=>?_
 unfold lex_Word lex_Word.j1 at h
 have h0:s ≠ []:=fun e=>hl (by subst e; simp)
 have hp:0 < s.length:=List.length_pos_iff.2 h0
 rw[decide_eq_false h0,cond_false,show (0:Int) = ((0:Nat):Int) from rfl,bAt_in hp,bind_in,letter_ok] at h
 simp only[bind_in] at h
 cases hc:(leZ 97 (s[0].toNat:Int) && leZ (s[0].toNat:Int) 122) with
 | false=>rw[hc] at h; cases h
 | true =>
  rw[hc] at h
  simp only[Bool.not_true,cond_false,bind_in,ltZ_eq] at h
  rw[decide_eq_true (show (20:Int) < (s.length:Int) by omega)] at h
  cases h
theorem contains_tot (w v:Bs) (h:Nat.ble w.length 1000000000 = true):strings_Contains w v = some (Lib.contains w v):=by
 unfold strings_Contains containsF
 rw[h]; rfl
theorem name_ok (s:Bs):syntax_Name s = some (nameB s):=by
 have:∃ b,syntax_Name s = some b:=by
  unfold syntax_Name
  obtain⟨b,hb⟩:=word_ok s
  rw[hb,bind_in]
  cases b with
  | false=>exact⟨_,rfl⟩
  | true =>
   have hl:=word_len hb
   rw[cond_true]
   unfold cat?
   rw[if_pos (by simp; omega),bind_in,if_pos (by simp; omega),bind_in]
   rw[contains_tot _ _ (by kernel_rfl),bind_in]
   exact⟨_,rfl⟩
 obtain⟨b,hb⟩:=this
 unfold nameB
 rw[hb]; rfl
def upN (a b:Bs):Bool := !(Op.bytesLess b a || decide (b = a))
noncomputable def rightS:Nat → Int → List FieldT → Bool
 | 0,_,_=>false
 | d + 1,k,l=>(decide (0 ≤ k ∧ k < 3 ∧ l.length ≤ 8 ∧ (k = 2 ∨ l = []))) && allI (fun i f=>nameB f.nm && ((decide (i = 0) || upN ((l.map FieldT.nm).getD (i - 1) []) f.nm) && rightS d f.kd f.fs)) 0 l
theorem nil_len {α:Type} {l:List α}:l = [] ↔ l.length = 0:=List.length_eq_zero_iff.symm
theorem right_head (k:Int) (l:List FieldT) (d:Nat):(bif (eqZ ((d + 1:Nat):Int) 0) then some true else (bif (ltZ k 0) then some true else (bif (leZ 3 k) then some true else (bif (ltZ 8 (l.length:Int)) then some true else
   (bif (!eqZ k 2) then some (ltZ 0 (l.length:Int)) else some false))))) = some (!decide (0 ≤ k ∧ k < 3 ∧ l.length ≤ 8 ∧ (k = 2 ∨ l = []))):=by
 simp only[ltZ_eq,leZ_eq,eqZ_eq,bif_dec,bif_not,nil_len]
 split
 ·omega
 split
 ·rw[decide_eq_false (by omega)]; rfl
 split
 ·rw[decide_eq_false (by omega)]; rfl
 split
 ·rw[decide_eq_false (by omega)]; rfl
 split
 ·rw[decide_eq_true (by omega)]; rfl
 ·by_cases h:(0:Int) < (l.length:Int)
  ·rw[decide_eq_true h,decide_eq_false (by omega)]; rfl
  ·rw[decide_eq_false h,decide_eq_true (by omega)]; rfl
theorem right_rec:∀ (d n:Nat) (k:Int) (l:List FieldT),d ≤ 4 → d < n → syntax_rightType.rec n k (unL l) (d:Int) = some (rightS d k l)
 | d,0,_,_,_,h=>absurd h (by omega)
 | 0,n + 1,k,l,_,_=>rfl
 | d + 1,n + 1,k,l,hd,hn=>by
  show syntax_rightType.body (syntax_rightType.rec n) k (unL l) ((d + 1:Nat):Int) = _
  unfold syntax_rightType.body syntax_rightType.j2
  rw[un_len,right_head,bind_in]
  unfold rightS
  by_cases hok:0 ≤ k ∧ k < 3 ∧ l.length ≤ 8 ∧ (k = 2 ∨ l = [])
  rotate_left
  ·rw[decide_eq_false hok]; rfl
  ·rw[decide_eq_true hok,Bool.not_true,cond_false,Bool.true_and]
   refine loop_all l _ (fun i hi=>?_) ?_ (by omega)
   ·unfold syntax_rightType.b1 syntax_rightType.j1
    simp only[fu1,fu2,fu3,fu4]
    rw[un_len,ltZ_eq,decide_eq_true (by omega),cond_true,idx_un hi,bind_in,name_ok,bind_in]
    rw[z64_succ (by omega)]
    cases hnm:nameB l[i].nm with
    | false=>rfl
    | true =>
     rw[Bool.not_true,cond_false]
     have hd1:z64 (((d + 1:Nat):Int) - 1) = some (d:Int):=by rw[z64_i (by omega)]; congr 1; omega
     have hrec:=right_rec d n l[i].kd l[i].fs (by omega) (by omega)
     simp only[hd1,bind_in,hrec,Bool.true_and]
     by_cases h0:i = 0
     ·subst h0
      rw[ltZ_eq,decide_eq_false (by omega),cond_false,decide_eq_true rfl,Bool.true_or,Bool.true_and]
      simp only[bind_in]
      cases rightS d (l[0]'hi).kd (l[0]'hi).fs <;> rfl
     ·obtain⟨j,rfl⟩:∃ j,i = j + 1:=⟨i - 1,by omega⟩
      have hj:z64 (((j + 1:Nat):Int) - 1) = some (j:Int):=by rw[z64_i (by omega)]; congr 1; omega
      rw[ltZ_eq,decide_eq_true (by omega),cond_true,hj,bind_in,idx_un (show j < l.length by omega),bind_in,decide_eq_false (show ¬ (j + 1 = 0) by omega),Bool.false_or]
      have hg:(l.map FieldT.nm).getD (j + 1 - 1) [] = (l[j]'(by omega)).nm:=by
       rw[Nat.add_sub_cancel,List.getD_eq_getElem?_getD,List.getElem?_map,List.getElem?_eq_getElem (by omega)]; rfl
      rw[hg]
      unfold upN
      simp only[bind_in]
      cases (Op.bytesLess (l[j + 1]'hi).nm (l[j]'(by omega)).nm || decide ((l[j + 1]'hi).nm = (l[j]'(by omega)).nm)) <;> cases rightS d (l[j + 1]'hi).kd (l[j + 1]'hi).fs <;> rfl
   ·unfold syntax_rightType.b1
    rw[un_len,ltZ_eq,decide_eq_false (by omega),cond_false]
end Go.Proofs.Ytaocfjifacnokaa
namespace Go.Proofs.Ytaocfjifacnokaa
open Go.Lad
def okL:Nat → List FieldT → Prop
 | 0,l=>l = []
 | d + 1,l=>l.length ≤ 1000000 ∧ ∀ f ∈ l,okL d f.fs
theorem okL_nil:∀ d,okL d []
 | 0=>rfl
 | d + 1=>⟨by simp,fun f h=>by cases h⟩
theorem right_iff {d:Nat} {k:Int} {l:List FieldT}:rightS (d + 1) k l = true ↔ (0 ≤ k ∧ k < 3 ∧ l.length ≤ 8 ∧ (k = 2 ∨ l = [])) ∧
  ∀ i (h:i < l.length),nameB l[i].nm = true ∧ (i = 0 ∨ upN (l[i - 1]'(by omega)).nm l[i].nm = true) ∧ rightS d l[i].kd l[i].fs = true:=by
 show (decide (0 ≤ k ∧ k < 3 ∧ l.length ≤ 8 ∧ (k = 2 ∨ l = [])) && allI (fun i f=>nameB f.nm && ((decide (i = 0) || upN ((l.map FieldT.nm).getD (i - 1) []) f.nm) && rightS d f.kd f.fs)) 0 l) = true ↔ _
 rw[Bool.and_eq_true,decide_eq_true_eq,allI_iff]
 refine and_congr_right fun _=>forall_congr' fun i=>forall_congr' fun h=>?_
 have hg:(l.map FieldT.nm).getD (i - 1) [] = (l[i - 1]'(by omega)).nm:=by
  rw[List.getD_eq_getElem?_getD,List.getElem?_map,List.getElem?_eq_getElem (by omega)]; rfl
 simp only[Nat.zero_add,Bool.and_eq_true,Bool.or_eq_true,decide_eq_true_eq,hg]
theorem right_okL:∀ {d:Nat} {k:Int} {l:List FieldT},rightS d k l = true → okL d l
 | 0,_,_,h=>by cases h
 | d + 1,k,l,h=>by
  obtain⟨h1,h2⟩:=right_iff.1 h
  refine⟨by omega,fun f hf=>?_⟩
  obtain⟨i,hi,rfl⟩:=List.mem_iff_getElem.1 hf
  exact right_okL (h2 i hi).2.2
theorem right_ok (k:Int) (l:List FieldT):types_Right k (unL l) = some (rightS 4 k l):=by
 unfold types_Right syntax_RightType syntax_rightType
 have h:=right_rec 4 Fuel.n k l (by omega) (by show 4 < 1606938044258990275541962092341162602522202993782792835301376; omega)
 rw[show (4:Int) = ((4:Nat):Int) from rfl,h]; rfl
def lookF (l:List FieldT) (n:Bs):Option FieldT:=lastOf (fun f=>decide (f.nm = n)) l
def lookR (l:List FieldT) (n:Bs):GType × Bool:=match lookF l n with | some f=>((f.kd,f.fs),true) | none=>((0,[]),false)
theorem foldR_find {α β:Type} (p:α → Bool) (g:α → β):∀ (l:List α) (k:Nat),foldR (fun _ r (_:Unit)=>some (if p r = true then .inr (g r) else .inl ())) k l () = some (match l.find? p with | some x=>.inr (g x) | none=>.inl ())
 | [],_=>rfl
 | x :: r,k=>by
  unfold foldR
  rw[bind_in,List.find?_cons]
  cases p x with
  | true=>rfl
  | false=>exact foldR_find p g r (k + 1)
theorem backL_snd {α:Type} (l:List α):(backL l).map Prod.snd = l.reverse:=by
 unfold backL
 rw[List.map_reverse,List.map_map]
 congr 1
 apply List.ext_getElem
 ·simp
 ·intro i h1 h2
  simp
theorem lookup_ok (l:List FieldT) (n:Bs):types_lookup (unL l) n = some (lookR l n):=by
 unfold types_lookup slices_Backward_api_Field_api_Field backF types_lookup.r1 types_lookup.j1
 simp only[bind_in,bif_dec,fx1,fx2,fx3]
 have e:(fun (_:Nat) (r:Int × GField) (x:Unit)=>if r.2.1 = n then (some (.inr ((r.2.2.1,r.2.2.2),true)):Option (Unit ⊕ (GType × Bool))) else some (.inl ())) =
   fun _ r _=>some (if (decide (r.2.1 = n)) = true then .inr ((r.2.2.1,r.2.2.2),true) else .inl ()):=by
  funext k r x
  by_cases h:r.2.1 = n <;> simp [h]
 refine (congrArg (fun f=>Option.bind (foldR f 0 (backL (unL l)) ()) _) e).trans ?_
 rw[foldR_find (p:=fun r:Int × GField=>decide (r.2.1 = n)) (g:=fun r=>((r.2.2.1,r.2.2.2),true)),bind_in]
 have h1:((backL (unL l)).find? fun r=>decide (r.2.1 = n)).map (fun r=>r.2) = (lookF l n).map fun f=>(f.nm,f.kd,f.fs):=by
  have h2:((backL (unL l)).find? fun r=>decide (r.2.1 = n)).map (fun r=>r.2) = ((backL (unL l)).map Prod.snd).find? fun g=>decide (g.1 = n):=by
   rw[List.find?_map]; rfl
  rw[h2,backL_snd]
  have h3:unL l = l.map fun f=>(f.nm,f.kd,f.fs):=List.map_congr_left fun f _=>Uun0 f
  rw[h3,← List.map_reverse,List.find?_map]; rfl
 unfold lookR
 cases hf:lookF l n with
 | none =>
  rw[hf] at h1
  cases hb:(backL (unL l)).find? fun r=>decide (r.2.1 = n) with
  | none=>rfl
  | some r=>rw[hb] at h1; cases h1
 | some f =>
  rw[hf] at h1
  cases hb:(backL (unL l)).find? fun r=>decide (r.2.1 = n) with
  | none=>rw[hb] at h1; cases h1
  | some r =>
   rw[hb] at h1
   injection h1 with h1
   dsimp only at h1 ⊢
   rw[h1]
mutual
def belF:FieldT → List FieldT → Bool
 | .mk n k l,al=>match lookF al n with | some g=>decide (g.kd = k) && belL l g.fs | none=>false
def belL:List FieldT → List FieldT → Bool
 | [],_=>true
 | f :: r,al=>belF f al && belL r al
end
theorem belF_eq (f:FieldT) (al:List FieldT):belF f al = match lookF al f.nm with | some g=>decide (g.kd = f.kd) && belL f.fs g.fs | none=>false:=by cases f; rw[belF]; rfl
theorem belL_all:∀ (l al:List FieldT),belL l al = l.all fun f=>belF f al
 | [],_=>by rw[belL]; rfl
 | f :: r,al=>by rw[belL,List.all_cons,belL_all r al]
theorem below_rec:∀ (d n:Nat) (k:Int) (al:List FieldT) (k':Int) (bs:List FieldT),okL d bs → d < n → types_below.rec n k (unL al) k' (unL bs) = some (decide (k = k') && belL bs al)
 | d,0,_,_,_,_,_,h=>absurd h (by omega)
 | d,n + 1,k,al,k',bs,hb,hn=>by
  show types_below.body (types_below.rec n) k (unL al) k' (unL bs) = _
  unfold types_below.body slices_ContainsFunc_api_Field_api_Field_v2 slices_IndexFunc_api_Field_api_Field_v2
  rw[eqZ_eq]
  by_cases hk:k = k'
  rotate_left
  ·rw[decide_eq_false hk]; rfl
  rw[decide_eq_true hk,cond_true,Bool.true_and]
  have hlen:bs.length ≤ 1000000:=by
   cases d with
   | zero =>
    have hb:bs = []:=hb
    subst hb; simp
   | succ d=>exact hb.1
  have hl:=loop_scan (body:=fun x=>slices_IndexFunc_api_Field_api_Field_v2.b1 (types_below.rec n) (unL bs) k (unL al) x) bs (fun k f=>if belF f al = true then none else some (k:Int)) (-1) (fun i hi=>by
   unfold slices_IndexFunc_api_Field_api_Field_v2.b1 types_below_1
   simp only[fu1,fu2]
   rw[un_len,ltZ_eq,decide_eq_true (by omega),cond_true,idx_un hi,bind_in,lookup_ok,bind_in,belF_eq,z64_succ (by omega)]
   unfold lookR
   cases hf:lookF al bs[i].nm with
   | none=>rfl
   | some g =>
    have hok:∃ e,e < n ∧ okL e bs[i].fs:=by
     cases d with
     | zero =>
      have hb:bs = []:=hb
      subst hb; simp at hi
     | succ d=>exact⟨d,by omega,hb.2 _ (List.getElem_mem hi)⟩
    obtain⟨e,he,hok⟩:=hok
    have hr:=below_rec e n g.kd g.fs bs[i].kd bs[i].fs hok he
    dsimp only[Bool.not_true]
    rw[Bool.not_true,cond_false]
    simp only[hr,bind_in]
    by_cases hh:(decide (g.kd = bs[i].kd) && belL bs[i].fs g.fs) = true
    ·rw[if_pos hh,hh]; rfl
    ·rw[if_neg hh]
     rw[Bool.not_eq_true] at hh
     rw[hh]; rfl) (by
   unfold slices_IndexFunc_api_Field_api_Field_v2.b1
   rw[un_len,ltZ_eq,decide_eq_false (by omega),cond_false]) (by omega)
  rw[hl]
  simp only[bind_in,leZ_eq]
  rw[belL_all]
  cases ha:bs.all fun f=>belF f al with
  | true =>
   have:scan (fun k f=>if belF f al = true then none else some (k:Int)) 0 bs = none:=scan_none.2 fun i hi=>by
    rw[List.all_eq_true] at ha
    rw[if_pos (ha _ (List.getElem_mem hi))]
   rw[this]; rfl
  | false =>
   cases hs:scan (fun k f=>if belF f al = true then none else some (k:Int)) 0 bs with
   | none =>
    exfalso
    have h2:=scan_none.1 hs
    have:(bs.all fun f=>belF f al) = true:=List.all_eq_true.2 fun f hf=>by
     obtain⟨i,hi,rfl⟩:=List.mem_iff_getElem.1 hf
     have:=h2 i hi
     split at this
     ·assumption
     ·cases this
    rw[ha] at this; cases this
   | some b =>
    obtain⟨i,hi,h1,_⟩:=scan_some.1 hs
    split at h1
    ·cases h1
    ·injection h1 with h1
     rw[Option.getD_some,decide_eq_true (by omega)]; rfl
theorem below_ok {d:Nat} (hd:d ≤ 1000) (k:Int) (al:List FieldT) (k':Int) (bs:List FieldT) (h:okL d bs):types_below k (unL al) k' (unL bs) = some (decide (k = k') && belL bs al) :=
 below_rec d Fuel.n k al k' bs h (by show d < 1606938044258990275541962092341162602522202993782792835301376; omega)
theorem sub_ok (k:Int) (al:List FieldT) (k':Int) (bs:List FieldT):types_Sub k (unL al) k' (unL bs) = some (rightS 4 k al && (rightS 4 k' bs && (decide (k = k') && belL bs al))):=by
 unfold types_Sub
 rw[right_ok,right_ok,bind_in]
 cases ha:rightS 4 k al with
 | false=>rfl
 | true =>
  rw[cond_true,bind_in]
  cases hb:rightS 4 k' bs with
  | false=>rfl
  | true=>rw[cond_true,below_ok (d:=4) (by omega) _ _ _ _ (right_okL hb)]; rfl
end Go.Proofs.Ytaocfjifacnokaa
namespace Go.Proofs.Ytaocfjifacnokaa
open Go.Lad
noncomputable def eqL (al bl:List FieldT):Bool:=@decide (al = bl) (Classical.propDecidable _)
theorem eqL_iff {al bl:List FieldT}:eqL al bl = true ↔ al = bl:=by unfold eqL; exact @decide_eq_true_iff _ (Classical.propDecidable _)
theorem eqL_refl (al:List FieldT):eqL al al = true:=eqL_iff.2 rfl
theorem eqL_all {al bl:List FieldT} (h:al.length = bl.length):allI (fun i f=>decide (f.nm = ((bl[i]?).map FieldT.nm).getD []) && (decide (f.kd = ((bl[i]?).map FieldT.kd).getD 0) && eqL f.fs (((bl[i]?).map FieldT.fs).getD []))) 0 al = eqL al bl:=by
 rw[Bool.eq_iff_iff,allI_iff,eqL_iff]
 constructor
 ·intro hh
  apply List.ext_getElem h
  intro i h1 h2
  have:=hh i h1
  simp only[Nat.zero_add,Bool.and_eq_true,decide_eq_true_eq,List.getElem?_eq_getElem h2,Option.map_some,Option.getD_some,eqL_iff] at this
  rw[← FieldT.eta al[i],← FieldT.eta bl[i],this.1,this.2.1,this.2.2]
 ·rintro rfl i hi
  simp only[Nat.zero_add,List.getElem?_eq_getElem hi,Option.map_some,Option.getD_some,decide_true,Bool.true_and,eqL_refl]
theorem bool_end {b:Bool} {k:Int}:(bif !b then (some (.inr false):Option (Int ⊕ Bool)) else some (.inl k)) = some (if b = true then .inl k else .inr false):=by cases b <;> rfl
theorem same15_rec:∀ (d n:Nat) (k:Int) (al:List FieldT) (k':Int) (bl:List FieldT),okL d al → d < n → ladingref15_SameType.rec n k (unL al) k' (unL bl) = some (decide (k = k') && eqL al bl)
 | d,0,_,_,_,_,_,h=>absurd h (by omega)
 | d,n + 1,k,al,k',bl,ha,hn=>by
  show ladingref15_SameType.body (ladingref15_SameType.rec n) k (unL al) k' (unL bl) = _
  unfold ladingref15_SameType.body ladingref15_SameFields
  rw[eqZ_eq,eqZ_eq,un_len,un_len]
  by_cases hk:k = k'
  rotate_left
  ·rw[decide_eq_false hk]; rfl
  rw[decide_eq_true hk,cond_true,Bool.true_and]
  by_cases hl:al.length = bl.length
  rotate_left
  ·rw[decide_eq_false (by omega),Bool.not_false,cond_true,bind_in]
   have:eqL al bl = false:=by rw[Bool.eq_false_iff,Ne,eqL_iff]; rintro rfl; exact hl rfl
   rw[this]
  rw[decide_eq_true (by omega),Bool.not_true,cond_false]
  have hlen:al.length ≤ 1000000:=by
   cases d with
   | zero=>have ha:al = []:=ha; subst ha; simp
   | succ d=>exact ha.1
  have hL:loopF (fun x=>ladingref15_SameFields.b1 (ladingref15_SameType.rec n) (unL al) (unL bl) x) 0 = some (allI (fun i f=>decide (f.nm = ((bl[i]?).map FieldT.nm).getD []) && (decide (f.kd = ((bl[i]?).map FieldT.kd).getD 0) && eqL f.fs (((bl[i]?).map FieldT.fs).getD []))) 0 al):=by
   refine loop_all al _ (fun i hi=>?_) ?_ (by omega)
   ·unfold ladingref15_SameFields.b1 ladingref15_SameFields.j1
    simp only[fu1,fu2]
    have hi2:i < bl.length:=by omega
    rw[un_len,ltZ_eq,decide_eq_true (by omega),cond_true,idx_un hi,bind_in,idx_un hi2,bind_in,z64_succ (by omega)]
    simp only[List.getElem?_eq_getElem hi2,Option.map_some,Option.getD_some]
    have hok:∃ e,e < n ∧ okL e al[i].fs:=by
     cases d with
     | zero=>have ha:al = []:=ha; subst ha; simp at hi
     | succ d=>exact⟨d,by omega,ha.2 _ (List.getElem_mem hi)⟩
    obtain⟨e,he,hok⟩:=hok
    have hr:=same15_rec e n al[i].kd al[i].fs bl[i].kd bl[i].fs hok he
    by_cases hnm:al[i].nm = bl[i].nm
    ·rw[decide_eq_true hnm,Bool.not_true,cond_false,Bool.true_and]
     simp only[hr,bind_in]
     exact bool_end
    ·rw[decide_eq_false hnm,Bool.not_false,cond_true]; rfl
   ·unfold ladingref15_SameFields.b1
    rw[un_len,ltZ_eq,decide_eq_false (by omega),cond_false]
  rw[hL,bind_in,eqL_all hl]
theorem fuel_big {d:Nat} (h:d ≤ 1000000):d < bigFuel.n:=by show d < 1606938044258990275541962092341162602522202993782792835301376; omega
theorem same15_ok {d:Nat} (hd:d ≤ 1000000) (k:Int) (al:List FieldT) (k':Int) (bl:List FieldT) (h:okL d al):ladinglaw16_same k (unL al) k' (unL bl) = some (decide (k = k') && eqL al bl):=by
 unfold ladinglaw16_same ladingref15_SameType
 rw[same15_rec d _ k al k' bl h (fuel_big hd)]; rfl
theorem nodes_rec:∀ (m n:Nat) (k:Int) (l:List FieldT) (most lev:Int),lev ≤ m → -9 ≤ lev → m ≤ 100 → m < n → 0 ≤ most → most ≤ 1000 → ∃ r,ladinglaw16_nodes.rec n k (unL l) most lev = some r ∧ 1 ≤ r ∧ r ≤ most + 1
 | m,0,_,_,_,_,_,_,_,h,_,_=>absurd h (by omega)
 | m,n + 1,k,l,most,lev,h1,h2,h3,h4,h5,h6=>by
  show ∃ r,ladinglaw16_nodes.body (ladinglaw16_nodes.rec n) k (unL l) most lev = some r ∧ _
  unfold ladinglaw16_nodes.body ladinglaw16_nodes.j2
  rw[un_len]
  simp only[ltZ_eq,bif_dec]
  by_cases hl:lev < 1
  ·rw[if_pos hl,bind_in,cond_true,z64_i (by omega),bind_in]
   exact⟨_,rfl,by omega,by omega⟩
  rw[if_neg hl]
  by_cases h12:(12:Int) < (l.length:Int)
  ·rw[decide_eq_true h12,bind_in,cond_true,z64_i (by omega),bind_in]
   exact⟨_,rfl,by omega,by omega⟩
  rw[decide_eq_false h12,bind_in,cond_false]
  obtain⟨r,hr,hq⟩:=loopF_inv (body:=fun x=>ladinglaw16_nodes.b1 (ladinglaw16_nodes.rec n) (unL l) most lev x.1 x.2) (fun i x=>∃ nn:Int,x = (nn,(i:Int)) ∧ 1 ≤ nn ∧ nn ≤ most + 1) (Q:=fun r=>1 ≤ r ∧ r ≤ most + 1) l.length (x:=(1,0)) ⟨1,rfl,by omega,by omega⟩ (fun i hi x hx=>by
   obtain⟨nn,rfl,g1,g2⟩:=hx
   unfold ladinglaw16_nodes.b1 ladinglaw16_nodes.j1
   simp only[fu1,fu2]
   rw[un_len]
   simp only[ltZ_eq,leZ_eq]
   rw[decide_eq_true (show (i:Int) < (l.length:Int) by omega),cond_true,bind_in,idx_un hi,bind_in]
   by_cases hm:nn ≤ most
   ·rw[decide_eq_true hm,cond_true,bind_in]
    by_cases h60:(60:Int) < (l[i].nm.length:Int)
    ·rw[decide_eq_true h60,cond_true,z64_i (by omega),bind_in]
     exact .inr ⟨_,rfl,by omega,by omega⟩
    ·rw[decide_eq_false h60,cond_false,z64_i (by omega),bind_in,z64_i (by omega),bind_in]
     obtain⟨r,hr,g3,g4⟩:=nodes_rec (m - 1) n l[i].kd l[i].fs (most - nn) (lev - 1) (by omega) (by omega) (by omega) (by omega) (by omega) (by omega)
     simp only[hr,bind_in]
     rw[z64_i (by omega),bind_in,z64_succ (by omega),bind_in]
     exact .inl ⟨_,rfl,nn + r,rfl,by omega,by omega⟩
   ·rw[decide_eq_false hm,cond_false]
    exact .inr ⟨_,rfl,by omega,by omega⟩) (fun x hx=>by
   obtain⟨nn,rfl,g1,g2⟩:=hx
   unfold ladinglaw16_nodes.b1 ladinglaw16_nodes.j1
   rw[un_len]
   simp only[ltZ_eq,leZ_eq]
   rw[decide_eq_false (by omega),cond_false,bind_in,cond_false]
   exact⟨_,rfl,by omega,by omega⟩) (by omega)
  exact⟨r,hr,hq⟩
theorem light_ok (l:List GType) (hl:l.length ≤ 1000000):∃ b,ladinglaw16_light l = some b:=by
 unfold ladinglaw16_light
 obtain⟨r,hr,_⟩:=loopF_inv (body:=fun x=>ladinglaw16_light.b1 l x) (fun i x=>x = (i:Int)) (Q:=fun _=>True) l.length (x:=0) rfl (fun i hi x hx=>by
  subst hx
  unfold ladinglaw16_light.b1 ladinglaw16_nodes
  simp only[fu1,fu2,ltZ_eq]
  rw[decide_eq_true (show (i:Int) < (l.length:Int) by omega),cond_true,idx_nat hi,bind_in]
  obtain⟨r,hr,_,_⟩:=nodes_rec 6 bigFuel.n l[i].1 l[i].2 40 6 (by omega) (by omega) (by omega) (fuel_big (by omega)) (by omega) (by omega)
  simp only[hr,bind_in]
  by_cases h:(40:Int) < r
  ·rw[decide_eq_true h]; exact .inr ⟨_,rfl,trivial⟩
  ·rw[decide_eq_false h,cond_false,z64_succ (by omega)]
   exact .inl ⟨_,rfl,rfl⟩) (fun x hx=>by
  subst hx
  unfold ladinglaw16_light.b1
  rw[ltZ_eq,decide_eq_false (by omega),cond_false]
  exact⟨_,rfl,trivial⟩) (by omega)
 exact⟨r,hr⟩
end Go.Proofs.Ytaocfjifacnokaa
namespace Go.Proofs.Ytaocfjifacnokaa
open Go.Lad
theorem bl_irrefl:∀ a:Bs,Op.bytesLess a a = false
 | []=>rfl
 | x :: a=>by
  unfold Op.bytesLess
  rw[bl_irrefl a,Bool.and_false,Bool.or_false,decide_eq_false (by rw[UInt8.lt_iff_toNat_lt]; omega)]
theorem bl_trans:∀ {a b c:Bs},Op.bytesLess a b = true → Op.bytesLess b c = true → Op.bytesLess a c = true
 | _,[],_,h,_=>by unfold Op.bytesLess at h; cases h
 | _,_ :: _,[],_,h=>by unfold Op.bytesLess at h; cases h
 | [],y :: b,z :: c,_,_=>rfl
 | x :: a,y :: b,z :: c,h1,h2=>by
  unfold Op.bytesLess at h1 h2 ⊢
  simp only[Bool.or_eq_true,Bool.and_eq_true,decide_eq_true_eq,beq_iff_eq,UInt8.lt_iff_toNat_lt] at h1 h2 ⊢
  rcases h1 with h1 | ⟨rfl,h1⟩
  ·rcases h2 with h2 | ⟨rfl,h2⟩
   ·exact .inl (by omega)
   ·exact .inl h1
  ·rcases h2 with h2 | ⟨rfl,h2⟩
   ·exact .inl h2
   ·exact .inr ⟨rfl,bl_trans h1 h2⟩
theorem bl_tri:∀ {a b:Bs},a ≠ b → Op.bytesLess a b = true ∨ Op.bytesLess b a = true
 | [],[],h=>absurd rfl h
 | [],y :: b,_=>.inl rfl
 | x :: a,[],_=>.inr rfl
 | x :: a,y :: b,h=>by
  unfold Op.bytesLess
  simp only[Bool.or_eq_true,Bool.and_eq_true,decide_eq_true_eq,beq_iff_eq,UInt8.lt_iff_toNat_lt]
  by_cases hxy:x = y
  ·subst hxy
   have:a ≠ b:=fun e=>h (by rw[e])
   rcases bl_tri this with h1 | h1
   ·exact .inl (.inr ⟨rfl,h1⟩)
   ·exact .inr (.inr ⟨rfl,h1⟩)
  ·have:x.toNat ≠ y.toNat:=fun e=>hxy (UInt8.toNat_inj.1 e)
   rcases Nat.lt_or_gt_of_ne this with h1 | h1
   ·exact .inl (.inl h1)
   ·exact .inr (.inl h1)
theorem up_iff {a b:Bs}:upN a b = true ↔ Op.bytesLess a b = true:=by
 unfold upN
 rw[Bool.not_eq_true',Bool.or_eq_false_iff,decide_eq_false_iff_not]
 constructor
 ·rintro⟨h1,h2⟩
  rcases bl_tri (Ne.symm h2) with h | h
  ·exact h
  ·rw[h1] at h; cases h
 ·intro h
  refine⟨?_,fun e=>by subst e; rw[bl_irrefl] at h; cases h⟩
  cases hb:Op.bytesLess b a with
  | false=>rfl
  | true=>have:=bl_trans h hb; rw[bl_irrefl] at this; cases this
def srt (l:List FieldT):Prop := ∀ i j (hi:i < j) (hj:j < l.length),Op.bytesLess (l[i]'(by omega)).nm l[j].nm = true
theorem right_srt {d:Nat} {k:Int} {l:List FieldT} (h:rightS d k l = true):srt l:=by
 cases d with
 | zero=>cases h
 | succ d =>
  obtain⟨_,h2⟩:=right_iff.1 h
  have key:∀ (m i:Nat) (hj:i + 1 + m < l.length),Op.bytesLess (l[i]'(by omega)).nm l[i + 1 + m].nm = true:=by
   intro m
   induction m with
   | zero =>
    intro i hj
    rcases (h2 (i + 1) hj).2.1 with h | h
    ·omega
    ·exact up_iff.1 h
   | succ m ih =>
    intro i hj
    have h1:=ih i (by omega)
    rcases (h2 (i + 1 + (m + 1)) hj).2.1 with h | h
    ·omega
    ·exact bl_trans h1 (up_iff.1 h)
  intro i j hi hj
  obtain⟨m,rfl⟩:∃ m,j = i + 1 + m:=⟨j - (i + 1),by omega⟩
  exact key m i hj
theorem srt_inj {l:List FieldT} (h:srt l) {i j:Nat} (hi:i < l.length) (hj:j < l.length) (e:l[i].nm = l[j].nm):i = j:=by
 rcases Nat.lt_trichotomy i j with h1 | h1 | h1
 ·have:=h i j h1 hj; rw[e,bl_irrefl] at this; cases this
 ·exact h1
 ·have:=h j i h1 hi; rw[e,bl_irrefl] at this; cases this
theorem look_mem {l:List FieldT} {n:Bs} {f:FieldT} (h:lookF l n = some f):f ∈ l ∧ f.nm = n:=by
 obtain⟨h1,h2⟩:=lastOf_some h
 exact⟨h1,by simpa using h2⟩
theorem look_self {l:List FieldT} (h:srt l) {f:FieldT} (hf:f ∈ l):lookF l f.nm = some f:=by
 obtain⟨i,hi,rfl⟩:=List.mem_iff_getElem.1 hf
 refine lastOf_at hi (by simp) fun j hj hij=>?_
 rw[decide_eq_false_iff_not]
 intro e
 have:=srt_inj h hj hi e
 omega
theorem right_mem {d:Nat} {k:Int} {l:List FieldT} (h:rightS (d + 1) k l = true) {f:FieldT} (hf:f ∈ l):rightS d f.kd f.fs = true:=by
 obtain⟨i,hi,rfl⟩:=List.mem_iff_getElem.1 hf
 exact ((right_iff.1 h).2 i hi).2.2
theorem belL_iff {l al:List FieldT}:belL l al = true ↔ ∀ f ∈ l,∃ g,lookF al f.nm = some g ∧ g.kd = f.kd ∧ belL f.fs g.fs = true:=by
 rw[belL_all,List.all_eq_true]
 refine forall_congr' fun f=>forall_congr' fun hf=>?_
 rw[belF_eq]
 cases lookF al f.nm with
 | none=>simp
 | some g=>simp
theorem srt_tail {f:FieldT} {l:List FieldT} (h:srt (f :: l)):srt l ∧ ∀ g ∈ l,Op.bytesLess f.nm g.nm = true :=
 ⟨fun i j hi hj=>h (i + 1) (j + 1) (by omega) (by simpa using hj),fun g hg=>by
  obtain⟨i,hi,rfl⟩:=List.mem_iff_getElem.1 hg
  exact h 0 (i + 1) (by omega) (by simpa using hi)⟩
theorem srt_ext:∀ {al bl:List FieldT},srt al → srt bl → (∀ f,f ∈ al ↔ f ∈ bl) → al = bl
 | [],[],_,_,_=>rfl
 | [],b :: bl,_,_,h=>absurd ((h b).2 List.mem_cons_self) (by simp)
 | a :: al,[],_,_,h=>absurd ((h a).1 List.mem_cons_self) (by simp)
 | a :: al,b :: bl,h1,h2,h=>by
  obtain⟨s1,m1⟩:=srt_tail h1
  obtain⟨s2,m2⟩:=srt_tail h2
  have hab:a = b:=by
   rcases List.mem_cons.1 ((h a).1 List.mem_cons_self) with e | hb
   ·exact e
   ·rcases List.mem_cons.1 ((h b).2 List.mem_cons_self) with e | ha
    ·exact e.symm
    ·have:=bl_trans (m1 b ha) (m2 a hb)
     rw[bl_irrefl] at this; cases this
  subst hab
  refine congrArg _ (srt_ext s1 s2 fun f=>⟨fun hf=>?_,fun hf=>?_⟩)
  ·rcases List.mem_cons.1 ((h f).1 (List.mem_cons_of_mem _ hf)) with rfl | hb
   ·have:=m1 _ hf; rw[bl_irrefl] at this; cases this
   ·exact hb
  ·rcases List.mem_cons.1 ((h f).2 (List.mem_cons_of_mem _ hf)) with rfl | hb
   ·have:=m2 _ hf; rw[bl_irrefl] at this; cases this
   ·exact hb
theorem bel_anti:∀ {d:Nat} {k k':Int} {al bl:List FieldT},rightS d k al = true → rightS d k' bl = true → belL bl al = true → belL al bl = true → al = bl
 | 0,_,_,_,_,h,_,_,_=>by cases h
 | d + 1,k,k',al,bl,ha,hb,h1,h2=>by
  have hsa:=right_srt ha
  have hsb:=right_srt hb
  have key:∀ {al bl:List FieldT} {k k':Int},rightS (d + 1) k al = true → rightS (d + 1) k' bl = true → srt al → srt bl → belL bl al = true → belL al bl = true → ∀ f ∈ al,f ∈ bl:=by
   intro al bl k k' ha hb hsa hsb h1 h2 f hf
   obtain⟨g,g1,g2,g3⟩:=belL_iff.1 h2 f hf
   obtain⟨hg,hn⟩:=look_mem g1
   obtain⟨f',f1,f2,f3⟩:=belL_iff.1 h1 g hg
   have hff:lookF al g.nm = some f:=by rw[hn]; exact look_self hsa hf
   rw[hff] at f1
   injection f1 with f1
   subst f1
   have he:=bel_anti (right_mem hb hg) (right_mem ha hf) g3 f3
   have:f = g:=by rw[← FieldT.eta f,← FieldT.eta g,hn,g2,he]
   rw[this]; exact hg
  exact srt_ext hsa hsb fun f=>⟨key ha hb hsa hsb h1 h2 f,key hb ha hsb hsa h2 h1 f⟩
end Go.Proofs.Ytaocfjifacnokaa
