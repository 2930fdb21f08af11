import Derived.Test.YtcmibmohdnbhgaaGreatDoorPA
import Derived.Lib.SplitLaws
set_option linter.unusedVariables false
set_option linter.unusedSimpArgs false
set_option linter.unusedSectionVars false
namespace Go.Lad
abbrev andS:Bs:=[32,97,110,100,32]
abbrev orS:Bs:=[32,111,114,32]
mutual
def LicT.tx:LicT → Bs
 | .mk o n l=>if o = 0 then n else Lib.join (LicT.txs l) (if o = 1 then andS else orS)
def LicT.txs:List LicT → List Bs
 | []=>[]
 | x :: r=>(if x.op = 2 then [40] ++ x.tx ++ [41] else x.tx) :: LicT.txs r
end
def LicT.px (x:LicT):Bs:=if x.op = 2 then [40] ++ x.tx ++ [41] else x.tx
theorem LicT.txs_map:∀ l:List LicT,LicT.txs l = l.map LicT.px
 | []=>by rw[LicT.txs]; rfl
 | x :: r=>by rw[LicT.txs,LicT.txs_map r]; rfl
theorem LicT.tx_eq (e:LicT):e.tx = if e.op = 0 then e.nm else Lib.join (e.ar.map LicT.px) (if e.op = 1 then andS else orS):=by
 cases e; rw[LicT.tx,LicT.txs_map]; rfl
def sumL (l:List Bs) (c:Nat):Nat:=(l.map fun x=>x.length + c).sum
theorem join_len (l:List Bs) (sep:Bs):(Lib.join l sep).length ≤ sumL l sep.length:=by
 cases l with
 | nil=>rw[Lib.join_nil]; exact Nat.zero_le _
 | cons x r =>
  rw[Lib.join_cons,List.length_append]
  have:(Lib.joinTail sep r).length = sumL r sep.length:=by
   unfold Lib.joinTail sumL
   induction r with
   | nil=>rfl
   | cons y r ih=>simp only[List.map_cons,List.flatten_cons,List.length_append,List.sum_cons,ih]; omega
  rw[this]
  unfold sumL
  rw[List.map_cons,List.sum_cons]; omega
theorem sum_lvs {l:List LicT} {c:Nat} (hc:c ≤ 5) (h:∀ x ∈ l,x.tx.length + 14 ≤ 34 * x.lv):sumL (l.map LicT.px) c + 7 * l.length ≤ 34 * LicT.lvs l:=by
 induction l with
 | nil=>rw[LicT.lvs]; simp [sumL]
 | cons x r ih =>
  have h1:=h x (by simp)
  have h2:=ih fun y hy=>h y (by simp [hy])
  rw[LicT.lvs,List.map_cons]
  unfold sumL at h2 ⊢
  rw[List.map_cons,List.sum_cons,List.length_cons]
  have:x.px.length ≤ x.tx.length + 2:=by unfold LicT.px; split <;> simp
  omega
end Go.Lad
namespace Go.Proofs.YtcmibmohdnbhgaaGreatDoor
open Go.Lad
theorem op_sep (o:Int):(if o = 1 then andS else orS).length ≤ 5:=by split <;> simp
theorem fm_two {e:LicT} (h:e.fm = true) (h0:¬ e.op = 0):2 ≤ e.ar.length ∧ e.nm = []:=by
 rw[LicT.fm_eq,if_neg h0,Bool.and_eq_true,decide_eq_true_eq] at h
 exact⟨h.1.2.2,h.1.2.1⟩
theorem tx_len:∀ e:LicT,e.fm = true → e.tx.length + 14 ≤ 34 * e.lv:=by
 intro e
 induction e using LicT.ind with
 | h e ih =>
  intro hf
  rw[LicT.tx_eq,LicT.lv_eq]
  by_cases h0:e.op = 0
  ·rw[if_pos h0,if_pos h0]
   rw[LicT.fm_eq,if_pos h0,Bool.and_eq_true] at hf
   have:=hf.1
   unfold nameB at this
   simp only[Bool.and_eq_true,Nat.ble_eq] at this
   have:=this.1.1.1.1
   omega
  ·rw[if_neg h0,if_neg h0]
   have h2:=(fm_two hf h0).1
   have h3:=sum_lvs (op_sep e.op) fun x hx=>ih x hx (fm_ar hf hx).1
   have h4:=join_len (e.ar.map LicT.px) (if e.op = 1 then andS else orS)
   omega
theorem write_rec:∀ (n:Nat) (e:LicT),e.fm = true → e.sz < n → e.lv ≤ 16 → licence_write.rec n e.op e.nm (unL e.ar) = some e.tx
 | 0,_,_,h,_=>absurd h (by omega)
 | n + 1,e,hf,hn,hlv=>by
  show licence_write.body (licence_write.rec n) e.op e.nm (unL e.ar) = _
  unfold licence_write.body
  have hT:=tx_len e hf
  rw[LicT.tx_eq] at hT ⊢
  by_cases h0:e.op = 0
  ·rw[eqZ_eq,decide_eq_true h0,cond_true,if_pos h0]
  ·rw[if_neg h0] at hT ⊢
   rw[eqZ_eq,decide_eq_false h0,cond_false]
   have hfa:∀ y ∈ e.ar,y.fm = true:=fun y hy=>(fm_ar hf hy).1
   have hlvs:e.lv = LicT.lvs e.ar:=by rw[LicT.lv_eq,if_neg h0]
   have hlen:=len_lvs hfa
   have hl:loopF (fun x=>licence_write.b1 (licence_write.rec n) (unL e.ar) x.1 x.2) (0,[]) = some (e.ar.map LicT.px):=by
    refine loopF_at (body:=fun x=>licence_write.b1 (licence_write.rec n) (unL e.ar) x.1 x.2) (fun k=>((k:Int),(e.ar.take k).map LicT.px)) e.ar.length (by simp) (fun k hk=>?_) ?_ (by omega)
    ·have hm:=List.getElem_mem hk
     have h1:=LicT.sz_lt hm
     have h2:=LicT.lv_mem hm
     have h3:=tx_len _ (hfa _ hm)
     simp only[licence_write.b1]
     rw[un_len,ltZ_eq,decide_eq_true (by omega),cond_true,idx_un hk]
     simp only[bind_in,fu1,fu2,fu3,fu4]
     rw[write_rec n e.ar[k] (hfa _ hm) (by omega) (by omega)]
     simp only[bind_in]
     rw[take_snoc e.ar k hk,List.map_append,z64_succ (by omega)]
     have hpx:e.ar[k].px = if e.ar[k].op = 2 then [40] ++ e.ar[k].tx ++ [41] else e.ar[k].tx:=rfl
     by_cases ho:e.ar[k].op = 2
     ·rw[eqZ_eq,decide_eq_true ho,cond_true]
      unfold cat?
      rw[if_pos (by simp; omega),bind_in,if_pos (by simp; omega),bind_in,app_in (by simp only[List.length_map,List.length_take,List.length_singleton]; omega),bind_in,bind_in,List.map_cons,List.map_nil,hpx,if_pos ho]
     ·rw[eqZ_eq,decide_eq_false ho,cond_false,app_in (by simp only[List.length_map,List.length_take,List.length_singleton]; omega),bind_in,bind_in,List.map_cons,List.map_nil,hpx,if_neg ho]
    ·simp only[licence_write.b1]
     rw[un_len,ltZ_eq,decide_eq_false (by omega),cond_false,List.take_length]
   rw[hl,bind_in]
   unfold licence_write.j1 strings_Join joinF
   have hml:Nat.ble (e.ar.map LicT.px).length 140737488355328 = true:=by rw[Nat.ble_eq,List.length_map]; omega
   by_cases h1:e.op = 1
   ·rw[if_pos h1] at hT ⊢
    rw[eqZ_eq,decide_eq_true h1,cond_true,hml,show Nat.ble (Lib.join (e.ar.map LicT.px) [32,97,110,100,32]).length 140737488355328 = true by rw[Nat.ble_eq]; show (Lib.join (e.ar.map LicT.px) andS).length ≤ _; omega]
    rfl
   ·rw[if_neg h1] at hT ⊢
    rw[eqZ_eq,decide_eq_false h1,cond_false,hml,show Nat.ble (Lib.join (e.ar.map LicT.px) [32,111,114,32]).length 140737488355328 = true by rw[Nat.ble_eq]; show (Lib.join (e.ar.map LicT.px) orS).length ≤ _; omega]
    rfl
def printF (e:LicT):Bs × Int:=if e.rt = true then (e.tx,0) else ([],1)
theorem print_ok (e:LicT) (hz:e.sz ≤ 1000000000):licence_Print e.op e.nm (unL e.ar) = some (printF e):=by
 unfold licence_Print printF
 rw[right_ok e hz,bind_in]
 cases h:e.rt with
 | false=>rfl
 | true =>
  unfold LicT.rt at h
  rw[Bool.and_eq_true,Nat.ble_eq] at h
  unfold licence_write
  rw[Bool.not_true,cond_false,write_rec bigFuel.n e h.1 (fuel_big (by omega)) h.2]; rfl
end Go.Proofs.YtcmibmohdnbhgaaGreatDoor
namespace Go.Lad
abbrev Par:=List Bs → Option (LicT × List Bs)
abbrev opW:Bs:=[40]
abbrev clW:Bs:=[41]
abbrev andW:Bs:=[97,110,100]
abbrev orW:Bs:=[111,114]
def sev (P:Par) (s:Bs):Nat → List Bs → Option (List LicT × List Bs)
 | 0,_=>none
 | k + 1,ts=>match P ts with
  | none=>none
  | some (e,r)=>match r with
   | []=>some ([e],[])
   | t :: q=>if t = s then (sev P s k q).map (fun x=>(e :: x.1,x.2)) else some ([e],t :: q)
def fl (o:Int) (e:LicT):List LicT:=if e.op = o then e.ar else [e]
def fls (o:Int) (l:List LicT):List LicT:=l.flatMap (fl o)
def jn (o:Int) (l:List LicT):LicT:=match l with
 | [e]=>e
 | _=>.mk o [] (fls o l)
def pPart (G:Par):Par:=fun ts=>match ts with
 | []=>none
 | t :: r=>if t = opW then (match G r with
   | none=>none
   | some (e,q)=>match q with
    | []=>none
    | u :: q'=>if u = clW then some (e,q') else none)
  else if nameB t = true then some (.mk 0 t [],r) else none
def pSev (P:Par) (o:Int) (s:Bs):Par:=fun ts=>(sev P s (ts.length + 1) ts).map fun x=>(jn o x.1,x.2)
def pAlt:Nat → Par
 | 0=>fun _=>none
 | n + 1=>pSev (pSev (pPart (pAlt n)) 1 andW) 2 orW
def GoodP (P:Par):Prop := ∀ ts e r,P ts = some (e,r) → r.length + e.lv ≤ ts.length ∧ e.fm = true
theorem lv_one {e:LicT} (h:e.fm = true):1 ≤ e.lv:=by have:=LicT.dp_lt e h; omega
theorem fls_cons (o:Int) (e:LicT) (l:List LicT):fls o (e :: l) = fl o e ++ fls o l:=by unfold fls; rw[List.flatMap_cons]
theorem fl_lv {o:Int} (ho:o ≠ 0) (e:LicT):LicT.lvs (fl o e) = e.lv:=by
 unfold fl
 split
 ·rename_i h; rw[LicT.lv_eq,if_neg (by rw[h]; exact ho)]
 ·exact LicT.lvs_one e
theorem fls_lv {o:Int} (ho:o ≠ 0):∀ l:List LicT,LicT.lvs (fls o l) = LicT.lvs l
 | []=>rfl
 | e :: l=>by rw[fls_cons,LicT.lvs_app,fl_lv ho,fls_lv ho l,LicT.lvs]
theorem fm_args {e x:LicT} (h:e.fm = true) (hx:x ∈ e.ar):x.fm = true ∧ x.op ≠ e.op:=by
 by_cases h0:e.op = 0
 ·rw[LicT.fm_eq,if_pos h0,Bool.and_eq_true] at h
  rw[List.isEmpty_iff.1 h.2] at hx; cases hx
 ·rw[LicT.fm_eq,if_neg h0,Bool.and_eq_true] at h
  exact (LicT.fms_iff _ _).1 h.2 x hx
theorem fl_fm {o:Int} {e x:LicT} (h:e.fm = true) (hx:x ∈ fl o e):x.fm = true ∧ x.op ≠ o:=by
 unfold fl at hx
 split at hx
 ·rename_i ho
  rw[← ho]; exact fm_args h hx
 ·rename_i ho
  rw[List.mem_singleton.1 hx]; exact⟨h,ho⟩
theorem fl_len {o:Int} (ho:o ≠ 0) {e:LicT} (h:e.fm = true):1 ≤ (fl o e).length:=by
 unfold fl
 split
 ·rename_i h1
  rw[LicT.fm_eq,if_neg (by rw[h1]; exact ho),Bool.and_eq_true,decide_eq_true_eq] at h
  have:=h.1.2.2; omega
 ·simp
theorem lv_mk {o:Int} {l:List LicT} (h:o ≠ 0):(LicT.mk o [] l).lv = LicT.lvs l:=by rw[LicT.lv_eq]; exact if_neg h
theorem fm_mk {o:Int} {l:List LicT} (h:o ≠ 0):(LicT.mk o [] l).fm = (decide ((o = 1 ∨ o = 2) ∧ ([]:Bs) = [] ∧ 2 ≤ l.length) && LicT.fms o l):=by rw[LicT.fm_eq]; exact if_neg h
theorem lv_leaf (t:Bs):(LicT.mk 0 t []).lv = 1:=by rw[LicT.lv_eq]; exact if_pos rfl
theorem fm_leaf (t:Bs):(LicT.mk 0 t []).fm = nameB t:=by rw[LicT.fm_eq]; exact (if_pos rfl).trans (Bool.and_true _)
theorem jn_good {o:Int} (ho:o = 1 ∨ o = 2) {l:List LicT} (hl:l ≠ []) (hf:∀ e ∈ l,e.fm = true):(jn o l).fm = true ∧ (jn o l).lv = LicT.lvs l:=by
 have ho0:o ≠ 0:=by omega
 match l,hl with
 | [e],_=>exact⟨hf e (by simp),(LicT.lvs_one e).symm⟩
 | a :: b :: r,_ =>
  show (LicT.mk o [] (fls o (a :: b :: r))).fm = true ∧ (LicT.mk o [] (fls o (a :: b :: r))).lv = _
  constructor
  ·rw[fm_mk ho0,Bool.and_eq_true,decide_eq_true_eq]
   refine⟨⟨ho,rfl,?_⟩,(LicT.fms_iff _ _).2 fun x hx=>?_⟩
   ·show 2 ≤ (fls o (a :: b :: r)).length
    have h1:=fl_len ho0 (hf a (by simp))
    have h2:=fl_len ho0 (hf b (by simp))
    rw[fls_cons,fls_cons,List.length_append,List.length_append]; omega
   ·obtain⟨y,hy,hx⟩:=List.mem_flatMap.1 hx
    exact fl_fm (hf y hy) hx
  ·rw[lv_mk ho0]
   exact fls_lv ho0 _
theorem sev_good {P:Par} {s:Bs} (hP:GoodP P):∀ (k:Nat) (ts:List Bs) l r,sev P s k ts = some (l,r) → r.length + LicT.lvs l ≤ ts.length ∧ l ≠ [] ∧ ∀ e ∈ l,e.fm = true
 | 0,_,_,_,h=>by rw[sev] at h; cases h
 | k + 1,ts,l,r,h=>by
  rw[sev] at h
  cases hp:P ts with
  | none=>rw[hp] at h; cases h
  | some x =>
   obtain⟨e,q⟩:=x
   obtain⟨h1,h2⟩:=hP ts e q hp
   rw[hp] at h
   cases q with
   | nil =>
    cases h
    exact⟨by rw[LicT.lvs_one]; exact h1,by simp,fun e' he=>by rw[List.mem_singleton.1 he]; exact h2⟩
   | cons t q =>
    simp only at h
    split at h
    ·cases hs:sev P s k q with
     | none=>rw[hs] at h; cases h
     | some x =>
      rw[hs] at h
      obtain⟨l',r'⟩:=x
      cases h
      obtain⟨g1,g2,g3⟩:=sev_good hP k q l' r' hs
      refine⟨?_,by simp,fun e' he=>?_⟩
      ·show r'.length + LicT.lvs (e :: l') ≤ _
       rw[LicT.lvs]
       rw[List.length_cons] at h1
       omega
      ·rcases List.mem_cons.1 he with rfl | he
       ·exact h2
       ·exact g3 e' he
    ·cases h
     exact⟨by rw[LicT.lvs_one]; exact h1,by simp,fun e' he=>by rw[List.mem_singleton.1 he]; exact h2⟩
theorem pSev_good {P:Par} {s:Bs} {o:Int} (ho:o = 1 ∨ o = 2) (hP:GoodP P):GoodP (pSev P o s):=by
 intro ts e r h
 unfold pSev at h
 cases hs:sev P s (ts.length + 1) ts with
 | none=>rw[hs] at h; cases h
 | some x =>
  rw[hs] at h
  obtain⟨l,q⟩:=x
  cases h
  obtain⟨h1,h2,h3⟩:=sev_good hP _ ts l _ hs
  obtain⟨g1,g2⟩:=jn_good ho h2 h3
  exact⟨by rw[g2]; exact h1,g1⟩
theorem pPart_good {G:Par} (hG:GoodP G):GoodP (pPart G):=by
 intro ts e r h
 cases ts with
 | nil=>cases h
 | cons t q =>
  unfold pPart at h
  simp only at h
  split at h
  ·cases hg:G q with
   | none=>rw[hg] at h; cases h
   | some x =>
    obtain⟨e',q'⟩:=x
    rw[hg] at h
    obtain⟨h1,h2⟩:=hG q e' q' hg
    cases q' with
    | nil=>cases h
    | cons u q' =>
     simp only at h
     split at h
     ·cases h
      exact⟨by rw[List.length_cons] at h1 ⊢; omega,h2⟩
     ·cases h
  ·split at h
   ·rename_i hn
    cases h
    exact⟨by rw[lv_leaf,List.length_cons]; exact Nat.le_refl _,by rw[fm_leaf,hn]⟩
   ·cases h
theorem pAlt_good:∀ n,GoodP (pAlt n)
 | 0=>fun _ _ _ h=>by cases h
 | n + 1=>pSev_good (.inr rfl) (pSev_good (.inl rfl) (pPart_good (pAlt_good n)))
end Go.Lad
namespace Go.Proofs.YtcmibmohdnbhgaaGreatDoor
open Go.Lad
abbrev CPar:=List Bs → Option (GLic × Bool × List Bs)
def RelP (f:CPar) (P:Par) (ts:List Bs):Prop:=(∀ e r,P ts = some (e,r) → f ts = some (lt e,true,r)) ∧ (P ts = none → ∃ x r,f ts = some (x,false,r))
theorem skip_nil (s:Bs):licence_tokens_skip s [] = some (false,[]):=rfl
theorem skip_cons (s t:Bs) (r:List Bs):licence_tokens_skip s (t :: r) = some (if t = s then (true,r) else (false,t :: r)):=by
 unfold licence_tokens_skip licence_tokens_skip.j1
 rw[ltZ_eq,decide_eq_true (by simp),cond_true,show idx (t :: r) 0 = some t from idx_nat (l:=t :: r) (k:=0) (by simp),bind_in,bind_in]
 by_cases h:t = s
 ·rw[decide_eq_true h,cond_true,if_pos h,cut_in (by omega) (by simp; omega) (by simp),bind_in]
  show some (true,(List.take (t :: r).length (t :: r)).drop 1) = _
  rw[List.take_length]; rfl
 ·rw[decide_eq_false h,cond_false,if_neg h]
theorem word_cons (t:Bs) (r:List Bs):licence_tokens_word (t :: r) = some (if nameB t = true then (t,true,r) else ([],false,t :: r)):=by
 unfold licence_tokens_word licence_tokens_word.j1
 have hi:idx (t :: r) 0 = some t:=idx_nat (l:=t :: r) (k:=0) (by simp)
 rw[eqZ_eq,decide_eq_false (by simp; omega),cond_false,hi,bind_in,named_ok,bind_in,bind_in]
 cases nameB t with
 | true =>
  rw[Bool.not_true,cond_false,bind_in,cut_in (by omega) (by simp; omega) (by simp),bind_in,if_pos rfl]
  show some (t,true,(List.take (t :: r).length (t :: r)).drop 1) = _
  rw[List.take_length]; rfl
 | false=>rfl
theorem part_rel {Gr:CPar} {G:Par} {ts:List Bs} (h:∀ q:List Bs,q.length < ts.length → RelP Gr G q):RelP (licence_parser_part Gr) (pPart G) ts:=by
 cases ts with
 | nil=>exact⟨fun e r h=>(by cases h),fun _=>⟨_,_,rfl⟩⟩
 | cons t q =>
  obtain⟨h1,h2⟩:=h q (by simp)
  unfold RelP pPart licence_parser_part
  rw[skip_cons,bind_in]
  by_cases ht:t = opW
  ·rw[if_pos ht]
   simp only[if_pos ht,cond_true]
   cases hg:G q with
   | none =>
    obtain⟨x,r,hx⟩:=h2 hg
    rw[hx,bind_in]
    exact⟨fun e r h=>(by cases h),fun _=>⟨_,_,rfl⟩⟩
   | some y =>
    obtain⟨e',q'⟩:=y
    rw[h1 e' q' hg,bind_in,cond_true]
    cases q' with
    | nil =>
     rw[skip_nil,bind_in]
     exact⟨fun e r h=>(by cases h),fun _=>⟨_,_,rfl⟩⟩
    | cons u q' =>
     rw[skip_cons,bind_in]
     by_cases hu:u = clW
     ·simp only[if_pos hu,fx1,fx2,fx3,lt]
      exact⟨fun e r h=>(by cases h; rfl),fun h=>(by cases h)⟩
     ·simp only[if_neg hu]
      exact⟨fun e r h=>(by cases h),fun _=>⟨_,_,rfl⟩⟩
  ·rw[if_neg ht]
   simp only[if_neg ht,cond_false]
   rw[word_cons,bind_in]
   cases hn:nameB t with
   | true=>exact⟨fun e r h=>(by cases h; rfl),fun h=>(by cases h)⟩
   | false=>exact⟨fun e r h=>(by cases h),fun _=>⟨_,_,rfl⟩⟩
def sevB (f:CPar) (op1:Int) (e6:Int) (e7:Bs) (v8:List GLic) (v10:Bool) (p11:List Bs):Option ((Bool × (List Bs) × Int × Bs × List GLic) ⊕ ((Int × Bs × (List Bs) × List GLic) ⊕ (GLic × Bool × List Bs))) :=
 bif v10 then
 ((f p11).bind fun p12 =>
 bif (!p12.2.1) then
  some (.inr (.inr ((0,([]:Bs),[]),false,p12.2.2)))
 else
  (bif (eqZ p12.1.1 op1) then
  ((app? v8 (p12.1.2.2.map (Uun 2))).bind fun l13 =>
  some (.inl (false,p12.2.2,e6,e7,l13)))
  else
  ((app? v8 ([(p12.1.1,p12.1.2.1,((p12.1.2.2.map (Uun 2)).map (Umk 2)))]:List GLic)).bind fun l14 =>
  some (.inl (false,p12.2.2,e6,e7,l14)))))
 else
 some (.inr (.inl (e6,e7,p11,v8)))
theorem un_fls (o:Int) (l:List LicT) (e:LicT):unL (fls o l) ++ unL (fl o e) = unL (fls o (l ++ [e])):=by
 rw[un_app]
 unfold fls
 rw[List.flatMap_append]
 simp
theorem sevB_step {f:CPar} {P:Par} {o:Int} (ho:o ≠ 0) {q:List Bs} {dn:List LicT} (hr:RelP f P q) (hg:GoodP P) (hf:∀ e ∈ dn,e.fm = true) (hb:LicT.lvs dn + q.length ≤ 1000000) :
  (P q = none ∧ ∃ x r,sevB f o o [] (unL (fls o dn)) true q = some (.inr (.inr (x,false,r)))) ∨ (∃ e r,P q = some (e,r) ∧ sevB f o o [] (unL (fls o dn)) true q = some (.inl (false,r,o,[],unL (fls o (dn ++ [e]))))):=by
 unfold sevB
 rw[cond_true]
 cases hp:P q with
 | none =>
  obtain⟨x,r,hx⟩:=hr.2 hp
  rw[hx,bind_in]
  exact .inl ⟨rfl,_,_,rfl⟩
 | some y =>
  obtain⟨e,r⟩:=y
  obtain⟨g1,g2⟩:=hg q e r hp
  refine .inr ⟨e,r,rfl,?_⟩
  rw[hr.1 e r hp,bind_in]
  simp only[Bool.not_true,cond_false,lt,fu1,fu2,fu3,fu4,fx1,fx2,fx3]
  have hfl:(unL (fls o dn)).length ≤ LicT.lvs dn:=by
   rw[un_len,← fls_lv ho dn]
   refine len_lvs fun x hx=>?_
   obtain⟨y,hy,hx⟩:=List.mem_flatMap.1 hx
   exact (fl_fm (hf y hy) hx).1
  have hel:(fl o e).length ≤ e.lv:=by
   rw[← fl_lv ho e]
   exact len_lvs fun x hx=>(fl_fm g2 hx).1
  have hun:=un_fls o dn e
  unfold fl at hun hel
  by_cases h:e.op = o
  ·rw[eqZ_eq,decide_eq_true h,cond_true]
   rw[if_pos h] at hun hel
   rw[app_in (by rw[un_len e.ar]; omega),hun]; rfl
  ·rw[eqZ_eq,decide_eq_false h,cond_false]
   rw[if_neg h] at hun hel
   have e1:=un_one e
   show Option.bind (app? (unL (fls o dn)) [(e.op,e.nm,_)]) _ = _
   have e2:([(e.op,e.nm,mkL (unL e.ar))]:List GLic) = unL [e]:=by rw[mk_un]; exact e1
   show Option.bind (app? (unL (fls o dn)) [(e.op,e.nm,mkL (unL e.ar))]) _ = _
   rw[e2,app_in (by rw[un_len [e]]; simp only[List.length_singleton]; omega),hun]; rfl
end Go.Proofs.YtcmibmohdnbhgaaGreatDoor
namespace Go.Proofs.YtcmibmohdnbhgaaGreatDoor
open Go.Lad
def sevK (P:Par) (s:Bs) (k:Nat) (dn:List LicT) (p:List Bs):Option (List LicT × List Bs):=match p with
 | []=>some (dn,[])
 | t :: q=>if t = s then (sev P s k q).map (fun y=>(dn ++ y.1,y.2)) else some (dn,t :: q)
theorem sev_succ {P:Par} {s:Bs} {k:Nat} {q:List Bs} {dn:List LicT} {e:LicT} {r:List Bs} (h:P q = some (e,r)):(sev P s (k + 1) q).map (fun y=>(dn ++ y.1,y.2)) = sevK P s k (dn ++ [e]) r:=by
 rw[sev,h]
 unfold sevK
 cases r with
 | nil=>rfl
 | cons t r =>
  simp only
  by_cases ht:t = s
  ·rw[if_pos ht,if_pos ht,Option.map_map]
   congr 1
   funext y
   show (dn ++ e :: y.1,y.2) = (dn ++ [e] ++ y.1,y.2)
   rw[List.append_assoc]; rfl
  ·rw[if_neg ht,if_neg ht]; rfl
theorem sev_fail {P:Par} {s:Bs} {k:Nat} {q:List Bs} (h:P q = none):sev P s (k + 1) q = none:=by rw[sev,h]
theorem sev_loop {f : CPar} {P : Par} {o : Int} (ho : o ≠ 0) (s : Bs) (ts : List Bs) (hlen : ts.length ≤ 100000) (hg : GoodP P) (hr : ∀ q : List Bs, q.length ≤ ts.length → RelP f P q)
    {body : Bool × List Bs × Int × Bs × List GLic → Option ((Bool × List Bs × Int × Bs × List GLic) ⊕ ((Int × Bs × List Bs × List GLic) ⊕ (GLic × Bool × List Bs)))}
    (hb : ∀ x, body x = (bif x.1 then some (true, x.2.1) else (licence_tokens_skip s x.2.1).bind fun s9 => some (s9.1, s9.2)).bind fun y => sevB f o x.2.2.1 x.2.2.2.1 x.2.2.2.2 y.1 y.2) :
    ∃ b, loopF body (true, ts, o, [], []) = some b ∧ (∀ l r, sev P s (ts.length + 1) ts = some (l, r) → b = .inl (o, [], r, unL (fls o l))) ∧ (sev P s (ts.length + 1) ts = none → ∃ x r, b = .inr (x, false, r)) := by
  refine loopF_inv (body := body) (fun j x => x.2.2.1 = o ∧ x.2.2.2.1 = [] ∧ ∃ dn : List LicT, x.2.2.2.2 = unL (fls o dn) ∧ (∀ e ∈ dn, e.fm = true) ∧ LicT.lvs dn + x.2.1.length ≤ ts.length ∧
    ((x.1 = true ∧ j = 0 ∧ dn = [] ∧ x.2.1 = ts) ∨ (x.1 = false ∧ j + x.2.1.length ≤ ts.length ∧ sev P s (ts.length + 1) ts = sevK P s (ts.length + 1 - j) dn x.2.1))) (ts.length + 1) ⟨rfl, rfl, [], rfl, by simp, by rw [LicT.lvs]; simp, .inl ⟨rfl, rfl, rfl, rfl⟩⟩ (fun j hj x hx => ?_) (fun x hx => ?_) (by omega)
  · obtain ⟨first, p, o', nm, v8⟩ := x
    obtain ⟨h1, h2, dn, h3, h4, h5, h6⟩ := hx
    simp only at h1 h2 h3 h5 h6
    subst h1 h2 h3
    have step : ∀ q : List Bs, q.length + j ≤ ts.length → LicT.lvs dn + q.length ≤ ts.length → sev P s (ts.length + 1) ts = (sev P s (ts.length + 1 - j) q).map (fun y => (dn ++ y.1, y.2)) →
        (∃ y, sevB f o' o' [] (unL (fls o' dn)) true q = some (.inl y) ∧ (y.2.2.1 = o' ∧ y.2.2.2.1 = [] ∧ ∃ dn : List LicT, y.2.2.2.2 = unL (fls o' dn) ∧ (∀ e ∈ dn, e.fm = true) ∧ LicT.lvs dn + y.2.1.length ≤ ts.length ∧
    ((y.1 = true ∧ j + 1 = 0 ∧ dn = [] ∧ y.2.1 = ts) ∨ (y.1 = false ∧ j + 1 + y.2.1.length ≤ ts.length ∧ sev P s (ts.length + 1) ts = sevK P s (ts.length + 1 - (j + 1)) dn y.2.1)))) ∨
        (∃ b, sevB f o' o' [] (unL (fls o' dn)) true q = some (.inr b) ∧ (∀ l r, sev P s (ts.length + 1) ts = some (l, r) → b = .inl (o', [], r, unL (fls o' l))) ∧ (sev P s (ts.length + 1) ts = none → ∃ x r, b = .inr (x, false, r))) := fun q hq1 hq2 hq3 => by
      have hk : ts.length + 1 - j = (ts.length - j) + 1 := by omega
      rw [hk] at hq3
      rcases sevB_step (o := o') (dn := dn) ho (hr q (by omega)) hg h4 (by omega) with ⟨e1, x, r, e2⟩ | ⟨e, r, e1, e2⟩
      · refine .inr ⟨_, e2, fun l r h => ?_, fun _ => ⟨_, _, rfl⟩⟩
        rw [hq3, sev_fail e1] at h; cases h
      · obtain ⟨g1, g2⟩ := hg q e r e1
        have g3 := lv_one g2
        refine .inl ⟨_, e2, rfl, rfl, dn ++ [e], rfl, fun x hx => ?_, ?_, .inr ⟨rfl, ?_, ?_⟩⟩
        · rcases List.mem_append.1 hx with hx | hx
          · exact h4 x hx
          · rw [List.mem_singleton.1 hx]; exact g2
        · show LicT.lvs (dn ++ [e]) + r.length ≤ _
          rw [LicT.lvs_app, LicT.lvs_one]; omega
        · show j + 1 + r.length ≤ _
          omega
        · show _ = sevK P s (ts.length + 1 - (j + 1)) (dn ++ [e]) r
          rw [hq3, sev_succ e1]
          congr 1; omega
    rw [hb]
    rcases h6 with ⟨rfl, rfl, rfl, rfl⟩ | ⟨rfl, h7, h8⟩
    · simp only [cond_true, bind_in]
      refine step p (by omega) h5 ?_
      show _ = Option.map (fun y => ([] ++ y.1, y.2)) (sev P s (p.length + 1 - 0) p)
      rw [Nat.sub_zero]
      cases sev P s (p.length + 1) p <;> rfl
    · simp only [cond_false]
      cases p with
      | nil =>
        rw [skip_nil]
        refine .inr ⟨_, rfl, fun l r h => ?_, fun h => ?_⟩
        · rw [h8] at h; unfold sevK at h; cases h; rfl
        · rw [h8] at h; unfold sevK at h; cases h
      | cons t q =>
        rw [skip_cons, bind_in]
        rw [List.length_cons] at h5 h7
        by_cases ht : t = s
        · simp only [if_pos ht, bind_in]
          refine step q (by omega) (by omega) ?_
          rw [h8]; unfold sevK; simp only [if_pos ht]
        · simp only [if_neg ht, bind_in]
          refine .inr ⟨_, rfl, fun l r h => ?_, fun h => ?_⟩
          · rw [h8] at h; unfold sevK at h; simp only [if_neg ht] at h; cases h; rfl
          · rw [h8] at h; unfold sevK at h; simp only [if_neg ht] at h; cases h
  · obtain ⟨first, p, o', nm, v8⟩ := x
    obtain ⟨h1, h2, dn, h3, h4, h5, h6⟩ := hx
    simp only at h6
    rcases h6 with ⟨_, h, _, _⟩ | ⟨_, h, _⟩ <;> omega
theorem jn_code {o:Int} (ho:o = 1 ∨ o = 2) {l:List LicT} (hl:l ≠ []) (hf:∀ e ∈ l,e.fm = true) (r:List Bs):licence_parser_several_v2.j2 o [] r (unL (fls o l)) = some (lt (jn o l),true,r):=by
 have ho0:o ≠ 0:=by omega
 unfold licence_parser_several_v2.j2
 have gen:2 ≤ (fls o l).length → (bif (eqZ ((unL (fls o l)).length:Int) 1) then ((idx (unL (fls o l)) 0).bind fun _19=>(idx (unL (fls o l)) 0).bind fun v20=>some (((v20.1,v20.2.1,((v20.2.2.map (Uun 2)).map (Umk 2))):GLic),true,r)) else some ((o,([]:Bs),((unL (fls o l)).map (Umk 2))),true,r)) = some (lt (.mk o [] (fls o l)),true,r):=fun h=>by
  rw[un_len,eqZ_eq,decide_eq_false (by omega),cond_false]
  show some ((o,([]:Bs),mkL (unL (fls o l))),true,r) = _
  rw[mk_un]; rfl
 match l,hl with
 | [e],_ =>
  have hfe:=hf e (by simp)
  have e1:fls o [e] = fl o e:=by unfold fls; simp
  show _ = some (lt e,true,r)
  rw[e1] at gen ⊢
  by_cases h:e.op = o
  ·have h2:=fm_two hfe (by rw[h]; exact ho0)
   have e2:fl o e = e.ar:=if_pos h
   rw[e2] at gen ⊢
   rw[gen h2.1]
   show some (lt (LicT.mk o [] e.ar),true,r) = _
   rw[← h,← h2.2,LicT.eta]
  ·have e2:fl o e = [e]:=if_neg h
   rw[e2,un_len,eqZ_eq,decide_eq_true (by simp),cond_true]
   have hi:idx (unL [e]) 0 = some (e.op,e.nm,e.ar):=idx_un (l:=[e]) (k:=0) (by simp)
   rw[hi,bind_in,bind_in]
   show some ((e.op,e.nm,mkL (unL e.ar)),true,r) = _
   rw[mk_un]; rfl
 | a :: b :: q,_ =>
  refine gen ?_
  have h1:=fl_len ho0 (hf a (by simp))
  have h2:=fl_len ho0 (hf b (by simp))
  rw[fls_cons,fls_cons,List.length_append,List.length_append]; omega
theorem sequence_rel {Gr:CPar} {G:Par} {ts:List Bs} (hlen:ts.length ≤ 100000) (hg:GoodP G) (h:∀ q:List Bs,q.length < ts.length → RelP Gr G q):RelP (licence_parser_sequence Gr) (pSev (pPart G) 1 andW) ts:=by
 obtain⟨b,hb,h1,h2⟩:=sev_loop (f:=licence_parser_part Gr) (P:=pPart G) (o:=1) (by omega) andW ts hlen (pPart_good hg) (fun q hq=>part_rel fun q' hq'=>h q' (by omega)) (body:=fun x=>licence_parser_several_v2.b1 Gr 1 andW x.1 x.2.1 x.2.2.1 x.2.2.2.1 x.2.2.2.2) (fun x=>rfl)
 have key:licence_parser_sequence Gr ts = (match b with | .inl x=>licence_parser_several_v2.j2 x.1 x.2.1 x.2.2.1 x.2.2.2 | .inr r=>some r).bind fun v2=>some ((v2.1.1,v2.1.2.1,((v2.1.2.2.map (Uun 2)).map (Umk 2))),v2.2.1,v2.2.2):=by
  unfold licence_parser_sequence licence_parser_several_v2
  rw[hb]; rfl
 unfold RelP
 rw[key]
 unfold pSev
 cases hs:sev (pPart G) andW (ts.length + 1) ts with
 | none =>
  obtain⟨x,r,rfl⟩:=h2 hs
  exact⟨fun e r h=>(by cases h),fun _=>⟨_,_,rfl⟩⟩
 | some y =>
  obtain⟨l,r⟩:=y
  obtain⟨g1,g2,g3⟩:=sev_good (pPart_good hg) _ ts l r hs
  rw[h1 l r hs]
  simp only
  rw[jn_code (.inl rfl) g2 g3,bind_in]
  simp only[lt,fx1,fx2,fx3]
  refine⟨fun e r h=>?_,fun h=>(by cases h)⟩
  cases h; rfl
theorem alternatives_rel:∀ (n:Nat) (ts:List Bs),ts.length < n → ts.length ≤ 100000 → RelP (licence_parser_alternatives.rec n) (pAlt n) ts
 | 0,_,h,_=>absurd h (by omega)
 | n + 1,ts,hn,hlen=>by
  show RelP (licence_parser_alternatives.body (licence_parser_alternatives.rec n)) (pAlt (n + 1)) ts
  have hseq:∀ q:List Bs,q.length ≤ ts.length → RelP (licence_parser_sequence (licence_parser_alternatives.rec n)) (pSev (pPart (pAlt n)) 1 andW) q:=fun q hq =>
   sequence_rel (by omega) (pAlt_good n) fun q' hq'=>alternatives_rel n q' (by omega) (by omega)
  have hgood:GoodP (pSev (pPart (pAlt n)) 1 andW):=pSev_good (.inl rfl) (pPart_good (pAlt_good n))
  obtain⟨b,hb,h1,h2⟩:=sev_loop (f:=licence_parser_sequence (licence_parser_alternatives.rec n)) (P:=pSev (pPart (pAlt n)) 1 andW) (o:=2) (by omega) orW ts hlen hgood hseq (body:=fun x=>licence_parser_several.b1 (licence_parser_alternatives.rec n) 2 orW x.1 x.2.1 x.2.2.1 x.2.2.2.1 x.2.2.2.2) (fun x=>rfl)
  have key:licence_parser_alternatives.body (licence_parser_alternatives.rec n) ts = (match b with | .inl x=>licence_parser_several_v2.j2 x.1 x.2.1 x.2.2.1 x.2.2.2 | .inr r=>some r).bind fun v2=>some ((v2.1.1,v2.1.2.1,((v2.1.2.2.map (Uun 2)).map (Umk 2))),v2.2.1,v2.2.2):=by
   unfold licence_parser_alternatives.body licence_parser_several
   rw[hb]; rfl
  unfold RelP
  rw[key]
  show (∀ e r,pSev (pSev (pPart (pAlt n)) 1 andW) 2 orW ts = some (e,r) → _) ∧ (pSev (pSev (pPart (pAlt n)) 1 andW) 2 orW ts = none → _)
  rw[show pSev (pSev (pPart (pAlt n)) 1 andW) 2 orW ts = (sev (pSev (pPart (pAlt n)) 1 andW) orW (ts.length + 1) ts).map fun x=>(jn 2 x.1,x.2) from rfl]
  cases hs:sev (pSev (pPart (pAlt n)) 1 andW) orW (ts.length + 1) ts with
  | none =>
   obtain⟨x,r,rfl⟩:=h2 hs
   exact⟨fun e r h=>(by cases h),fun _=>⟨_,_,rfl⟩⟩
  | some y =>
   obtain⟨l,r⟩:=y
   obtain⟨g1,g2,g3⟩:=sev_good hgood _ ts l r hs
   rw[h1 l r hs]
   simp only
   rw[jn_code (.inr rfl) g2 g3,bind_in]
   simp only[lt,fx1,fx2,fx3]
   refine⟨fun e r h=>?_,fun h=>(by cases h)⟩
   cases h; rfl
end Go.Proofs.YtcmibmohdnbhgaaGreatDoor
namespace Go.Proofs.YtcmibmohdnbhgaaGreatDoor
open Go.Lad
end Go.Proofs.YtcmibmohdnbhgaaGreatDoor
namespace Go.Proofs.YtcmibmohdnbhgaaGreatDoor
open Go.Lad
end Go.Proofs.YtcmibmohdnbhgaaGreatDoor
namespace Go.Proofs.YtcmibmohdnbhgaaGreatDoor
open Go.Lad
def pieces:Bs → List Bs
 | []=>[[]]
 | c :: r=>if c = 32 then [] :: pieces r else (c :: (pieces r).headD []) :: (pieces r).tail
theorem pieces_ne (s:Bs):pieces s ≠ []:=by
 cases s with
 | nil=>simp [pieces]
 | cons c r=>unfold pieces; split <;> simp
theorem pieces_split:∀ s:Bs,Lib.split s [32] = pieces s
 | []=>rfl
 | c :: r=>by
  have ih:=pieces_split r
  unfold Lib.split at *
  by_cases h:c = 32
  ·subst h
   have hix:Lib.index ((32:UInt8) :: r) [32] = 0:=by rw[Lib.index]; simp [List.isPrefixOf]
   rw[Lib.count_cons_eq,Nat.add_comm,Lib.splitK,hix]
   show (([]:Bs) :: Lib.splitK [32] 0 (Lib.count r [32]) r) = _
   rw[ih]; simp [pieces]
  ·have hp:([32]:List UInt8).isPrefixOf (c :: r) = false:=by simp [List.isPrefixOf,Ne.symm h]
   have hix:Lib.index (c :: r) [32] = if Lib.index r [32] == -1 then -1 else Lib.index r [32] + 1:=by rw[Lib.index,hp]; simp
   rw[Lib.count_cons_ne c 32 r h]
   have e:pieces (c :: r) = (c :: (pieces r).headD []) :: (pieces r).tail:=by rw[pieces,if_neg h]
   rw[e,← ih]
   cases hn:Lib.count r [32] with
   | zero=>rfl
   | succ k =>
    have hm:¬ Lib.index r [32] = -1:=fun e=>by rw[Lib.count_miss e] at hn; cases hn
    have hge:=Lib.index_ge r [32]
    obtain⟨j,hj⟩:∃ j:Nat,Lib.index r [32] = j:=⟨(Lib.index r [32]).toNat,by omega⟩
    have e1:(Lib.index r [32] == -1) = false:=beq_eq_false_iff_ne.2 hm
    rw[Lib.splitK,Lib.splitK,hix,e1]
    simp only[Bool.false_eq_true,if_false,hj]
    have e2:(((j:Int) + 1) == -1) = false:=beq_eq_false_iff_ne.2 (by omega)
    rw[e2]
    simp only[Bool.false_eq_true,if_false]
    have e3:((j:Int) + 1).toNat = j + 1:=by omega
    have e4:((j:Int)).toNat = j:=by omega
    rw[e3,e4]
    simp
def wd (cur:Bs):List Bs:=if cur = [] then [] else [cur]
def tkz:Bs → Bs → List Bs
 | cur,[]=>wd cur
 | cur,c :: s=>if c = 32 then wd cur ++ tkz [] s else if c = 40 ∨ c = 41 then wd cur ++ [c] :: tkz [] s else tkz (cur ++ [c]) s
def ne (l:List Bs):List Bs:=l.filter fun x=>!decide (x = [])
def pre (cur:Bs) (l:List Bs):List Bs:=(cur ++ l.headD []) :: l.tail
theorem ne_cons (x:Bs) (l:List Bs):ne (x :: l) = wd x ++ ne l:=by
 unfold ne wd
 by_cases h:x = []
 ·rw[if_pos h,List.filter_cons_of_neg (by simp [h])]; rfl
 ·rw[if_neg h,List.filter_cons_of_pos (by simp [h])]; rfl
theorem pre_nil {l:List Bs} (h:l ≠ []):pre [] l = l:=by
 cases l with
 | nil=>exact absurd rfl h
 | cons x r=>rfl
theorem words_eq:∀ (s cur:Bs),ne (pre cur (pieces (s.flatMap rp1))) = tkz cur s
 | [],cur=>by
  show ne [cur ++ []] = _
  rw[ne_cons,List.append_nil]
  show wd cur ++ [] = wd cur
  rw[List.append_nil]
 | c :: s,cur=>by
  have ih:=words_eq s
  have h0:pieces (s.flatMap rp1) ≠ []:=pieces_ne _
  have ih0:ne (pieces (s.flatMap rp1)) = tkz [] s:=by rw[← ih,pre_nil h0]
  rw[List.flatMap_cons]
  unfold tkz
  by_cases h32:c = 32
  ·subst h32
   rw[if_pos rfl]
   show ne (pre cur (pieces (32 :: s.flatMap rp1))) = _
   rw[pieces,if_pos rfl]
   show ne ((cur ++ []) :: pieces (s.flatMap rp1)) = _
   rw[ne_cons,ih0,List.append_nil]
  ·rw[if_neg h32]
   by_cases hp:c = 40 ∨ c = 41
   ·rw[if_pos hp]
    have hr:rp1 c = [32,c,32]:=by rcases hp with rfl | rfl <;> rfl
    rw[hr]
    show ne (pre cur (pieces (32 :: c :: 32 :: s.flatMap rp1))) = _
    rw[pieces,if_pos rfl,pieces,if_neg h32,pieces,if_pos rfl]
    show ne ((cur ++ []) :: [c] :: pieces (s.flatMap rp1)) = _
    rw[ne_cons,ne_cons,ih0,List.append_nil]
    rfl
   ·rw[if_neg hp]
    have hr:rp1 c = [c]:=by
     unfold rp1
     have h1:Nat.beq c.toNat 40 = false:=by rw[← Bool.not_eq_true]; intro h; exact hp (.inl (UInt8.toNat_inj.1 (Nat.eq_of_beq_eq_true h)))
     have h2:Nat.beq c.toNat 41 = false:=by rw[← Bool.not_eq_true]; intro h; exact hp (.inr (UInt8.toNat_inj.1 (Nat.eq_of_beq_eq_true h)))
     rw[h1,h2]; rfl
    rw[hr,← ih]
    show ne (pre cur (pieces (c :: s.flatMap rp1))) = _
    rw[pieces,if_neg h32]
    unfold pre
    simp [List.append_assoc]
theorem rpw_len (s:Bs):(s.flatMap rp1).length ≤ 3 * s.length:=by
 induction s with
 | nil=>simp
 | cons c s ih =>
  rw[List.flatMap_cons,List.length_append,List.length_cons]
  have:(rp1 c).length ≤ 3:=by
   unfold rp1
   cases Nat.beq c.toNat 40 <;> cases Nat.beq c.toNat 41 <;> simp
  omega
theorem pieces_len:∀ s:Bs,(pieces s).length ≤ s.length + 1
 | []=>by simp [pieces]
 | c :: r=>by
  have:=pieces_len r
  unfold pieces
  split
  ·simp; omega
  ·simp; omega
theorem drop_loop (l:List Bs) (hl:l.length ≤ 1000000):loopF (fun x=>licence_Parse.b1 l x.1 x.2) (0,[]) = some (ne l):=by
 refine loopF_at (body:=fun x=>licence_Parse.b1 l x.1 x.2) (fun k=>((k:Int),ne (l.take k))) l.length rfl (fun k hk=>?_) ?_ (by omega)
 ·have hnl:(ne (l.take k)).length ≤ l.length:=by
   unfold ne
   refine Nat.le_trans (List.length_filter_le _ _) ?_
   rw[List.length_take]; omega
  simp only[licence_Parse.b1]
  rw[ltZ_eq,decide_eq_true (by omega),cond_true,idx_nat hk,bind_in,take_snoc l k hk]
  have e:ne (l.take k ++ [l[k]]) = ne (l.take k) ++ wd l[k]:=by
   unfold ne wd
   rw[List.filter_append]
   by_cases h:l[k] = []
   ·rw[if_pos h]; simp [h]
   ·rw[if_neg h]; simp [h]
  rw[e,z64_succ (by omega)]
  unfold wd
  by_cases h:l[k] = []
  ·rw[decide_eq_true h,if_pos h,Bool.not_true,cond_false,bind_in,List.append_nil]
  ·rw[decide_eq_false h,if_neg h,Bool.not_false,cond_true,app_in (by simp only[List.length_singleton]; omega),bind_in,bind_in]
 ·simp only[licence_Parse.b1]
  rw[ltZ_eq,decide_eq_false (by omega),cond_false,List.take_length]
theorem code_words (s:Bs) (hs:s.length ≤ 1000):((strings_NewReplacer ([([40]:Bs),([32,40,32]:Bs),([41]:Bs),([32,41,32]:Bs)]:List Bs)).bind fun n2 =>
 (strings_Replacer_Replace s n2.1 n2.2.1 n2.2.2.1 n2.2.2.2).bind fun r3 =>
 (strings_Split r3 ([32]:Bs)).bind fun s4 =>
 loopF (fun x=>licence_Parse.b1 s4 x.1 x.2) (0,[])) = some (tkz [] s):=by
 have h1:strings_NewReplacer ([([40]:Bs),([32,40,32]:Bs),([41]:Bs),([32,41,32]:Bs)]:List Bs) = some (0,0,0,rpl):=rfl
 have h2:strings_Replacer_Replace s 0 0 0 rpl = some (s.flatMap rp1):=by
  unfold strings_Replacer_Replace replF
  rw[decide_eq_true (by simp),show Nat.ble s.length 1000000 = true by rw[Nat.ble_eq]; omega]; rfl
 have hl:=rpw_len s
 have h3:strings_Split (s.flatMap rp1) [32] = some (pieces (s.flatMap rp1)):=by
  unfold strings_Split splitF
  rw[show Nat.ble (s.flatMap rp1).length 1000000000 = true by rw[Nat.ble_eq]; omega,pieces_split]; rfl
 rw[h1,bind_in]
 simp only
 rw[h2,bind_in,h3,bind_in,drop_loop _ (by have:=pieces_len (s.flatMap rp1); omega),← words_eq,pre_nil (pieces_ne _)]
theorem tkz_len:∀ (s cur:Bs),(tkz cur s).length ≤ s.length * 2 + 1
 | [],cur=>by unfold tkz wd; split <;> simp
 | c :: s,cur=>by
  have h1:=tkz_len s []
  have h2:=tkz_len s (cur ++ [c])
  have h3:(wd cur).length ≤ 1:=by unfold wd; split <;> simp
  unfold tkz
  rw[List.length_cons]
  split
  ·rw[List.length_append]; omega
  ·split
   ·rw[List.length_append,List.length_cons]; omega
   ·omega
end Go.Proofs.YtcmibmohdnbhgaaGreatDoor
namespace Go.Proofs.YtcmibmohdnbhgaaGreatDoor
open Go.Lad
def isW (c:UInt8):Bool := !decide (c = 32) && (!decide (c = 40) && !decide (c = 41))
theorem tkz_word:∀ (u cur v:Bs),(∀ c ∈ u,isW c = true) → tkz cur (u ++ v) = tkz (cur ++ u) v
 | [],cur,v,_=>by rw[List.nil_append,List.append_nil]
 | c :: u,cur,v,h=>by
  have hc:=h c (by simp)
  unfold isW at hc
  simp only[Bool.and_eq_true,Bool.not_eq_true',decide_eq_false_iff_not] at hc
  rw[List.cons_append]
  show (if c = 32 then _ else if c = 40 ∨ c = 41 then _ else tkz (cur ++ [c]) (u ++ v)) = _
  rw[if_neg hc.1,if_neg (fun hh=>hh.elim (fun e=>hc.2.1 e) (fun e=>hc.2.2 e)),tkz_word u _ v fun x hx=>h x (by simp [hx]),List.append_assoc]
  rfl
end Go.Proofs.YtcmibmohdnbhgaaGreatDoor
namespace Go.Proofs.YtcmibmohdnbhgaaGreatDoor
open Go.Lad
theorem szs_lvs {l:List LicT} (h:∀ x ∈ l,x.sz + 1 ≤ 2 * x.lv):LicT.szs l + l.length ≤ 2 * LicT.lvs l:=by
 induction l with
 | nil=>rw[LicT.szs,LicT.lvs]; exact Nat.le_refl _
 | cons x r ih =>
  have h1:=h x (by simp)
  have h2:=ih fun y hy=>h y (by simp [hy])
  rw[LicT.szs,LicT.lvs,List.length_cons]; omega
theorem sz_lv:∀ e:LicT,e.fm = true → e.sz + 1 ≤ 2 * e.lv:=by
 intro e
 induction e using LicT.ind with
 | h e ih =>
  intro hf
  rw[LicT.sz_ar,LicT.lv_eq]
  by_cases h0:e.op = 0
  ·have har:e.ar = []:=by
    rw[LicT.fm_eq,if_pos h0,Bool.and_eq_true] at hf
    simpa using hf.2
   rw[if_pos h0,har,LicT.szs]; exact Nat.le_refl _
  ·rw[if_neg h0]
   have h2:=(fm_two hf h0).1
   have h3:=szs_lvs fun x hx=>ih x hx (fm_ar hf hx).1
   omega
def nilE:LicT := .mk 0 [] []
def parseW (ts:List Bs):LicT × Int:=match pAlt bigFuel.n ts with
 | some (e,[])=>if e.lv ≤ 16 then (e,0) else (nilE,6)
 | _=>(nilE,2)
def parseF (s:Bs):LicT × Int:=if 1000 < s.length then (nilE,6) else parseW (tkz [] s)
theorem j2_ok (ts:List Bs) (hl:ts.length ≤ 3000):licence_Parse.j2 ts = some (lt (parseW ts).1,(parseW ts).2):=by
 unfold licence_Parse.j2 licence_parser_alternatives
 obtain⟨h1,h2⟩:=alternatives_rel bigFuel.n ts (fuel_big (by omega)) (by omega)
 unfold parseW
 cases hp:pAlt bigFuel.n ts with
 | none =>
  obtain⟨x,r,hx⟩:=h2 hp
  show Option.bind (licence_parser_alternatives.rec bigFuel.n ts) _ = _
  rw[hx]; rfl
 | some y =>
  obtain⟨e,r⟩:=y
  obtain⟨g1,g2⟩:=pAlt_good bigFuel.n ts e r hp
  show Option.bind (licence_parser_alternatives.rec bigFuel.n ts) _ = _
  rw[h1 e r hp,bind_in]
  simp only[Bool.not_true,cond_false,bind_in]
  unfold licence_Parse.j1
  cases r with
  | cons t r =>
   rw[ltZ_eq,decide_eq_true (by simp),cond_true]; rfl
  | nil =>
   have hsz:=sz_lv e g2
   simp only[lt,fu1,fu2,fu3,fu4]
   rw[ltZ_eq,decide_eq_false (by simp),cond_false,right_ok e (by omega),bind_in]
   unfold LicT.rt
   rw[g2,Bool.true_and,bleN]
   by_cases h16:e.lv ≤ 16
   ·rw[decide_eq_true h16,Bool.not_true,cond_false,if_pos h16]
    show some ((e.op,e.nm,mkL (unL e.ar)),(0:Int)) = _
    rw[mk_un]
   ·rw[decide_eq_false h16,Bool.not_false,cond_true,if_neg h16]; rfl
theorem parse_ok (s:Bs):licence_Parse s = some (lt (parseF s).1,(parseF s).2):=by
 unfold licence_Parse parseF
 by_cases h:1000 < s.length
 ·rw[ltZ_eq,decide_eq_true (by omega),cond_true,if_pos h]; rfl
 ·rw[ltZ_eq,decide_eq_false (by omega),cond_false,if_neg h,code_words s (by omega),bind_in]
  have:=tkz_len s []
  exact j2_ok _ (by omega)
end Go.Proofs.YtcmibmohdnbhgaaGreatDoor
namespace Go.Proofs.YtcmibmohdnbhgaaGreatDoor
open Go.Lad
theorem nil_sz:nilE.sz = 1:=by unfold nilE; rw[LicT.sz,LicT.szs]
theorem parseW_sz (ts:List Bs):(parseW ts).1.sz ≤ 40:=by
 unfold parseW
 split
 ·rename_i e h
  obtain⟨g1,g2⟩:=pAlt_good bigFuel.n ts e [] h
  have:=sz_lv e g2
  split
  ·show e.sz ≤ 40
   omega
  ·rw[nil_sz]; omega
 ·rw[nil_sz]; omega
theorem parse_sz (s:Bs):(parseF s).1.sz ≤ 40:=by
 unfold parseF
 split
 ·rw[nil_sz]; omega
 ·exact parseW_sz _
theorem same_self (a:LicT) (hz:a.sz ≤ 1000000000):ladingref13_Same a.op a.nm (unL a.ar) a.op a.nm (unL a.ar) = some true:=by
 obtain⟨r,hr,hq⟩:=same_ok a a hz
 rw[hr,hq.2 rfl]
end Go.Proofs.YtcmibmohdnbhgaaGreatDoor
namespace Go.Proofs.YtcmibmohdnbhgaaGreatDoor
open Go.Lad
abbrev mitE:LicT := .mk 0 [109,105,116] []
abbrev bsdE:LicT := .mk 0 [98,115,100] []
abbrev gplE:LicT := .mk 0 [103,112,108,45,50,46,48] []
abbrev orE:LicT := .mk 2 [] [mitE,bsdE]
abbrev allE:LicT := .mk 1 [] [orE,gplE]
theorem small_p1:parseF [40,109,105,116,32,111,114,40,98,115,100,41,41,97,110,100,32,103,112,108,45,50,46,48] = (allE,0):=by kernel_rfl
theorem small_p4:parseF [109,105,116] = (mitE,0):=by kernel_rfl
theorem small_p5:parseF [109,105,116,32,111,114,32,98,115,100] = (orE,0):=by kernel_rfl
theorem small_sz:allE.sz ≤ 60 ∧ orE.sz ≤ 60 ∧ mitE.sz ≤ 60:=by
 refine⟨Nat.le_of_ble_eq_true ?_,Nat.le_of_ble_eq_true ?_,Nat.le_of_ble_eq_true ?_⟩ <;> kernel_rfl
theorem small_pr:printF allE = ([40,109,105,116,32,111,114,32,98,115,100,41,32,97,110,100,32,103,112,108,45,50,46,48],0):=by kernel_rfl
theorem small_nr:ladingref13_Normal allE.op allE.nm (unL allE.ar) = some ([[[98,115,100],[103,112,108,45,50,46,48]],[[103,112,108,45,50,46,48],[109,105,116]]],0):=by kernel_rfl
theorem small_i1:ladingref13_Implies mitE.op mitE.nm (unL mitE.ar) orE.op orE.nm (unL orE.ar) = some (true,[],0):=by kernel_rfl
theorem small_i2:ladingref13_Implies orE.op orE.nm (unL orE.ar) mitE.op mitE.nm (unL mitE.ar) = some (false,[[98,115,100]],0):=by kernel_rfl
theorem small_ok:ladinglaw13_small = some true:=by
 obtain⟨z1,z2,z3⟩:=small_sz
 obtain⟨l,n1,n2,_,_⟩:=normal_ok allE (by omega)
 rw[small_nr] at n2
 obtain⟨r,i1,i2,_,_⟩:=implies_ok mitE orE (by omega) (by omega)
 rw[small_i1] at i2
 obtain⟨r',j1,j2,_,_⟩:=implies_ok orE mitE (by omega) (by omega)
 rw[small_i2] at j2
 unfold ladinglaw13_small
 rw[parse_ok,small_p1,bind_in]
 simp only[lt,fu1,fu2,fu3,fu4]
 rw[print_ok allE (by omega),bind_in,n1,← n2,bind_in,parse_ok,small_p4,bind_in,parse_ok,small_p5,bind_in]
 simp only[lt,fu1,fu2,fu3,fu4]
 rw[i1,← i2,bind_in,j1,← j2,bind_in,small_pr]
 have e0:∀ z:Int,eqZ z z = true:=fun z=>by rw[eqZ_eq]; simp
 simp only[e0,cond_true,decide_true]
 rw[sameSets_ok _ _ (by simp) (by simp),decide_eq_true rfl]
 simp only[bind_in]
 unfold ladinglaw13_small.j1
 simp only[cond_true,e0,Bool.not_false,fu1,fu2,fu3,fu4]
 rw[sameNames_ok _ _ (by simp),decide_eq_true rfl]
 simp only[bind_in,cond_true]
 rw[permits_ok orE _ (by omega) (by simp),bind_in]
 have h1:(orE.rt && orE.hd [[98,115,100]]) = true:=by kernel_rfl
 rw[h1,cond_true]
 have h2:licence_Right_v2 (1,([]:Bs),[]) = some false:=by kernel_rfl
 rw[h2]; rfl
end Go.Proofs.YtcmibmohdnbhgaaGreatDoor
namespace Go.Lad
def jw (s:Bs):List (List Bs) → List Bs
 | []=>[]
 | [x]=>x
 | x :: r=>x ++ s :: jw s r
mutual
def LicT.tk:LicT → List Bs
 | .mk o n l=>if o = 0 then [n] else jw (if o = 1 then andW else orW) (LicT.tks l)
def LicT.tks:List LicT → List (List Bs)
 | []=>[]
 | x :: r=>(if x.op = 2 then opW :: (x.tk ++ [clW]) else x.tk) :: LicT.tks r
end
def LicT.pk (x:LicT):List Bs:=if x.op = 2 then opW :: (x.tk ++ [clW]) else x.tk
theorem LicT.tks_map:∀ l:List LicT,LicT.tks l = l.map LicT.pk
 | []=>by rw[LicT.tks]; rfl
 | x :: r=>by rw[LicT.tks,LicT.tks_map r]; rfl
theorem LicT.tk_eq (e:LicT):e.tk = if e.op = 0 then [e.nm] else jw (if e.op = 1 then andW else orW) (e.ar.map LicT.pk):=by
 cases e; rw[LicT.tk,LicT.tks_map]; rfl
end Go.Lad
namespace Go.Proofs.YtcmibmohdnbhgaaGreatDoor
open Go.Lad
theorem tkz_sp:∀ (u cur v:Bs),tkz cur (u ++ 32 :: v) = tkz cur u ++ tkz [] v
 | [],cur,v=>by
  show tkz cur (32 :: v) = wd cur ++ tkz [] v
  rw[tkz,if_pos rfl]
 | c :: u,cur,v=>by
  rw[List.cons_append,tkz,tkz,tkz_sp u [] v,tkz_sp u (cur ++ [c]) v]
  split
  ·rw[List.append_assoc]
  ·split
   ·rw[List.append_assoc]; rfl
   ·rfl
theorem tkz_cl:∀ (u cur v:Bs),tkz cur (u ++ 41 :: v) = tkz cur u ++ clW :: tkz [] v
 | [],cur,v=>by
  show tkz cur (41 :: v) = wd cur ++ clW :: tkz [] v
  rw[tkz,if_neg (by decide),if_pos (.inr rfl)]
 | c :: u,cur,v=>by
  rw[List.cons_append,tkz,tkz,tkz_cl u [] v,tkz_cl u (cur ++ [c]) v]
  split
  ·rw[List.append_assoc]
  ·split
   ·rw[List.append_assoc]; rfl
   ·rfl
theorem tkz_op (v:Bs):tkz [] (40 :: v) = opW :: tkz [] v:=by
 rw[tkz,if_neg (by decide),if_pos (.inl rfl)]; rfl
theorem lic_word {c:UInt8} (h:licC c = true):isW c = true:=by
 unfold isW
 rw[decide_eq_false (fun e=>by subst e; cases h),decide_eq_false (fun e=>by subst e; cases h),decide_eq_false (fun e=>by subst e; cases h)]; rfl
theorem name_ne {t:Bs} (h:nameB t = true):t ≠ [] ∧ (∀ c ∈ t,licC c = true) ∧ t ≠ andW ∧ t ≠ orW:=by
 unfold nameB at h
 simp only[Bool.and_eq_true,Bool.not_eq_true',decide_eq_false_iff_not] at h
 refine⟨fun e=>?_,fun c hc=>List.all_eq_true.1 h.2 c hc,h.1.1.1.2,h.1.1.2⟩
 subst e
 cases h.1.2
theorem tkz_name {t:Bs} (h:nameB t = true):tkz [] t = [t]:=by
 obtain⟨h1,h2,_,_⟩:=name_ne h
 have:=tkz_word t [] [] fun c hc=>lic_word (h2 c hc)
 rw[List.append_nil] at this
 rw[this]
 show wd ([] ++ t) = _
 rw[List.nil_append]
 unfold wd
 rw[if_neg h1]
theorem tkz_join (s w:Bs) (hs:s = 32 :: w ++ [32]) (hw:tkz [] w = [w]):∀ (l:List LicT),l ≠ [] → (∀ x ∈ l,tkz [] x.px = x.pk) → tkz [] (Lib.join (l.map LicT.px) s) = jw w (l.map LicT.pk)
 | [],h,_=>absurd rfl h
 | [x],_,h=>by
  show tkz [] (Lib.join [x.px] s) = x.pk
  rw[Lib.join_one]; exact h x (by simp)
 | x :: y :: r,_,h=>by
  have ih:=tkz_join s w hs hw (y :: r) (by simp) fun z hz=>h z (by simp [hz])
  have e1:Lib.join ((x :: y :: r).map LicT.px) s = x.px ++ 32 :: (w ++ 32 :: Lib.join ((y :: r).map LicT.px) s):=by
   show Lib.join (x.px :: y.px :: r.map LicT.px) s = _
   rw[Lib.join_cons]
   have e2:Lib.joinTail s (y.px :: r.map LicT.px) = s ++ Lib.join ((y :: r).map LicT.px) s:=by
    show _ = s ++ Lib.join (y.px :: r.map LicT.px) s
    rw[Lib.join_cons]
    unfold Lib.joinTail
    simp [List.append_assoc]
   rw[e2,hs]
   simp [List.append_assoc]
  rw[e1,tkz_sp,tkz_sp,hw,ih,h x (by simp)]
  rfl
theorem tkz_tx:∀ e:LicT,e.fm = true → tkz [] e.tx = e.tk ∧ tkz [] e.px = e.pk:=by
 intro e
 induction e using LicT.ind with
 | h e ih =>
  intro hf
  have h1:tkz [] e.tx = e.tk:=by
   rw[LicT.tx_eq,LicT.tk_eq]
   by_cases h0:e.op = 0
   ·rw[if_pos h0,if_pos h0]
    rw[LicT.fm_eq,if_pos h0,Bool.and_eq_true] at hf
    exact tkz_name hf.1
   ·rw[if_neg h0,if_neg h0]
    have h2:=(fm_two hf h0).1
    have hne:e.ar ≠ []:=fun e'=>by rw[e'] at h2; simp at h2
    have hx:∀ x ∈ e.ar,tkz [] x.px = x.pk:=fun x hx=>(ih x hx (fm_ar hf hx).1).2
    by_cases h1:e.op = 1
    ·rw[if_pos h1,if_pos h1]
     exact tkz_join andS andW rfl rfl e.ar hne hx
    ·rw[if_neg h1,if_neg h1]
     exact tkz_join orS orW rfl rfl e.ar hne hx
  refine⟨h1,?_⟩
  unfold LicT.px LicT.pk
  split
  ·show tkz [] (40 :: (e.tx ++ 41 :: [])) = _
   rw[tkz_op,tkz_cl,h1]; rfl
  ·exact h1
end Go.Proofs.YtcmibmohdnbhgaaGreatDoor
namespace Go.Proofs.YtcmibmohdnbhgaaGreatDoor
open Go.Lad
def StopW (s:Bs) (rest:List Bs):Prop := ∀ t r,rest = t :: r → t ≠ s
def Reads (P:Par) (ws:List Bs) (w:List Bs) (x:LicT) (N:Nat):Prop := ∀ rest:List Bs,(∀ s ∈ ws,StopW s rest) → (w ++ rest).length ≤ N → P (w ++ rest) = some (x,rest)
theorem sev_list {P:Par} {s:Bs} {ws:List Bs} {N:Nat} (hs:s ∉ ws) (f:LicT → List Bs):∀ (l:List LicT),l ≠ [] → (∀ x ∈ l,Reads P ws (f x) x N) → ∀ (k:Nat) (rest:List Bs),l.length ≤ k → StopW s rest → (∀ t ∈ ws,StopW t rest) → (jw s (l.map f) ++ rest).length ≤ N → sev P s k (jw s (l.map f) ++ rest) = some (l,rest)
 | [],h,_,_,_,_,_,_,_=>absurd rfl h
 | [x],_,h,0,_,hk,_,_,_=>absurd hk (by simp)
 | [x],_,h,k + 1,rest,hk,h1,h2,h3=>by
  show sev P s (k + 1) (f x ++ rest) = _
  rw[sev,h x (by simp) rest h2 h3]
  cases rest with
  | nil=>rfl
  | cons t r=>simp only; rw[if_neg (h1 t r rfl)]
 | x :: y :: l,_,h,0,_,hk,_,_,_=>absurd hk (by simp)
 | x :: y :: l,_,h,k + 1,rest,hk,h1,h2,h3=>by
  have e1:jw s ((x :: y :: l).map f) ++ rest = f x ++ s :: (jw s ((y :: l).map f) ++ rest):=by
   show (f x ++ s :: jw s ((y :: l).map f)) ++ rest = _
   rw[List.append_assoc]; rfl
  rw[e1] at h3 ⊢
  have h4:=h3
  rw[List.length_append,List.length_cons] at h4
  rw[sev,h x (by simp) (s :: (jw s ((y :: l).map f) ++ rest)) (fun t ht u r e=>by
   rw[← (List.cons.inj e).1]; exact fun e'=>hs (e' ▸ ht)) h3]
  simp only[if_true]
  rw[sev_list hs f (y :: l) (by simp) (fun z hz=>h z (by simp [hz])) k rest (by simp only[List.length_cons] at hk ⊢; omega) h1 h2 (by omega)]
  rfl
theorem fls_self {o:Int}:∀ {l:List LicT},(∀ x ∈ l,x.op ≠ o) → fls o l = l
 | [],_=>rfl
 | x :: l,h=>by
  rw[fls_cons,fls_self fun y hy=>h y (by simp [hy])]
  unfold fl
  rw[if_neg (h x (by simp))]; rfl
theorem jn_ar {e:LicT} (hf:e.fm = true) (h0:¬ e.op = 0):jn e.op e.ar = e:=by
 obtain⟨h2,hn⟩:=fm_two hf h0
 have hfl:fls e.op e.ar = e.ar:=fls_self fun x hx=>(fm_ar hf hx).2
 have:jn e.op e.ar = .mk e.op [] (fls e.op e.ar):=by
  match h:e.ar,h2 with
  | a :: b :: r,_=>rfl
 rw[this,hfl,← hn,LicT.eta]
theorem jw_len (s:Bs) (f:LicT → List Bs):∀ l:List LicT,(∀ x ∈ l,1 ≤ (f x).length) → l.length ≤ (jw s (l.map f)).length
 | [],_=>Nat.zero_le _
 | [x],h=>h x (by simp)
 | x :: y :: l,h=>by
  have:=jw_len s f (y :: l) fun z hz=>h z (by simp [hz])
  show _ ≤ (f x ++ s :: jw s ((y :: l).map f)).length
  have h1:=h x (by simp)
  simp only[List.length_append,List.length_cons] at this ⊢
  omega
theorem tk_len:∀ e:LicT,e.fm = true → 1 ≤ e.tk.length ∧ 1 ≤ e.pk.length:=by
 intro e
 induction e using LicT.ind with
 | h e ih =>
  intro hf
  have h1:1 ≤ e.tk.length:=by
   rw[LicT.tk_eq]
   by_cases h0:e.op = 0
   ·rw[if_pos h0]; simp
   ·rw[if_neg h0]
    have h2:=(fm_two hf h0).1
    have:=jw_len (if e.op = 1 then andW else orW) LicT.pk e.ar fun x hx=>(ih x hx (fm_ar hf hx).1).2
    omega
  refine⟨h1,?_⟩
  unfold LicT.pk
  split
  ·simp
  ·exact h1
theorem reads_all:∀ (n:Nat) (e:LicT),e.fm = true →
  (e.op ≠ 1 → Reads (pPart (pAlt n)) [] e.pk e n) ∧ (e.op ≠ 2 → Reads (pSev (pPart (pAlt n)) 1 andW) [andW] e.tk e n) ∧ Reads (pAlt (n + 1)) [andW,orW] e.tk e n:=by
 intro n
 induction n with
 | zero =>
  intro e hf
  obtain⟨h1,h2⟩:=tk_len e hf
  refine⟨fun _ rest _ h=>?_,fun _ rest _ h=>?_,fun rest _ h=>?_⟩ <;> rw[List.length_append] at h <;> omega
 | succ n ihn =>
  intro e
  induction e using LicT.ind with
  | h e ih =>
   intro hf
   have hA:e.op ≠ 1 → Reads (pPart (pAlt (n + 1))) [] e.pk e (n + 1):=fun ho rest hr hl=>by
    unfold LicT.pk at hl ⊢
    by_cases h2:e.op = 2
    ·rw[if_pos h2] at hl ⊢
     have hG:=(ihn e hf).2.2
     rw[List.cons_append,List.append_assoc] at hl ⊢
     rw[List.length_cons] at hl
     unfold pPart
     simp only[if_true]
     rw[hG ([clW] ++ rest) (fun s hs t r e'=>by
      have:t = clW:=(List.cons.inj e').1.symm
      subst this
      rcases List.mem_cons.1 hs with rfl | hs
      ·decide
      ·rw[List.mem_singleton.1 hs]; decide) (by omega)]
     rfl
    ·have h0:e.op = 0:=(fm_op hf).elim id fun h=>h.elim (fun h=>absurd h ho) fun h=>absurd h h2
     rw[if_neg h2]
     have hf':=hf
     rw[LicT.fm_eq,if_pos h0,Bool.and_eq_true] at hf'
     have har:e.ar = []:=by simpa using hf'.2
     have ht:e.tk = [e.nm]:=by rw[LicT.tk_eq,if_pos h0]
     rw[ht]
     show pPart (pAlt (n + 1)) (e.nm :: rest) = _
     unfold pPart
     simp only
     rw[if_neg (fun e'=>by rw[e'] at hf'; exact absurd hf'.1 (by decide)),if_pos hf'.1]
     have:LicT.mk 0 e.nm [] = e:=by rw[← h0,← har,LicT.eta]
     rw[this]
   have hB:e.op ≠ 2 → Reads (pSev (pPart (pAlt (n + 1))) 1 andW) [andW] e.tk e (n + 1):=fun ho rest hr hl=>by
    have hst:=hr andW (by simp)
    unfold pSev
    by_cases h0:e.op = 0
    ·have hpk:e.tk = jw andW ([e].map LicT.pk):=by
      show e.tk = e.pk
      unfold LicT.pk; rw[if_neg ho]
     rw[hpk] at hl ⊢
     rw[sev_list (ws:=[]) (N:=n + 1) (by simp) LicT.pk [e] (by simp) (fun x hx=>by rw[List.mem_singleton.1 hx]; exact hA (by omega)) _ rest (by simp) hst (by simp) hl]
     rfl
    ·have h1:e.op = 1:=(fm_op hf).elim (fun h=>absurd h h0) fun h=>h.elim id fun h=>absurd h ho
     have h2:=(fm_two hf h0).1
     have htk:e.tk = jw andW (e.ar.map LicT.pk):=by rw[LicT.tk_eq,if_neg h0,if_pos h1]
     rw[htk] at hl ⊢
     have hlen:=jw_len andW LicT.pk e.ar fun x hx=>(tk_len x (fm_ar hf hx).1).2
     rw[sev_list (ws:=[]) (N:=n + 1) (by simp) LicT.pk e.ar (fun e'=>by rw[e'] at h2; simp at h2) (fun x hx=>(ih x hx (fm_ar hf hx).1).1 (by rw[← h1]; exact (fm_ar hf hx).2)) _ rest (by rw[List.length_append]; omega) hst (by simp) hl]
     show some (jn 1 e.ar,rest) = _
     rw[← h1,jn_ar hf h0]
   refine⟨hA,hB,fun rest hr hl=>?_⟩
   show pSev (pSev (pPart (pAlt (n + 1))) 1 andW) 2 orW (e.tk ++ rest) = _
   have hst:=hr orW (by simp)
   have hst2:∀ t ∈ [andW],StopW t rest:=fun t ht=>hr t (by rw[List.mem_singleton.1 ht]; simp)
   rw[show ∀ ts,pSev (pSev (pPart (pAlt (n + 1))) 1 andW) 2 orW ts = (sev (pSev (pPart (pAlt (n + 1))) 1 andW) orW (ts.length + 1) ts).map fun x=>(jn 2 x.1,x.2) from fun _=>rfl]
   by_cases ho:e.op = 2
   ·have h2:=(fm_two hf (by omega)).1
    have htk:e.tk = jw orW (e.ar.map LicT.tk):=by
     rw[LicT.tk_eq,if_neg (by omega),if_neg (by omega)]
     congr 1
     refine List.map_congr_left fun x hx=>?_
     unfold LicT.pk
     rw[if_neg (by rw[← ho]; exact (fm_ar hf hx).2)]
    rw[htk] at hl ⊢
    have hlen:=jw_len orW LicT.tk e.ar fun x hx=>(tk_len x (fm_ar hf hx).1).1
    rw[sev_list (P:=pSev (pPart (pAlt (n + 1))) 1 andW) (ws:=[andW]) (N:=n + 1) (by decide) LicT.tk e.ar (fun e'=>by rw[e'] at h2; simp at h2) (fun x hx=>(ih x hx (fm_ar hf hx).1).2.1 (by rw[← ho]; exact (fm_ar hf hx).2)) ((jw orW (e.ar.map LicT.tk) ++ rest).length + 1) rest (by rw[List.length_append]; omega) hst hst2 hl]
    show some (jn 2 e.ar,rest) = _
    rw[← ho,jn_ar hf (by omega)]
   ·rw[show e.tk = jw orW ([e].map LicT.tk) from rfl] at hl ⊢
    rw[sev_list (P:=pSev (pPart (pAlt (n + 1))) 1 andW) (ws:=[andW]) (N:=n + 1) (by decide) LicT.tk [e] (by simp) (fun x hx=>by rw[List.mem_singleton.1 hx]; exact hB ho) ((jw orW ([e].map LicT.tk) ++ rest).length + 1) rest (by simp) hst hst2 hl]
    rfl
end Go.Proofs.YtcmibmohdnbhgaaGreatDoor
namespace Go.Proofs.YtcmibmohdnbhgaaGreatDoor
open Go.Lad
theorem parse_back (e:LicT) (h:e.rt = true):parseF e.tx = (e,0):=by
 unfold LicT.rt at h
 rw[Bool.and_eq_true,Nat.ble_eq] at h
 have h1:=tx_len e h.1
 unfold parseF
 rw[if_neg (by omega),(tkz_tx e h.1).1]
 have hl:=tkz_len e.tx []
 rw[(tkz_tx e h.1).1] at hl
 unfold parseW
 have hn:bigFuel.n = (bigFuel.n - 1) + 1:=by
  have:1 < bigFuel.n:=fuel_big (by omega)
  omega
 have hr:=(reads_all (bigFuel.n - 1) e h.1).2.2 [] (fun s _ t r e'=>by cases e') (by
  rw[List.append_nil]
  have:3000 < bigFuel.n:=fuel_big (by omega)
  omega)
 rw[List.append_nil,← hn] at hr
 rw[hr]
 simp only
 rw[if_pos h.2]
theorem parse_cases (s:Bs):(∃ e,parseF s = (e,0) ∧ e.rt = true) ∨ parseF s = (nilE,2) ∨ parseF s = (nilE,6):=by
 unfold parseF
 split
 ·exact .inr (.inr rfl)
 ·generalize tkz [] s = ts
  unfold parseW
  split
  ·rename_i e h
   obtain⟨g1,g2⟩:=pAlt_good bigFuel.n ts e [] h
   split
   ·rename_i h16
    refine .inl ⟨e,rfl,?_⟩
    unfold LicT.rt
    rw[g2,Bool.true_and,Nat.ble_eq]; exact h16
   ·exact .inr (.inr rfl)
  ·exact .inr (.inl rfl)
theorem nl_pos {e:LicT} (h:e.fm = true):0 < (srt e.nl).length:=by
 have:∀ e:LicT,e.fm = true → ∃ s,s ∈ e.nl:=by
  intro e
  induction e using LicT.ind with
  | h e ih =>
   intro hf
   rw[LicT.nl_eq]
   by_cases h0:e.op = 0
   ·rw[if_pos h0]; exact⟨e.nm,by simp⟩
   ·have h2:=(fm_two hf h0).1
    have hm:=List.getElem_mem (l:=e.ar) (n:=0) (by omega)
    obtain⟨s,hs⟩:=ih _ hm (fm_ar hf hm).1
    exact⟨s,List.mem_append.2 (.inr (mem_nls hm hs))⟩
 obtain⟨s,hs⟩:=this e h
 exact List.length_pos_of_mem (mem_srt.2 hs)
theorem same_nil:ladingref13_Same_v2 nilE.op nilE.nm (unL nilE.ar) (0,([]:Bs),[]) = some true:=by kernel_rfl
theorem law_back (hs:ladinglaw13_small = some true) (a:LicT) (s:Bs):ladinglaw13_LicenceBack (lt a) s = some true:=by
 have e0:∀ z:Int,eqZ z z = true:=fun z=>by rw[eqZ_eq]; simp
 have hj2:ladinglaw13_LicenceBack.j2 s true = some true:=by
  unfold ladinglaw13_LicenceBack.j2
  rw[parse_ok]
  rcases parse_cases s with⟨e,he,hr⟩ | he | he
  ·have hsz:=parse_sz s
   rw[he] at hsz ⊢
   have hsz:e.sz ≤ 40:=hsz
   have hfm:e.fm = true:=by unfold LicT.rt at hr; rw[Bool.and_eq_true] at hr; exact hr.1
   simp only[bind_in,lt,fu1,fu2,fu3,fu4,e0,Bool.not_true,cond_false,cond_true]
   rw[print_ok e (by omega),bind_in]
   unfold printF
   rw[if_pos hr,parse_ok,bind_in,right_ok e (by omega),bind_in,hr]
   simp only[parse_back e hr,lt,fu1,fu2,fu3,fu4,e0,cond_true]
   rw[same_self e (by omega),names_ok e (by omega),if_pos hr]
   simp only[bind_in,cond_true]
   rw[ltZ_eq,decide_eq_true (by have:=nl_pos hfm; omega)]
  ·rw[he]
   simp only[bind_in,lt,fu1,fu2,fu3,fu4,e0,cond_true]
   rw[same_nil]; rfl
  ·rw[he]
   simp only[bind_in,lt,fu1,fu2,fu3,fu4,e0,cond_true]
   rw[same_nil]; rfl
 unfold ladinglaw13_LicenceBack
 rw[hs,bind_in]
 simp only[lt,fu1,fu2,fu3,fu4]
 obtain⟨la,hla,hza⟩:=light_ok a
 rw[hla]
 simp only[bind_in]
 cases la with
 | false=>rfl
 | true =>
 have hza:=hza rfl
 cases hlong:ltZ 1000 (s.length:Int) with
 | true=>rfl
 | false =>
 simp only[Bool.not_true,cond_false,bind_in]
 unfold ladinglaw13_LicenceBack.j4
 simp only[cond_false,fu1,fu2,fu3,fu4]
 rw[print_ok a (by omega),right_ok a (by omega)]
 simp only[bind_in]
 unfold printF
 cases hr:a.rt with
 | false =>
  simp only[Bool.false_eq_true,if_false]
  exact hj2
 | true =>
  simp only[if_true,e0,beq_self_eq_true,Bool.not_true,cond_false,bind_in]
  unfold ladinglaw13_LicenceBack.j3
  simp only[cond_false,e0,cond_true]
  rw[parse_ok,parse_back a hr]
  simp only[bind_in,lt,fu1,fu2,fu3,fu4,e0,Bool.not_true,cond_false]
  rw[same_self a (by omega)]
  exact hj2
end Go.Proofs.YtcmibmohdnbhgaaGreatDoor
namespace Go.Proofs.YtcmibmohdnbhgaaGreatDoor
open Go.Lad
def unlt (x:GLic):LicT := .mk x.1 x.2.1 x.2.2
theorem back_true (a:GLic) (s:Bs):ladinglaw13_LicenceBack a s = some true:=law_back small_ok (unlt a) s
end Go.Proofs.YtcmibmohdnbhgaaGreatDoor
