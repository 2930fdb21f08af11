import Derived.Test.YtcmibmohdnbhgaaGreatDoorPA
import Derived.Lib.SplitLaws
set_option linter.unusedVariables false
set_option linter.unusedSimpArgs false
set_option linter.unusedSectionVars false
namespace Go.Lad
abbrev andS:Bs:=[32,97,110,100,32]
abbrev orS:Bs:=[32,111,114,32]
mutual
def LicT.tx:LicT → Bs
 | .mk o n l=>if o = 0 then n else Lib.join (LicT.txs l) (if o = 1 then andS else orS)
def LicT.txs:List LicT → List Bs
 | []=>[]
 | x :: r=>(if x.op = 2 then [40] ++ x.tx ++ [41] else x.tx) :: LicT.txs r
end
def LicT.px (x:LicT):Bs:=if x.op = 2 then [40] ++ x.tx ++ [41] else x.tx
theorem LicT.txs_map:∀ l:List LicT,LicT.txs l = l.map LicT.px
 | []=>by rw[LicT.txs]; rfl
 | x :: r=>by rw[LicT.txs,LicT.txs_map r]; rfl
theorem LicT.tx_eq (e:LicT):e.tx = if e.op = 0 then e.nm else Lib.join (e.ar.map LicT.px) (if e.op = 1 then andS else orS):=by
 cases e; rw[LicT.tx,LicT.txs_map]; rfl
theorem join_snoc (l:List Bs) (y sep:Bs):Lib.join (l ++ [y]) sep = if l = [] then y else Lib.join l sep ++ sep ++ y:=by
 cases l with
 | nil=>rw[if_pos rfl,List.nil_append,Lib.join_one]
 | cons x r =>
  rw[if_neg (by simp),List.cons_append,Lib.join_cons,Lib.join_cons]
  unfold Lib.joinTail
  rw[List.map_append,List.flatten_append]
  simp [List.append_assoc]
def sumL (l:List Bs) (c:Nat):Nat:=(l.map fun x=>x.length + c).sum
theorem join_len (l:List Bs) (sep:Bs):(Lib.join l sep).length ≤ sumL l sep.length:=by
 cases l with
 | nil=>rw[Lib.join_nil]; exact Nat.zero_le _
 | cons x r =>
  rw[Lib.join_cons,List.length_append]
  have:(Lib.joinTail sep r).length = sumL r sep.length:=by
   unfold Lib.joinTail sumL
   induction r with
   | nil=>rfl
   | cons y r ih=>simp only[List.map_cons,List.flatten_cons,List.length_append,List.sum_cons,ih]; omega
  rw[this]
  unfold sumL
  rw[List.map_cons,List.sum_cons]; omega
theorem sum_lvs {l:List LicT} {c:Nat} (hc:c ≤ 5) (h:∀ x ∈ l,x.tx.length + 14 ≤ 34 * x.lv):sumL (l.map LicT.px) c + 7 * l.length ≤ 34 * LicT.lvs l:=by
 induction l with
 | nil=>rw[LicT.lvs]; simp [sumL]
 | cons x r ih =>
  have h1:=h x (by simp)
  have h2:=ih fun y hy=>h y (by simp [hy])
  rw[LicT.lvs,List.map_cons]
  unfold sumL at h2 ⊢
  rw[List.map_cons,List.sum_cons,List.length_cons]
  have:x.px.length ≤ x.tx.length + 2:=by unfold LicT.px; split <;> simp
  omega
end Go.Lad
namespace Go.Proofs.YtcmibmohdnbhgaaGreatDoor
open Go.Lad
theorem op_sep (o:Int):(if o = 1 then andS else orS).length ≤ 5:=by split <;> simp
theorem fm_two {e:LicT} (h:e.fm = true) (h0:¬ e.op = 0):2 ≤ e.ar.length ∧ e.nm = []:=by
 rw[LicT.fm_eq,if_neg h0,Bool.and_eq_true,decide_eq_true_eq] at h
 exact⟨h.1.2.2,h.1.2.1⟩
theorem tx_len:∀ e:LicT,e.fm = true → e.tx.length + 14 ≤ 34 * e.lv:=by
 intro e
 induction e using LicT.ind with
 | h e ih =>
  intro hf
  rw[LicT.tx_eq,LicT.lv_eq]
  by_cases h0:e.op = 0
  ·rw[if_pos h0,if_pos h0]
   rw[LicT.fm_eq,if_pos h0,Bool.and_eq_true] at hf
   have:=hf.1
   unfold nameB at this
   simp only[Bool.and_eq_true,Nat.ble_eq] at this
   have:=this.1.1.1.1
   omega
  ·rw[if_neg h0,if_neg h0]
   have h2:=(fm_two hf h0).1
   have h3:=sum_lvs (op_sep e.op) fun x hx=>ih x hx (fm_ar hf hx).1
   have h4:=join_len (e.ar.map LicT.px) (if e.op = 1 then andS else orS)
   omega
theorem px_len {x:LicT} (h:x.fm = true):x.px.length ≤ 34 * x.lv:=by
 have:=tx_len x h
 have:x.px.length ≤ x.tx.length + 2:=by unfold LicT.px; split <;> simp
 omega
theorem write_rec:∀ (n:Nat) (e:LicT),e.fm = true → e.sz < n → e.lv ≤ 16 → licence_write.rec n e.op e.nm (unL e.ar) = some e.tx
 | 0,_,_,h,_=>absurd h (by omega)
 | n + 1,e,hf,hn,hlv=>by
  show licence_write.body (licence_write.rec n) e.op e.nm (unL e.ar) = _
  unfold licence_write.body
  have hT:=tx_len e hf
  rw[LicT.tx_eq] at hT ⊢
  by_cases h0:e.op = 0
  ·rw[eqZ_eq,decide_eq_true h0,cond_true,if_pos h0]
  ·rw[if_neg h0] at hT ⊢
   rw[eqZ_eq,decide_eq_false h0,cond_false]
   have hfa:∀ y ∈ e.ar,y.fm = true:=fun y hy=>(fm_ar hf hy).1
   have hlvs:e.lv = LicT.lvs e.ar:=by rw[LicT.lv_eq,if_neg h0]
   have hlen:=len_lvs hfa
   have hl:loopF (fun x=>licence_write.b1 (licence_write.rec n) (unL e.ar) x.1 x.2) (0,[]) = some (e.ar.map LicT.px):=by
    refine loopF_at (body:=fun x=>licence_write.b1 (licence_write.rec n) (unL e.ar) x.1 x.2) (fun k=>((k:Int),(e.ar.take k).map LicT.px)) e.ar.length (by simp) (fun k hk=>?_) ?_ (by omega)
    ·have hm:=List.getElem_mem hk
     have h1:=LicT.sz_lt hm
     have h2:=LicT.lv_mem hm
     have h3:=tx_len _ (hfa _ hm)
     simp only[licence_write.b1]
     rw[un_len,ltZ_eq,decide_eq_true (by omega),cond_true,idx_un hk]
     simp only[bind_in,fu1,fu2,fu3,fu4]
     rw[write_rec n e.ar[k] (hfa _ hm) (by omega) (by omega)]
     simp only[bind_in]
     rw[take_snoc e.ar k hk,List.map_append,z64_succ (by omega)]
     have hpx:e.ar[k].px = if e.ar[k].op = 2 then [40] ++ e.ar[k].tx ++ [41] else e.ar[k].tx:=rfl
     by_cases ho:e.ar[k].op = 2
     ·rw[eqZ_eq,decide_eq_true ho,cond_true]
      unfold cat?
      rw[if_pos (by simp; omega),bind_in,if_pos (by simp; omega),bind_in,app_in (by simp only[List.length_map,List.length_take,List.length_singleton]; omega),bind_in,bind_in,List.map_cons,List.map_nil,hpx,if_pos ho]
     ·rw[eqZ_eq,decide_eq_false ho,cond_false,app_in (by simp only[List.length_map,List.length_take,List.length_singleton]; omega),bind_in,bind_in,List.map_cons,List.map_nil,hpx,if_neg ho]
    ·simp only[licence_write.b1]
     rw[un_len,ltZ_eq,decide_eq_false (by omega),cond_false,List.take_length]
   rw[hl,bind_in]
   unfold licence_write.j1 strings_Join joinF
   have hml:Nat.ble (e.ar.map LicT.px).length 140737488355328 = true:=by rw[Nat.ble_eq,List.length_map]; omega
   by_cases h1:e.op = 1
   ·rw[if_pos h1] at hT ⊢
    rw[eqZ_eq,decide_eq_true h1,cond_true,hml,show Nat.ble (Lib.join (e.ar.map LicT.px) [32,97,110,100,32]).length 140737488355328 = true by rw[Nat.ble_eq]; show (Lib.join (e.ar.map LicT.px) andS).length ≤ _; omega]
    rfl
   ·rw[if_neg h1] at hT ⊢
    rw[eqZ_eq,decide_eq_false h1,cond_false,hml,show Nat.ble (Lib.join (e.ar.map LicT.px) [32,111,114,32]).length 140737488355328 = true by rw[Nat.ble_eq]; show (Lib.join (e.ar.map LicT.px) orS).length ≤ _; omega]
    rfl
theorem text_rec:∀ (n:Nat) (e:LicT),e.fm = true → e.sz < n → e.lv ≤ 16 → ladingref13_text.rec n e.op e.nm (unL e.ar) = some e.tx
 | 0,_,_,h,_=>absurd h (by omega)
 | n + 1,e,hf,hn,hlv=>by
  show ladingref13_text.body (ladingref13_text.rec n) e.op e.nm (unL e.ar) = _
  unfold ladingref13_text.body
  rw[LicT.tx_eq]
  by_cases h0:e.op = 0
  ·rw[eqZ_eq,decide_eq_true h0,cond_true,if_pos h0]
  ·rw[if_neg h0,eqZ_eq,decide_eq_false h0,cond_false]
   have hfa:∀ y ∈ e.ar,y.fm = true:=fun y hy=>(fm_ar hf hy).1
   have hlvs:e.lv = LicT.lvs e.ar:=by rw[LicT.lv_eq,if_neg h0]
   have hlen:=len_lvs hfa
   have hop:e.op = 1 ∨ e.op = 2:=(fm_op hf).resolve_left h0
   refine loopF_at (body:=fun x=>ladingref13_text.b1 (ladingref13_text.rec n) e.op (unL e.ar) x.1 x.2) (fun k=>(Lib.join ((e.ar.take k).map LicT.px) (if e.op = 1 then andS else orS),(k:Int))) e.ar.length rfl (fun k hk=>?_) ?_ (by omega)
   ·have hm:=List.getElem_mem hk
    have h1:=LicT.sz_lt hm
    have h2:=LicT.lv_mem hm
    have h3:=tx_len _ (hfa _ hm)
    have h4:=px_len (hfa _ hm)
    have h5:(Lib.join ((e.ar.take k).map LicT.px) (if e.op = 1 then andS else orS)).length ≤ 1000:=by
     have a1:=join_len ((e.ar.take k).map LicT.px) (if e.op = 1 then andS else orS)
     have a2:=sum_lvs (l:=e.ar.take k) (op_sep e.op) fun x hx=>tx_len x (hfa x (List.mem_of_mem_take hx))
     have a3:=lvs_take_le e.ar k
     omega
    simp only[ladingref13_text.b1]
    rw[un_len,ltZ_eq,decide_eq_true (by omega),cond_true,idx_un hk]
    simp only[bind_in,fu1,fu2,fu3,fu4]
    rw[text_rec n e.ar[k] (hfa _ hm) (by omega) (by omega)]
    simp only[bind_in]
    have hpx:e.ar[k].px = if e.ar[k].op = 2 then [40] ++ e.ar[k].tx ++ [41] else e.ar[k].tx:=rfl
    have hp:((bif eqZ e.op 1 then some (eqZ e.ar[k].op 2) else some false).bind fun x=>ladingref13_text.j1 e.ar[k].tx x) = some e.ar[k].px:=by
     rw[eqZ_eq,eqZ_eq]
     rcases hop with h | h
     ·rw[decide_eq_true h,cond_true,bind_in]
      unfold ladingref13_text.j1
      by_cases ho:e.ar[k].op = 2
      ·rw[decide_eq_true ho,cond_true]
       unfold cat?
       rw[if_pos (by simp; omega),bind_in,if_pos (by simp; omega),bind_in,hpx,if_pos ho]
      ·rw[decide_eq_false ho,cond_false,hpx,if_neg ho]
     ·have ho:¬ e.ar[k].op = 2:=fun e'=>(fm_ar hf hm).2 (by rw[e',h])
      rw[decide_eq_false (by omega),cond_false,bind_in]
      unfold ladingref13_text.j1
      rw[cond_false,hpx,if_neg ho]
    rw[hp,bind_in,take_snoc e.ar k hk,List.map_append,List.map_cons,List.map_nil,join_snoc]
    generalize hJ:Lib.join ((e.ar.take k).map LicT.px) (if e.op = 1 then andS else orS) = J at *
    unfold ladingref13_text.j5 ladingref13_text.j2 ladingref13_text.j4 ladingref13_text.j3
    rw[ltZ_eq,z64_succ (by omega)]
    by_cases hk0:k = 0
    ·subst hk0
     have:J = []:=by rw[← hJ]; rfl
     subst this
     rw[decide_eq_false (by omega),cond_false,cond_false,bind_in,cond_false,bind_in,bind_in,cond_false,if_pos (by simp)]
     unfold cat?
     rw[if_pos (by simp; omega)]
     rfl
    ·rw[decide_eq_true (by omega),cond_true,cond_true,if_neg (by
      rw[List.map_eq_nil_iff,List.take_eq_nil_iff]
      rintro (h | h)
      ·exact hk0 h
      ·rw[h] at hk; cases hk),eqZ_eq,eqZ_eq]
     unfold cat?
     rcases hop with h | h
     ·rw[decide_eq_true h,bind_in,cond_true,if_pos (by simp; omega),bind_in,bind_in,decide_eq_false (by omega),bind_in,cond_false,if_pos (by simp; omega),bind_in,if_pos h]
      rfl
     ·rw[decide_eq_false (by omega),bind_in,cond_false,bind_in,decide_eq_true h,bind_in,cond_true,if_pos (by simp; omega),bind_in,if_pos (by simp; omega),bind_in,if_neg (by omega)]
      rfl
   ·simp only[ladingref13_text.b1]
    rw[un_len,ltZ_eq,decide_eq_false (by omega),cond_false,List.take_length]
def printF (e:LicT):Bs × Int:=if e.rt = true then (e.tx,0) else ([],1)
theorem print_ok (e:LicT) (hz:e.sz ≤ 1000000000):licence_Print e.op e.nm (unL e.ar) = some (printF e):=by
 unfold licence_Print printF
 rw[right_ok e hz,bind_in]
 cases h:e.rt with
 | false=>rfl
 | true =>
  unfold LicT.rt at h
  rw[Bool.and_eq_true,Nat.ble_eq] at h
  unfold licence_write
  rw[Bool.not_true,cond_false,write_rec bigFuel.n e h.1 (fuel_big (by omega)) h.2]; rfl
theorem rprint_ok (e:LicT) (hz:e.sz ≤ 1000000000):ladingref13_Print e.op e.nm (unL e.ar) = some (printF e):=by
 unfold ladingref13_Print printF
 rw[rright_ok e hz,bind_in]
 cases h:e.rt with
 | false=>rfl
 | true =>
  unfold LicT.rt at h
  rw[Bool.and_eq_true,Nat.ble_eq] at h
  unfold ladingref13_text
  rw[Bool.not_true,cond_false,text_rec bigFuel.n e h.1 (fuel_big (by omega)) h.2]; rfl
end Go.Proofs.YtcmibmohdnbhgaaGreatDoor
namespace Go.Lad
abbrev Par:=List Bs → Option (LicT × List Bs)
abbrev opW:Bs:=[40]
abbrev clW:Bs:=[41]
abbrev andW:Bs:=[97,110,100]
abbrev orW:Bs:=[111,114]
def sev (P:Par) (s:Bs):Nat → List Bs → Option (List LicT × List Bs)
 | 0,_=>none
 | k + 1,ts=>match P ts with
  | none=>none
  | some (e,r)=>match r with
   | []=>some ([e],[])
   | t :: q=>if t = s then (sev P s k q).map (fun x=>(e :: x.1,x.2)) else some ([e],t :: q)
def fl (o:Int) (e:LicT):List LicT:=if e.op = o then e.ar else [e]
def fls (o:Int) (l:List LicT):List LicT:=l.flatMap (fl o)
def jn (o:Int) (l:List LicT):LicT:=match l with
 | [e]=>e
 | _=>.mk o [] (fls o l)
def pPart (G:Par):Par:=fun ts=>match ts with
 | []=>none
 | t :: r=>if t = opW then (match G r with
   | none=>none
   | some (e,q)=>match q with
    | []=>none
    | u :: q'=>if u = clW then some (e,q') else none)
  else if nameB t = true then some (.mk 0 t [],r) else none
def pSev (P:Par) (o:Int) (s:Bs):Par:=fun ts=>(sev P s (ts.length + 1) ts).map fun x=>(jn o x.1,x.2)
def pAlt:Nat → Par
 | 0=>fun _=>none
 | n + 1=>pSev (pSev (pPart (pAlt n)) 1 andW) 2 orW
def GoodP (P:Par):Prop := ∀ ts e r,P ts = some (e,r) → r.length + e.lv ≤ ts.length ∧ e.fm = true
theorem lv_one {e:LicT} (h:e.fm = true):1 ≤ e.lv:=by have:=LicT.dp_lt e h; omega
theorem fls_cons (o:Int) (e:LicT) (l:List LicT):fls o (e :: l) = fl o e ++ fls o l:=by unfold fls; rw[List.flatMap_cons]
theorem fl_lv {o:Int} (ho:o ≠ 0) (e:LicT):LicT.lvs (fl o e) = e.lv:=by
 unfold fl
 split
 ·rename_i h; rw[LicT.lv_eq,if_neg (by rw[h]; exact ho)]
 ·exact LicT.lvs_one e
theorem fls_lv {o:Int} (ho:o ≠ 0):∀ l:List LicT,LicT.lvs (fls o l) = LicT.lvs l
 | []=>rfl
 | e :: l=>by rw[fls_cons,LicT.lvs_app,fl_lv ho,fls_lv ho l,LicT.lvs]
theorem fm_args {e x:LicT} (h:e.fm = true) (hx:x ∈ e.ar):x.fm = true ∧ x.op ≠ e.op:=by
 by_cases h0:e.op = 0
 ·rw[LicT.fm_eq,if_pos h0,Bool.and_eq_true] at h
  rw[List.isEmpty_iff.1 h.2] at hx; cases hx
 ·rw[LicT.fm_eq,if_neg h0,Bool.and_eq_true] at h
  exact (LicT.fms_iff _ _).1 h.2 x hx
theorem fl_fm {o:Int} {e x:LicT} (h:e.fm = true) (hx:x ∈ fl o e):x.fm = true ∧ x.op ≠ o:=by
 unfold fl at hx
 split at hx
 ·rename_i ho
  rw[← ho]; exact fm_args h hx
 ·rename_i ho
  rw[List.mem_singleton.1 hx]; exact⟨h,ho⟩
theorem fl_len {o:Int} (ho:o ≠ 0) {e:LicT} (h:e.fm = true):1 ≤ (fl o e).length:=by
 unfold fl
 split
 ·rename_i h1
  rw[LicT.fm_eq,if_neg (by rw[h1]; exact ho),Bool.and_eq_true,decide_eq_true_eq] at h
  have:=h.1.2.2; omega
 ·simp
theorem lv_mk {o:Int} {l:List LicT} (h:o ≠ 0):(LicT.mk o [] l).lv = LicT.lvs l:=by rw[LicT.lv_eq]; exact if_neg h
theorem fm_mk {o:Int} {l:List LicT} (h:o ≠ 0):(LicT.mk o [] l).fm = (decide ((o = 1 ∨ o = 2) ∧ ([]:Bs) = [] ∧ 2 ≤ l.length) && LicT.fms o l):=by rw[LicT.fm_eq]; exact if_neg h
theorem lv_leaf (t:Bs):(LicT.mk 0 t []).lv = 1:=by rw[LicT.lv_eq]; exact if_pos rfl
theorem fm_leaf (t:Bs):(LicT.mk 0 t []).fm = nameB t:=by rw[LicT.fm_eq]; exact (if_pos rfl).trans (Bool.and_true _)
theorem jn_good {o:Int} (ho:o = 1 ∨ o = 2) {l:List LicT} (hl:l ≠ []) (hf:∀ e ∈ l,e.fm = true):(jn o l).fm = true ∧ (jn o l).lv = LicT.lvs l:=by
 have ho0:o ≠ 0:=by omega
 match l,hl with
 | [e],_=>exact⟨hf e (by simp),(LicT.lvs_one e).symm⟩
 | a :: b :: r,_ =>
  show (LicT.mk o [] (fls o (a :: b :: r))).fm = true ∧ (LicT.mk o [] (fls o (a :: b :: r))).lv = _
  constructor
  ·rw[fm_mk ho0,Bool.and_eq_true,decide_eq_true_eq]
   refine⟨⟨ho,rfl,?_⟩,(LicT.fms_iff _ _).2 fun x hx=>?_⟩
   ·show 2 ≤ (fls o (a :: b :: r)).length
    have h1:=fl_len ho0 (hf a (by simp))
    have h2:=fl_len ho0 (hf b (by simp))
    rw[fls_cons,fls_cons,List.length_append,List.length_append]; omega
   ·obtain⟨y,hy,hx⟩:=List.mem_flatMap.1 hx
    exact fl_fm (hf y hy) hx
  ·rw[lv_mk ho0]
   exact fls_lv ho0 _
theorem sev_good {P:Par} {s:Bs} (hP:GoodP P):∀ (k:Nat) (ts:List Bs) l r,sev P s k ts = some (l,r) → r.length + LicT.lvs l ≤ ts.length ∧ l ≠ [] ∧ ∀ e ∈ l,e.fm = true
 | 0,_,_,_,h=>by rw[sev] at h; cases h
 | k + 1,ts,l,r,h=>by
  rw[sev] at h
  cases hp:P ts with
  | none=>rw[hp] at h; cases h
  | some x =>
   obtain⟨e,q⟩:=x
   obtain⟨h1,h2⟩:=hP ts e q hp
   rw[hp] at h
   cases q with
   | nil =>
    cases h
    exact⟨by rw[LicT.lvs_one]; exact h1,by simp,fun e' he=>by rw[List.mem_singleton.1 he]; exact h2⟩
   | cons t q =>
    simp only at h
    split at h
    ·cases hs:sev P s k q with
     | none=>rw[hs] at h; cases h
     | some x =>
      rw[hs] at h
      obtain⟨l',r'⟩:=x
      cases h
      obtain⟨g1,g2,g3⟩:=sev_good hP k q l' r' hs
      refine⟨?_,by simp,fun e' he=>?_⟩
      ·show r'.length + LicT.lvs (e :: l') ≤ _
       rw[LicT.lvs]
       rw[List.length_cons] at h1
       omega
      ·rcases List.mem_cons.1 he with rfl | he
       ·exact h2
       ·exact g3 e' he
    ·cases h
     exact⟨by rw[LicT.lvs_one]; exact h1,by simp,fun e' he=>by rw[List.mem_singleton.1 he]; exact h2⟩
theorem pSev_good {P:Par} {s:Bs} {o:Int} (ho:o = 1 ∨ o = 2) (hP:GoodP P):GoodP (pSev P o s):=by
 intro ts e r h
 unfold pSev at h
 cases hs:sev P s (ts.length + 1) ts with
 | none=>rw[hs] at h; cases h
 | some x =>
  rw[hs] at h
  obtain⟨l,q⟩:=x
  cases h
  obtain⟨h1,h2,h3⟩:=sev_good hP _ ts l _ hs
  obtain⟨g1,g2⟩:=jn_good ho h2 h3
  exact⟨by rw[g2]; exact h1,g1⟩
theorem pPart_good {G:Par} (hG:GoodP G):GoodP (pPart G):=by
 intro ts e r h
 cases ts with
 | nil=>cases h
 | cons t q =>
  unfold pPart at h
  simp only at h
  split at h
  ·cases hg:G q with
   | none=>rw[hg] at h; cases h
   | some x =>
    obtain⟨e',q'⟩:=x
    rw[hg] at h
    obtain⟨h1,h2⟩:=hG q e' q' hg
    cases q' with
    | nil=>cases h
    | cons u q' =>
     simp only at h
     split at h
     ·cases h
      exact⟨by rw[List.length_cons] at h1 ⊢; omega,h2⟩
     ·cases h
  ·split at h
   ·rename_i hn
    cases h
    exact⟨by rw[lv_leaf,List.length_cons]; exact Nat.le_refl _,by rw[fm_leaf,hn]⟩
   ·cases h
theorem pAlt_good:∀ n,GoodP (pAlt n)
 | 0=>fun _ _ _ h=>by cases h
 | n + 1=>pSev_good (.inr rfl) (pSev_good (.inl rfl) (pPart_good (pAlt_good n)))
end Go.Lad
namespace Go.Proofs.YtcmibmohdnbhgaaGreatDoor
open Go.Lad
abbrev CPar:=List Bs → Option (GLic × Bool × List Bs)
def RelP (f:CPar) (P:Par) (ts:List Bs):Prop:=(∀ e r,P ts = some (e,r) → f ts = some (lt e,true,r)) ∧ (P ts = none → ∃ x r,f ts = some (x,false,r))
theorem skip_nil (s:Bs):licence_tokens_skip s [] = some (false,[]):=rfl
theorem skip_cons (s t:Bs) (r:List Bs):licence_tokens_skip s (t :: r) = some (if t = s then (true,r) else (false,t :: r)):=by
 unfold licence_tokens_skip licence_tokens_skip.j1
 rw[ltZ_eq,decide_eq_true (by simp),cond_true,show idx (t :: r) 0 = some t from idx_nat (l:=t :: r) (k:=0) (by simp),bind_in,bind_in]
 by_cases h:t = s
 ·rw[decide_eq_true h,cond_true,if_pos h,cut_in (by omega) (by simp; omega) (by simp),bind_in]
  show some (true,(List.take (t :: r).length (t :: r)).drop 1) = _
  rw[List.take_length]; rfl
 ·rw[decide_eq_false h,cond_false,if_neg h]
theorem word_cons (t:Bs) (r:List Bs):licence_tokens_word (t :: r) = some (if nameB t = true then (t,true,r) else ([],false,t :: r)):=by
 unfold licence_tokens_word licence_tokens_word.j1
 have hi:idx (t :: r) 0 = some t:=idx_nat (l:=t :: r) (k:=0) (by simp)
 rw[eqZ_eq,decide_eq_false (by simp; omega),cond_false,hi,bind_in,named_ok,bind_in,bind_in]
 cases nameB t with
 | true =>
  rw[Bool.not_true,cond_false,bind_in,cut_in (by omega) (by simp; omega) (by simp),bind_in,if_pos rfl]
  show some (t,true,(List.take (t :: r).length (t :: r)).drop 1) = _
  rw[List.take_length]; rfl
 | false=>rfl
theorem part_rel {Gr:CPar} {G:Par} {ts:List Bs} (h:∀ q:List Bs,q.length < ts.length → RelP Gr G q):RelP (licence_parser_part Gr) (pPart G) ts:=by
 cases ts with
 | nil=>exact⟨fun e r h=>(by cases h),fun _=>⟨_,_,rfl⟩⟩
 | cons t q =>
  obtain⟨h1,h2⟩:=h q (by simp)
  unfold RelP pPart licence_parser_part
  rw[skip_cons,bind_in]
  by_cases ht:t = opW
  ·rw[if_pos ht]
   simp only[if_pos ht,cond_true]
   cases hg:G q with
   | none =>
    obtain⟨x,r,hx⟩:=h2 hg
    rw[hx,bind_in]
    exact⟨fun e r h=>(by cases h),fun _=>⟨_,_,rfl⟩⟩
   | some y =>
    obtain⟨e',q'⟩:=y
    rw[h1 e' q' hg,bind_in,cond_true]
    cases q' with
    | nil =>
     rw[skip_nil,bind_in]
     exact⟨fun e r h=>(by cases h),fun _=>⟨_,_,rfl⟩⟩
    | cons u q' =>
     rw[skip_cons,bind_in]
     by_cases hu:u = clW
     ·simp only[if_pos hu,fx1,fx2,fx3,lt]
      exact⟨fun e r h=>(by cases h; rfl),fun h=>(by cases h)⟩
     ·simp only[if_neg hu]
      exact⟨fun e r h=>(by cases h),fun _=>⟨_,_,rfl⟩⟩
  ·rw[if_neg ht]
   simp only[if_neg ht,cond_false]
   rw[word_cons,bind_in]
   cases hn:nameB t with
   | true=>exact⟨fun e r h=>(by cases h; rfl),fun h=>(by cases h)⟩
   | false=>exact⟨fun e r h=>(by cases h),fun _=>⟨_,_,rfl⟩⟩
def sevB (f:CPar) (op1:Int) (e6:Int) (e7:Bs) (v8:List GLic) (v10:Bool) (p11:List Bs):Option ((Bool × (List Bs) × Int × Bs × List GLic) ⊕ ((Int × Bs × (List Bs) × List GLic) ⊕ (GLic × Bool × List Bs))) :=
 bif v10 then
 ((f p11).bind fun p12 =>
 bif (!p12.2.1) then
  some (.inr (.inr ((0,([]:Bs),[]),false,p12.2.2)))
 else
  (bif (eqZ p12.1.1 op1) then
  ((app? v8 (p12.1.2.2.map (Uun 2))).bind fun l13 =>
  some (.inl (false,p12.2.2,e6,e7,l13)))
  else
  ((app? v8 ([(p12.1.1,p12.1.2.1,((p12.1.2.2.map (Uun 2)).map (Umk 2)))]:List GLic)).bind fun l14 =>
  some (.inl (false,p12.2.2,e6,e7,l14)))))
 else
 some (.inr (.inl (e6,e7,p11,v8)))
theorem un_fls (o:Int) (l:List LicT) (e:LicT):unL (fls o l) ++ unL (fl o e) = unL (fls o (l ++ [e])):=by
 rw[un_app]
 unfold fls
 rw[List.flatMap_append]
 simp
theorem sevB_step {f:CPar} {P:Par} {o:Int} (ho:o ≠ 0) {q:List Bs} {dn:List LicT} (hr:RelP f P q) (hg:GoodP P) (hf:∀ e ∈ dn,e.fm = true) (hb:LicT.lvs dn + q.length ≤ 1000000) :
  (P q = none ∧ ∃ x r,sevB f o o [] (unL (fls o dn)) true q = some (.inr (.inr (x,false,r)))) ∨ (∃ e r,P q = some (e,r) ∧ sevB f o o [] (unL (fls o dn)) true q = some (.inl (false,r,o,[],unL (fls o (dn ++ [e]))))):=by
 unfold sevB
 rw[cond_true]
 cases hp:P q with
 | none =>
  obtain⟨x,r,hx⟩:=hr.2 hp
  rw[hx,bind_in]
  exact .inl ⟨rfl,_,_,rfl⟩
 | some y =>
  obtain⟨e,r⟩:=y
  obtain⟨g1,g2⟩:=hg q e r hp
  refine .inr ⟨e,r,rfl,?_⟩
  rw[hr.1 e r hp,bind_in]
  simp only[Bool.not_true,cond_false,lt,fu1,fu2,fu3,fu4,fx1,fx2,fx3]
  have hfl:(unL (fls o dn)).length ≤ LicT.lvs dn:=by
   rw[un_len,← fls_lv ho dn]
   refine len_lvs fun x hx=>?_
   obtain⟨y,hy,hx⟩:=List.mem_flatMap.1 hx
   exact (fl_fm (hf y hy) hx).1
  have hel:(fl o e).length ≤ e.lv:=by
   rw[← fl_lv ho e]
   exact len_lvs fun x hx=>(fl_fm g2 hx).1
  have hun:=un_fls o dn e
  unfold fl at hun hel
  by_cases h:e.op = o
  ·rw[eqZ_eq,decide_eq_true h,cond_true]
   rw[if_pos h] at hun hel
   rw[app_in (by rw[un_len e.ar]; omega),hun]; rfl
  ·rw[eqZ_eq,decide_eq_false h,cond_false]
   rw[if_neg h] at hun hel
   have e1:=un_one e
   show Option.bind (app? (unL (fls o dn)) [(e.op,e.nm,_)]) _ = _
   have e2:([(e.op,e.nm,mkL (unL e.ar))]:List GLic) = unL [e]:=by rw[mk_un]; exact e1
   show Option.bind (app? (unL (fls o dn)) [(e.op,e.nm,mkL (unL e.ar))]) _ = _
   rw[e2,app_in (by rw[un_len [e]]; simp only[List.length_singleton]; omega),hun]; rfl
end Go.Proofs.YtcmibmohdnbhgaaGreatDoor
namespace Go.Proofs.YtcmibmohdnbhgaaGreatDoor
open Go.Lad
def sevK (P:Par) (s:Bs) (k:Nat) (dn:List LicT) (p:List Bs):Option (List LicT × List Bs):=match p with
 | []=>some (dn,[])
 | t :: q=>if t = s then (sev P s k q).map (fun y=>(dn ++ y.1,y.2)) else some (dn,t :: q)
theorem sev_succ {P:Par} {s:Bs} {k:Nat} {q:List Bs} {dn:List LicT} {e:LicT} {r:List Bs} (h:P q = some (e,r)):(sev P s (k + 1) q).map (fun y=>(dn ++ y.1,y.2)) = sevK P s k (dn ++ [e]) r:=by
 rw[sev,h]
 unfold sevK
 cases r with
 | nil=>rfl
 | cons t r =>
  simp only
  by_cases ht:t = s
  ·rw[if_pos ht,if_pos ht,Option.map_map]
   congr 1
   funext y
   show (dn ++ e :: y.1,y.2) = (dn ++ [e] ++ y.1,y.2)
   rw[List.append_assoc]; rfl
  ·rw[if_neg ht,if_neg ht]; rfl
theorem sev_fail {P:Par} {s:Bs} {k:Nat} {q:List Bs} (h:P q = none):sev P s (k + 1) q = none:=by rw[sev,h]
theorem sev_loop {f : CPar} {P : Par} {o : Int} (ho : o ≠ 0) (s : Bs) (ts : List Bs) (hlen : ts.length ≤ 100000) (hg : GoodP P) (hr : ∀ q : List Bs, q.length ≤ ts.length → RelP f P q)
    {body : Bool × List Bs × Int × Bs × List GLic → Option ((Bool × List Bs × Int × Bs × List GLic) ⊕ ((Int × Bs × List Bs × List GLic) ⊕ (GLic × Bool × List Bs)))}
    (hb : ∀ x, body x = (bif x.1 then some (true, x.2.1) else (licence_tokens_skip s x.2.1).bind fun s9 => some (s9.1, s9.2)).bind fun y => sevB f o x.2.2.1 x.2.2.2.1 x.2.2.2.2 y.1 y.2) :
    ∃ b, loopF body (true, ts, o, [], []) = some b ∧ (∀ l r, sev P s (ts.length + 1) ts = some (l, r) → b = .inl (o, [], r, unL (fls o l))) ∧ (sev P s (ts.length + 1) ts = none → ∃ x r, b = .inr (x, false, r)) := by
  refine loopF_inv (body := body) (fun j x => x.2.2.1 = o ∧ x.2.2.2.1 = [] ∧ ∃ dn : List LicT, x.2.2.2.2 = unL (fls o dn) ∧ (∀ e ∈ dn, e.fm = true) ∧ LicT.lvs dn + x.2.1.length ≤ ts.length ∧
    ((x.1 = true ∧ j = 0 ∧ dn = [] ∧ x.2.1 = ts) ∨ (x.1 = false ∧ j + x.2.1.length ≤ ts.length ∧ sev P s (ts.length + 1) ts = sevK P s (ts.length + 1 - j) dn x.2.1))) (ts.length + 1) ⟨rfl, rfl, [], rfl, by simp, by rw [LicT.lvs]; simp, .inl ⟨rfl, rfl, rfl, rfl⟩⟩ (fun j hj x hx => ?_) (fun x hx => ?_) (by omega)
  · obtain ⟨first, p, o', nm, v8⟩ := x
    obtain ⟨h1, h2, dn, h3, h4, h5, h6⟩ := hx
    simp only at h1 h2 h3 h5 h6
    subst h1 h2 h3
    have step : ∀ q : List Bs, q.length + j ≤ ts.length → LicT.lvs dn + q.length ≤ ts.length → sev P s (ts.length + 1) ts = (sev P s (ts.length + 1 - j) q).map (fun y => (dn ++ y.1, y.2)) →
        (∃ y, sevB f o' o' [] (unL (fls o' dn)) true q = some (.inl y) ∧ (y.2.2.1 = o' ∧ y.2.2.2.1 = [] ∧ ∃ dn : List LicT, y.2.2.2.2 = unL (fls o' dn) ∧ (∀ e ∈ dn, e.fm = true) ∧ LicT.lvs dn + y.2.1.length ≤ ts.length ∧
    ((y.1 = true ∧ j + 1 = 0 ∧ dn = [] ∧ y.2.1 = ts) ∨ (y.1 = false ∧ j + 1 + y.2.1.length ≤ ts.length ∧ sev P s (ts.length + 1) ts = sevK P s (ts.length + 1 - (j + 1)) dn y.2.1)))) ∨
        (∃ b, sevB f o' o' [] (unL (fls o' dn)) true q = some (.inr b) ∧ (∀ l r, sev P s (ts.length + 1) ts = some (l, r) → b = .inl (o', [], r, unL (fls o' l))) ∧ (sev P s (ts.length + 1) ts = none → ∃ x r, b = .inr (x, false, r))) := fun q hq1 hq2 hq3 => by
      have hk : ts.length + 1 - j = (ts.length - j) + 1 := by omega
      rw [hk] at hq3
      rcases sevB_step (o := o') (dn := dn) ho (hr q (by omega)) hg h4 (by omega) with ⟨e1, x, r, e2⟩ | ⟨e, r, e1, e2⟩
      · refine .inr ⟨_, e2, fun l r h => ?_, fun _ => ⟨_, _, rfl⟩⟩
        rw [hq3, sev_fail e1] at h; cases h
      · obtain ⟨g1, g2⟩ := hg q e r e1
        have g3 := lv_one g2
        refine .inl ⟨_, e2, rfl, rfl, dn ++ [e], rfl, fun x hx => ?_, ?_, .inr ⟨rfl, ?_, ?_⟩⟩
        · rcases List.mem_append.1 hx with hx | hx
          · exact h4 x hx
          · rw [List.mem_singleton.1 hx]; exact g2
        · show LicT.lvs (dn ++ [e]) + r.length ≤ _
          rw [LicT.lvs_app, LicT.lvs_one]; omega
        · show j + 1 + r.length ≤ _
          omega
        · show _ = sevK P s (ts.length + 1 - (j + 1)) (dn ++ [e]) r
          rw [hq3, sev_succ e1]
          congr 1; omega
    rw [hb]
    rcases h6 with ⟨rfl, rfl, rfl, rfl⟩ | ⟨rfl, h7, h8⟩
    · simp only [cond_true, bind_in]
      refine step p (by omega) h5 ?_
      show _ = Option.map (fun y => ([] ++ y.1, y.2)) (sev P s (p.length + 1 - 0) p)
      rw [Nat.sub_zero]
      cases sev P s (p.length + 1) p <;> rfl
    · simp only [cond_false]
      cases p with
      | nil =>
        rw [skip_nil]
        refine .inr ⟨_, rfl, fun l r h => ?_, fun h => ?_⟩
        · rw [h8] at h; unfold sevK at h; cases h; rfl
        · rw [h8] at h; unfold sevK at h; cases h
      | cons t q =>
        rw [skip_cons, bind_in]
        rw [List.length_cons] at h5 h7
        by_cases ht : t = s
        · simp only [if_pos ht, bind_in]
          refine step q (by omega) (by omega) ?_
          rw [h8]; unfold sevK; simp only [if_pos ht]
        · simp only [if_neg ht, bind_in]
          refine .inr ⟨_, rfl, fun l r h => ?_, fun h => ?_⟩
          · rw [h8] at h; unfold sevK at h; simp only [if_neg ht] at h; cases h; rfl
          · rw [h8] at h; unfold sevK at h; simp only [if_neg ht] at h; cases h
  · obtain ⟨first, p, o', nm, v8⟩ := x
    obtain ⟨h1, h2, dn, h3, h4, h5, h6⟩ := hx
    simp only at h6
    rcases h6 with ⟨_, h, _, _⟩ | ⟨_, h, _⟩ <;> omega
theorem jn_code {o:Int} (ho:o = 1 ∨ o = 2) {l:List LicT} (hl:l ≠ []) (hf:∀ e ∈ l,e.fm = true) (r:List Bs):licence_parser_several_v2.j2 o [] r (unL (fls o l)) = some (lt (jn o l),true,r):=by
 have ho0:o ≠ 0:=by omega
 unfold licence_parser_several_v2.j2
 have gen:2 ≤ (fls o l).length → (bif (eqZ ((unL (fls o l)).length:Int) 1) then ((idx (unL (fls o l)) 0).bind fun _19=>(idx (unL (fls o l)) 0).bind fun v20=>some (((v20.1,v20.2.1,((v20.2.2.map (Uun 2)).map (Umk 2))):GLic),true,r)) else some ((o,([]:Bs),((unL (fls o l)).map (Umk 2))),true,r)) = some (lt (.mk o [] (fls o l)),true,r):=fun h=>by
  rw[un_len,eqZ_eq,decide_eq_false (by omega),cond_false]
  show some ((o,([]:Bs),mkL (unL (fls o l))),true,r) = _
  rw[mk_un]; rfl
 match l,hl with
 | [e],_ =>
  have hfe:=hf e (by simp)
  have e1:fls o [e] = fl o e:=by unfold fls; simp
  show _ = some (lt e,true,r)
  rw[e1] at gen ⊢
  by_cases h:e.op = o
  ·have h2:=fm_two hfe (by rw[h]; exact ho0)
   have e2:fl o e = e.ar:=if_pos h
   rw[e2] at gen ⊢
   rw[gen h2.1]
   show some (lt (LicT.mk o [] e.ar),true,r) = _
   rw[← h,← h2.2,LicT.eta]
  ·have e2:fl o e = [e]:=if_neg h
   rw[e2,un_len,eqZ_eq,decide_eq_true (by simp),cond_true]
   have hi:idx (unL [e]) 0 = some (e.op,e.nm,e.ar):=idx_un (l:=[e]) (k:=0) (by simp)
   rw[hi,bind_in,bind_in]
   show some ((e.op,e.nm,mkL (unL e.ar)),true,r) = _
   rw[mk_un]; rfl
 | a :: b :: q,_ =>
  refine gen ?_
  have h1:=fl_len ho0 (hf a (by simp))
  have h2:=fl_len ho0 (hf b (by simp))
  rw[fls_cons,fls_cons,List.length_append,List.length_append]; omega
theorem sequence_rel {Gr:CPar} {G:Par} {ts:List Bs} (hlen:ts.length ≤ 100000) (hg:GoodP G) (h:∀ q:List Bs,q.length < ts.length → RelP Gr G q):RelP (licence_parser_sequence Gr) (pSev (pPart G) 1 andW) ts:=by
 obtain⟨b,hb,h1,h2⟩:=sev_loop (f:=licence_parser_part Gr) (P:=pPart G) (o:=1) (by omega) andW ts hlen (pPart_good hg) (fun q hq=>part_rel fun q' hq'=>h q' (by omega)) (body:=fun x=>licence_parser_several_v2.b1 Gr 1 andW x.1 x.2.1 x.2.2.1 x.2.2.2.1 x.2.2.2.2) (fun x=>rfl)
 have key:licence_parser_sequence Gr ts = (match b with | .inl x=>licence_parser_several_v2.j2 x.1 x.2.1 x.2.2.1 x.2.2.2 | .inr r=>some r).bind fun v2=>some ((v2.1.1,v2.1.2.1,((v2.1.2.2.map (Uun 2)).map (Umk 2))),v2.2.1,v2.2.2):=by
  unfold licence_parser_sequence licence_parser_several_v2
  rw[hb]; rfl
 unfold RelP
 rw[key]
 unfold pSev
 cases hs:sev (pPart G) andW (ts.length + 1) ts with
 | none =>
  obtain⟨x,r,rfl⟩:=h2 hs
  exact⟨fun e r h=>(by cases h),fun _=>⟨_,_,rfl⟩⟩
 | some y =>
  obtain⟨l,r⟩:=y
  obtain⟨g1,g2,g3⟩:=sev_good (pPart_good hg) _ ts l r hs
  rw[h1 l r hs]
  simp only
  rw[jn_code (.inl rfl) g2 g3,bind_in]
  simp only[lt,fx1,fx2,fx3]
  refine⟨fun e r h=>?_,fun h=>(by cases h)⟩
  cases h; rfl
theorem alternatives_rel:∀ (n:Nat) (ts:List Bs),ts.length < n → ts.length ≤ 100000 → RelP (licence_parser_alternatives.rec n) (pAlt n) ts
 | 0,_,h,_=>absurd h (by omega)
 | n + 1,ts,hn,hlen=>by
  show RelP (licence_parser_alternatives.body (licence_parser_alternatives.rec n)) (pAlt (n + 1)) ts
  have hseq:∀ q:List Bs,q.length ≤ ts.length → RelP (licence_parser_sequence (licence_parser_alternatives.rec n)) (pSev (pPart (pAlt n)) 1 andW) q:=fun q hq =>
   sequence_rel (by omega) (pAlt_good n) fun q' hq'=>alternatives_rel n q' (by omega) (by omega)
  have hgood:GoodP (pSev (pPart (pAlt n)) 1 andW):=pSev_good (.inl rfl) (pPart_good (pAlt_good n))
  obtain⟨b,hb,h1,h2⟩:=sev_loop (f:=licence_parser_sequence (licence_parser_alternatives.rec n)) (P:=pSev (pPart (pAlt n)) 1 andW) (o:=2) (by omega) orW ts hlen hgood hseq (body:=fun x=>licence_parser_several.b1 (licence_parser_alternatives.rec n) 2 orW x.1 x.2.1 x.2.2.1 x.2.2.2.1 x.2.2.2.2) (fun x=>rfl)
  have key:licence_parser_alternatives.body (licence_parser_alternatives.rec n) ts = (match b with | .inl x=>licence_parser_several_v2.j2 x.1 x.2.1 x.2.2.1 x.2.2.2 | .inr r=>some r).bind fun v2=>some ((v2.1.1,v2.1.2.1,((v2.1.2.2.map (Uun 2)).map (Umk 2))),v2.2.1,v2.2.2):=by
   unfold licence_parser_alternatives.body licence_parser_several
   rw[hb]; rfl
  unfold RelP
  rw[key]
  show (∀ e r,pSev (pSev (pPart (pAlt n)) 1 andW) 2 orW ts = some (e,r) → _) ∧ (pSev (pSev (pPart (pAlt n)) 1 andW) 2 orW ts = none → _)
  rw[show pSev (pSev (pPart (pAlt n)) 1 andW) 2 orW ts = (sev (pSev (pPart (pAlt n)) 1 andW) orW (ts.length + 1) ts).map fun x=>(jn 2 x.1,x.2) from rfl]
  cases hs:sev (pSev (pPart (pAlt n)) 1 andW) orW (ts.length + 1) ts with
  | none =>
   obtain⟨x,r,rfl⟩:=h2 hs
   exact⟨fun e r h=>(by cases h),fun _=>⟨_,_,rfl⟩⟩
  | some y =>
   obtain⟨l,r⟩:=y
   obtain⟨g1,g2,g3⟩:=sev_good hgood _ ts l r hs
   rw[h1 l r hs]
   simp only
   rw[jn_code (.inr rfl) g2 g3,bind_in]
   simp only[lt,fx1,fx2,fx3]
   refine⟨fun e r h=>?_,fun h=>(by cases h)⟩
   cases h; rfl
end Go.Proofs.YtcmibmohdnbhgaaGreatDoor
namespace Go.Proofs.YtcmibmohdnbhgaaGreatDoor
open Go.Lad
abbrev RPar:=Int → List Bs → Option (GLic × Bool × Int × List Bs)
def RelR (f:RPar) (P:Par) (T:List Bs) (p:Nat):Prop :=
 (∀ e r,P (T.drop p) = some (e,r) → ∃ p':Nat,p' ≤ T.length ∧ T.drop p' = r ∧ f p T = some (lt e,true,(p':Int),T)) ∧ (P (T.drop p) = none → ∃ x i,f p T = some (x,false,i,T))
theorem next_ok (s:Bs) (T:List Bs) (p:Nat) (hp:p ≤ T.length) (hl:T.length ≤ 1000000):ladingref13_parser_next s p T = some (match T.drop p with
  | t :: _=>if t = s then (true,((p + 1:Nat):Int),T) else (false,(p:Int),T)
  | []=>(false,(p:Int),T)):=by
 unfold ladingref13_parser_next ladingref13_parser_next.j1
 by_cases h:p < T.length
 ·rw[List.drop_eq_getElem_cons h,ltZ_eq,decide_eq_true (by omega),cond_true,idx_nat h,bind_in,bind_in,bind_in]
  simp only
  by_cases e:T[p] = s
  ·rw[decide_eq_true e,cond_true,if_pos e,z64_succ (by omega),bind_in]
  ·rw[decide_eq_false e,cond_false,if_neg e]
 ·rw[List.drop_eq_nil_of_le (by omega),ltZ_eq,decide_eq_false (by omega),cond_false,bind_in,cond_false]
theorem rpart_rel {Gr:RPar} {G:Par} {T:List Bs} {p:Nat} (hp:p ≤ T.length) (hl:T.length ≤ 1000000) (h:∀ q:Nat,p < q → q ≤ T.length → RelR Gr G T q):RelR (ladingref13_parser_part Gr) (pPart G) T p:=by
 unfold RelR ladingref13_parser_part
 rw[next_ok _ _ _ hp hl,bind_in]
 by_cases hlt:p < T.length
 ·have hd:=List.drop_eq_getElem_cons hlt
  rw[hd]
  unfold pPart
  simp only
  by_cases ht:T[p] = opW
  ·simp only[if_pos ht,cond_true]
   obtain⟨h1,h2⟩:=h (p + 1) (by omega) (by omega)
   cases hg:G (T.drop (p + 1)) with
   | none =>
    obtain⟨x,i,hx⟩:=h2 hg
    rw[hx,bind_in]
    exact⟨fun e r h=>(by cases h),fun _=>⟨_,_,rfl⟩⟩
   | some y =>
    obtain⟨e',q'⟩:=y
    obtain⟨p',hp',hd',hx⟩:=h1 e' q' hg
    rw[hx,bind_in,cond_true,next_ok _ _ _ hp' hl,bind_in,hd']
    cases q' with
    | nil=>exact⟨fun e r h=>(by cases h),fun _=>⟨_,_,rfl⟩⟩
    | cons u q' =>
     simp only
     have hlt':p' < T.length:=by
      refine Classical.byContradiction fun hn=>?_
      rw[List.drop_eq_nil_of_le (by omega)] at hd'; cases hd'
     rw[List.drop_eq_getElem_cons hlt'] at hd'
     by_cases hu:u = clW
     ·simp only[if_pos hu,fx1,fx2,fx3,lt]
      refine⟨fun e r h=>?_,fun h=>(by cases h)⟩
      cases h
      exact⟨p' + 1,by omega,(List.cons.inj hd').2,rfl⟩
     ·simp only[if_neg hu]
      exact⟨fun e r h=>(by cases h),fun _=>⟨_,_,rfl⟩⟩
  ·simp only[if_neg ht,cond_false]
   rw[ltZ_eq,decide_eq_true (by omega),cond_true,idx_nat hlt]
   simp only[bind_in]
   rw[rname_ok,bind_in,bind_in]
   unfold ladingref13_parser_part.j1
   cases hn:nameB T[p] with
   | true =>
    simp only[cond_true,if_true]
    rw[z64_succ (by omega),bind_in,show ((p + 1:Nat):Int) - 1 = (p:Int) by omega,z64_in (by omega) (by omega),bind_in,idx_nat hlt,bind_in,bind_in]
    refine⟨fun e r h=>?_,fun h=>(by cases h)⟩
    cases h
    exact⟨p + 1,by omega,rfl,rfl⟩
   | false =>
    simp only[cond_false,Bool.false_eq_true,if_false]
    exact⟨fun e r h=>(by cases h),fun _=>⟨_,_,rfl⟩⟩
 ·rw[List.drop_eq_nil_of_le (by omega)]
  simp only[cond_false]
  rw[ltZ_eq,decide_eq_false (by omega),cond_false,bind_in]
  exact⟨fun e r h=>(by cases h),fun _=>⟨_,_,rfl⟩⟩
theorem joined_ok {o:Int} (ho:o = 1 ∨ o = 2) {l:List LicT} (hl:l ≠ []) (hf:∀ e ∈ l,e.fm = true) (hb:LicT.lvs l ≤ 1000000):ladingref13_joined o (unL l) = some (lt (jn o l)):=by
 have ho0:o ≠ 0:=by omega
 unfold ladingref13_joined
 have hlen:=len_lvs hf
 have gen:l.length ≠ 1 → (bif (eqZ ((unL l).length:Int) 1) then ((idx (unL l) 0).bind fun v3=>some ((v3.1,v3.2.1,((v3.2.2.map (Uun 2)).map (Umk 2))):GLic)) else (loopF (fun x=>ladingref13_joined.b1 o (unL l) x.1 x.2.1 x.2.2.1 x.2.2.2) (0,o,([]:Bs),[]))) = some (lt (.mk o [] (fls o l))):=fun h=>by
  rw[un_len,eqZ_eq,decide_eq_false (by omega),cond_false]
  refine loopF_at (body:=fun x=>ladingref13_joined.b1 o (unL l) x.1 x.2.1 x.2.2.1 x.2.2.2) (fun k=>((k:Int),o,([]:Bs),unL (fls o (l.take k)))) l.length rfl (fun k hk=>?_) ?_ (by omega)
  ·have hm:=List.getElem_mem hk
   have hfk:=hf _ hm
   have hfl:(unL (fls o (l.take k))).length ≤ 1000000:=by
    rw[un_len]
    have h1:=len_lvs (l:=fls o (l.take k)) fun x hx=>by
     obtain⟨y,hy,hx⟩:=List.mem_flatMap.1 hx
     exact (fl_fm (hf y (List.mem_of_mem_take hy)) hx).1
    rw[fls_lv ho0] at h1
    have h2:=lvs_take_le l k
    omega
   have hel:(fl o l[k]).length ≤ 1000000:=by
    have h1:=len_lvs (l:=fl o l[k]) fun x hx=>(fl_fm hfk hx).1
    rw[fl_lv ho0] at h1
    have h2:=LicT.lv_mem hm
    omega
   have hun:=un_fls o (l.take k) l[k]
   rw[← take_snoc l k hk] at hun
   unfold fl at hun hel
   simp only[ladingref13_joined.b1]
   rw[un_len,ltZ_eq,decide_eq_true (by omega),cond_true,idx_un hk]
   simp only[bind_in,fu1,fu2,fu3,fu4]
   by_cases h:l[k].op = o
   ·rw[if_pos h] at hun hel
    rw[eqZ_eq,decide_eq_true h,cond_true,app_in (by rw[un_len l[k].ar]; omega),hun,bind_in,z64_succ (by omega)]; rfl
   ·rw[if_neg h] at hun hel
    have e2:([(l[k].op,l[k].nm,mkL (unL l[k].ar))]:List GLic) = unL [l[k]]:=by rw[mk_un]; exact un_one _
    rw[eqZ_eq,decide_eq_false h,cond_false]
    show Option.bind (app? (unL (fls o (l.take k))) [(l[k].op,l[k].nm,mkL (unL l[k].ar))]) _ = _
    rw[e2,app_in (by rw[un_len [l[k]]]; simp only[List.length_singleton]; omega),hun,bind_in,z64_succ (by omega)]; rfl
  ·simp only[ladingref13_joined.b1]
   rw[un_len,ltZ_eq,decide_eq_false (by omega),cond_false,List.take_length]
   show some (Sum.inr (o,([]:Bs),mkL (unL (fls o l)))) = _
   rw[mk_un]; rfl
 match l,hl with
 | [e],_ =>
  show _ = some (lt e)
  rw[un_len,eqZ_eq,decide_eq_true (by simp),cond_true]
  have hi:idx (unL [e]) 0 = some (e.op,e.nm,e.ar):=idx_un (l:=[e]) (k:=0) (by simp)
  rw[hi,bind_in]
  show some (e.op,e.nm,mkL (unL e.ar)) = _
  rw[mk_un]; rfl
 | a :: b :: q,_=>exact gen (by simp)
end Go.Proofs.YtcmibmohdnbhgaaGreatDoor
namespace Go.Proofs.YtcmibmohdnbhgaaGreatDoor
open Go.Lad
noncomputable def revB (f:RPar) (s:Bs) (more3:Bool) (p4:Int) (l5:List GLic) (v6:List Bs):Option ((Bool × Int × (List GLic) × List Bs) ⊕ (((List GLic) × Int × List Bs) ⊕ (GLic × Bool × Int × List Bs))) :=
 bif more3 then
 ((f p4 v6).bind fun p7 =>
 bif (!p7.2.1) then
  some (.inr (.inr ((0,([]:Bs),[]),false,p7.2.2.1,p7.2.2.2)))
 else
  ((app? l5 ([(p7.1.1,p7.1.2.1,((p7.1.2.2.map (Uun 2)).map (Umk 2)))]:List GLic)).bind fun l8 =>
  (ladingref13_parser_next s p7.2.2.1 p7.2.2.2).bind fun n9 =>
  some (.inl (n9.1,n9.2.1,l8,n9.2.2))))
 else
 some (.inr (.inl (l5,p4,v6)))
theorem rev_loop {f:RPar} {P:Par} (s:Bs) (T:List Bs) (p:Nat) (hp:p ≤ T.length) (hlen:T.length ≤ 100000) (hg:GoodP P) (hr:∀ q:Nat,p ≤ q → q ≤ T.length → RelR f P T q)
  {body:Bool × Int × List GLic × List Bs → Option ((Bool × Int × (List GLic) × List Bs) ⊕ (((List GLic) × Int × List Bs) ⊕ (GLic × Bool × Int × List Bs)))}
  (hb:∀ x,body x = revB f s x.1 x.2.1 x.2.2.1 x.2.2.2) :
  ∃ b,loopF body (true,(p:Int),[],T) = some b ∧ (∀ l r,sev P s ((T.drop p).length + 1) (T.drop p) = some (l,r) → ∃ p':Nat,p' ≤ T.length ∧ T.drop p' = r ∧ b = .inl (unL l,(p':Int),T)) ∧ (sev P s ((T.drop p).length + 1) (T.drop p) = none → ∃ x i,b = .inr (x,false,i,T)):=by
 generalize hts:T.drop p = ts
 have htl:ts.length = T.length - p:=by rw[← hts,List.length_drop]
 refine loopF_inv (body:=body) (fun j x=>x.2.2.2 = T ∧ ∃ (dn:List LicT) (q:Nat),p ≤ q ∧ q ≤ T.length ∧ x.2.1 = (q:Int) ∧ x.2.2.1 = unL dn ∧ dn.length ≤ j ∧ j + (T.drop q).length ≤ ts.length ∧
  ((x.1 = true ∧ sev P s (ts.length + 1) ts = (sev P s (ts.length + 1 - j) (T.drop q)).map (fun y=>(dn ++ y.1,y.2))) ∨ (x.1 = false ∧ sev P s (ts.length + 1) ts = some (dn,T.drop q)))) (ts.length + 1) ⟨rfl,[],p,Nat.le_refl _,hp,rfl,rfl,by simp,by rw[hts]; omega,.inl ⟨rfl,by rw[hts,Nat.sub_zero]; cases sev P s (ts.length + 1) ts <;> rfl⟩⟩ (fun j hj x hx=>?_) (fun x hx=>?_) (by omega)
 ·obtain⟨more,i,v8,T'⟩:=x
  obtain⟨h0,dn,q,h1,h2,h3,h4,h5,h6,h7⟩:=hx
  simp only at h0 h3 h4 h7
  subst h0 h3 h4
  rw[hb]
  unfold revB
  rcases h7 with⟨rfl,h7⟩ | ⟨rfl,h7⟩
  ·simp only[cond_true]
   have hk:ts.length + 1 - j = (ts.length - j) + 1:=by omega
   rw[hk] at h7
   obtain⟨r1,r2⟩:=hr q h1 h2
   cases hq:P (T'.drop q) with
   | none =>
    obtain⟨x,i,hx⟩:=r2 hq
    rw[hx,bind_in]
    refine .inr ⟨_,rfl,fun l r h=>?_,fun _=>⟨_,_,rfl⟩⟩
    rw[h7,sev_fail hq] at h; cases h
   | some y =>
    obtain⟨e,r⟩:=y
    obtain⟨g1,g2⟩:=hg _ e r hq
    have g3:=lv_one g2
    obtain⟨q',hq',hd,hx⟩:=r1 e r hq
    rw[h7,sev_succ hq]
    have hrl:r.length = T'.length - q':=by rw[← hd,List.length_drop]
    have hql:(T'.drop q).length = T'.length - q:=List.length_drop
    have e2:([(e.op,e.nm,mkL (unL e.ar))]:List GLic) = unL [e]:=by rw[mk_un]; exact un_one e
    have hap:app? (unL dn) [(e.op,e.nm,mkL (unL e.ar))] = some (unL (dn ++ [e])):=by
     rw[e2,app_in (by rw[un_len,un_len]; simp only[List.length_singleton]; omega),un_app]
    rw[hx,bind_in]
    simp only[Bool.not_true,cond_false]
    show (∃ y,Option.bind (app? (unL dn) [(e.op,e.nm,mkL (unL e.ar))]) _ = _ ∧ _) ∨ (∃ y,Option.bind (app? (unL dn) [(e.op,e.nm,mkL (unL e.ar))]) _ = _ ∧ _)
    rw[hap,bind_in]
    rw[next_ok _ _ _ hq' (by omega),bind_in,hd]
    left
    unfold sevK
    cases r with
    | nil=>exact⟨_,rfl,rfl,dn ++ [e],q',by rw[List.length_nil] at hrl; omega,hq',rfl,rfl,by simp; omega,by rw[hd]; simp; omega,.inr ⟨rfl,by rw[hd]⟩⟩
    | cons t r =>
     simp only[List.length_cons] at g1 hrl
     have hlt':q' < T'.length:=by omega
     have hd':=hd
     rw[List.drop_eq_getElem_cons hlt'] at hd'
     have hd2:=(List.cons.inj hd').2
     by_cases ht:t = s
     ·simp only[if_pos ht]
      refine⟨_,rfl,rfl,dn ++ [e],q' + 1,by omega,by omega,rfl,rfl,by simp; omega,by rw[List.length_drop]; omega,.inl ⟨rfl,?_⟩⟩
      rw[hd2]
      congr 2; omega
     ·simp only[if_neg ht]
      exact⟨_,rfl,rfl,dn ++ [e],q',by omega,hq',rfl,rfl,by simp; omega,by rw[List.length_drop]; omega,.inr ⟨rfl,by rw[hd]⟩⟩
  ·simp only[cond_false]
   refine .inr ⟨_,rfl,fun l r h=>?_,fun h=>?_⟩
   ·rw[h7] at h; cases h
    exact⟨q,h2,rfl,rfl⟩
   ·rw[h7] at h; cases h
 ·obtain⟨h0,dn,q,h1,h2,h3,h4,h5,h6,h7⟩:=hx
  omega
theorem rseq_rel {f:RPar} {P:Par} {o:Int} (ho:o = 1 ∨ o = 2) (s:Bs) (T:List Bs) (p:Nat) (hp:p ≤ T.length) (hlen:T.length ≤ 100000) (hg:GoodP P) (hr:∀ q:Nat,p ≤ q → q ≤ T.length → RelR f P T q) {g:RPar}
  (hgd:g p T = (loopF (fun x=>revB f s x.1 x.2.1 x.2.2.1 x.2.2.2) (true,(p:Int),[],T)).bind fun x=>match x with
   | .inl x=>(ladingref13_joined o x.1).bind fun j13=>some ((j13.1,j13.2.1,((j13.2.2.map (Uun 2)).map (Umk 2))),true,x.2.1,x.2.2)
   | .inr r=>some r):RelR g (pSev P o s) T p:=by
 obtain⟨b,hb,h1,h2⟩:=rev_loop s T p hp hlen hg hr (body:=fun x=>revB f s x.1 x.2.1 x.2.2.1 x.2.2.2) (fun x=>rfl)
 unfold RelR
 rw[hgd,hb,bind_in]
 unfold pSev
 cases hs:sev P s ((T.drop p).length + 1) (T.drop p) with
 | none =>
  obtain⟨x,r,rfl⟩:=h2 hs
  exact⟨fun e r h=>(by cases h),fun _=>⟨_,_,rfl⟩⟩
 | some y =>
  obtain⟨l,r⟩:=y
  obtain⟨g1,g2,g3⟩:=sev_good hg _ _ l r hs
  obtain⟨p',hp',hd,rfl⟩:=h1 l r hs
  have hdl:(T.drop p).length = T.length - p:=List.length_drop
  simp only
  rw[joined_ok ho g2 g3 (by omega),bind_in]
  simp only[lt,fx1,fx2,fx3]
  refine⟨fun e r h=>?_,fun h=>(by cases h)⟩
  cases h
  exact⟨p',hp',hd,rfl⟩
theorem ralt_rel:∀ (n:Nat) (T:List Bs) (p:Nat),p ≤ T.length → T.length - p < n → T.length ≤ 100000 → RelR (ladingref13_parser_alternatives.rec n) (pAlt n) T p
 | 0,_,_,_,h,_=>absurd h (by omega)
 | n + 1,T,p,hp,hn,hlen=>by
  show RelR (ladingref13_parser_alternatives.body (ladingref13_parser_alternatives.rec n)) (pSev (pSev (pPart (pAlt n)) 1 andW) 2 orW) T p
  refine rseq_rel (f:=ladingref13_parser_sequence (ladingref13_parser_alternatives.rec n)) (.inr rfl) orW T p hp hlen (pSev_good (.inl rfl) (pPart_good (pAlt_good n))) (fun q hq1 hq2=>?_) rfl
  refine rseq_rel (f:=ladingref13_parser_part (ladingref13_parser_alternatives.rec n)) (.inl rfl) andW T q hq2 hlen (pPart_good (pAlt_good n)) (fun q' hq1' hq2'=>?_) rfl
  exact rpart_rel hq2' (by omega) fun q'' h1 h2=>ralt_rel n T q'' h2 (by omega) hlen
end Go.Proofs.YtcmibmohdnbhgaaGreatDoor
namespace Go.Proofs.YtcmibmohdnbhgaaGreatDoor
open Go.Lad
def pieces:Bs → List Bs
 | []=>[[]]
 | c :: r=>if c = 32 then [] :: pieces r else (c :: (pieces r).headD []) :: (pieces r).tail
theorem pieces_ne (s:Bs):pieces s ≠ []:=by
 cases s with
 | nil=>simp [pieces]
 | cons c r=>unfold pieces; split <;> simp
theorem pieces_split:∀ s:Bs,Lib.split s [32] = pieces s
 | []=>rfl
 | c :: r=>by
  have ih:=pieces_split r
  unfold Lib.split at *
  by_cases h:c = 32
  ·subst h
   have hix:Lib.index ((32:UInt8) :: r) [32] = 0:=by rw[Lib.index]; simp [List.isPrefixOf]
   rw[Lib.count_cons_eq,Nat.add_comm,Lib.splitK,hix]
   show (([]:Bs) :: Lib.splitK [32] 0 (Lib.count r [32]) r) = _
   rw[ih]; simp [pieces]
  ·have hp:([32]:List UInt8).isPrefixOf (c :: r) = false:=by simp [List.isPrefixOf,Ne.symm h]
   have hix:Lib.index (c :: r) [32] = if Lib.index r [32] == -1 then -1 else Lib.index r [32] + 1:=by rw[Lib.index,hp]; simp
   rw[Lib.count_cons_ne c 32 r h]
   have e:pieces (c :: r) = (c :: (pieces r).headD []) :: (pieces r).tail:=by rw[pieces,if_neg h]
   rw[e,← ih]
   cases hn:Lib.count r [32] with
   | zero=>rfl
   | succ k =>
    have hm:¬ Lib.index r [32] = -1:=fun e=>by rw[Lib.count_miss e] at hn; cases hn
    have hge:=Lib.index_ge r [32]
    obtain⟨j,hj⟩:∃ j:Nat,Lib.index r [32] = j:=⟨(Lib.index r [32]).toNat,by omega⟩
    have e1:(Lib.index r [32] == -1) = false:=beq_eq_false_iff_ne.2 hm
    rw[Lib.splitK,Lib.splitK,hix,e1]
    simp only[Bool.false_eq_true,if_false,hj]
    have e2:(((j:Int) + 1) == -1) = false:=beq_eq_false_iff_ne.2 (by omega)
    rw[e2]
    simp only[Bool.false_eq_true,if_false]
    have e3:((j:Int) + 1).toNat = j + 1:=by omega
    have e4:((j:Int)).toNat = j:=by omega
    rw[e3,e4]
    simp
def wd (cur:Bs):List Bs:=if cur = [] then [] else [cur]
def tkz:Bs → Bs → List Bs
 | cur,[]=>wd cur
 | cur,c :: s=>if c = 32 then wd cur ++ tkz [] s else if c = 40 ∨ c = 41 then wd cur ++ [c] :: tkz [] s else tkz (cur ++ [c]) s
def ne (l:List Bs):List Bs:=l.filter fun x=>!decide (x = [])
def pre (cur:Bs) (l:List Bs):List Bs:=(cur ++ l.headD []) :: l.tail
theorem ne_cons (x:Bs) (l:List Bs):ne (x :: l) = wd x ++ ne l:=by
 unfold ne wd
 by_cases h:x = []
 ·rw[if_pos h,List.filter_cons_of_neg (by simp [h])]; rfl
 ·rw[if_neg h,List.filter_cons_of_pos (by simp [h])]; rfl
theorem pre_nil {l:List Bs} (h:l ≠ []):pre [] l = l:=by
 cases l with
 | nil=>exact absurd rfl h
 | cons x r=>rfl
theorem words_eq:∀ (s cur:Bs),ne (pre cur (pieces (s.flatMap rp1))) = tkz cur s
 | [],cur=>by
  show ne [cur ++ []] = _
  rw[ne_cons,List.append_nil]
  show wd cur ++ [] = wd cur
  rw[List.append_nil]
 | c :: s,cur=>by
  have ih:=words_eq s
  have h0:pieces (s.flatMap rp1) ≠ []:=pieces_ne _
  have ih0:ne (pieces (s.flatMap rp1)) = tkz [] s:=by rw[← ih,pre_nil h0]
  rw[List.flatMap_cons]
  unfold tkz
  by_cases h32:c = 32
  ·subst h32
   rw[if_pos rfl]
   show ne (pre cur (pieces (32 :: s.flatMap rp1))) = _
   rw[pieces,if_pos rfl]
   show ne ((cur ++ []) :: pieces (s.flatMap rp1)) = _
   rw[ne_cons,ih0,List.append_nil]
  ·rw[if_neg h32]
   by_cases hp:c = 40 ∨ c = 41
   ·rw[if_pos hp]
    have hr:rp1 c = [32,c,32]:=by rcases hp with rfl | rfl <;> rfl
    rw[hr]
    show ne (pre cur (pieces (32 :: c :: 32 :: s.flatMap rp1))) = _
    rw[pieces,if_pos rfl,pieces,if_neg h32,pieces,if_pos rfl]
    show ne ((cur ++ []) :: [c] :: pieces (s.flatMap rp1)) = _
    rw[ne_cons,ne_cons,ih0,List.append_nil]
    rfl
   ·rw[if_neg hp]
    have hr:rp1 c = [c]:=by
     unfold rp1
     have h1:Nat.beq c.toNat 40 = false:=by rw[← Bool.not_eq_true]; intro h; exact hp (.inl (UInt8.toNat_inj.1 (Nat.eq_of_beq_eq_true h)))
     have h2:Nat.beq c.toNat 41 = false:=by rw[← Bool.not_eq_true]; intro h; exact hp (.inr (UInt8.toNat_inj.1 (Nat.eq_of_beq_eq_true h)))
     rw[h1,h2]; rfl
    rw[hr,← ih]
    show ne (pre cur (pieces (c :: s.flatMap rp1))) = _
    rw[pieces,if_neg h32]
    unfold pre
    simp [List.append_assoc]
theorem rpw_len (s:Bs):(s.flatMap rp1).length ≤ 3 * s.length:=by
 induction s with
 | nil=>simp
 | cons c s ih =>
  rw[List.flatMap_cons,List.length_append,List.length_cons]
  have:(rp1 c).length ≤ 3:=by
   unfold rp1
   cases Nat.beq c.toNat 40 <;> cases Nat.beq c.toNat 41 <;> simp
  omega
theorem pieces_len:∀ s:Bs,(pieces s).length ≤ s.length + 1
 | []=>by simp [pieces]
 | c :: r=>by
  have:=pieces_len r
  unfold pieces
  split
  ·simp; omega
  ·simp; omega
theorem drop_loop (l:List Bs) (hl:l.length ≤ 1000000):loopF (fun x=>licence_Parse.b1 l x.1 x.2) (0,[]) = some (ne l):=by
 refine loopF_at (body:=fun x=>licence_Parse.b1 l x.1 x.2) (fun k=>((k:Int),ne (l.take k))) l.length rfl (fun k hk=>?_) ?_ (by omega)
 ·have hnl:(ne (l.take k)).length ≤ l.length:=by
   unfold ne
   refine Nat.le_trans (List.length_filter_le _ _) ?_
   rw[List.length_take]; omega
  simp only[licence_Parse.b1]
  rw[ltZ_eq,decide_eq_true (by omega),cond_true,idx_nat hk,bind_in,take_snoc l k hk]
  have e:ne (l.take k ++ [l[k]]) = ne (l.take k) ++ wd l[k]:=by
   unfold ne wd
   rw[List.filter_append]
   by_cases h:l[k] = []
   ·rw[if_pos h]; simp [h]
   ·rw[if_neg h]; simp [h]
  rw[e,z64_succ (by omega)]
  unfold wd
  by_cases h:l[k] = []
  ·rw[decide_eq_true h,if_pos h,Bool.not_true,cond_false,bind_in,List.append_nil]
  ·rw[decide_eq_false h,if_neg h,Bool.not_false,cond_true,app_in (by simp only[List.length_singleton]; omega),bind_in,bind_in]
 ·simp only[licence_Parse.b1]
  rw[ltZ_eq,decide_eq_false (by omega),cond_false,List.take_length]
theorem code_words (s:Bs) (hs:s.length ≤ 1000):((strings_NewReplacer ([([40]:Bs),([32,40,32]:Bs),([41]:Bs),([32,41,32]:Bs)]:List Bs)).bind fun n2 =>
 (strings_Replacer_Replace s n2.1 n2.2.1 n2.2.2.1 n2.2.2.2).bind fun r3 =>
 (strings_Split r3 ([32]:Bs)).bind fun s4 =>
 loopF (fun x=>licence_Parse.b1 s4 x.1 x.2) (0,[])) = some (tkz [] s):=by
 have h1:strings_NewReplacer ([([40]:Bs),([32,40,32]:Bs),([41]:Bs),([32,41,32]:Bs)]:List Bs) = some (0,0,0,rpl):=rfl
 have h2:strings_Replacer_Replace s 0 0 0 rpl = some (s.flatMap rp1):=by
  unfold strings_Replacer_Replace replF
  rw[decide_eq_true (by simp),show Nat.ble s.length 1000000 = true by rw[Nat.ble_eq]; omega]; rfl
 have hl:=rpw_len s
 have h3:strings_Split (s.flatMap rp1) [32] = some (pieces (s.flatMap rp1)):=by
  unfold strings_Split splitF
  rw[show Nat.ble (s.flatMap rp1).length 1000000000 = true by rw[Nat.ble_eq]; omega,pieces_split]; rfl
 rw[h1,bind_in]
 simp only
 rw[h2,bind_in,h3,bind_in,drop_loop _ (by have:=pieces_len (s.flatMap rp1); omega),← words_eq,pre_nil (pieces_ne _)]
theorem tkz_len:∀ (s cur:Bs),(tkz cur s).length ≤ s.length * 2 + 1
 | [],cur=>by unfold tkz wd; split <;> simp
 | c :: s,cur=>by
  have h1:=tkz_len s []
  have h2:=tkz_len s (cur ++ [c])
  have h3:(wd cur).length ≤ 1:=by unfold wd; split <;> simp
  unfold tkz
  rw[List.length_cons]
  split
  ·rw[List.length_append]; omega
  ·split
   ·rw[List.length_append,List.length_cons]; omega
   ·omega
end Go.Proofs.YtcmibmohdnbhgaaGreatDoor
namespace Go.Proofs.YtcmibmohdnbhgaaGreatDoor
open Go.Lad
def isW (c:UInt8):Bool := !decide (c = 32) && (!decide (c = 40) && !decide (c = 41))
theorem byte_eq (c:UInt8) (n:Nat) (hn:n < 256):eqZ (c.toNat:Int) (n:Int) = decide (c = UInt8.ofNat n):=by
 rw[eqZ_eq,decide_eq_decide]
 constructor
 ·intro h
  apply UInt8.toNat_inj.1
  rw[UInt8.toNat_ofNat_of_lt' hn]
  omega
 ·rintro rfl
  rw[UInt8.toNat_ofNat_of_lt' hn]
theorem tkz_word:∀ (u cur v:Bs),(∀ c ∈ u,isW c = true) → tkz cur (u ++ v) = tkz (cur ++ u) v
 | [],cur,v,_=>by rw[List.nil_append,List.append_nil]
 | c :: u,cur,v,h=>by
  have hc:=h c (by simp)
  unfold isW at hc
  simp only[Bool.and_eq_true,Bool.not_eq_true',decide_eq_false_iff_not] at hc
  rw[List.cons_append]
  show (if c = 32 then _ else if c = 40 ∨ c = 41 then _ else tkz (cur ++ [c]) (u ++ v)) = _
  rw[if_neg hc.1,if_neg (fun hh=>hh.elim (fun e=>hc.2.1 e) (fun e=>hc.2.2 e)),tkz_word u _ v fun x hx=>h x (by simp [hx]),List.append_assoc]
  rfl
theorem tkz_stop {v:Bs} (cur:Bs) (h:∀ c r,v = c :: r → isW c = false):tkz cur v = wd cur ++ tkz [] v:=by
 cases v with
 | nil =>
  show wd cur = wd cur ++ wd []
  unfold wd; simp
 | cons c r =>
  have hc:=h c r rfl
  have hw:wd [] = []:=rfl
  unfold tkz
  by_cases h32:c = 32
  ·rw[if_pos h32,if_pos h32,hw]; rfl
  ·by_cases hp:c = 40 ∨ c = 41
   ·rw[if_neg h32,if_pos hp,if_neg h32,if_pos hp,hw]; rfl
   ·unfold isW at hc
    rw[decide_eq_false h32,decide_eq_false (fun e=>hp (.inl e)),decide_eq_false (fun e=>hp (.inr e))] at hc
    cases hc
theorem word_loop (s:Bs) (i:Nat) (out:List Bs) (hi:i < s.length) (hs:s.length ≤ 1000000) (ho:out.length ≤ 1000000) (hw:isW s[i] = true) :
  ∃ k,i < k ∧ k ≤ s.length ∧ loopF (fun x=>ladingref13_tokens.b1 s (i:Int) out x) (i:Int) = some (.inl ((k:Int),out ++ [(s.take k).drop i])) ∧ tkz [] (s.drop i) = (s.take k).drop i :: tkz [] (s.drop k):=by
 obtain⟨b,hb,k,h1,h2,h3,h4⟩:=loopF_inv (body:=fun x=>ladingref13_tokens.b1 s (i:Int) out x) (fun j x=>x = ((i + j:Nat):Int) ∧ i + j ≤ s.length ∧ ∀ c ∈ (s.take (i + j)).drop i,isW c = true)
  (Q:=fun b=>∃ k,i ≤ k ∧ k ≤ s.length ∧ (∀ c ∈ (s.take k).drop i,isW c = true) ∧ ((∀ h:k < s.length,isW s[k] = false) ∧ b = .inl ((k:Int),out ++ [(s.take k).drop i]))) (s.length - i) (x:=(i:Int)) ⟨rfl,by omega,by rw[Nat.add_zero,List.drop_eq_nil_of_le (by rw[List.length_take]; omega)]; simp⟩ (fun j hj x hx=>by
  obtain⟨rfl,h1,h2⟩:=hx
  have hk:i + j < s.length:=by omega
  have e1:eqZ (s[i + j].toNat:Int) 32 = decide (s[i + j] = 32):=byte_eq _ 32 (by omega)
  have e2:eqZ (s[i + j].toNat:Int) 40 = decide (s[i + j] = 40):=byte_eq _ 40 (by omega)
  have e3:eqZ (s[i + j].toNat:Int) 41 = decide (s[i + j] = 41):=byte_eq _ 41 (by omega)
  have hv:(bif (ltZ ((i + j:Nat):Int) (s.length:Int)) then ((bAt s ((i + j:Nat):Int)).bind fun c12=>bif (!eqZ c12 32) then ((bAt s ((i + j:Nat):Int)).bind fun c13=>bif (!eqZ c13 40) then ((bAt s ((i + j:Nat):Int)).bind fun c14=>some (!eqZ c14 41)) else some false) else some false) else some false) = some (isW s[i + j]):=by
   rw[ltZ_eq,decide_eq_true (by omega),cond_true,bAt_in hk]
   simp only[bind_in,e1,e2,e3]
   unfold isW
   cases decide (s[i + j] = 32) <;> cases decide (s[i + j] = 40) <;> cases decide (s[i + j] = 41) <;> rfl
  simp only[ladingref13_tokens.b1]
  rw[hv,bind_in]
  unfold ladingref13_tokens.j1
  cases hc:isW s[i + j] with
  | true =>
   rw[cond_true,z64_succ (by omega),bind_in]
   refine .inl ⟨_,rfl,rfl,by omega,fun c hcm=>?_⟩
   rw[show i + (j + 1) = i + j + 1 by omega,take_snoc s _ hk,List.drop_append_of_le_length (by rw[List.length_take]; omega)] at hcm
   rcases List.mem_append.1 hcm with h | h
   ·exact h2 c h
   ·rw[List.mem_singleton.1 h]; exact hc
  | false =>
   rw[cond_false,cut_in (by omega) (by omega) (by omega),bind_in,app_in (by simp only[List.length_singleton]; omega),bind_in]
   exact .inr ⟨_,rfl,i + j,by omega,by omega,h2,fun _=>hc,rfl⟩) (fun x hx=>by
  obtain⟨rfl,h1,h2⟩:=hx
  have e:i + (s.length - i) = s.length:=by omega
  rw[e] at h2 ⊢
  simp only[ladingref13_tokens.b1]
  rw[ltZ_eq,decide_eq_false (by omega),cond_false,bind_in]
  unfold ladingref13_tokens.j1
  rw[cond_false,cut_in (by omega) (by omega) (by omega),bind_in,app_in (by simp only[List.length_singleton]; omega),bind_in]
  exact⟨_,rfl,s.length,by omega,by omega,h2,fun h=>absurd h (by omega),rfl⟩) (by omega)
 obtain⟨h5,rfl⟩:=h4
 have hik:i < k:=by
  refine Classical.byContradiction fun hn=>?_
  have:k = i:=by omega
  subst this
  rw[h5 hi] at hw; cases hw
 refine⟨k,hik,h2,hb,?_⟩
 have e1:s.drop i = (s.take k).drop i ++ s.drop k:=by
  rw[← List.drop_append_of_le_length (by rw[List.length_take]; omega),List.take_append_drop]
 rw[e1,tkz_word _ _ _ h3,List.nil_append,tkz_stop _ (fun c r hcr=>by
  have hlt:k < s.length:=by
   refine Classical.byContradiction fun hn=>?_
   rw[List.drop_eq_nil_of_le (by omega)] at hcr; cases hcr
  rw[List.drop_eq_getElem_cons hlt] at hcr
  rw[← (List.cons.inj hcr).1]; exact h5 hlt)]
 have hne:(s.take k).drop i ≠ []:=by
  intro h
  have:((s.take k).drop i).length = 0:=by rw[h]; rfl
  rw[List.length_drop,List.length_take] at this
  omega
 unfold wd
 rw[if_neg hne]; rfl
theorem ref_words (s:Bs) (hs:s.length ≤ 1000):ladingref13_tokens s = some (tkz [] s):=by
 unfold ladingref13_tokens
 obtain⟨b,hb,rfl⟩:=loopF_inv (body:=fun x=>ladingref13_tokens.b2 s x.1 x.2) (fun j x=>∃ i:Nat,x.1 = (i:Int) ∧ i ≤ s.length ∧ j ≤ i ∧ x.2.length ≤ i ∧ x.2 ++ tkz [] (s.drop i) = tkz [] s) (Q:=fun b=>b = tkz [] s) (s.length + 1) (x:=(0,[])) ⟨0,rfl,by omega,by omega,by simp,by simp⟩ (fun j hj x hx=>by
  obtain⟨x1,out⟩:=x
  obtain⟨i,h1,h2,h3,h4,h5⟩:=hx
  simp only at h1 h4 h5
  subst h1
  simp only[ladingref13_tokens.b2]
  by_cases hlt:i < s.length
  ·have e1:eqZ (s[i].toNat:Int) 32 = decide (s[i] = 32):=byte_eq _ 32 (by omega)
   have e2:eqZ (s[i].toNat:Int) 40 = decide (s[i] = 40):=byte_eq _ 40 (by omega)
   have e3:eqZ (s[i].toNat:Int) 41 = decide (s[i] = 41):=byte_eq _ 41 (by omega)
   rw[ltZ_eq,decide_eq_true (by omega),cond_true,bAt_in hlt,bind_in,e1,e2,e3,z64_succ (by omega)]
   left
   rw[List.drop_eq_getElem_cons hlt] at h5
   by_cases h32:s[i] = 32
   ·rw[decide_eq_true h32,cond_true,bind_in]
    refine⟨_,rfl,i + 1,rfl,by omega,by omega,by simp only; omega,?_⟩
    simp only
    rw[← h5,tkz,if_pos h32]; rfl
   ·rw[decide_eq_false h32,cond_false]
    have hv:(bif decide (s[i] = 40) then some (decide (s[i] = 40)) else some (decide (s[i] = 41))) = some (decide (s[i] = 40 ∨ s[i] = 41)):=by
     by_cases h:s[i] = 40
     ·rw[decide_eq_true h,cond_true,decide_eq_true (.inl h)]
     ·rw[decide_eq_false h,cond_false]
      by_cases h':s[i] = 41
      ·rw[decide_eq_true h',decide_eq_true (.inr h')]
      ·rw[decide_eq_false h',decide_eq_false (fun hh=>hh.elim (fun e=>h e) (fun e=>h' e))]
    rw[hv,bind_in]
    unfold ladingref13_tokens.j2
    by_cases hp:s[i] = 40 ∨ s[i] = 41
    ·rw[decide_eq_true hp,cond_true,z64_succ (by omega),bind_in,cut_in (by omega) (by omega) (by omega),bind_in]
     have e4:(s.take ((i + 1:Nat):Int).toNat).drop ((i:Nat):Int).toNat = [s[i]]:=by
      show (s.take (i + 1)).drop i = _
      rw[take_snoc s i hlt,List.drop_append_of_le_length (by rw[List.length_take]; omega),List.drop_eq_nil_of_le (by rw[List.length_take]; omega)]
      rfl
     rw[e4,app_in (by simp only[List.length_singleton]; omega),bind_in,bind_in]
     refine⟨_,rfl,i + 1,rfl,by omega,by omega,by simp; omega,?_⟩
     simp only
     rw[← h5,tkz,if_neg h32,if_pos hp,List.append_assoc]; rfl
    ·rw[decide_eq_false hp,cond_false]
     have hw:isW s[i] = true:=by
      unfold isW
      rw[decide_eq_false h32,decide_eq_false (fun e=>hp (.inl e)),decide_eq_false (fun e=>hp (.inr e))]; rfl
     obtain⟨k,k1,k2,k3,k4⟩:=word_loop s i out hlt (by omega) (by omega) hw
     rw[k3]
     refine⟨_,rfl,k,rfl,k2,by omega,by simp; omega,?_⟩
     simp only
     rw[← h5,← List.drop_eq_getElem_cons hlt,k4,List.append_assoc]; rfl
  ·rw[ltZ_eq,decide_eq_false (by omega),cond_false]
   right
   refine⟨_,rfl,?_⟩
   rw[List.drop_eq_nil_of_le (by omega)] at h5
   rw[← h5]
   show out = out ++ wd []
   exact (List.append_nil _).symm) (fun x hx=>by
  obtain⟨i,h1,h2,h3,_⟩:=hx
  omega) (by omega)
 exact hb
end Go.Proofs.YtcmibmohdnbhgaaGreatDoor
namespace Go.Proofs.YtcmibmohdnbhgaaGreatDoor
open Go.Lad
theorem szs_lvs {l:List LicT} (h:∀ x ∈ l,x.sz + 1 ≤ 2 * x.lv):LicT.szs l + l.length ≤ 2 * LicT.lvs l:=by
 induction l with
 | nil=>rw[LicT.szs,LicT.lvs]; exact Nat.le_refl _
 | cons x r ih =>
  have h1:=h x (by simp)
  have h2:=ih fun y hy=>h y (by simp [hy])
  rw[LicT.szs,LicT.lvs,List.length_cons]; omega
theorem sz_lv:∀ e:LicT,e.fm = true → e.sz + 1 ≤ 2 * e.lv:=by
 intro e
 induction e using LicT.ind with
 | h e ih =>
  intro hf
  rw[LicT.sz_ar,LicT.lv_eq]
  by_cases h0:e.op = 0
  ·have har:e.ar = []:=by
    rw[LicT.fm_eq,if_pos h0,Bool.and_eq_true] at hf
    simpa using hf.2
   rw[if_pos h0,har,LicT.szs]; exact Nat.le_refl _
  ·rw[if_neg h0]
   have h2:=(fm_two hf h0).1
   have h3:=szs_lvs fun x hx=>ih x hx (fm_ar hf hx).1
   omega
def nilE:LicT := .mk 0 [] []
def parseW (ts:List Bs):LicT × Int:=match pAlt bigFuel.n ts with
 | some (e,[])=>if e.lv ≤ 16 then (e,0) else (nilE,6)
 | _=>(nilE,2)
def parseF (s:Bs):LicT × Int:=if 1000 < s.length then (nilE,6) else parseW (tkz [] s)
theorem j2_ok (ts:List Bs) (hl:ts.length ≤ 3000):licence_Parse.j2 ts = some (lt (parseW ts).1,(parseW ts).2):=by
 unfold licence_Parse.j2 licence_parser_alternatives
 obtain⟨h1,h2⟩:=alternatives_rel bigFuel.n ts (fuel_big (by omega)) (by omega)
 unfold parseW
 cases hp:pAlt bigFuel.n ts with
 | none =>
  obtain⟨x,r,hx⟩:=h2 hp
  show Option.bind (licence_parser_alternatives.rec bigFuel.n ts) _ = _
  rw[hx]; rfl
 | some y =>
  obtain⟨e,r⟩:=y
  obtain⟨g1,g2⟩:=pAlt_good bigFuel.n ts e r hp
  show Option.bind (licence_parser_alternatives.rec bigFuel.n ts) _ = _
  rw[h1 e r hp,bind_in]
  simp only[Bool.not_true,cond_false,bind_in]
  unfold licence_Parse.j1
  cases r with
  | cons t r =>
   rw[ltZ_eq,decide_eq_true (by simp),cond_true]; rfl
  | nil =>
   have hsz:=sz_lv e g2
   simp only[lt,fu1,fu2,fu3,fu4]
   rw[ltZ_eq,decide_eq_false (by simp),cond_false,right_ok e (by omega),bind_in]
   unfold LicT.rt
   rw[g2,Bool.true_and,bleN]
   by_cases h16:e.lv ≤ 16
   ·rw[decide_eq_true h16,Bool.not_true,cond_false,if_pos h16]
    show some ((e.op,e.nm,mkL (unL e.ar)),(0:Int)) = _
    rw[mk_un]
   ·rw[decide_eq_false h16,Bool.not_false,cond_true,if_neg h16]; rfl
theorem parse_ok (s:Bs):licence_Parse s = some (lt (parseF s).1,(parseF s).2):=by
 unfold licence_Parse parseF
 by_cases h:1000 < s.length
 ·rw[ltZ_eq,decide_eq_true (by omega),cond_true,if_pos h]; rfl
 ·rw[ltZ_eq,decide_eq_false (by omega),cond_false,if_neg h,code_words s (by omega),bind_in]
  have:=tkz_len s []
  exact j2_ok _ (by omega)
theorem rparse_ok (s:Bs):ladingref13_Parse s = some (lt (parseF s).1,(parseF s).2):=by
 unfold ladingref13_Parse parseF
 by_cases h:1000 < s.length
 ·rw[ltZ_eq,decide_eq_true (by omega),cond_true,if_pos h]; rfl
 ·rw[ltZ_eq,decide_eq_false (by omega),cond_false,if_neg h,ref_words s (by omega),bind_in]
  have htl:=tkz_len s []
  generalize tkz [] s = ts at *
  unfold ladingref13_parser_alternatives
  obtain⟨h1,h2⟩:=ralt_rel bigFuel.n ts 0 (by omega) (fuel_big (by omega)) (by omega)
  rw[List.drop_zero] at h1 h2
  unfold parseW
  cases hp:pAlt bigFuel.n ts with
  | none =>
   obtain⟨x,i,hx⟩:=h2 hp
   show Option.bind (ladingref13_parser_alternatives.rec bigFuel.n 0 ts) _ = _
   have hx:ladingref13_parser_alternatives.rec bigFuel.n 0 ts = some (x,false,i,ts):=hx
   rw[hx]; rfl
  | some y =>
   obtain⟨e,r⟩:=y
   obtain⟨g1,g2⟩:=pAlt_good bigFuel.n ts e r hp
   obtain⟨p',hp',hd,hx⟩:=h1 e r hp
   have hx:ladingref13_parser_alternatives.rec bigFuel.n 0 ts = some (lt e,true,(p':Int),ts):=hx
   have hrl:r.length = ts.length - p':=by rw[← hd,List.length_drop]
   show Option.bind (ladingref13_parser_alternatives.rec bigFuel.n 0 ts) _ = _
   rw[hx,bind_in]
   simp only[Bool.not_true,cond_false,bind_in]
   unfold ladingref13_Parse.j1
   cases r with
   | cons t r =>
    rw[List.length_cons] at hrl
    rw[ltZ_eq,decide_eq_true (by omega),cond_true]; rfl
   | nil =>
    rw[List.length_nil] at hrl
    have hsz:=sz_lv e g2
    obtain⟨z,hz,hz0,hz16⟩:=leaves_ok e (by omega)
    simp only[lt,fu1,fu2,fu3,fu4]
    rw[ltZ_eq,decide_eq_false (by omega),cond_false,hz,bind_in,ltZ_eq]
    by_cases h16:e.lv ≤ 16
    ·have:=hz16.2 h16
     rw[decide_eq_false (by omega),cond_false,if_pos h16]
     show some ((e.op,e.nm,mkL (unL e.ar)),(0:Int)) = _
     rw[mk_un]
    ·have:¬ z ≤ 16:=fun h=>h16 (hz16.1 h)
     rw[decide_eq_true (by omega),cond_true,if_neg h16]; rfl
end Go.Proofs.YtcmibmohdnbhgaaGreatDoor
namespace Go.Proofs.YtcmibmohdnbhgaaGreatDoor
open Go.Lad
theorem nil_sz:nilE.sz = 1:=by unfold nilE; rw[LicT.sz,LicT.szs]
theorem parseW_sz (ts:List Bs):(parseW ts).1.sz ≤ 40:=by
 unfold parseW
 split
 ·rename_i e h
  obtain⟨g1,g2⟩:=pAlt_good bigFuel.n ts e [] h
  have:=sz_lv e g2
  split
  ·show e.sz ≤ 40
   omega
  ·rw[nil_sz]; omega
 ·rw[nil_sz]; omega
theorem parse_sz (s:Bs):(parseF s).1.sz ≤ 40:=by
 unfold parseF
 split
 ·rw[nil_sz]; omega
 ·exact parseW_sz _
theorem same_self (a:LicT) (hz:a.sz ≤ 1000000000):ladingref13_Same a.op a.nm (unL a.ar) a.op a.nm (unL a.ar) = some true:=by
 obtain⟨r,hr,hq⟩:=same_ok a a hz
 rw[hr,hq.2 rfl]
theorem law_tells (hs:ladinglaw13_small = some true) (a b:LicT) (s:Bs) (al:List Bs):ladinglaw13_LicenceTells (lt a) (lt b) s al = some true:=by
 unfold ladinglaw13_LicenceTells
 rw[hs,bind_in]
 simp only[lt,fu1,fu2,fu3,fu4]
 obtain⟨la,hla,hza⟩:=light_ok a
 obtain⟨lb,hlb,hzb⟩:=light_ok b
 obtain⟨ll,hll,hzl⟩:=short_ok al
 rw[hla,hlb,hll]
 simp only[bind_in]
 cases la with
 | false=>rfl
 | true =>
 cases lb with
 | false=>rfl
 | true =>
 cases hlong:ltZ 1500 (s.length:Int) with
 | true=>rfl
 | false =>
 cases ll with
 | false=>rfl
 | true =>
 have hza:=hza rfl
 have hzb:=hzb rfl
 have hzl:=hzl rfl
 simp only[Bool.not_true,cond_false,bind_in]
 unfold ladinglaw13_LicenceTells.j2
 simp only[cond_false,fu1,fu2,fu3,fu4]
 rw[parse_ok,rparse_ok,print_ok a (by omega),rprint_ok a (by omega)]
 simp only[bind_in,lt,fu1,fu2,fu3,fu4]
 have hps:=parse_sz s
 have e0:∀ z:Int,eqZ z z = true:=fun z=>by rw[eqZ_eq]; simp
 rw[same_self _ (by omega),right_ok a (by omega),rright_ok a (by omega),permits_ok a al (by omega) (by omega),rpermits_ok a al (by omega) (by omega)]
 simp only[bind_in,e0,Bool.not_true,cond_false,decide_true,beq_self_eq_true]
 unfold ladinglaw13_LicenceTells.j1
 simp only[cond_false,fu1,fu2,fu3,fu4]
 obtain⟨l,n1,n2,n3,n4⟩:=normal_ok a (by omega)
 obtain⟨r,i1,i2,i3,i4⟩:=implies_ok a b (by omega) (by omega)
 have hll:l.length ≤ 65536 ∧ ∀ x ∈ l,x.length ≤ 16:=by
  cases h:a.rt with
  | false=>rw[n4 h]; simp
  | true =>
   have h3:=n3 h
   have hlv:a.lv ≤ 16:=by unfold LicT.rt at h; rw[Bool.and_eq_true,Nat.ble_eq] at h; exact h.2
   exact⟨Nat.le_trans h3.2.2.1 (pow16 hlv),fun x hx=>by have:=h3.2.2.2 x hx; omega⟩
 have hrl:r.2.1.length ≤ 16:=by
  cases h:a.rt && b.rt with
  | false=>rw[i3 h]; simp
  | true =>
   rw[Bool.and_eq_true] at h
   obtain⟨L,a1,a2,a3⟩:=sets_ok a h.1 (by omega)
   rw[i4 L h.1 h.2 a1]
   unfold impl
   cases hf:L.find? (fun s=>!b.hd s) with
   | none=>simp
   | some t =>
    have h1:=h.1
    have hlv:a.lv ≤ 16:=by unfold LicT.rt at h1; rw[Bool.and_eq_true,Nat.ble_eq] at h1; exact h1.2
    have:=a3.2.2.2 t (List.mem_of_find?_eq_some hf)
    show t.length ≤ 16
    omega
 rw[n1,n2,i1,i2]
 simp only[bind_in,e0,cond_true,beq_self_eq_true]
 rw[sameSets_ok l l (by omega) (fun x hx=>by have:=hll.2 x hx; omega),sameNames_ok r.2.1 r.2.1 (by omega),names_ok a (by omega),rnames_ok a (by omega)]
 simp only[bind_in,cond_true,decide_true]
 have hnl:(if a.rt = true then srt a.nl else []).length ≤ 60:=by
  split
  ·have:=srt_len a.nl; have:=a.nl_len; omega
  ·simp
 rw[sameNames_ok _ _ (by omega),decide_eq_true rfl]; rfl
end Go.Proofs.YtcmibmohdnbhgaaGreatDoor
namespace Go.Proofs.YtcmibmohdnbhgaaGreatDoor
open Go.Lad
abbrev mitE:LicT := .mk 0 [109,105,116] []
abbrev bsdE:LicT := .mk 0 [98,115,100] []
abbrev gplE:LicT := .mk 0 [103,112,108,45,50,46,48] []
abbrev orE:LicT := .mk 2 [] [mitE,bsdE]
abbrev allE:LicT := .mk 1 [] [orE,gplE]
theorem small_p1:parseF [40,109,105,116,32,111,114,40,98,115,100,41,41,97,110,100,32,103,112,108,45,50,46,48] = (allE,0):=by kernel_rfl
theorem small_p4:parseF [109,105,116] = (mitE,0):=by kernel_rfl
theorem small_p5:parseF [109,105,116,32,111,114,32,98,115,100] = (orE,0):=by kernel_rfl
theorem small_sz:allE.sz ≤ 60 ∧ orE.sz ≤ 60 ∧ mitE.sz ≤ 60:=by
 refine⟨Nat.le_of_ble_eq_true ?_,Nat.le_of_ble_eq_true ?_,Nat.le_of_ble_eq_true ?_⟩ <;> kernel_rfl
theorem small_pr:printF allE = ([40,109,105,116,32,111,114,32,98,115,100,41,32,97,110,100,32,103,112,108,45,50,46,48],0):=by kernel_rfl
theorem small_nr:ladingref13_Normal allE.op allE.nm (unL allE.ar) = some ([[[98,115,100],[103,112,108,45,50,46,48]],[[103,112,108,45,50,46,48],[109,105,116]]],0):=by kernel_rfl
theorem small_i1:ladingref13_Implies mitE.op mitE.nm (unL mitE.ar) orE.op orE.nm (unL orE.ar) = some (true,[],0):=by kernel_rfl
theorem small_i2:ladingref13_Implies orE.op orE.nm (unL orE.ar) mitE.op mitE.nm (unL mitE.ar) = some (false,[[98,115,100]],0):=by kernel_rfl
theorem small_ok:ladinglaw13_small = some true:=by
 obtain⟨z1,z2,z3⟩:=small_sz
 obtain⟨l,n1,n2,_,_⟩:=normal_ok allE (by omega)
 rw[small_nr] at n2
 obtain⟨r,i1,i2,_,_⟩:=implies_ok mitE orE (by omega) (by omega)
 rw[small_i1] at i2
 obtain⟨r',j1,j2,_,_⟩:=implies_ok orE mitE (by omega) (by omega)
 rw[small_i2] at j2
 unfold ladinglaw13_small
 rw[parse_ok,small_p1,bind_in]
 simp only[lt,fu1,fu2,fu3,fu4]
 rw[print_ok allE (by omega),bind_in,n1,← n2,bind_in,parse_ok,small_p4,bind_in,parse_ok,small_p5,bind_in]
 simp only[lt,fu1,fu2,fu3,fu4]
 rw[i1,← i2,bind_in,j1,← j2,bind_in,small_pr]
 have e0:∀ z:Int,eqZ z z = true:=fun z=>by rw[eqZ_eq]; simp
 simp only[e0,cond_true,decide_true]
 rw[sameSets_ok _ _ (by simp) (by simp),decide_eq_true rfl]
 simp only[bind_in]
 unfold ladinglaw13_small.j1
 simp only[cond_true,e0,Bool.not_false,fu1,fu2,fu3,fu4]
 rw[sameNames_ok _ _ (by simp),decide_eq_true rfl]
 simp only[bind_in,cond_true]
 rw[permits_ok orE _ (by omega) (by simp),bind_in]
 have h1:(orE.rt && orE.hd [[98,115,100]]) = true:=by kernel_rfl
 rw[h1,cond_true]
 have h2:licence_Right_v2 (1,([]:Bs),[]) = some false:=by kernel_rfl
 rw[h2]; rfl
end Go.Proofs.YtcmibmohdnbhgaaGreatDoor
namespace Go.Lad
def jw (s:Bs):List (List Bs) → List Bs
 | []=>[]
 | [x]=>x
 | x :: r=>x ++ s :: jw s r
mutual
def LicT.tk:LicT → List Bs
 | .mk o n l=>if o = 0 then [n] else jw (if o = 1 then andW else orW) (LicT.tks l)
def LicT.tks:List LicT → List (List Bs)
 | []=>[]
 | x :: r=>(if x.op = 2 then opW :: (x.tk ++ [clW]) else x.tk) :: LicT.tks r
end
end Go.Lad
namespace Go.Proofs.YtcmibmohdnbhgaaGreatDoor
open Go.Lad
end Go.Proofs.YtcmibmohdnbhgaaGreatDoor
namespace Go.Proofs.YtcmibmohdnbhgaaGreatDoor
open Go.Lad
end Go.Proofs.YtcmibmohdnbhgaaGreatDoor
namespace Go.Proofs.YtcmibmohdnbhgaaGreatDoor
open Go.Lad
end Go.Proofs.YtcmibmohdnbhgaaGreatDoor
namespace Go.Proofs.YtcmibmohdnbhgaaGreatDoor
open Go.Lad
def unlt (x:GLic):LicT := .mk x.1 x.2.1 x.2.2
theorem tells_true (a b:GLic) (s:Bs) (al:List Bs):ladinglaw13_LicenceTells a b s al = some true:=law_tells small_ok (unlt a) (unlt b) s al
theorem normal_true (a:GLic) (more:List Bs):ladinglaw13_LicenceNormal a more = some true:=law_normal small_ok (unlt a) more
theorem implies_true (a b c:GLic):ladinglaw13_LicenceImplies a b c = some true:=law_implies small_ok (unlt a) (unlt b) (unlt c)
end Go.Proofs.YtcmibmohdnbhgaaGreatDoor
