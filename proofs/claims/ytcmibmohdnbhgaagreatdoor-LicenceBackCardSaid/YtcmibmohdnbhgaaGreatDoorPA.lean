import Derived.Test.YtcmibmohdnbhgaaGreatDoorWModel
import Derived.Test.YtcmibmohdnbhgaaGreatDoorDPl
import Derived.Test.YtcmibmohdnbhgaaGreatDoorLs
import Derived.Test.YtcmibmohdnbhgaaGreatDoorEL
import Derived.Sort.Walk0
set_option linter.unusedVariables false
set_option linter.unusedSimpArgs false
set_option linter.unusedSectionVars false
namespace Go.Lad
def LicT.op:LicT → Int
 | .mk o _ _=>o
def LicT.nm:LicT → Bs
 | .mk _ n _=>n
def LicT.ar:LicT → List LicT
 | .mk _ _ l=>l
theorem LicT.eta (f:LicT):LicT.mk f.op f.nm f.ar = f:=by cases f; rfl
mutual
def LicT.sz:LicT → Nat
 | .mk _ _ l=>LicT.szs l + 1
def LicT.szs:List LicT → Nat
 | []=>0
 | x :: r=>x.sz + LicT.szs r
end
theorem LicT.sz_ar (e:LicT):e.sz = LicT.szs e.ar + 1:=by cases e; rw[LicT.sz]; rfl
theorem LicT.sz_mem {l:List LicT} {x:LicT} (h:x ∈ l):x.sz ≤ LicT.szs l:=by
 induction l with
 | nil=>cases h
 | cons y r ih =>
  rw[LicT.szs]
  rcases List.mem_cons.1 h with rfl | h
  ·omega
  ·have:=ih h; omega
theorem LicT.sz_pos (e:LicT):1 ≤ e.sz:=by rw[LicT.sz_ar]; omega
theorem LicT.len_szs:∀ l:List LicT,l.length ≤ LicT.szs l
 | []=>Nat.zero_le _
 | x :: r=>by have:=LicT.len_szs r; have:=x.sz_pos; rw[LicT.szs,List.length_cons]; omega
theorem LicT.sz_lt {e x:LicT} (h:x ∈ e.ar):x.sz < e.sz:=by rw[LicT.sz_ar e]; have:=LicT.sz_mem h; omega
theorem LicT.ind {p:LicT → Prop} (h:∀ e:LicT,(∀ x ∈ e.ar,p x) → p e) (e:LicT):p e:=by
 have:∀ n,∀ e:LicT,e.sz ≤ n → p e:=by
  intro n
  induction n with
  | zero=>intro e he; have:=e.sz_pos; omega
  | succ n ih=>intro e he; exact h e fun x hx=>ih x (by have:=LicT.sz_lt hx; omega)
 exact this _ e (Nat.le_refl _)
end Go.Lad
namespace Go.Proofs.YtcmibmohdnbhgaaGreatDoor
open Go.Lad
def unL (l:List LicT):List GLic:=List.map (α:=LicT) (β:=GLic) (Uun 2) l
def mkL (l:List GLic):List LicT:=List.map (α:=GLic) (β:=LicT) (Umk 2) l
theorem fu1 (l:List LicT):@List.map (UD 2) GLic (Uun 2) l = unL l:=rfl
theorem fu2 (l:List LicT):@List.map LicT GLic (Uun 2) l = unL l:=rfl
theorem fu3 (l:List LicT):@List.map (UD 2) (Ubody 2).den (Uun 2) l = unL l:=rfl
theorem fu4 (l:List LicT):@List.map LicT (Ubody 2).den (Uun 2) l = unL l:=rfl
theorem mk_un:∀ (l:List LicT),mkL (unL l) = l
 | []=>rfl
 | x :: r=>congr (congrArg List.cons (Umk_un 2 x)) (mk_un r)
theorem fx1 (l:List LicT):@List.map (Ubody 2).den LicT (Umk 2) (@List.map (UD 2) (Ubody 2).den (Uun 2) l) = l:=mk_un l
theorem fx2 (l:List LicT):@List.map (Ubody 2).den (UD 2) (Umk 2) (@List.map (UD 2) (Ubody 2).den (Uun 2) l) = l:=mk_un l
theorem fx3 (l:List LicT):@List.map GLic LicT (Umk 2) (@List.map (UD 2) GLic (Uun 2) l) = l:=mk_un l
theorem Uun2 (f:LicT):(Uun 2 f:GLic) = (f.op,f.nm,f.ar):=by cases f; rfl
theorem un_len (l:List LicT):(unL l).length = l.length:=List.length_map _
theorem un_get (l:List LicT) {k:Nat} (h:k < l.length):(unL l)[k]'(by rw[un_len]; exact h) = (l[k].op,l[k].nm,l[k].ar) :=
 (List.getElem_map (α:=LicT) (β:=GLic) (Uun 2)).trans (Uun2 _)
theorem idx_un {l:List LicT} {k:Nat} (h:k < l.length):idx (unL l) (k:Int) = some (l[k].op,l[k].nm,l[k].ar):=by
 rw[idx_nat (by rw[un_len]; exact h),un_get l h]
theorem un_app (l m:List LicT):unL l ++ unL m = unL (l ++ m):=(List.map_append).symm
theorem un_one (e:LicT):[(e.op,e.nm,e.ar)] = unL [e]:=by show _ = [Uun 2 e]; rw[Uun2]; rfl
theorem bAt_in {s:Bs} {k:Nat} (h:k < s.length):bAt s (k:Int) = some (s[k].toNat:Int):=by unfold bAt; rw[idx_nat h]; rfl
def cutL:Bs:=[97,98,99,100,101,102,103,104,105,106,107,108,109,110,111,112,113,114,115,116,117,118,119,120,121,122,48,49,50,51,52,53,54,55,56,57,45,46]
theorem cut_all:(List.range 256).all (fun n=>cutL.contains (UInt8.ofNat n) == licC (UInt8.ofNat n)) = true:=by kernel_rfl
theorem cut_lic (c:UInt8):cutL.contains c = licC c:=by
 have:=List.all_eq_true.1 cut_all c.toNat (List.mem_range.2 c.toNat_lt)
 rw[show UInt8.ofNat c.toNat = c by simp] at this
 simpa using this
theorem drop_nil {α:Type} (p:α → Bool) (l:List α):l.dropWhile p = [] ↔ l.all p = true:=by
 induction l with
 | nil=>simp
 | cons x r ih =>
  rw[List.dropWhile_cons,List.all_cons]
  cases h:p x with
  | true=>simp only[h,if_true,Bool.true_and]; exact ih
  | false=>simp [h]
theorem trim_nil (s:Bs):Lib.trimS s cutL = [] ↔ s.all licC = true:=by
 unfold Lib.trimS Lib.trimLeftS Lib.trimRightS
 rw[drop_nil]
 have e:(fun x=>cutL.contains x) = licC:=funext cut_lic
 rw[e]
 constructor
 ·intro h
  refine Classical.byContradiction fun hn=>?_
  have h2:s.reverse.dropWhile licC ≠ []:=fun he=>hn (by rw[drop_nil,List.all_reverse] at he; exact he)
  obtain⟨x,r,hx⟩:=List.exists_cons_of_ne_nil h2
  have h3:licC x = false:=by
   have:=List.head_dropWhile_not licC (l:=s.reverse) h2
   simpa [hx] using this
  rw[hx,List.all_eq_true] at h
  have:=h x (by simp)
  rw[h3] at this; cases this
 ·intro h
  have:s.reverse.dropWhile licC = []:=by rw[drop_nil,List.all_reverse]; exact h
  rw[this]; rfl
theorem trim_ok (s:Bs):strings_Trim s cutL = some (Lib.trimS s cutL):=by
 unfold strings_Trim trimF
 rw[show (cutL.all (fun c=>Nat.blt c.toNat 128) && Nat.ble cutL.length 1000000) = true by kernel_rfl,cond_true]
theorem named_ok (s:Bs):licence_named s = some (nameB s):=by
 unfold licence_named licence_named.j1 nameB
 match s with
 | []=>rfl
 | c :: r =>
  rw[decide_eq_false (by simp),cond_false]
  have hb:bAt (c :: r) 0 = some (c.toNat:Int):=bAt_in (s:=c :: r) (k:=0) (by simp)
  simp only[hb,bind_in]
  show Option.bind _ (fun x=>bif x then some false else Option.bind (strings_Trim (c :: r) cutL) _) = _
  rw[trim_ok]
  simp only[bind_in]
  have ht:decide (Lib.trimS (c :: r) cutL = []) = (c :: r).all licC:=by
   rw[Bool.eq_iff_iff,decide_eq_true_eq]; exact trim_nil _
  rw[ht]
  by_cases h20:(20:Int) < ((c :: r).length:Int)
  ·rw[ltZ_eq,decide_eq_true h20,cond_true,bind_in,cond_true,show Nat.ble (c :: r).length 20 = false by rw[bleN]; simp; simp at h20; omega]
   rfl
  ·rw[ltZ_eq,decide_eq_false h20,cond_false,show Nat.ble (c :: r).length 20 = true by rw[bleN]; simp at h20 ⊢; omega]
   cases h1:decide ((c :: r) = [97,110,100]) with
   | true=>rfl
   | false =>
    cases h2:decide ((c :: r) = [111,114]) with
    | true=>rfl
    | false =>
     simp only[cond_false,bind_in,Bool.not_false,Bool.true_and,ltZ_eq]
     by_cases h3:(c.toNat:Int) < 97
     ·rw[decide_eq_true h3,show Nat.ble 97 c.toNat = false by rw[bleN]; simp; omega]; rfl
     ·rw[decide_eq_false h3,show Nat.ble 97 c.toNat = true by rw[bleN]; simp; omega]
      by_cases h4:(122:Int) < (c.toNat:Int)
      ·rw[decide_eq_true h4,show Nat.ble c.toNat 122 = false by rw[bleN]; simp; omega]; rfl
      ·rw[decide_eq_false h4,show Nat.ble c.toNat 122 = true by rw[bleN]; simp; omega]
       simp only[cond_false,bind_in,Bool.true_and]
       cases h5:(c :: r).all licC with
       | false=>rfl
       | true =>
        unfold strings_ContainsFunc contFF
        rw[h5]; rfl
end Go.Proofs.YtcmibmohdnbhgaaGreatDoor
namespace Go.Lad
mutual
def LicT.lv:LicT → Nat
 | .mk o _ l=>if o = 0 then 1 else LicT.lvs l
def LicT.lvs:List LicT → Nat
 | []=>0
 | x :: r=>x.lv + LicT.lvs r
end
mutual
def LicT.dp:LicT → Nat
 | .mk o _ l=>if o = 0 then 0 else LicT.dps l + 1
def LicT.dps:List LicT → Nat
 | []=>0
 | x :: r=>max x.dp (LicT.dps r)
end
mutual
def LicT.fm:LicT → Bool
 | .mk o n l=>if o = 0 then nameB n && l.isEmpty else decide ((o = 1 ∨ o = 2) ∧ n = [] ∧ 2 ≤ l.length) && LicT.fms o l
def LicT.fms:Int → List LicT → Bool
 | _,[]=>true
 | o,x :: r=>(x.fm && decide (x.op ≠ o)) && LicT.fms o r
end
theorem LicT.lv_eq (e:LicT):e.lv = if e.op = 0 then 1 else LicT.lvs e.ar:=by cases e; rw[LicT.lv]; rfl
theorem LicT.dp_eq (e:LicT):e.dp = if e.op = 0 then 0 else LicT.dps e.ar + 1:=by cases e; rw[LicT.dp]; rfl
theorem LicT.fm_eq (e:LicT):e.fm = if e.op = 0 then nameB e.nm && e.ar.isEmpty else decide ((e.op = 1 ∨ e.op = 2) ∧ e.nm = [] ∧ 2 ≤ e.ar.length) && LicT.fms e.op e.ar:=by cases e; rw[LicT.fm]; rfl
theorem LicT.fms_iff (o:Int) (l:List LicT):LicT.fms o l = true ↔ ∀ x ∈ l,x.fm = true ∧ x.op ≠ o:=by
 induction l with
 | nil=>simp [LicT.fms]
 | cons x r ih=>rw[LicT.fms,Bool.and_eq_true,Bool.and_eq_true,decide_eq_true_eq,ih,List.forall_mem_cons]
theorem LicT.lvs_app (l m:List LicT):LicT.lvs (l ++ m) = LicT.lvs l + LicT.lvs m:=by
 induction l with
 | nil=>simp [LicT.lvs]
 | cons x r ih=>rw[List.cons_append,LicT.lvs,LicT.lvs,ih,Nat.add_assoc]
theorem LicT.lvs_one (x:LicT):LicT.lvs [x] = x.lv:=by rw[LicT.lvs,LicT.lvs,Nat.add_zero]
theorem LicT.lv_mem {l:List LicT} {x:LicT} (h:x ∈ l):x.lv ≤ LicT.lvs l:=by
 induction l with
 | nil=>cases h
 | cons y r ih =>
  rw[LicT.lvs]
  rcases List.mem_cons.1 h with rfl | h
  ·omega
  ·have:=ih h; omega
theorem LicT.dp_mem {l:List LicT} {x:LicT} (h:x ∈ l):x.dp ≤ LicT.dps l:=by
 induction l with
 | nil=>cases h
 | cons y r ih =>
  rw[LicT.dps]
  rcases List.mem_cons.1 h with rfl | h
  ·omega
  ·have:=ih h; omega
theorem LicT.dps_le {l:List LicT} {d:Nat} (h:∀ x ∈ l,x.dp ≤ d):LicT.dps l ≤ d:=by
 induction l with
 | nil=>rw[LicT.dps]; omega
 | cons y r ih =>
  rw[LicT.dps]
  have h1:=h y List.mem_cons_self
  have h2:=ih fun x hx=>h x (List.mem_cons_of_mem _ hx)
  omega
theorem LicT.dp_lt:∀ e:LicT,e.fm = true → e.dp + 1 ≤ e.lv:=by
 refine LicT.ind fun e ih h=>?_
 rw[LicT.fm_eq] at h
 rw[LicT.dp_eq,LicT.lv_eq]
 by_cases h0:e.op = 0
 ·rw[if_pos h0,if_pos h0]; omega
 ·rw[if_neg h0] at h ⊢
  rw[if_neg h0]
  rw[Bool.and_eq_true,decide_eq_true_eq,LicT.fms_iff] at h
  obtain⟨⟨_,_,hl⟩,hx⟩:=h
  have key:∀ l:List LicT,(∀ x ∈ l,x.dp + 1 ≤ x.lv) → LicT.dps l + l.length ≤ LicT.lvs l:=by
   intro l
   induction l with
   | nil=>intro _; simp [LicT.dps,LicT.lvs]
   | cons x r ih2 =>
    intro hall
    have h1:=hall x List.mem_cons_self
    have h2:=ih2 fun y hy=>hall y (List.mem_cons_of_mem _ hy)
    rw[LicT.dps,LicT.lvs,List.length_cons]
    omega
  have:=key e.ar fun x hxm=>ih x hxm (hx x hxm).1
  omega
def LicT.rt (e:LicT):Bool:=e.fm && Nat.ble e.lv 16
end Go.Lad
namespace Go.Proofs.YtcmibmohdnbhgaaGreatDoor
open Go.Lad
theorem fuel_big {n:Nat} (h:n < 1606938044258990275541962092341162602522202993782792835301376):n < bigFuel.n:=h
theorem all_take_succ {α:Type} {l:List α} {p:α → Prop} {k:Nat} (hk:k < l.length) (h:∀ x ∈ l.take k,p x) (hx:p l[k]):∀ x ∈ l.take (k + 1),p x:=by
 intro x hxm
 rw[List.take_succ_eq_append_getElem hk] at hxm
 rcases List.mem_append.1 hxm with h1 | h1
 ·exact h x h1
 ·rw[List.mem_singleton.1 h1]; exact hx
theorem lvs_take_succ {l:List LicT} {k:Nat} (hk:k < l.length):LicT.lvs (l.take (k + 1)) = LicT.lvs (l.take k) + l[k].lv:=by
 rw[List.take_succ_eq_append_getElem hk,LicT.lvs_app,LicT.lvs_one]
theorem lvs_take_le (l:List LicT) (k:Nat):LicT.lvs (l.take k) ≤ LicT.lvs l:=by
 conv=>rhs; rw[← List.take_append_drop k l]
 rw[LicT.lvs_app]; omega
theorem size_head (o:Int) (nm:Bs) (len lev:Nat):(bif (!eqZ o 1) then (bif (!eqZ o 2) then some true else (bif (!decide (nm = ([]:Bs))) then some true else (bif (ltZ (len:Int) 2) then some true else some (ltZ 16 (lev:Int))))) else (bif (!decide (nm = ([]:Bs))) then some true else (bif (ltZ (len:Int) 2) then some true else some (ltZ 16 (lev:Int))))) = some (!decide (((o = 1 ∨ o = 2) ∧ nm = [] ∧ 2 ≤ len) ∧ lev ≤ 16)):=by
 simp only[ltZ_eq,eqZ_eq]
 by_cases h4:2 ≤ len
 ·rw[decide_eq_false (show ¬ ((len:Int) < 2) by omega)]
  by_cases h5:lev ≤ 16
  ·rw[decide_eq_false (show ¬ ((16:Int) < lev) by omega)]
   by_cases h1:o = 1 <;> by_cases h2:o = 2 <;> by_cases h3:nm = [] <;> simp [h1,h2,h3,h4,h5]
  ·rw[decide_eq_true (show ((16:Int) < lev) by omega)]
   by_cases h1:o = 1 <;> by_cases h2:o = 2 <;> by_cases h3:nm = [] <;> simp [h1,h2,h3,h4,h5]
 ·rw[decide_eq_true (show ((len:Int) < 2) by omega)]
  by_cases h1:o = 1 <;> by_cases h2:o = 2 <;> by_cases h3:nm = [] <;> simp [h1,h2,h3,h4]
def SzQ (e:LicT) (lev:Nat) (r:Int):Prop:=0 ≤ r ∧ r ≤ 17 + 16 * (18 - (lev:Int)) ∧ (r ≤ 16 ↔ e.fm = true ∧ e.lv ≤ 16 ∧ e.dp + lev ≤ 17) ∧ (r ≤ 16 → r = e.lv)
theorem size_rec:∀ (n lev:Nat) (e:LicT),lev ≤ 17 → 17 - lev < n → e.sz ≤ 1000000000 → ∃ r,licence_size.rec n e.op e.nm (unL e.ar) (lev:Int) = some r ∧ SzQ e lev r
 | 0,_,_,_,h,_=>absurd h (by omega)
 | n + 1,lev,e,hl,hn,hz=>by
  show ∃ r,licence_size.body (licence_size.rec n) e.op e.nm (unL e.ar) (lev:Int) = some r ∧ _
  unfold licence_size.body licence_size.j2 licence_size.j1
  unfold SzQ
  rw[LicT.fm_eq,LicT.lv_eq,LicT.dp_eq]
  by_cases h0:e.op = 0
  ·rw[eqZ_eq,decide_eq_true h0,cond_true,named_ok,if_pos h0,if_pos h0,if_pos h0]
   simp only[bind_in]
   cases hnm:nameB e.nm with
   | false=>exact⟨17,rfl,by omega,by omega,by simp,by simp⟩
   | true =>
    rw[Bool.not_true,cond_false,un_len,ltZ_eq]
    simp only[bind_in]
    by_cases ha:e.ar = []
    ·rw[ha]
     exact⟨1,rfl,by omega,by omega,by simp; omega,by simp⟩
    ·have:0 < e.ar.length:=List.length_pos_iff.2 ha
     rw[decide_eq_true (by omega)]
     exact⟨17,rfl,by omega,by omega,by simp [ha],by simp⟩
  ·rw[eqZ_eq,decide_eq_false h0,cond_false,if_neg h0,if_neg h0,if_neg h0,un_len]
   rw[size_head,bind_in]
   by_cases hok:((e.op = 1 ∨ e.op = 2) ∧ e.nm = [] ∧ 2 ≤ e.ar.length) ∧ lev ≤ 16
   rotate_left
   ·rw[decide_eq_false hok]
    refine⟨17,rfl,by omega,by omega,?_,by simp⟩
    constructor
    ·intro h; omega
    ·rintro⟨h1,_,h3⟩
     rw[Bool.and_eq_true,decide_eq_true_eq] at h1
     exact absurd ⟨h1.1,by omega⟩ hok
   ·rw[decide_eq_true hok,Bool.not_true,cond_false]
    obtain⟨hk,hl16⟩:=hok
    rw[decide_eq_true hk,Bool.true_and]
    have hlen:e.ar.length ≤ 1000000000:=by have:=LicT.len_szs e.ar; rw[LicT.sz_ar] at hz; omega
    exact loopF_inv (body:=fun x=>licence_size.b1 (licence_size.rec n) e.op (unL e.ar) (lev:Int) x.1 x.2)
     (fun k x=>∃ nn:Nat,x = ((nn:Int),(k:Int)) ∧ nn ≤ 16 ∧ nn = LicT.lvs (e.ar.take k) ∧ ∀ x ∈ e.ar.take k,(x.fm = true ∧ x.op ≠ e.op) ∧ x.dp + (lev + 1) ≤ 17)
     (Q:=fun r=>0 ≤ r ∧ r ≤ 17 + 16 * (18 - (lev:Int)) ∧ (r ≤ 16 ↔ LicT.fms e.op e.ar = true ∧ LicT.lvs e.ar ≤ 16 ∧ LicT.dps e.ar + 1 + lev ≤ 17) ∧ (r ≤ 16 → r = (LicT.lvs e.ar:Int)))
     e.ar.length (x:=(0,0)) ⟨0,rfl,by omega,by simp [LicT.lvs],by simp⟩ (fun k hk2 x hx=>by
      obtain⟨nn,rfl,h16,hnn,hall⟩:=hx
      have hbad:¬ ((e.ar[k].fm = true ∧ e.ar[k].op ≠ e.op) ∧ e.ar[k].dp + (lev + 1) ≤ 17) → ¬ (LicT.fms e.op e.ar = true ∧ LicT.lvs e.ar ≤ 16 ∧ LicT.dps e.ar + 1 + lev ≤ 17):=fun h1 h2=>by
       have hm:=List.getElem_mem hk2
       have:=LicT.dp_mem hm
       exact h1 ⟨(LicT.fms_iff _ _).1 h2.1 _ hm,by omega⟩
      unfold licence_size.b1
      dsimp only
      rw[un_len,ltZ_eq,decide_eq_true (by omega),cond_true,idx_un hk2]
      simp only[bind_in,eqZ_eq,fu1,fu2,fu3,fu4]
      by_cases hop:e.ar[k].op = e.op
      ·rw[decide_eq_true hop,cond_true]
       exact .inr ⟨17,rfl,by omega,by omega,⟨fun h=>absurd h (by omega),fun h=>absurd h (hbad fun h2=>h2.1.2 hop)⟩,fun h=>absurd h (by omega)⟩
      ·rw[decide_eq_false hop,cond_false,z64_succ (by omega),bind_in]
       have hsz:e.ar[k].sz ≤ 1000000000:=by have:=LicT.sz_lt (List.getElem_mem hk2); omega
       obtain⟨r,hr,q1,q2,q3,q4⟩:=size_rec n (lev + 1) e.ar[k] (by omega) (by omega) hsz
       rw[hr,bind_in,z64_i (by omega),bind_in,ltZ_eq]
       by_cases hbig:16 < (nn:Int) + r
       ·rw[decide_eq_true hbig,cond_true]
        refine .inr ⟨_,rfl,by omega,by omega,⟨fun h=>absurd h (by omega),fun h=>?_⟩,fun h=>absurd h (by omega)⟩
        have hm:=List.getElem_mem hk2
        by_cases hr16:r ≤ 16
        ·have:=q4 hr16
         have h1:=lvs_take_succ hk2
         have h2:=lvs_take_le e.ar (k + 1)
         omega
        ·refine absurd h (hbad fun h2=>hr16 (q3.2 ⟨h2.1.1,?_,by omega⟩))
         have:=LicT.lv_mem hm
         omega
       ·rw[decide_eq_false hbig,cond_false,z64_succ (by omega),bind_in]
        have hr16:r ≤ 16:=by omega
        have hre:=q4 hr16
        obtain⟨a1,a2,a3⟩:=q3.1 hr16
        refine .inl ⟨_,rfl,nn + e.ar[k].lv,by rw[hre]; rfl,by omega,by rw[lvs_take_succ hk2,hnn],all_take_succ hk2 hall ⟨⟨a1,hop⟩,by omega⟩⟩) (fun x hx=>by
      obtain⟨nn,rfl,h16,hnn,hall⟩:=hx
      unfold licence_size.b1
      dsimp only
      rw[un_len,ltZ_eq,decide_eq_false (by omega),cond_false]
      rw[List.take_length] at hnn hall
      refine⟨_,rfl,by omega,by omega,⟨fun _=>⟨(LicT.fms_iff _ _).2 fun x hx=>(hall x hx).1,by omega,?_⟩,fun _=>by omega⟩,fun _=>by omega⟩
      have:=LicT.dps_le (l:=e.ar) (d:=17 - (lev + 1)) fun x hx=>by have:=(hall x hx).2; omega
      omega) (by omega)
theorem right_ok (e:LicT) (hz:e.sz ≤ 1000000000):licence_Right e.op e.nm (unL e.ar) = some e.rt:=by
 unfold licence_Right licence_size
 obtain⟨r,hr,q1,q2,q3,q4⟩:=size_rec bigFuel.n 0 e (by omega) (fuel_big (by omega)) hz
 rw[show ((0:Nat):Int) = 0 from rfl] at hr
 rw[hr,bind_in,leZ_eq]
 congr 1
 rw[Bool.eq_iff_iff,decide_eq_true_eq,q3]
 unfold LicT.rt
 rw[Bool.and_eq_true,bleN,decide_eq_true_eq]
 constructor
 ·rintro⟨h1,h2,_⟩; exact⟨h1,h2⟩
 ·rintro⟨h1,h2⟩
  have:=LicT.dp_lt e h1
  exact⟨h1,h2,by omega⟩
end Go.Proofs.YtcmibmohdnbhgaaGreatDoor
namespace Go.Proofs.YtcmibmohdnbhgaaGreatDoor
open Go.Lad
def letR (k:Nat) (c:UInt8):Bool:=(leZ 97 (c.toNat:Int) && leZ (c.toNat:Int) 122) || (decide (k ≠ 0) && ((leZ 48 (c.toNat:Int) && leZ (c.toNat:Int) 57) || (eqZ (c.toNat:Int) 45 || eqZ (c.toNat:Int) 46)))
theorem loop_all {α:Type} {body:Int → Option (Int ⊕ Bool)} (l:List α) (t:Nat → α → Bool)
  (h:∀ k (hk:k < l.length),body (k:Int) = some (if t k l[k] = true then .inl ((k + 1:Nat):Int) else .inr false))
  (hd:body (l.length:Int) = some (.inr true)) (hn:l.length < 1606938044258990275541962092341162602522202993782792835301376) :
  ∃ b,loopF body 0 = some b ∧ (b = true ↔ ∀ k (hk:k < l.length),t k l[k] = true):=by
 obtain⟨b,hb,hq⟩:=loopF_inv (body:=body) (fun k x=>x = (k:Int) ∧ ∀ j (hj:j < l.length),j < k → t j l[j] = true) (Q:=fun b=>b = true ↔ ∀ k (hk:k < l.length),t k l[k] = true) l.length (x:=0) ⟨rfl,fun j _ h=>absurd h (by omega)⟩ (fun k hk x hx=>by
  obtain⟨rfl,hall⟩:=hx
  rw[h k hk]
  cases ht:t k l[k] with
  | true =>
   refine .inl ⟨_,rfl,rfl,fun j hj hjk=>?_⟩
   by_cases e:j = k
   ·subst e; exact ht
   ·exact hall j hj (by omega)
  | false=>exact .inr ⟨false,rfl,by simp,fun h2=>by rw[h2 k hk] at ht; cases ht⟩) (fun x hx=>by
  obtain⟨rfl,hall⟩:=hx
  exact⟨true,hd,fun _ k hk=>hall k hk hk,fun _=>rfl⟩) hn
 exact⟨b,hb,hq⟩
theorem name_loop (s:Bs) (hl:s.length ≤ 20):∃ b,loopF (fun x=>ladingref13_name.b1 s x) 0 = some b ∧ (b = true ↔ ∀ k (hk:k < s.length),letR k s[k] = true):=by
 refine loop_all s letR (fun k hk=>?_) ?_ (by omega)
 ·unfold ladingref13_name.b1 ladingref13_name.j3 ladingref13_name.j2 ladingref13_name.j1
  rw[ltZ_eq,decide_eq_true (by omega),cond_true,bAt_in hk,bind_in,z64_succ (by omega)]
  unfold letR
  rw[eqZ_eq (a:=(k:Int))]
  have hk0:decide ((k:Int) = 0) = !decide (k ≠ 0):=by by_cases h:k = 0 <;> simp [h]
  rw[hk0]
  cases leZ 97 (s[k].toNat:Int) <;> cases leZ (s[k].toNat:Int) 122 <;> cases leZ 48 (s[k].toNat:Int) <;> cases leZ (s[k].toNat:Int) 57 <;> cases eqZ (s[k].toNat:Int) 45 <;> cases eqZ (s[k].toNat:Int) 46 <;> cases decide (k ≠ 0) <;> rfl
 ·unfold ladingref13_name.b1
  rw[ltZ_eq,decide_eq_false (by omega),cond_false]
theorem rname_ok (s:Bs):ladingref13_name s = some (nameB s):=by
 unfold ladingref13_name ladingref13_name.j4
 by_cases h0:s = []
 ·subst h0; rfl
 ·have hl1:0 < s.length:=List.length_pos_iff.2 h0
  rw[ltZ_eq,decide_eq_false (by omega),cond_false,ltZ_eq]
  by_cases h20:(20:Int) < (s.length:Int)
  ·rw[decide_eq_true h20,cond_true,bind_in,cond_true]
   unfold nameB
   rw[show Nat.ble s.length 20 = false by rw[bleN]; simp; omega]; rfl
  ·rw[decide_eq_false h20,cond_false]
   have h20':s.length ≤ 20:=by omega
   obtain⟨b,hb,hq⟩:=name_loop s h20'
   unfold nameB
   rw[show Nat.ble s.length 20 = true by rw[bleN]; simpa using h20',Bool.true_and]
   cases h1:decide (s = [97,110,100]) with
   | true=>rfl
   | false =>
    cases h2:decide (s = [111,114]) with
    | true=>rfl
    | false =>
     simp only[cond_false,bind_in,Bool.not_false,Bool.true_and]
     rw[hb]
     congr 1
     rw[Bool.eq_iff_iff,hq]
     clear hb hq h1 h2 h20
     match s,h0 with
     | c :: r,_ =>
      have hlet:∀ x:UInt8,(leZ 97 (x.toNat:Int) = Nat.ble 97 x.toNat) ∧ leZ (x.toNat:Int) 122 = Nat.ble x.toNat 122 ∧ leZ 48 (x.toNat:Int) = Nat.ble 48 x.toNat ∧ leZ (x.toNat:Int) 57 = Nat.ble x.toNat 57 ∧ eqZ (x.toNat:Int) 45 = Nat.beq x.toNat 45 ∧ eqZ (x.toNat:Int) 46 = Nat.beq x.toNat 46:=fun x=>by
       simp only[leZ_eq,eqZ_eq,bleN,beqN]
       refine⟨?_,?_,?_,?_,?_,?_⟩ <;> (rw[decide_eq_decide]; omega)
      have hl0:∀ x,letR 0 x = (Nat.ble 97 x.toNat && Nat.ble x.toNat 122):=fun x=>by
       obtain⟨a1,a2,_⟩:=hlet x
       unfold letR; rw[a1,a2]; simp
      have hls:∀ k x,letR (k + 1) x = licC x:=fun k x=>by
       obtain⟨a1,a2,a3,a4,a5,a6⟩:=hlet x
       unfold letR licC; rw[a1,a2,a3,a4,a5,a6]; simp [Bool.or_assoc]
      dsimp only
      simp only[List.all_cons,Bool.and_eq_true]
      constructor
      ·intro h
       have h0:=h 0 (by simp)
       rw[List.getElem_cons_zero,hl0] at h0
       refine⟨by simpa using h0,?_,?_⟩
       ·unfold licC; rw[h0]; rfl
       ·rw[List.all_eq_true]
        intro x hx
        obtain⟨k,hk,rfl⟩:=List.mem_iff_getElem.1 hx
        have:=h (k + 1) (by simpa using hk)
        rw[List.getElem_cons_succ,hls] at this
        exact this
      ·rintro⟨h0,_,h2⟩ k hk
       cases k with
       | zero=>rw[List.getElem_cons_zero,hl0,Bool.and_eq_true]; exact h0
       | succ k=>rw[List.getElem_cons_succ,hls]; exact List.all_eq_true.1 h2 _ (List.getElem_mem _)
theorem form_head (o:Int) (nm:Bs) (len lev:Nat):(bif (!eqZ o 1) then (bif (!eqZ o 2) then some true else (bif (!decide (nm = ([]:Bs))) then some true else (bif (ltZ (len:Int) 2) then some true else (bif (ltZ 16 (len:Int)) then some true else some (ltZ (lev:Int) 1))))) else (bif (!decide (nm = ([]:Bs))) then some true else (bif (ltZ (len:Int) 2) then some true else (bif (ltZ 16 (len:Int)) then some true else some (ltZ (lev:Int) 1))))) = some (!decide (((o = 1 ∨ o = 2) ∧ nm = [] ∧ 2 ≤ len) ∧ len ≤ 16 ∧ 1 ≤ lev)):=by
 simp only[ltZ_eq,eqZ_eq]
 by_cases h4:2 ≤ len
 ·rw[decide_eq_false (show ¬ ((len:Int) < 2) by omega)]
  by_cases h6:len ≤ 16
  ·rw[decide_eq_false (show ¬ ((16:Int) < len) by omega)]
   by_cases h5:1 ≤ lev
   ·rw[decide_eq_false (show ¬ ((lev:Int) < 1) by omega)]
    by_cases h1:o = 1 <;> by_cases h2:o = 2 <;> by_cases h3:nm = [] <;> simp [h1,h2,h3,h4,h5,h6]
   ·rw[decide_eq_true (show ((lev:Int) < 1) by omega)]
    by_cases h1:o = 1 <;> by_cases h2:o = 2 <;> by_cases h3:nm = [] <;> simp [h1,h2,h3,h4,h6] <;> omega
  ·rw[decide_eq_true (show ((16:Int) < len) by omega)]
   by_cases h1:o = 1 <;> by_cases h2:o = 2 <;> by_cases h3:nm = [] <;> simp [h1,h2,h3,h4,h6]
 ·rw[decide_eq_true (show ((len:Int) < 2) by omega)]
  by_cases h1:o = 1 <;> by_cases h2:o = 2 <;> by_cases h3:nm = [] <;> simp [h1,h2,h3,h4]
theorem form_rec:∀ (n lev:Nat) (e:LicT),lev ≤ 16 → lev < n → ∃ b,ladingref13_form.rec n e.op e.nm (unL e.ar) (lev:Int) = some b ∧ (b = true → e.fm = true) ∧ (e.fm = true → e.lv ≤ 16 → e.dp ≤ lev → b = true)
 | 0,_,_,_,h=>absurd h (by omega)
 | n + 1,lev,e,hl,hn=>by
  show ∃ b,ladingref13_form.body (ladingref13_form.rec n) e.op e.nm (unL e.ar) (lev:Int) = some b ∧ _
  unfold ladingref13_form.body ladingref13_form.j2
  rw[LicT.fm_eq,LicT.lv_eq,LicT.dp_eq]
  by_cases h0:e.op = 0
  ·rw[eqZ_eq,decide_eq_true h0,cond_true,rname_ok,if_pos h0,if_pos h0,if_pos h0,un_len]
   simp only[bind_in]
   cases hnm:nameB e.nm with
   | false=>exact⟨false,rfl,by simp,by simp⟩
   | true =>
    rw[cond_true,eqZ_eq]
    refine⟨_,rfl,fun h=>?_,fun h _ _=>?_⟩
    ·rw[decide_eq_true_eq] at h
     rw[List.eq_nil_of_length_eq_zero (show e.ar.length = 0 by omega)]; rfl
    ·rw[Bool.true_and,List.isEmpty_iff] at h
     rw[h]; rfl
  ·rw[eqZ_eq,decide_eq_false h0,cond_false,if_neg h0,if_neg h0,if_neg h0,un_len,form_head,bind_in]
   by_cases hok:((e.op = 1 ∨ e.op = 2) ∧ e.nm = [] ∧ 2 ≤ e.ar.length) ∧ e.ar.length ≤ 16 ∧ 1 ≤ lev
   rotate_left
   ·rw[decide_eq_false hok]
    refine⟨false,rfl,by simp,fun h1 h2 h3=>?_⟩
    rw[Bool.and_eq_true,decide_eq_true_eq,LicT.fms_iff] at h1
    have hlen:∀ l:List LicT,(∀ x ∈ l,x.fm = true) → l.length ≤ LicT.lvs l:=by
     intro l
     induction l with
     | nil=>intro _; simp
     | cons x r ih =>
      intro hall
      have a1:=LicT.dp_lt x (hall x List.mem_cons_self)
      have a2:=ih fun y hy=>hall y (List.mem_cons_of_mem _ hy)
      rw[LicT.lvs,List.length_cons]; omega
    have:=hlen e.ar fun x hx=>(h1.2 x hx).1
    exact absurd ⟨h1.1,by omega,by omega⟩ hok
   ·rw[decide_eq_true hok,Bool.not_true,cond_false]
    obtain⟨hk,hl16,hlev⟩:=hok
    rw[decide_eq_true hk,Bool.true_and]
    obtain⟨lv,rfl⟩:∃ lv,lev = lv + 1:=⟨lev - 1,by omega⟩
    obtain⟨b,hb,hq⟩:=loopF_inv (body:=fun x=>ladingref13_form.b1 (ladingref13_form.rec n) e.op (unL e.ar) ((lv + 1:Nat):Int) x)
     (fun k x=>x = (k:Int) ∧ ∀ x ∈ e.ar.take k,x.fm = true ∧ x.op ≠ e.op)
     (Q:=fun b=>(b = true → LicT.fms e.op e.ar = true) ∧ (LicT.fms e.op e.ar = true → LicT.lvs e.ar ≤ 16 → LicT.dps e.ar + 1 ≤ lv + 1 → b = true)) e.ar.length (x:=0) ⟨rfl,by simp⟩ (fun k hk2 x hx=>by
      obtain⟨rfl,hall⟩:=hx
      unfold ladingref13_form.b1 ladingref13_form.j1
      rw[un_len,ltZ_eq,decide_eq_true (by omega),cond_true,idx_un hk2]
      simp only[bind_in,eqZ_eq,fu1,fu2,fu3,fu4]
      rw[z64_i (by omega),bind_in,show (((lv + 1:Nat):Int) - 1) = (lv:Int) by omega]
      obtain⟨b,hb,q1,q2⟩:=form_rec n lv e.ar[k] (by omega) (by omega)
      rw[hb,bind_in]
      have hm:=List.getElem_mem hk2
      by_cases hop:e.ar[k].op = e.op
      ·rw[decide_eq_true hop,cond_true,bind_in,cond_true]
       exact .inr ⟨false,rfl,by simp,fun h=>absurd hop ((LicT.fms_iff _ _).1 h _ hm).2⟩
      ·rw[decide_eq_false hop,cond_false,bind_in]
       cases hbv:b with
       | false =>
        refine .inr ⟨false,rfl,by simp,fun h h2 h3=>?_⟩
        have a1:=LicT.lv_mem hm
        have a2:=LicT.dp_mem hm
        have:=q2 ((LicT.fms_iff _ _).1 h _ hm).1 (by omega) (by omega)
        rw[hbv] at this; cases this
       | true =>
        simp only[Bool.not_true,cond_false]
        rw[z64_succ (by omega),bind_in]
        exact .inl ⟨_,rfl,rfl,all_take_succ hk2 hall ⟨q1 hbv,hop⟩⟩) (fun x hx=>by
      obtain⟨rfl,hall⟩:=hx
      unfold ladingref13_form.b1
      rw[un_len,ltZ_eq,decide_eq_false (by omega),cond_false]
      rw[List.take_length] at hall
      exact⟨true,rfl,fun _=>(LicT.fms_iff _ _).2 hall,fun _ _ _=>rfl⟩) (by omega)
    exact⟨b,hb,hq⟩
end Go.Proofs.YtcmibmohdnbhgaaGreatDoor
namespace Go.Lad
theorem LicT.szs_app (l m:List LicT):LicT.szs (l ++ m) = LicT.szs l + LicT.szs m:=by
 induction l with
 | nil=>simp [LicT.szs]
 | cons x r ih=>rw[List.cons_append,LicT.szs,LicT.szs,ih,Nat.add_assoc]
theorem LicT.szs_one (x:LicT):LicT.szs [x] = x.sz:=by rw[LicT.szs,LicT.szs,Nat.add_zero]
mutual
def LicT.hd:LicT → List Bs → Bool
 | .mk o n l,s=>if o = 0 then decide (n ∈ s) else if o = 2 then LicT.hda l s else LicT.hdl l s
def LicT.hda:List LicT → List Bs → Bool
 | [],_=>false
 | x :: r,s=>x.hd s || LicT.hda r s
def LicT.hdl:List LicT → List Bs → Bool
 | [],_=>true
 | x :: r,s=>x.hd s && LicT.hdl r s
end
theorem LicT.hd_eq (e:LicT) (s:List Bs):e.hd s = if e.op = 0 then decide (e.nm ∈ s) else if e.op = 2 then e.ar.any (·.hd s) else e.ar.all (·.hd s):=by
 have h1:∀ l:List LicT,LicT.hda l s = l.any (·.hd s):=by
  intro l
  induction l with
  | nil=>rfl
  | cons x r ih=>rw[LicT.hda,ih,List.any_cons]
 have h2:∀ l:List LicT,LicT.hdl l s = l.all (·.hd s):=by
  intro l
  induction l with
  | nil=>rfl
  | cons x r ih=>rw[LicT.hdl,ih,List.all_cons]
 cases e
 rw[LicT.hd,h1,h2]; rfl
end Go.Lad
namespace Go.Proofs.YtcmibmohdnbhgaaGreatDoor
open Go.Lad
theorem szs_take_succ {l:List LicT} {k:Nat} (hk:k < l.length):LicT.szs (l.take (k + 1)) = LicT.szs (l.take k) + l[k].sz:=by
 rw[List.take_succ_eq_append_getElem hk,LicT.szs_app,LicT.szs_one]
theorem szs_take_le (l:List LicT) (k:Nat):LicT.szs (l.take k) ≤ LicT.szs l:=by
 conv=>rhs; rw[← List.take_append_drop k l]
 rw[LicT.szs_app]; omega
theorem leaves_rec:∀ (n:Nat) (e:LicT),e.dp < n → e.sz ≤ 1000000000 → ∃ r,ladingref13_leaves.rec n e.op e.nm (unL e.ar) = some r ∧ 0 ≤ r ∧ r ≤ 17 * (e.sz:Int) ∧ (r ≤ 16 → r = e.lv) ∧ (e.lv ≤ 16 → r ≤ 16)
 | 0,_,h,_=>absurd h (by omega)
 | n + 1,e,hn,hz=>by
  show ∃ r,ladingref13_leaves.body (ladingref13_leaves.rec n) e.op e.nm (unL e.ar) = some r ∧ _
  unfold ladingref13_leaves.body
  rw[LicT.lv_eq]
  rw[LicT.dp_eq] at hn
  have hsz:=LicT.sz_ar e
  by_cases h0:e.op = 0
  ·rw[eqZ_eq,decide_eq_true h0,cond_true,if_pos h0]
   exact⟨1,rfl,by omega,by omega,fun _=>rfl,fun _=>by omega⟩
  ·rw[eqZ_eq,decide_eq_false h0,cond_false,if_neg h0]
   rw[if_neg h0] at hn
   have hlen:e.ar.length ≤ 1000000000:=by have:=LicT.len_szs e.ar; omega
   have hQ:∃ r,loopF (fun x=>ladingref13_leaves.b1 (ladingref13_leaves.rec n) (unL e.ar) x.1 x.2) (0,0) = some r ∧ 0 ≤ r ∧ r ≤ 17 * (LicT.szs e.ar:Int) ∧ (r ≤ 16 → r = (LicT.lvs e.ar:Int)) ∧ (LicT.lvs e.ar ≤ 16 → r ≤ 16) :=
    loopF_inv (body:=fun x=>ladingref13_leaves.b1 (ladingref13_leaves.rec n) (unL e.ar) x.1 x.2)
     (fun k x=>∃ nn:Int,x = (nn,(k:Int)) ∧ 0 ≤ nn ∧ nn ≤ 17 * (LicT.szs (e.ar.take k):Int) ∧ (nn ≤ 16 → nn = (LicT.lvs (e.ar.take k):Int)) ∧ (LicT.lvs (e.ar.take k) ≤ 16 → nn ≤ 16))
     e.ar.length (x:=(0,0)) ⟨0,rfl,by omega,by omega,by simp [LicT.lvs],by omega⟩ (fun k hk x hx=>by
      obtain⟨nn,rfl,q0,q1,q2,q3⟩:=hx
      unfold ladingref13_leaves.b1 ladingref13_leaves.j1
      dsimp only
      rw[un_len,ltZ_eq,decide_eq_true (by omega),cond_true,bind_in,leZ_eq]
      by_cases h16:nn ≤ 16
      ·rw[decide_eq_true h16,cond_true,idx_un hk]
       simp only[bind_in,fu1,fu2,fu3,fu4]
       have hm:=List.getElem_mem hk
       have hsk:=LicT.sz_lt hm
       have hdk:=LicT.dp_mem hm
       obtain⟨r,hr,r0,r1,r2,r3⟩:=leaves_rec n e.ar[k] (by omega) (by omega)
       rw[hr,bind_in,z64_i (by omega),bind_in,z64_succ (by omega),bind_in]
       have hs1:=szs_take_succ hk
       have hl1:=lvs_take_succ hk
       refine .inl ⟨_,rfl,_,rfl,by omega,by omega,fun h=>?_,fun h=>?_⟩
       ·have:=q2 h16
        have:=r2 (by omega)
        omega
       ·have:=q2 h16
        have:=r3 (by omega)
        have:=r2 this
        omega
      ·rw[decide_eq_false h16,cond_false]
       have h1:=szs_take_le e.ar k
       have h2:=lvs_take_le e.ar k
       exact .inr ⟨_,rfl,by omega,by omega,fun h=>absurd h h16,fun h=>absurd (q3 (by omega)) h16⟩) (fun x hx=>by
      obtain⟨nn,rfl,q0,q1,q2,q3⟩:=hx
      unfold ladingref13_leaves.b1 ladingref13_leaves.j1
      dsimp only
      rw[un_len,ltZ_eq,decide_eq_false (by omega),cond_false,bind_in,cond_false]
      rw[List.take_length] at q1 q2 q3
      exact⟨_,rfl,q0,q1,q2,q3⟩) (by omega)
   obtain⟨r,hr,q0,q1,q2,q3⟩:=hQ
   exact⟨r,hr,q0,by omega,q2,q3⟩
theorem dp_sz:∀ e:LicT,e.dp ≤ e.sz:=by
 refine LicT.ind fun e ih=>?_
 rw[LicT.dp_eq,LicT.sz_ar]
 split
 ·omega
 ·have:LicT.dps e.ar ≤ LicT.szs e.ar:=LicT.dps_le fun x hx=>by
   have h1:=ih x hx
   have h2:=LicT.sz_mem hx
   omega
  omega
theorem leaves_ok (e:LicT) (hz:e.sz ≤ 1000000000):∃ r,ladingref13_leaves e.op e.nm (unL e.ar) = some r ∧ 0 ≤ r ∧ (r ≤ 16 ↔ e.lv ≤ 16):=by
 have:=dp_sz e
 obtain⟨r,hr,q0,_,q2,q3⟩:=leaves_rec bigFuel.n e (fuel_big (by omega)) hz
 exact⟨r,hr,q0,fun h=>by have:=q2 h; omega,q3⟩
theorem rright_ok (e:LicT) (hz:e.sz ≤ 1000000000):ladingref13_Right e.op e.nm (unL e.ar) = some e.rt:=by
 unfold ladingref13_Right ladingref13_form
 obtain⟨b,hb,q1,q2⟩:=form_rec bigFuel.n 16 e (by omega) (fuel_big (by omega))
 rw[show ((16:Nat):Int) = 16 from rfl] at hb
 rw[hb,bind_in]
 obtain⟨r,hr,_,hlv⟩:=leaves_ok e hz
 unfold LicT.rt
 cases hbv:b with
 | false =>
  rw[cond_false]
  congr 1
  symm
  rw[← Bool.not_eq_true,Bool.and_eq_true,bleN,decide_eq_true_eq]
  rintro⟨h1,h2⟩
  have:=LicT.dp_lt e h1
  have:=q2 h1 h2 (by omega)
  rw[hbv] at this; cases this
 | true =>
  rw[cond_true,hr,bind_in,q1 hbv,Bool.true_and,leZ_eq]
  congr 1
  rw[bleN,decide_eq_decide]; exact hlv
theorem nodes_rec:∀ (n m:Nat) (e:LicT) (most lev:Int),lev ≤ m → m < n → 0 ≤ most → most ≤ 1000 → -5 ≤ lev → lev ≤ 1000 → ∃ r,ladinglaw13_nodes.rec n e.op e.nm (unL e.ar) most lev = some r ∧ 1 ≤ r ∧ r ≤ most + 1 ∧ (r ≤ most → (e.sz:Int) = r)
 | 0,_,_,_,_,_,h,_,_,_,_=>absurd h (by omega)
 | n + 1,m,e,most,lev,hl,hn,h0,h1,h2,h3=>by
  show ∃ r,ladinglaw13_nodes.body (ladinglaw13_nodes.rec n) e.op e.nm (unL e.ar) most lev = some r ∧ _
  unfold ladinglaw13_nodes.body ladinglaw13_nodes.j2
  have hbad:∃ r,(Option.bind (z64 (most + 1)) fun v7=>some v7) = some r ∧ 1 ≤ r ∧ r ≤ most + 1 ∧ (r ≤ most → (e.sz:Int) = r):=by
   rw[z64_i (by omega)]
   exact⟨_,rfl,by omega,by omega,fun h=>by omega⟩
  rw[ltZ_eq]
  by_cases hlev:lev < 1
  ·rw[decide_eq_true hlev,cond_true,bind_in,cond_true]; exact hbad
  ·rw[decide_eq_false hlev,cond_false,bind_in,ltZ_eq]
   by_cases hnm:(60:Int) < (e.nm.length:Int)
   ·rw[decide_eq_true hnm,cond_true]; exact hbad
   ·rw[decide_eq_false hnm,cond_false]
    obtain⟨r,hr,hq⟩:=loopF_inv (body:=fun x=>ladinglaw13_nodes.b1 (ladinglaw13_nodes.rec n) (unL e.ar) most lev x.1 x.2)
     (fun k x=>∃ nn:Int,x = (nn,(k:Int)) ∧ 1 ≤ nn ∧ (k:Int) + 1 ≤ nn ∧ nn ≤ most + 1 ∧ k ≤ e.ar.length ∧ (nn ≤ most → nn = LicT.szs (e.ar.take k) + 1))
     (Q:=fun r=>1 ≤ r ∧ r ≤ most + 1 ∧ (r ≤ most → (e.sz:Int) = r)) 1002 (x:=(1,0)) ⟨1,rfl,by omega,by omega,by omega,by omega,by simp [LicT.szs]⟩ (fun k hk x hx=>by
      obtain⟨nn,rfl,a1,a2,a3,a4,a5⟩:=hx
      unfold ladinglaw13_nodes.b1 ladinglaw13_nodes.j1
      dsimp only
      rw[un_len,ltZ_eq]
      by_cases hkl:k < e.ar.length
      ·rw[decide_eq_true (by omega),cond_true,bind_in,leZ_eq]
       by_cases hnn:nn ≤ most
       ·rw[decide_eq_true hnn,cond_true,idx_un hkl,bind_in,z64_i (by omega),bind_in,z64_i (by omega),bind_in]
        simp only[fu1,fu2,fu3,fu4]
        obtain⟨r,hr,g1,g2,g3⟩:=nodes_rec n (m - 1) e.ar[k] (most - nn) (lev - 1) (by omega) (by omega) (by omega) (by omega) (by omega) (by omega)
        rw[hr,bind_in,z64_i (by omega),bind_in,z64_succ (by omega),bind_in]
        refine .inl ⟨_,rfl,_,rfl,by omega,by omega,by omega,by omega,fun h=>?_⟩
        have:=a5 hnn
        have:=g3 (by omega)
        have:=szs_take_succ hkl
        omega
       ·rw[decide_eq_false hnn,cond_false]
        exact .inr ⟨_,rfl,a1,a3,fun h=>absurd h hnn⟩
      ·rw[decide_eq_false (by omega),cond_false,bind_in,cond_false]
       refine .inr ⟨_,rfl,a1,a3,fun h=>?_⟩
       have:=a5 h
       rw[List.take_of_length_le (by omega)] at this
       rw[LicT.sz_ar]; omega) (fun x hx=>by
      obtain⟨nn,rfl,a1,a2,a3,a4,a5⟩:=hx
      omega) (by omega)
    exact⟨r,hr,hq⟩
theorem light_ok (e:LicT):∃ b,ladinglaw13_light e.op e.nm (unL e.ar) = some b ∧ (b = true → e.sz ≤ 60):=by
 unfold ladinglaw13_light ladinglaw13_nodes
 obtain⟨r,hr,g1,g2,g3⟩:=nodes_rec bigFuel.n 24 e 60 24 (by omega) (fuel_big (by omega)) (by omega) (by omega) (by omega) (by omega)
 rw[hr,bind_in,leZ_eq]
 exact⟨_,rfl,fun h=>by rw[decide_eq_true_eq] at h; have:=g3 h; omega⟩
end Go.Proofs.YtcmibmohdnbhgaaGreatDoor
namespace Go.Proofs.YtcmibmohdnbhgaaGreatDoor
open Go.Lad
theorem loop_any {α:Type} {body:Int → Option (Int ⊕ Bool)} (l:List α) (p:α → Bool) (b e:Bool)
  (h:∀ k (hk:k < l.length),body (k:Int) = some (if p l[k] = true then .inr b else .inl ((k + 1:Nat):Int)))
  (hd:body (l.length:Int) = some (.inr e)) (hn:l.length ≤ 1000000000):loopF body 0 = some (if l.any p = true then b else e):=by
 rw[loop_scan l (fun _ x=>if p x = true then some b else none) e (fun k hk=>by rw[h k hk]; cases p l[k] <;> rfl) hd (by omega),scan_any]
 cases l.any p <;> rfl
theorem loop_pos {α:Type} {body:Int → Option (Int ⊕ Int)} (l:List α) (p:α → Bool)
  (h:∀ k (hk:k < l.length),body (k:Int) = some (if p l[k] = true then .inr (k:Int) else .inl ((k + 1:Nat):Int)))
  (hd:body (l.length:Int) = some (.inr (-1))) (hn:l.length ≤ 1000000000):∃ r,loopF body 0 = some r ∧ leZ 0 r = l.any p:=by
 obtain⟨b,hb,hq⟩:=loopF_inv (body:=body) (fun k x=>x = (k:Int) ∧ ∀ x ∈ l.take k,p x = false) (Q:=fun r=>leZ 0 r = l.any p) l.length (x:=0) ⟨rfl,by simp⟩ (fun k hk x hx=>by
  obtain⟨rfl,hall⟩:=hx
  rw[h k hk]
  cases ht:p l[k] with
  | true =>
   refine .inr ⟨_,rfl,?_⟩
   rw[leZ_eq,decide_eq_true (by omega)]
   symm
   exact List.any_eq_true.2 ⟨_,List.getElem_mem hk,ht⟩
  | false=>exact .inl ⟨_,rfl,rfl,all_take_succ hk hall ht⟩) (fun x hx=>by
  obtain⟨rfl,hall⟩:=hx
  rw[List.take_length] at hall
  refine⟨_,hd,?_⟩
  rw[leZ_eq,decide_eq_false (by omega)]
  symm
  rw[List.any_eq_false]
  intro x hx
  rw[hall x hx]; simp) (by omega)
 exact⟨b,hb,hq⟩
theorem any_mem (l:List Bs) (s:Bs):l.any (fun x=>decide (x = s)) = decide (s ∈ l):=by
 rw[Bool.eq_iff_iff,List.any_eq_true,decide_eq_true_eq]
 constructor
 ·rintro⟨x,hx,h⟩
  rw[decide_eq_true_eq] at h
  subst h; exact hx
 ·intro h; exact⟨s,h,by simp⟩
theorem contains_ok (l:List Bs) (s:Bs) (hl:l.length ≤ 1000000000):slices_Contains_string_string l s = some (decide (s ∈ l)):=by
 unfold slices_Contains_string_string slices_Index_string_string
 obtain⟨r,hr,hq⟩:=loop_pos (body:=fun x=>slices_Index_string_string.b1 l s x) l (fun x=>decide (x = s)) (fun k hk=>by
  unfold slices_Index_string_string.b1
  rw[ltZ_eq,decide_eq_true (by omega),cond_true,idx_nat hk,bind_in,z64_succ (by omega)]
  have e:decide (s = l[k]) = decide (l[k] = s):=by rw[decide_eq_decide]; exact eq_comm
  rw[e]
  cases decide (l[k] = s) <;> rfl) (by
  unfold slices_Index_string_string.b1
  rw[ltZ_eq,decide_eq_false (by omega),cond_false]) hl
 rw[hr,bind_in,hq,any_mem]
theorem has_ok (l:List Bs) (s:Bs) (hl:l.length ≤ 1000000000):ladingref13_has l s = some (decide (s ∈ l)):=by
 unfold ladingref13_has
 rw[loop_any (body:=fun x=>ladingref13_has.b1 l s x) l (fun x=>decide (x = s)) true false (fun k hk=>by
  unfold ladingref13_has.b1
  rw[ltZ_eq,decide_eq_true (by omega),cond_true,idx_nat hk,bind_in,z64_succ (by omega)]
  cases decide (l[k] = s) <;> rfl) (by
  unfold ladingref13_has.b1
  rw[ltZ_eq,decide_eq_false (by omega),cond_false]) hl,any_mem]
 cases decide (s ∈ l) <;> rfl
theorem hold_rec:∀ (n:Nat) (e:LicT) (s:List Bs),e.dp < n → e.sz ≤ 1000000000 → s.length ≤ 1000000000 → licence_holds.rec n e.op e.nm (unL e.ar) s = some (e.hd s)
 | 0,_,_,h,_,_=>absurd h (by omega)
 | n + 1,e,s,hn,hz,hs=>by
  show licence_holds.body (licence_holds.rec n) e.op e.nm (unL e.ar) s = _
  unfold licence_holds.body
  rw[LicT.hd_eq]
  rw[LicT.dp_eq] at hn
  by_cases h0:e.op = 0
  ·rw[eqZ_eq,decide_eq_true h0,cond_true,contains_ok _ _ hs,if_pos h0]; rfl
  ·rw[if_neg h0] at hn ⊢
   rw[eqZ_eq,decide_eq_false h0,cond_false]
   have hlen:e.ar.length ≤ 1000000000:=by have:=LicT.len_szs e.ar; rw[LicT.sz_ar] at hz; omega
   have hr:∀ k (hk:k < e.ar.length),licence_holds.rec n e.ar[k].op e.ar[k].nm (unL e.ar[k].ar) s = some (e.ar[k].hd s):=fun k hk=>by
    have hm:=List.getElem_mem hk
    have:=LicT.dp_mem hm
    have:=LicT.sz_lt hm
    exact hold_rec n e.ar[k] s (by omega) (by omega) hs
   by_cases h2:e.op = 2
   ·rw[eqZ_eq,decide_eq_true h2,cond_true,if_pos h2]
    unfold slices_ContainsFunc_api_Lic_api_Lic slices_IndexFunc_api_Lic_api_Lic
    obtain⟨r,hrr,hq⟩:=loop_pos (body:=fun x=>slices_IndexFunc_api_Lic_api_Lic.b1 (licence_holds.rec n) (unL e.ar) s x) e.ar (·.hd s) (fun k hk=>by
     unfold slices_IndexFunc_api_Lic_api_Lic.b1 licence_holds_1
     rw[un_len,ltZ_eq,decide_eq_true (by omega),cond_true,idx_un hk]
     simp only[bind_in,fu1,fu2,fu3,fu4]
     rw[hr k hk,z64_succ (by omega)]
     simp only[bind_in]
     cases e.ar[k].hd s <;> rfl) (by
     unfold slices_IndexFunc_api_Lic_api_Lic.b1
     rw[un_len,ltZ_eq,decide_eq_false (by omega),cond_false]) hlen
    rw[hrr]
    simp only[bind_in]
    rw[hq]
   ·rw[eqZ_eq,decide_eq_false h2,cond_false,if_neg h2]
    unfold slices_ContainsFunc_api_Lic_api_Lic_v2 slices_IndexFunc_api_Lic_api_Lic_v2
    obtain⟨r,hrr,hq⟩:=loop_pos (body:=fun x=>slices_IndexFunc_api_Lic_api_Lic_v2.b1 (licence_holds.rec n) (unL e.ar) s x) e.ar (fun x=>!x.hd s) (fun k hk=>by
     unfold slices_IndexFunc_api_Lic_api_Lic_v2.b1 licence_holds_2 licence_holds_1
     rw[un_len,ltZ_eq,decide_eq_true (by omega),cond_true,idx_un hk]
     simp only[bind_in,fu1,fu2,fu3,fu4]
     rw[hr k hk,z64_succ (by omega)]
     simp only[bind_in]
     cases e.ar[k].hd s <;> rfl) (by
     unfold slices_IndexFunc_api_Lic_api_Lic_v2.b1
     rw[un_len,ltZ_eq,decide_eq_false (by omega),cond_false]) hlen
    rw[hrr]
    simp only[bind_in]
    rw[hq]
    congr 1
    rw[← List.not_all_eq_any_not,Bool.not_not]
theorem hold_ok (e:LicT) (s:List Bs) (hz:e.sz ≤ 1000000000) (hs:s.length ≤ 1000000000):licence_holds e.op e.nm (unL e.ar) s = some (e.hd s):=by
 have:=dp_sz e
 exact hold_rec bigFuel.n e s (fuel_big (by omega)) hz hs
theorem fm_op {e:LicT} (h:e.fm = true):e.op = 0 ∨ e.op = 1 ∨ e.op = 2:=by
 rw[LicT.fm_eq] at h
 by_cases h0:e.op = 0
 ·exact .inl h0
 ·rw[if_neg h0,Bool.and_eq_true,decide_eq_true_eq] at h
  exact .inr h.1.1
theorem fm_ar {e x:LicT} (h:e.fm = true) (hx:x ∈ e.ar):x.fm = true ∧ x.op ≠ e.op:=by
 rw[LicT.fm_eq] at h
 by_cases h0:e.op = 0
 ·rw[if_pos h0,Bool.and_eq_true,List.isEmpty_iff] at h
  rw[h.2] at hx; cases hx
 ·rw[if_neg h0,Bool.and_eq_true] at h
  exact (LicT.fms_iff _ _).1 h.2 x hx
theorem perm_rec:∀ (n:Nat) (e:LicT) (s:List Bs),e.fm = true → e.dp < n → e.sz ≤ 1000000000 → s.length ≤ 1000000000 → ladingref13_permits.rec n e.op e.nm (unL e.ar) s = some (e.hd s)
 | 0,_,_,_,h,_,_=>absurd h (by omega)
 | n + 1,e,s,hf,hn,hz,hs=>by
  show ladingref13_permits.body (ladingref13_permits.rec n) e.op e.nm (unL e.ar) s = _
  unfold ladingref13_permits.body
  rw[LicT.hd_eq]
  rw[LicT.dp_eq] at hn
  by_cases h0:e.op = 0
  ·rw[eqZ_eq,decide_eq_true h0,cond_true,has_ok _ _ hs,if_pos h0]; rfl
  ·rw[if_neg h0] at hn ⊢
   rw[eqZ_eq,decide_eq_false h0,cond_false]
   have hlen:e.ar.length ≤ 1000000000:=by have:=LicT.len_szs e.ar; rw[LicT.sz_ar] at hz; omega
   have hr:∀ k (hk:k < e.ar.length),ladingref13_permits.rec n e.ar[k].op e.ar[k].nm (unL e.ar[k].ar) s = some (e.ar[k].hd s):=fun k hk=>by
    have hm:=List.getElem_mem hk
    have:=LicT.dp_mem hm
    have:=LicT.sz_lt hm
    exact perm_rec n e.ar[k] s (fm_ar hf hm).1 (by omega) (by omega) hs
   rcases fm_op hf with h | h1 | h2
   ·exact absurd h h0
   ·rw[if_neg (by omega)]
    rw[loop_any (body:=fun x=>ladingref13_permits.b1 (ladingref13_permits.rec n) e.op (unL e.ar) s x) e.ar (fun x=>!x.hd s) false true (fun k hk=>by
     unfold ladingref13_permits.b1
     rw[un_len,ltZ_eq,decide_eq_true (by omega),cond_true,idx_un hk]
     simp only[bind_in,fu1,fu2,fu3,fu4]
     rw[hr k hk,z64_succ (by omega),eqZ_eq,decide_eq_true h1]
     simp only[bind_in]
     cases e.ar[k].hd s <;> rfl) (by
     unfold ladingref13_permits.b1
     rw[un_len,ltZ_eq,decide_eq_false (by omega),cond_false,eqZ_eq,decide_eq_true h1]) hlen]
    congr 1
    rw[← List.not_all_eq_any_not]
    cases e.ar.all (·.hd s) <;> rfl
   ·rw[if_pos h2]
    rw[loop_any (body:=fun x=>ladingref13_permits.b1 (ladingref13_permits.rec n) e.op (unL e.ar) s x) e.ar (·.hd s) true false (fun k hk=>by
     unfold ladingref13_permits.b1
     rw[un_len,ltZ_eq,decide_eq_true (by omega),cond_true,idx_un hk]
     simp only[bind_in,fu1,fu2,fu3,fu4]
     rw[hr k hk,z64_succ (by omega),eqZ_eq,decide_eq_false (by omega)]
     simp only[bind_in]
     cases e.ar[k].hd s <;> rfl) (by
     unfold ladingref13_permits.b1
     rw[un_len,ltZ_eq,decide_eq_false (by omega),cond_false,eqZ_eq,decide_eq_false (by omega)]) hlen]
    cases e.ar.any (·.hd s) <;> rfl
theorem perm_ok (e:LicT) (s:List Bs) (hf:e.fm = true) (hz:e.sz ≤ 1000000000) (hs:s.length ≤ 1000000000):ladingref13_permits e.op e.nm (unL e.ar) s = some (e.hd s):=by
 have:=dp_sz e
 exact perm_rec bigFuel.n e s hf (fuel_big (by omega)) hz hs
theorem permits_ok (e:LicT) (s:List Bs) (hz:e.sz ≤ 1000000000) (hs:s.length ≤ 1000000000):licence_Permits e.op e.nm (unL e.ar) s = some (e.rt && e.hd s):=by
 unfold licence_Permits
 rw[right_ok e hz,bind_in,hold_ok e s hz hs]
 cases e.rt <;> rfl
theorem sameNames_ok (a b:List Bs) (ha:a.length ≤ 1000000000):ladingref13_SameNames a b = some (decide (a = b)):=by
 unfold ladingref13_SameNames
 rw[eqZ_eq]
 by_cases hl:a.length = b.length
 ·rw[decide_eq_true (by omega),Bool.not_true,cond_false]
  obtain⟨r,hr,hq⟩:=loop_all (body:=fun x=>ladingref13_SameNames.b1 a b x) a (fun k x=>decide (b[k]? = some x)) (fun k hk=>by
   unfold ladingref13_SameNames.b1
   rw[ltZ_eq,decide_eq_true (by omega),cond_true,idx_nat hk,bind_in,idx_nat (show k < b.length by omega),bind_in,z64_succ (by omega)]
   have e:decide (b[k]? = some a[k]) = decide (a[k] = b[k]'(by omega)):=by rw[decide_eq_decide,List.getElem?_eq_getElem (by omega),Option.some_inj]; exact eq_comm
   rw[e]
   cases decide (a[k] = b[k]'(by omega)) <;> rfl) (by
   unfold ladingref13_SameNames.b1
   rw[ltZ_eq,decide_eq_false (by omega),cond_false]) (by omega)
  rw[hr]
  congr 1
  rw[Bool.eq_iff_iff,hq,decide_eq_true_eq]
  constructor
  ·intro h
   refine List.ext_getElem hl fun i h1 h2=>?_
   have:=h i h1
   rw[decide_eq_true_eq,List.getElem?_eq_getElem h2,Option.some_inj] at this
   exact this.symm
  ·rintro rfl k hk
   simp [hk]
 ·rw[decide_eq_false (by omega),Bool.not_false,cond_true,decide_eq_false (fun e=>hl (by rw[e]))]
theorem sameSets_ok (a b:List (List Bs)) (ha:a.length ≤ 1000000000) (hs:∀ x ∈ a,x.length ≤ 1000000000):ladingref13_SameSets a b = some (decide (a = b)):=by
 unfold ladingref13_SameSets
 rw[eqZ_eq]
 by_cases hl:a.length = b.length
 ·rw[decide_eq_true (by omega),Bool.not_true,cond_false]
  obtain⟨r,hr,hq⟩:=loop_all (body:=fun x=>ladingref13_SameSets.b1 a b x) a (fun k x=>decide (b[k]? = some x)) (fun k hk=>by
   unfold ladingref13_SameSets.b1
   rw[ltZ_eq,decide_eq_true (by omega),cond_true,idx_nat hk,bind_in,idx_nat (show k < b.length by omega),bind_in,sameNames_ok _ _ (hs _ (List.getElem_mem hk)),bind_in,z64_succ (by omega)]
   have e:decide (b[k]? = some a[k]) = decide (a[k] = b[k]'(by omega)):=by rw[decide_eq_decide,List.getElem?_eq_getElem (by omega),Option.some_inj]; exact eq_comm
   rw[e]
   cases decide (a[k] = b[k]'(by omega)) <;> rfl) (by
   unfold ladingref13_SameSets.b1
   rw[ltZ_eq,decide_eq_false (by omega),cond_false]) (by omega)
  rw[hr]
  congr 1
  rw[Bool.eq_iff_iff,hq,decide_eq_true_eq]
  constructor
  ·intro h
   refine List.ext_getElem hl fun i h1 h2=>?_
   have:=h i h1
   rw[decide_eq_true_eq,List.getElem?_eq_getElem h2,Option.some_inj] at this
   exact this.symm
  ·rintro rfl k hk
   simp [hk]
 ·rw[decide_eq_false (by omega),Bool.not_false,cond_true,decide_eq_false (fun e=>hl (by rw[e]))]
theorem same_rec:∀ (n:Nat) (a b:LicT),a.sz < n → a.sz ≤ 1000000000 → ∃ r,ladingref13_Same.rec n a.op a.nm (unL a.ar) b.op b.nm (unL b.ar) = some r ∧ (r = true ↔ a = b)
 | 0,_,_,h,_=>absurd h (by omega)
 | n + 1,a,b,hn,hz=>by
  show ∃ r,ladingref13_Same.body (ladingref13_Same.rec n) a.op a.nm (unL a.ar) b.op b.nm (unL b.ar) = some r ∧ _
  unfold ladingref13_Same.body ladingref13_Same.j1
  have heq:a = b ↔ a.op = b.op ∧ a.nm = b.nm ∧ a.ar = b.ar:=by
   cases a; cases b; simp [LicT.op,LicT.nm,LicT.ar]
  rw[heq,un_len,un_len,eqZ_eq,eqZ_eq]
  by_cases h1:a.op = b.op
  ·rw[decide_eq_true h1,Bool.not_true,cond_false]
   by_cases h2:a.nm = b.nm
   ·rw[decide_eq_true h2,Bool.not_true,cond_false]
    by_cases h3:a.ar.length = b.ar.length
    ·rw[decide_eq_true (by omega),Bool.not_true,bind_in,cond_false]
     have hlen:a.ar.length ≤ 1000000000:=by have:=LicT.len_szs a.ar; rw[LicT.sz_ar] at hz; omega
     obtain⟨r,hr,hq⟩:=loopF_inv (body:=fun x=>ladingref13_Same.b1 (ladingref13_Same.rec n) (unL a.ar) (unL b.ar) x) (fun k x=>x = (k:Int) ∧ a.ar.take k = b.ar.take k) (Q:=fun r=>r = true ↔ a.ar = b.ar) a.ar.length (x:=0) ⟨rfl,by simp⟩ (fun k hk x hx=>by
      obtain⟨rfl,hall⟩:=hx
      unfold ladingref13_Same.b1
      rw[un_len,ltZ_eq,decide_eq_true (by omega),cond_true,idx_un hk,bind_in,idx_un (show k < b.ar.length by omega),bind_in]
      simp only[fu1,fu2,fu3,fu4]
      have:=LicT.sz_lt (List.getElem_mem hk)
      obtain⟨r,hr,hq⟩:=same_rec n a.ar[k] (b.ar[k]'(by omega)) (by omega) (by omega)
      rw[hr,bind_in,z64_succ (by omega)]
      cases r with
      | false =>
       refine .inr ⟨false,rfl,by simp,fun h=>?_⟩
       have:a.ar[k] = b.ar[k]'(by omega):=List.getElem_of_eq h hk
       exact (hq.2 this)
      | true =>
       refine .inl ⟨_,rfl,rfl,?_⟩
       rw[List.take_succ_eq_append_getElem hk,List.take_succ_eq_append_getElem (by omega),hall,hq.1 rfl]) (fun x hx=>by
      obtain⟨rfl,hall⟩:=hx
      unfold ladingref13_Same.b1
      rw[un_len,ltZ_eq,decide_eq_false (by omega),cond_false]
      refine⟨true,rfl,fun _=>?_,fun _=>rfl⟩
      rw[List.take_length,List.take_of_length_le (by omega)] at hall
      exact hall) (by omega)
     exact⟨r,hr,by rw[hq]; simp [h1,h2]⟩
    ·rw[decide_eq_false (by omega),Bool.not_false,bind_in,cond_true]
     exact⟨false,rfl,by simp; intro _ _ h; exact h3 (by rw[h])⟩
   ·rw[decide_eq_false h2,Bool.not_false,cond_true,bind_in,cond_true]
    exact⟨false,rfl,by simp [h2]⟩
  ·rw[decide_eq_false h1,Bool.not_false,cond_true,bind_in,cond_true]
   exact⟨false,rfl,by simp [h1]⟩
theorem same_ok (a b:LicT) (hz:a.sz ≤ 1000000000):∃ r,ladingref13_Same a.op a.nm (unL a.ar) b.op b.nm (unL b.ar) = some r ∧ (r = true ↔ a = b):=same_rec bigFuel.n a b (fuel_big (by omega)) hz
end Go.Proofs.YtcmibmohdnbhgaaGreatDoor
namespace Go.Lad
def Asc (l:List Bs):Prop:=l.Pairwise fun a b=>Op.bytesLess a b = true
theorem le_bl {x y:Bs}:leS x y = true ↔ Op.bytesLess y x = false:=by
 unfold leS
 rw[Proofs.bytesLess_eq,decide_eq_true_eq,decide_eq_false_iff_not]
 exact (List.not_lt).symm
theorem leS_trans (a b c:Bs) (h1:leS a b = true) (h2:leS b c = true):leS a c = true:=by
 rw[le_bl,← Bool.not_eq_true] at h1 h2 ⊢
 intro h
 by_cases hab:a = b
 ·subst hab; exact h2 h
 ·rcases bl_tri hab with h3 | h3
  ·exact h2 (bl_trans h h3)
  ·exact h1 h3
theorem leS_total (a b:Bs):(leS a b || leS b a) = true:=by
 rw[Bool.or_eq_true,le_bl,le_bl]
 cases h:Op.bytesLess b a with
 | false=>exact .inl rfl
 | true =>
  refine .inr ?_
  rw[← Bool.not_eq_true]
  intro h2
  have:=bl_trans h h2
  rw[bl_irrefl] at this; cases this
theorem leS_refl (a:Bs):leS a a = true:=by rw[le_bl,bl_irrefl]
theorem leS_anti {a b:Bs} (h1:leS a b = true) (h2:leS b a = true):a = b:=by
 rw[le_bl,← Bool.not_eq_true] at h1 h2
 refine Classical.byContradiction fun h=>?_
 rcases bl_tri h with h3 | h3
 ·exact h2 h3
 ·exact h1 h3
theorem bl_le {a b:Bs} (h:Op.bytesLess a b = true):leS a b = true:=by
 rw[le_bl,← Bool.not_eq_true]
 intro h2
 have:=bl_trans h h2
 rw[bl_irrefl] at this; cases this
theorem le_ne {a b:Bs} (h:leS a b = true) (hn:a ≠ b):Op.bytesLess a b = true:=by
 rcases bl_tri hn with h1 | h1
 ·exact h1
 ·rw[le_bl,h1] at h; cases h
theorem comp_asc {l:List Bs} (h:l.Pairwise fun a b=>leS a b = true):∀ m,m ≤ l.length → Asc (Lib.compactUpTo l.toArray m) ∧ (∀ x,x ∈ Lib.compactUpTo l.toArray m ↔ x ∈ l.take m)
 | 0,_=>by simp [Lib.compactUpTo,Asc]
 | m + 1,hm=>by
  obtain⟨h1,h2⟩:=comp_asc h m (by omega)
  have hml:m < l.length:=by omega
  have hd:l.toArray[m]! = l[m]:=by simp [hml]
  rw[Lib.compactUpTo_succ,hd]
  have hle:∀ x ∈ l.take m,leS x l[m] = true:=fun x hx=>by
   obtain⟨i,hi,rfl⟩:=List.mem_iff_getElem.1 hx
   rw[List.length_take] at hi
   rw[List.getElem_take]
   exact List.pairwise_iff_getElem.1 h i m (by omega) hml (by omega)
  cases hk:Lib.keeps l.toArray m with
  | true =>
   rw[if_pos rfl]
   refine⟨List.pairwise_append.2 ⟨h1,by simp,fun x hx y hy=>?_⟩,fun x=>?_⟩
   ·rw[List.mem_singleton.1 hy]
    have hxt:=(h2 x).1 hx
    refine le_ne (hle x hxt) fun e=>?_
    subst e
    unfold Lib.keeps at hk
    rw[decide_eq_true_eq] at hk
    rcases hk with hk | hk
    ·subst hk; simp at hxt
    ·obtain⟨i,hi,hie⟩:=List.mem_iff_getElem.1 hxt
     rw[List.length_take] at hi
     rw[List.getElem_take] at hie
     have hpm:m - 1 < l.length:=by omega
     have hd2:l.toArray[m - 1]! = l[m - 1]:=by simp [hpm]
     rw[hd,hd2] at hk
     have h3:leS l[i] l[m - 1] = true:=by
      rcases Nat.lt_or_ge i (m - 1) with h5 | h5
      ·exact List.pairwise_iff_getElem.1 h i (m - 1) (by omega) hpm h5
      ·have:i = m - 1:=by omega
       subst this; exact leS_refl _
     have h4:=List.pairwise_iff_getElem.1 h (m - 1) m hpm hml (by omega)
     rw[hie] at h3
     exact hk (leS_anti h3 h4)
   ·rw[List.mem_append,h2,List.take_succ_eq_append_getElem hml,List.mem_append]
  | false =>
   rw[if_neg (by simp),List.append_nil]
   refine⟨h1,fun x=>?_⟩
   rw[h2,List.take_succ_eq_append_getElem hml,List.mem_append,List.mem_singleton]
   refine⟨.inl,fun hx=>hx.elim id fun e=>?_⟩
   subst e
   unfold Lib.keeps at hk
   rw[decide_eq_false_iff_not] at hk
   have hm0:m ≠ 0:=fun e=>hk (.inl e)
   have he:l.toArray[m]! = l.toArray[m - 1]! := Classical.byContradiction fun e=>hk (.inr e)
   have hpm:m - 1 < l.length:=by omega
   have hd2:l.toArray[m - 1]! = l[m - 1]:=by simp [hpm]
   rw[hd,hd2] at he
   rw[he]
   exact List.mem_iff_getElem.2 ⟨m - 1,by rw[List.length_take]; omega,by rw[List.getElem_take]⟩
def srt (l:List Bs):List Bs:=Lib.compact (l.mergeSort leS)
theorem srt_asc (l:List Bs):Asc (srt l):=(comp_asc (List.pairwise_mergeSort leS_trans leS_total l) _ (Nat.le_refl _)).1
theorem mem_srt {l:List Bs} {x:Bs}:x ∈ srt l ↔ x ∈ l:=by
 refine ((comp_asc (List.pairwise_mergeSort leS_trans leS_total l) _ (Nat.le_refl _)).2 x).trans ?_
 rw[List.take_length]
 exact (List.mergeSort_perm _ _).mem_iff
theorem srt_len (l:List Bs):(srt l).length ≤ l.length:=by
 unfold srt Lib.compact Lib.compactUpTo
 rw[List.length_map]
 refine Nat.le_trans (List.length_filter_le _ _) ?_
 rw[List.length_range,List.length_mergeSort]; exact Nat.le_refl _
theorem asc_nodup {l:List Bs} (h:Asc l):l.Nodup:=h.imp fun {a b} hab e=>by subst e; rw[bl_irrefl] at hab; cases hab
theorem asc_ext {a b:List Bs} (ha:Asc a) (hb:Asc b) (h:∀ x,x ∈ a ↔ x ∈ b):a = b :=
 List.Perm.eq_of_pairwise (le:=fun x y=>leS x y = true) (fun _ _ _ _=>leS_anti) (ha.imp fun h=>bl_le h) (hb.imp fun h=>bl_le h)
  ((List.perm_ext_iff_of_nodup (asc_nodup ha) (asc_nodup hb)).2 h)
theorem srt_ext {l m:List Bs} (h:∀ x,x ∈ l ↔ x ∈ m):srt l = srt m:=asc_ext (srt_asc l) (srt_asc m) fun x=>by rw[mem_srt,mem_srt,h]
theorem srt_self {l:List Bs} (h:Asc l):srt l = l:=asc_ext (srt_asc l) h fun x=>mem_srt
theorem sortS_ok {l:List Bs} (h:l.length ≤ 4000000000):sortS l = some (l.mergeSort leS):=by
 unfold sortS
 rw[show Nat.ble l.length 4000000000 = true by rw[Nat.ble_eq]; exact h,cond_true]
theorem compS_ok {l:List Bs} (h:l.length ≤ 4000000000):compS (l.mergeSort leS) = some (srt l):=by
 unfold compS
 rw[show Nat.ble (l.mergeSort leS).length 4000000000 = true by rw[Nat.ble_eq,List.length_mergeSort]; exact h,cond_true]
 rfl
theorem put_asc {l:List Bs} {s:Bs} {i:Nat} (ha:Asc l) (hi:i ≤ l.length) (h1:∀ x ∈ l.take i,Op.bytesLess x s = true)
  (h2:∀ h:i < l.length,Op.bytesLess l[i] s = false) :
  l.take i ++ [s] ++ (if h:i < l.length then (if l[i] = s then l.drop (i + 1) else l.drop i) else []) = srt (s :: l):=by
 refine asc_ext ?_ (srt_asc _) fun x=>?_
 ·rw[List.append_assoc]
  refine List.pairwise_append.2 ⟨List.Pairwise.sublist (List.take_sublist _ _) ha,List.pairwise_append.2 ⟨by simp,?_,?_⟩,?_⟩
  ·split
   ·split
    ·exact List.Pairwise.sublist (List.drop_sublist _ _) ha
    ·exact List.Pairwise.sublist (List.drop_sublist _ _) ha
   ·exact List.Pairwise.nil
  ·intro x hx y hy
   rw[List.mem_singleton.1 hx]
   split at hy
   ·rename_i h
    split at hy
    ·rename_i he
     obtain⟨j,hj,rfl⟩:=List.mem_iff_getElem.1 hy
     rw[List.length_drop] at hj
     rw[List.getElem_drop,← he]
     exact List.pairwise_iff_getElem.1 ha i (i + 1 + j) h (by omega) (by omega)
    ·rename_i he
     have hs:Op.bytesLess s l[i] = true:=by
      rcases bl_tri he with h3 | h3
      ·rw[h2 h] at h3; cases h3
      ·exact h3
     obtain⟨j,hj,rfl⟩:=List.mem_iff_getElem.1 hy
     rw[List.length_drop] at hj
     rw[List.getElem_drop]
     cases j with
     | zero=>exact hs
     | succ j=>exact bl_trans hs (List.pairwise_iff_getElem.1 ha i (i + (j + 1)) h (by omega) (by omega))
   ·cases hy
  ·intro x hx y hy
   have hxs:=h1 x hx
   obtain⟨j,hj,rfl⟩:=List.mem_iff_getElem.1 hx
   rw[List.length_take] at hj
   rw[List.getElem_take]
   rcases List.mem_append.1 hy with hy | hy
   ·rw[List.mem_singleton.1 hy]; rw[List.getElem_take] at hxs; exact hxs
   ·have hd:y ∈ l.drop i:=by
     split at hy
     ·split at hy
      ·rw[show l.drop (i + 1) = (l.drop i).drop 1 by rw[List.drop_drop]] at hy
       exact List.mem_of_mem_drop hy
      ·exact hy
     ·cases hy
    obtain⟨k,hk,rfl⟩:=List.mem_iff_getElem.1 hd
    rw[List.length_drop] at hk
    rw[List.getElem_drop]
    exact List.pairwise_iff_getElem.1 ha j (i + k) (by omega) (by omega) (by omega)
 ·rw[mem_srt,List.mem_append,List.mem_append,List.mem_singleton,List.mem_cons]
  have hsp:x ∈ l ↔ x ∈ l.take i ∨ x ∈ l.drop i:=by rw[← List.mem_append,List.take_append_drop]
  rw[hsp]
  by_cases h:i < l.length
  ·rw[dif_pos h]
   by_cases he:l[i] = s
   ·rw[if_pos he,List.drop_eq_getElem_cons h,List.mem_cons,he]
    constructor
    ·rintro ((h | h) | h)
     ·exact .inr (.inl h)
     ·exact .inl h
     ·exact .inr (.inr (.inr h))
    ·rintro (h | h | h | h)
     ·exact .inl (.inr h)
     ·exact .inl (.inl h)
     ·exact .inl (.inr h)
     ·exact .inr h
   ·rw[if_neg he]
    constructor
    ·rintro ((h | h) | h)
     ·exact .inr (.inl h)
     ·exact .inl h
     ·exact .inr (.inr h)
    ·rintro (h | h | h)
     ·exact .inl (.inr h)
     ·exact .inl (.inl h)
     ·exact .inr h
  ·rw[dif_neg h,List.drop_eq_nil_of_le (by omega)]
   simp only[List.not_mem_nil,or_false]
   exact or_comm
end Go.Lad
namespace Go.Lad
def subB (a b:List Bs):Bool:=a.all fun x=>decide (x ∈ b)
theorem subB_iff {a b:List Bs}:subB a b = true ↔ ∀ x ∈ a,x ∈ b:=by
 unfold subB
 rw[List.all_eq_true]
 constructor
 ·intro h x hx; simpa using h x hx
 ·intro h x hx; simpa using h x hx
theorem sub_refl (a:List Bs):subB a a = true:=subB_iff.2 fun _ h=>h
theorem sub_trans {a b c:List Bs} (h1:subB a b = true) (h2:subB b c = true):subB a c = true :=
 subB_iff.2 fun x hx=>subB_iff.1 h2 x (subB_iff.1 h1 x hx)
theorem sub_srt {a b x:List Bs}:subB (srt (a ++ b)) x = true ↔ subB a x = true ∧ subB b x = true:=by
 rw[subB_iff,subB_iff,subB_iff]
 constructor
 ·intro h
  exact⟨fun y hy=>h y (mem_srt.2 (List.mem_append.2 (.inl hy))),fun y hy=>h y (mem_srt.2 (List.mem_append.2 (.inr hy)))⟩
 ·rintro⟨h1,h2⟩ y hy
  rcases List.mem_append.1 (mem_srt.1 hy) with h | h
  ·exact h1 y h
  ·exact h2 y h
theorem sub_anti {a b:List Bs} (ha:Asc a) (hb:Asc b) (h1:subB a b = true) (h2:subB b a = true):a = b :=
 asc_ext ha hb fun x=>⟨subB_iff.1 h1 x,subB_iff.1 h2 x⟩
theorem nodup_len:∀ {b a:List Bs},b.Nodup → (∀ x ∈ b,x ∈ a) → b.length ≤ a.length
 | [],_,_,_=>Nat.zero_le _
 | y :: b,a,hn,h=>by
  have hy:y ∈ a:=h y (by simp)
  have hn':=List.nodup_cons.1 hn
  have:=nodup_len (b:=b) (a:=a.erase y) hn'.2 fun x hx=>by
   have hne:x ≠ y:=fun e=>hn'.1 (e ▸ hx)
   exact (List.mem_erase_of_ne hne).2 (h x (by simp [hx]))
  rw[List.length_erase_of_mem hy] at this
  have:=List.length_pos_of_mem hy
  rw[List.length_cons]; omega
theorem sub_len {a b:List Bs} (hb:Asc b) (h:subB b a = true) (hl:a.length ≤ b.length):subB a b = true:=by
 rw[subB_iff] at h ⊢
 intro x hx
 refine Classical.byContradiction fun hn=>?_
 have:=nodup_len (b:=x :: b) (a:=a) (List.nodup_cons.2 ⟨hn,asc_nodup hb⟩) fun y hy=>by
  rcases List.mem_cons.1 hy with rfl | hy
  ·exact hx
  ·exact h y hy
 rw[List.length_cons] at this; omega
theorem ls_len {a b:List Bs} (h:leSets a b = true):a.length ≤ b.length:=by
 unfold leSets at h
 rw[Bool.not_eq_true',← Bool.not_eq_true,ss_iff] at h
 refine Classical.byContradiction fun hn=>h (.inl (by omega))
theorem ls_ne {a b:List Bs} (h:leSets a b = true) (hn:a ≠ b):cmpSets a b = true:=by
 rcases ss_tri hn with h1 | h1
 ·exact h1
 ·unfold leSets at h; rw[h1] at h; cases h
theorem ss_ls {a b:List Bs} (h:cmpSets a b = true):leSets a b = true:=by
 unfold leSets
 rw[Bool.not_eq_true',← Bool.not_eq_true]
 intro h2
 have:=ss_trans h h2
 rw[ss_irrefl] at this; cases this
def Up (l:List (List Bs)) (x:List Bs):Prop := ∃ a ∈ l,subB a x = true
theorem up_app (l m:List (List Bs)) (x:List Bs):Up (l ++ m) x ↔ Up l x ∨ Up m x:=by
 constructor
 ·rintro⟨a,ha,h⟩
  rcases List.mem_append.1 ha with ha | ha
  ·exact .inl ⟨a,ha,h⟩
  ·exact .inr ⟨a,ha,h⟩
 ·rintro (⟨a,ha,h⟩ | ⟨a,ha,h⟩)
  ·exact⟨a,by simp [ha],h⟩
  ·exact⟨a,by simp [ha],h⟩
theorem up_nil (x:List Bs):¬ Up [] x:=fun⟨_,h,_⟩=>by cases h
theorem up_one (s x:List Bs):Up [s] x ↔ subB s x = true:=by
 constructor
 ·rintro⟨a,ha,h⟩; rw[List.mem_singleton.1 ha] at h; exact h
 ·intro h; exact⟨s,by simp,h⟩
def Anti (l:List (List Bs)):Prop:=(∀ a ∈ l,Asc a) ∧ l.Pairwise (fun a b=>cmpSets a b = true) ∧ ∀ a ∈ l,∀ b ∈ l,subB a b = true → a = b
theorem anti_nil:Anti []:=⟨by simp,List.Pairwise.nil,by simp⟩
theorem anti_one {s:List Bs} (h:Asc s):Anti [s]:=⟨fun a ha=>by rw[List.mem_singleton.1 ha]; exact h,by simp,fun a ha b hb _=>by rw[List.mem_singleton.1 ha,List.mem_singleton.1 hb]⟩
theorem anti_mem {l m:List (List Bs)} (hl:Anti l) (hm:Anti m) (h:∀ x,Asc x → (Up l x ↔ Up m x)):∀ a ∈ l,a ∈ m:=fun a ha=>by
 obtain⟨b,hb,hs⟩:=(h a (hl.1 a ha)).1 ⟨a,ha,sub_refl a⟩
 obtain⟨c,hc,hs2⟩:=(h b (hm.1 b hb)).2 ⟨b,hb,sub_refl b⟩
 have e:=hl.2.2 c hc a ha (sub_trans hs2 hs)
 subst e
 rw[sub_anti (hl.1 c ha) (hm.1 b hb) hs2 hs]; exact hb
theorem anti_ext {l m:List (List Bs)} (hl:Anti l) (hm:Anti m) (h:∀ x,Asc x → (Up l x ↔ Up m x)):l = m:=by
 have nd:∀ {l:List (List Bs)},Anti l → l.Nodup:=fun h=>h.2.1.imp fun {a b} hab e=>by subst e; rw[ss_irrefl] at hab; cases hab
 exact List.Perm.eq_of_pairwise (le:=fun a b=>leSets a b = true) (fun _ _ _ _=>ls_anti) (hl.2.1.imp ss_ls) (hm.2.1.imp ss_ls)
  ((List.perm_ext_iff_of_nodup (nd hl) (nd hm)).2 fun a=>⟨anti_mem hl hm h a,anti_mem hm hl (fun x hx=>(h x hx).symm) a⟩)
def prodS (l m:List (List Bs)):List (List Bs):=l.flatMap fun a=>m.map fun b=>srt (a ++ b)
theorem prod_len (l m:List (List Bs)):(prodS l m).length = l.length * m.length:=by
 unfold prodS
 induction l with
 | nil=>simp
 | cons a l ih=>rw[List.flatMap_cons,List.length_append,ih,List.length_map,List.length_cons,Nat.succ_mul]; omega
theorem mem_prod {l m:List (List Bs)} {x:List Bs}:x ∈ prodS l m ↔ ∃ a ∈ l,∃ b ∈ m,x = srt (a ++ b):=by
 unfold prodS
 rw[List.mem_flatMap]
 constructor
 ·rintro⟨a,ha,h⟩
  obtain⟨b,hb,rfl⟩:=List.mem_map.1 h
  exact⟨a,ha,b,hb,rfl⟩
 ·rintro⟨a,ha,b,hb,rfl⟩
  exact⟨a,ha,List.mem_map.2 ⟨b,hb,rfl⟩⟩
theorem up_prod (l m:List (List Bs)) (x:List Bs):Up (prodS l m) x ↔ Up l x ∧ Up m x:=by
 constructor
 ·rintro⟨s,hs,h⟩
  obtain⟨a,ha,b,hb,rfl⟩:=mem_prod.1 hs
  exact⟨⟨a,ha,(sub_srt.1 h).1⟩,⟨b,hb,(sub_srt.1 h).2⟩⟩
 ·rintro⟨⟨a,ha,h1⟩,⟨b,hb,h2⟩⟩
  exact⟨_,mem_prod.2 ⟨a,ha,b,hb,rfl⟩,sub_srt.2 ⟨h1,h2⟩⟩
theorem prod_snoc (l m:List (List Bs)) (a:List Bs):prodS (l ++ [a]) m = prodS l m ++ m.map fun b=>srt (a ++ b):=by
 unfold prodS
 rw[List.flatMap_append]
 congr 1
 simp
end Go.Lad
namespace Go.Lad
mutual
def LicT.nl:LicT → List Bs
 | .mk o n l=>(if o = 0 then [n] else []) ++ LicT.nls l
def LicT.nls:List LicT → List Bs
 | []=>[]
 | x :: r=>x.nl ++ LicT.nls r
end
theorem LicT.nl_eq (e:LicT):e.nl = (if e.op = 0 then [e.nm] else []) ++ LicT.nls e.ar:=by cases e; rw[LicT.nl]; rfl
theorem LicT.nls_app (l m:List LicT):LicT.nls (l ++ m) = LicT.nls l ++ LicT.nls m:=by
 induction l with
 | nil=>rw[LicT.nls]; rfl
 | cons x r ih=>rw[List.cons_append,LicT.nls,LicT.nls,ih,List.append_assoc]
theorem LicT.nls_one (x:LicT):LicT.nls [x] = x.nl:=by rw[LicT.nls,LicT.nls,List.append_nil]
theorem LicT.nls_len {l:List LicT} (h:∀ x ∈ l,x.nl.length ≤ x.sz):(LicT.nls l).length ≤ LicT.szs l:=by
 induction l with
 | nil=>rw[LicT.nls]; exact Nat.zero_le _
 | cons x r ih =>
  rw[LicT.nls,LicT.szs,List.length_append]
  have h1:=h x (by simp)
  have h2:=ih fun y hy=>h y (by simp [hy])
  omega
theorem LicT.nl_len (e:LicT):e.nl.length ≤ e.sz:=by
 induction e using LicT.ind with
 | h e ih =>
  rw[LicT.nl_eq,LicT.sz_ar,List.length_append]
  have:=LicT.nls_len ih
  split <;> simp <;> omega
end Go.Lad
namespace Go.Proofs.YtcmibmohdnbhgaaGreatDoor
open Go.Lad
theorem nls_take_succ {l:List LicT} {k:Nat} (hk:k < l.length):LicT.nls (l.take (k + 1)) = LicT.nls (l.take k) ++ l[k].nl:=by
 rw[take_snoc l k hk,LicT.nls_app,LicT.nls_one]
theorem raw_loop {f:Int → Bs → List GLic → List Bs → Option (List Bs)} (e:LicT) (p:List Bs) {body:Int × List Bs → Option ((Int × List Bs) ⊕ List Bs)}
  (hb:∀ x,body x = bif (ltZ x.1 ((unL e.ar).length:Int)) then ((idx (unL e.ar) x.1).bind fun v9=>(f v9.1 v9.2.1 (v9.2.2.map (Uun 2)) x.2).bind fun v10=>(z64 (x.1 + 1)).bind fun v11=>some (.inl (v11,v10))) else some (.inr x.2))
  (hr:∀ k (hk:k < e.ar.length) (q:List Bs),q.length = p.length + (LicT.nls (e.ar.take k)).length → f e.ar[k].op e.ar[k].nm (unL e.ar[k].ar) q = some (q ++ e.ar[k].nl)) (hz:e.sz ≤ 1000000000) :
  loopF body (0,p) = some (p ++ LicT.nls e.ar):=by
 have hlen:e.ar.length ≤ 1000000000:=by have:=LicT.len_szs e.ar; rw[LicT.sz_ar] at hz; omega
 refine loopF_at (body:=body) (fun k=>((k:Int),p ++ LicT.nls (e.ar.take k))) e.ar.length (by rw[List.take_zero,LicT.nls,List.append_nil]; rfl) (fun k hk=>?_) ?_ (by omega)
 ·rw[hb,un_len,ltZ_eq,decide_eq_true (by omega),cond_true,idx_un hk]
  simp only[bind_in,fu1,fu2,fu3,fu4]
  rw[hr k hk _ (by rw[List.length_append]),z64_succ (by omega)]
  simp only[bind_in]
  rw[nls_take_succ hk,List.append_assoc]
 ·rw[hb,un_len,ltZ_eq,decide_eq_false (by omega),cond_false,List.take_length]
theorem raw_rec:∀ (n:Nat) (e:LicT) (p:List Bs),e.sz < n → e.sz ≤ 1000000000 → p.length + e.sz ≤ 2000000000 → licence_Names_1_v2.rec n e.op e.nm (unL e.ar) p = some (p ++ e.nl)
 | 0,_,_,h,_,_=>absurd h (by omega)
 | n + 1,e,p,hn,hz,hs=>by
  show licence_Names_1_v2.body (licence_Names_1_v2.rec n) e.op e.nm (unL e.ar) p = _
  unfold licence_Names_1_v2.body
  have hsz:=e.sz_ar
  have hloop:∀ q:List Bs,q.length ≤ p.length + 1 → licence_Names_1_v2.j1 (licence_Names_1_v2.rec n) (unL e.ar) q = some (q ++ LicT.nls e.ar):=fun q hq=>by
   unfold licence_Names_1_v2.j1
   refine raw_loop (f:=licence_Names_1_v2.rec n) e q (fun x=>rfl) (fun k hk r hr=>?_) hz
   have hm:=List.getElem_mem hk
   have h1:=LicT.sz_lt hm
   have h2:=LicT.nls_len (l:=e.ar.take k) fun x _=>x.nl_len
   have h3:=szs_take_succ hk
   have h4:=szs_take_le e.ar (k + 1)
   exact raw_rec n e.ar[k] r (by omega) (by omega) (by omega)
  rw[LicT.nl_eq]
  by_cases h0:e.op = 0
  ·rw[eqZ_eq,decide_eq_true h0,cond_true,app_in (by simp only[List.length_singleton]; omega),if_pos h0]
   simp only[bind_in]
   rw[hloop _ (by rw[List.length_append]; simp),List.append_assoc]
  ·rw[eqZ_eq,decide_eq_false h0,cond_false,if_neg h0]
   simp only[bind_in]
   rw[hloop _ (by omega)]; rfl
theorem raw_ok (e:LicT) (hz:e.sz ≤ 1000000000):licence_Names_1 e.op e.nm (unL e.ar) = some e.nl:=by
 unfold licence_Names_1
 have hsz:=e.sz_ar
 have hloop:∀ q:List Bs,q.length ≤ 1 → licence_Names_1.j1 (unL e.ar) q = some (q ++ LicT.nls e.ar):=fun q hq=>by
  unfold licence_Names_1.j1
  refine raw_loop (f:=licence_Names_1_v2) e q (fun x=>rfl) (fun k hk r hr=>?_) hz
  have hm:=List.getElem_mem hk
  have h1:=LicT.sz_lt hm
  have h2:=LicT.nls_len (l:=e.ar.take k) fun x _=>x.nl_len
  have h3:=szs_take_succ hk
  have h4:=szs_take_le e.ar (k + 1)
  exact raw_rec bigFuel.n e.ar[k] r (fuel_big (by omega)) (by omega) (by omega)
 rw[LicT.nl_eq]
 by_cases h0:e.op = 0
 ·rw[eqZ_eq,decide_eq_true h0,cond_true,app_in (by simp),if_pos h0]
  simp only[bind_in]
  rw[hloop _ (by simp)]; rfl
 ·rw[eqZ_eq,decide_eq_false h0,cond_false,if_neg h0]
  simp only[bind_in]
  rw[hloop _ (by simp)]
theorem names_ok (e:LicT) (hz:e.sz ≤ 1000000000):licence_Names e.op e.nm (unL e.ar) = some (if e.rt = true then srt e.nl else []):=by
 unfold licence_Names
 rw[right_ok e hz,bind_in]
 cases e.rt with
 | false=>rfl
 | true =>
  rw[Bool.not_true,cond_false,raw_ok e hz,bind_in]
  have hl:e.nl.length ≤ 4000000000:=by have:=e.nl_len; omega
  unfold slices_Sort_string slices_Compact_string
  rw[sortS_ok hl,bind_in,compS_ok hl,if_pos rfl]; rfl
theorem put_ok {l:List Bs} (s:Bs) (ha:Asc l) (hl:l.length ≤ 1000000000):ladingref13_put l s = some (srt (s :: l)):=by
 unfold ladingref13_put
 obtain⟨r,hr,i,hi,rfl,h1,h2⟩:=loopF_inv (body:=fun x=>ladingref13_put.b1 l s x.1 x.2) (fun k x=>x = ((k:Int),l.take k) ∧ ∀ y ∈ l.take k,Op.bytesLess y s = true)
  (Q:=fun r=>∃ i,∃ _:i ≤ l.length,r = ((i:Int),l.take i) ∧ (∀ y ∈ l.take i,Op.bytesLess y s = true) ∧ ∀ h:i < l.length,Op.bytesLess l[i] s = false) l.length (x:=(0,[])) ⟨by simp,by simp⟩ (fun k hk x hx=>by
  obtain⟨rfl,hall⟩:=hx
  have htl:(l.take k).length ≤ l.length:=by rw[List.length_take]; omega
  simp only[ladingref13_put.b1]
  rw[ltZ_eq,decide_eq_true (by omega),cond_true,idx_nat hk]
  simp only[bind_in]
  unfold ladingref13_put.j1
  cases ht:Op.bytesLess l[k] s with
  | true =>
   refine .inl ⟨((k + 1:Nat),l.take (k + 1)),?_,rfl,all_take_succ hk hall ht⟩
   rw[cond_true,idx_nat hk,bind_in,app_in (by simp only[List.length_singleton]; omega),bind_in,z64_succ (by omega),bind_in,take_snoc l k hk]
  | false =>
   exact .inr ⟨_,rfl,k,by omega,rfl,hall,fun _=>ht⟩) (fun x hx=>by
  obtain⟨rfl,hall⟩:=hx
  refine⟨((l.length:Int),l.take l.length),?_,l.length,Nat.le_refl _,rfl,hall,fun h=>absurd h (by omega)⟩
  simp only[ladingref13_put.b1]
  rw[ltZ_eq,decide_eq_false (by omega),cond_false,bind_in]
  rfl) (by omega)
 rw[hr,bind_in]
 have htl:(l.take i).length ≤ l.length:=by rw[List.length_take]; omega
 have hdl:(l.drop i).length ≤ l.length:=by rw[List.length_drop]; omega
 have hdl2:(l.drop (i + 1)).length ≤ l.length:=by rw[List.length_drop]; omega
 simp only[ladingref13_put.j3]
 rw[app_in (by simp only[List.length_singleton]; omega),bind_in,← put_asc ha hi h1 h2]
 have hl2:(l.take i ++ [s]).length ≤ l.length + 1:=by rw[List.length_append,List.length_singleton]; omega
 have hcut:∀ j:Nat,j ≤ l.length → cut l (j:Int) (l.length:Int) = some (l.drop j):=fun j hj=>by
  rw[cut_in (by omega) (by omega) (by omega)]
  show some ((l.take l.length).drop j) = _
  rw[List.take_length]
 by_cases h:i < l.length
 ·rw[ltZ_eq,decide_eq_true (by omega),cond_true,idx_nat h,dif_pos h]
  simp only[bind_in]
  unfold ladingref13_put.j2
  by_cases he:l[i] = s
  ·rw[decide_eq_true he,cond_true,z64_succ (by omega),bind_in,hcut _ (by omega),bind_in,app_in (by omega),bind_in,if_pos he]
  ·rw[decide_eq_false he,cond_false,hcut _ hi,bind_in,app_in (by omega),bind_in,if_neg he]
 ·rw[ltZ_eq,decide_eq_false (by omega),cond_false,dif_neg h]
  simp only[bind_in]
  unfold ladingref13_put.j2
  rw[cond_false,hcut _ hi,bind_in,app_in (by omega),bind_in,List.drop_eq_nil_of_le (by omega)]
theorem srt_put (a m:List Bs) (k:Nat) (hk:k < m.length):srt (m[k] :: srt (a ++ m.take k)) = srt (a ++ m.take (k + 1)) :=
 srt_ext fun x=>by
  rw[List.mem_cons,mem_srt,take_snoc m k hk,List.mem_append,List.mem_append,List.mem_append,List.mem_singleton]
  constructor
  ·rintro (h | h | h)
   ·exact .inr (.inr h)
   ·exact .inl h
   ·exact .inr (.inl h)
  ·rintro (h | h | h)
   ·exact .inr (.inl h)
   ·exact .inr (.inr h)
   ·exact .inl h
end Go.Proofs.YtcmibmohdnbhgaaGreatDoor
namespace Go.Proofs.YtcmibmohdnbhgaaGreatDoor
open Go.Lad
theorem grow_ok {n:Int} (h0:0 ≤ n) (hn:n ≤ 2147483647):slices_Grow_string_string n = some []:=by
 unfold slices_Grow_string_string
 rw[ltZ_eq,decide_eq_false (by omega),cond_false,z64_in (by omega) (by omega),bind_in,z64_in (by omega) (by omega),bind_in,ltZ_eq]
 by_cases h:0 < n - (0 - 0)
 ·rw[decide_eq_true h,cond_true,need_in (by omega),bind_in]
  unfold i1Need
  rw[need_in (by omega),bind_in,cut_in (by omega) (by omega) (by omega),bind_in]; rfl
 ·rw[decide_eq_false h,cond_false]
theorem concat_ok (a b:List Bs) (h:a.length + b.length ≤ 2147483647):slices_Concat_string_string [a,b] = some (a ++ b):=by
 unfold slices_Concat_string_string slices_Concat_string_string.j1
 have h1:loopF (fun x=>slices_Concat_string_string.b1 [a,b] x.1 x.2) (0,0) = some ((a.length + b.length:Nat):Int):=by
  refine loopF_at (body:=fun x=>slices_Concat_string_string.b1 [a,b] x.1 x.2) (fun k=>((if k = 0 then 0 else if k = 1 then (a.length:Int) else ((a.length + b.length:Nat):Int)),(k:Int))) 2 rfl (fun k hk=>?_) ?_ (by omega)
  ·match k,hk with
   | 0,_ =>
    show slices_Concat_string_string.b1 [a,b] 0 0 = some (.inl ((a.length:Int),1))
    unfold slices_Concat_string_string.b1
    rw[ltZ_eq,decide_eq_true (by simp),cond_true,show idx [a,b] 0 = some a from rfl,bind_in,Int.zero_add,z64_in (by omega) (by omega),bind_in,ltZ_eq,decide_eq_false (by omega),cond_false]
    rfl
   | 1,_ =>
    show slices_Concat_string_string.b1 [a,b] (a.length:Int) 1 = some (.inl (((a.length + b.length:Nat):Int),2))
    unfold slices_Concat_string_string.b1
    rw[ltZ_eq,decide_eq_true (by simp),cond_true,show idx [a,b] 1 = some b from rfl,bind_in,z64_in (by omega) (by omega),bind_in,ltZ_eq,decide_eq_false (by omega),cond_false]
    rfl
  ·rfl
 have h2:loopF (fun x=>slices_Concat_string_string.b2 [a,b] x.1 x.2) (0,[]) = some (a ++ b):=by
  refine loopF_at (body:=fun x=>slices_Concat_string_string.b2 [a,b] x.1 x.2) (fun k=>((k:Int),(if k = 0 then [] else if k = 1 then a else a ++ b))) 2 rfl (fun k hk=>?_) ?_ (by omega)
  ·match k,hk with
   | 0,_ =>
    show slices_Concat_string_string.b2 [a,b] 0 [] = some (.inl (1,a))
    unfold slices_Concat_string_string.b2
    rw[ltZ_eq,decide_eq_true (by simp),cond_true,show idx [a,b] 0 = some a from rfl,bind_in,app_in (by simp only[List.length_nil]; omega),bind_in]
    rfl
   | 1,_ =>
    show slices_Concat_string_string.b2 [a,b] 1 a = some (.inl (2,a ++ b))
    unfold slices_Concat_string_string.b2
    rw[ltZ_eq,decide_eq_true (by simp),cond_true,show idx [a,b] 1 = some b from rfl,bind_in,app_in (by omega),bind_in]
    rfl
  ·rfl
 rw[h1,bind_in,grow_ok (by omega) (by omega),bind_in,h2]
theorem sub_any (a b:List Bs):(!a.any fun x=>!decide (x ∈ b)) = subB a b:=by
 unfold subB
 rw[← List.not_all_eq_any_not,Bool.not_not]
theorem inside_ok (a b:List Bs) (ha:a.length ≤ 1000000000) (hb:b.length ≤ 1000000000):licence_inside a b = some (subB a b):=by
 unfold licence_inside slices_ContainsFunc_string_string_v2 slices_IndexFunc_string_string_v2
 obtain⟨r,hr,hq⟩:=loop_pos (body:=fun x=>slices_IndexFunc_string_string_v2.b1 a b x) a (fun x=>!decide (x ∈ b)) (fun k hk=>by
  unfold slices_IndexFunc_string_string_v2.b1 licence_inside_1
  rw[ltZ_eq,decide_eq_true (by omega),cond_true,idx_nat hk,bind_in,contains_ok _ _ hb,z64_succ (by omega)]
  simp only[bind_in]
  cases decide (a[k] ∈ b) <;> rfl) (by
  unfold slices_IndexFunc_string_string_v2.b1
  rw[ltZ_eq,decide_eq_false (by omega),cond_false]) ha
 rw[hr,bind_in,bind_in,hq,sub_any]
theorem within_ok (a b:List Bs) (ha:a.length ≤ 1000000000) (hb:b.length ≤ 1000000000):ladingref13_within a b = some (subB a b):=by
 unfold ladingref13_within
 rw[loop_any (body:=fun x=>ladingref13_within.b1 a b x) a (fun x=>!decide (x ∈ b)) false true (fun k hk=>by
  unfold ladingref13_within.b1
  rw[ltZ_eq,decide_eq_true (by omega),cond_true,idx_nat hk,bind_in,has_ok _ _ hb,z64_succ (by omega)]
  simp only[bind_in]
  cases decide (a[k] ∈ b) <;> rfl) (by
  unfold ladingref13_within.b1
  rw[ltZ_eq,decide_eq_false (by omega),cond_false]) ha,← sub_any]
 cases (a.any fun x=>!decide (x ∈ b)) <;> rfl
theorem any_sub_ok (o:List (List Bs)) (p:List Bs) (ho:o.length ≤ 1000000000) (hm:∀ x ∈ o,x.length ≤ 1000000000) (hp:p.length ≤ 1000000000):slices_ContainsFunc_string_string_v3 o p = some (o.any fun x=>subB x p):=by
 unfold slices_ContainsFunc_string_string_v3 slices_IndexFunc_string_string_v3
 obtain⟨r,hr,hq⟩:=loop_pos (body:=fun x=>slices_IndexFunc_string_string_v3.b1 o p x) o (fun x=>subB x p) (fun k hk=>by
  unfold slices_IndexFunc_string_string_v3.b1 licence_least_2
  rw[ltZ_eq,decide_eq_true (by omega),cond_true,idx_nat hk,bind_in,bind_in,inside_ok _ _ (hm _ (List.getElem_mem hk)) hp,z64_succ (by omega)]
  simp only[bind_in]
  cases subB o[k] p <;> rfl) (by
  unfold slices_IndexFunc_string_string_v3.b1
  rw[ltZ_eq,decide_eq_false (by omega),cond_false]) ho
 rw[hr,bind_in,hq]
theorem least_ok (l:List (List Bs)) (h0:l ≠ []) (hl:l.length ≤ 1000000000) (hm:∀ x ∈ l,x.length ≤ 1000000000) (ha:∀ x ∈ l,Asc x) :
  ∃ r,licence_least l = some r ∧ Anti r.1 ∧ (∀ x,Up r.1 x ↔ Up l x) ∧ r.1.length ≤ l.length ∧ ∀ x ∈ r.1,x ∈ l:=by
 unfold licence_least slices_SortFunc sortBy
 have hl1:=List.length_pos_iff.2 h0
 rw[show Nat.blt 0 l.length = true by rw[Nat.blt_eq]; exact hl1,bleN,decide_eq_true (by omega),Bool.and_true,cond_true,bind_in]
 have hsm:∀ x,x ∈ l.mergeSort leSets ↔ x ∈ l:=fun x=>(List.mergeSort_perm l leSets).mem_iff
 have hso:=List.pairwise_mergeSort ls_trans ls_total l
 have hle:=List.length_mergeSort (le:=leSets) l
 generalize l.mergeSort leSets = s at *
 obtain⟨r,hr,hq⟩:=loopF_inv (body:=fun x=>licence_least.b1 s x.1 x.2)
  (fun k x=>x.1 = (k:Int) ∧ (∀ y ∈ x.2,y ∈ s.take k) ∧ x.2.Pairwise (fun a b=>leSets a b = true ∧ subB a b = false) ∧ (∀ y ∈ s.take k,∃ o ∈ x.2,subB o y = true) ∧ x.2.length ≤ k)
  (Q:=fun r=>(∀ y ∈ r.1,y ∈ s) ∧ r.1.Pairwise (fun a b=>leSets a b = true ∧ subB a b = false) ∧ (∀ y ∈ s,∃ o ∈ r.1,subB o y = true) ∧ r.1.length ≤ l.length) s.length (x:=(0,[]))
  ⟨rfl,by simp,by simp,by simp,by simp⟩ (fun k hk x hx=>by
   obtain⟨i,out⟩:=x
   obtain⟨h1,h2,h3,h4,h5⟩:=hx
   simp only at h1 h2 h3 h4 h5
   subst h1
   have hsk:∀ x ∈ s,x.length ≤ 1000000000:=fun x hx=>hm x ((hsm x).1 hx)
   have hkm:=List.getElem_mem hk
   simp only[licence_least.b1]
   rw[ltZ_eq,decide_eq_true (by omega),cond_true,idx_nat hk,bind_in,bind_in,any_sub_ok _ _ (by omega) (fun x hx=>hsk x (List.mem_of_mem_take (h2 x hx))) (hsk _ hkm),bind_in,z64_succ (by omega)]
   left
   cases hc:out.any fun x=>subB x s[k] with
   | true =>
    refine⟨_,rfl,rfl,fun y hy=>?_,h3,?_,by simp only; omega⟩
    ·rw[take_snoc s k hk]; exact List.mem_append.2 (.inl (h2 y hy))
    ·obtain⟨o,ho,hos⟩:=List.any_eq_true.1 hc
     exact all_take_succ hk h4 ⟨o,ho,hos⟩
   | false =>
    refine⟨((k + 1:Nat),out ++ [s[k]]),?_,rfl,fun y hy=>?_,?_,?_,by simp only[List.length_append,List.length_singleton]; omega⟩
    ·rw[Bool.not_false,cond_true,app_in (by simp only[List.length_singleton]; omega)]; rfl
    ·rw[take_snoc s k hk]
     rcases List.mem_append.1 hy with hy | hy
     ·exact List.mem_append.2 (.inl (h2 y hy))
     ·exact List.mem_append.2 (.inr hy)
    ·refine List.pairwise_append.2 ⟨h3,by simp,fun a ha b hb=>?_⟩
     rw[List.mem_singleton.1 hb]
     constructor
     ·obtain⟨j,hj,rfl⟩:=List.mem_iff_getElem.1 (h2 a ha)
      rw[List.length_take] at hj
      rw[List.getElem_take]
      exact List.pairwise_iff_getElem.1 hso j k (by omega) hk (by omega)
     ·rw[← Bool.not_eq_true]
      intro h
      rw[List.any_eq_false] at hc
      exact hc a ha h
    ·refine all_take_succ hk (fun y hy=>?_) ⟨s[k],by simp,sub_refl _⟩
     obtain⟨o,ho,hos⟩:=h4 y hy
     exact⟨o,by simp [ho],hos⟩) (fun x hx=>by
   obtain⟨i,out⟩:=x
   obtain⟨h1,h2,h3,h4,h5⟩:=hx
   simp only at h1 h2 h3 h4 h5
   subst h1
   rw[List.take_length] at h2 h4
   refine⟨(out,s),?_,h2,h3,h4,by simp only; omega⟩
   simp only[licence_least.b1]
   rw[ltZ_eq,decide_eq_false (by omega),cond_false]) (by omega)
 obtain⟨q1,q2,q3,q4⟩:=hq
 have hml:∀ x ∈ r.1,x ∈ l:=fun x hx=>(hsm x).1 (q1 x hx)
 refine⟨r,hr,⟨fun a h=>ha a (hml a h),q2.imp fun {a b} h=>ls_ne h.1 fun e=>?_,fun a h b h' hs=>?_⟩,fun x=>⟨?_,?_⟩,q4,hml⟩
 ·subst e; rw[sub_refl] at h; cases h.2
 ·obtain⟨i,hi,rfl⟩:=List.mem_iff_getElem.1 h
  obtain⟨j,hj,rfl⟩:=List.mem_iff_getElem.1 h'
  rcases Nat.lt_trichotomy i j with hij | hij | hij
  ·have:=(List.pairwise_iff_getElem.1 q2 i j hi hj hij).2
   rw[hs] at this; cases this
  ·subst hij; rfl
  ·have h2:=List.pairwise_iff_getElem.1 q2 j i hj hi hij
   have:=sub_len (ha _ (hml _ h)) hs (ls_len h2.1)
   rw[h2.2] at this; cases this
 ·rintro⟨a,h,hs⟩; exact⟨a,hml a h,hs⟩
 ·rintro⟨a,h,hs⟩
  obtain⟨o,ho,hos⟩:=q3 a ((hsm a).2 h)
  exact⟨o,ho,sub_trans hos hs⟩
end Go.Proofs.YtcmibmohdnbhgaaGreatDoor
namespace Go.Proofs.YtcmibmohdnbhgaaGreatDoor
open Go.Lad
theorem lv_pos {e:LicT} (h:e.fm = true):1 ≤ e.lv:=by have:=LicT.dp_lt e h; omega
theorem len_lvs {l:List LicT} (h:∀ x ∈ l,x.fm = true):l.length ≤ LicT.lvs l:=by
 induction l with
 | nil=>exact Nat.zero_le _
 | cons x r ih =>
  have:=lv_pos (h x (by simp))
  have:=ih fun y hy=>h y (by simp [hy])
  rw[LicT.lvs,List.length_cons]; omega
theorem pow_mono {a b:Nat} (h:a ≤ b):2 ^ a ≤ 2 ^ b:=Nat.pow_le_pow_right (by omega) h
theorem pow16 {a:Nat} (h:a ≤ 16):2 ^ a ≤ 65536:=pow_mono h
theorem pow_sum {a b:Nat} (ha:1 ≤ a) (hb:1 ≤ b):2 ^ a + 2 ^ b ≤ 2 ^ (a + b):=by
 rw[Nat.pow_add]
 have h1:=pow_mono ha
 have h2:=pow_mono hb
 generalize 2 ^ a = x at *
 generalize 2 ^ b = y at *
 simp only[Nat.pow_one] at h1 h2
 have h3:(x - 2) * (y - 2) + 2 * x + 2 * y = x * y + 4:=by
  obtain⟨u,rfl⟩:=Nat.exists_eq_add_of_le h1
  obtain⟨v,rfl⟩:=Nat.exists_eq_add_of_le h2
  have:(2 + u) * (2 + v) = 4 + 2 * u + 2 * v + u * v:=by rw[Nat.add_mul,Nat.mul_add u]; omega
  rw[Nat.add_sub_cancel_left,Nat.add_sub_cancel_left]
  omega
 omega
theorem mem_nls {l:List LicT} {y:LicT} {s:Bs} (hy:y ∈ l) (hs:s ∈ y.nl):s ∈ LicT.nls l:=by
 induction l with
 | nil=>cases hy
 | cons z r ih =>
  rw[LicT.nls]
  rcases List.mem_cons.1 hy with rfl | hy
  ·exact List.mem_append.2 (.inl hs)
  ·exact List.mem_append.2 (.inr (ih hy))
theorem hd_all:∀ {e:LicT} {x:List Bs},e.fm = true → (∀ s ∈ e.nl,s ∈ x) → e.hd x = true:=by
 intro e
 induction e using LicT.ind with
 | h e ih =>
  intro x hf hx
  rw[LicT.hd_eq]
  have hsub:∀ y ∈ e.ar,∀ s ∈ y.nl,s ∈ e.nl:=fun y hy s hs=>by
   rw[LicT.nl_eq]
   exact List.mem_append.2 (.inr (mem_nls hy hs))
  have hall:∀ y ∈ e.ar,y.hd x = true:=fun y hy=>ih y hy (fm_ar hf hy).1 fun s hs=>hx s (hsub y hy s hs)
  by_cases h0:e.op = 0
  ·rw[if_pos h0,decide_eq_true_eq]
   refine hx _ ?_
   rw[LicT.nl_eq,if_pos h0]; simp
  ·rw[if_neg h0]
   have h2:2 ≤ e.ar.length:=by
    rw[LicT.fm_eq,if_neg h0,Bool.and_eq_true,decide_eq_true_eq] at hf
    exact hf.1.2.2
   split
   ·exact List.any_eq_true.2 ⟨e.ar[0],List.getElem_mem _,hall _ (List.getElem_mem _)⟩
   ·exact List.all_eq_true.2 hall
theorem prod_in (s m:List (List Bs)) (a:List Bs) (v:Int) (hv:z64 (v + 1) = some (v + 1)) (next:List (List Bs)) (hl:next.length + m.length ≤ 2000000) (hm:∀ x ∈ m,a.length + x.length ≤ 2000000) :
  loopF (fun x=>licence_sets.b1 m v a x.1 x.2) (0,next) = some (.inl (v + 1,next ++ m.map fun b=>srt (a ++ b))):=by
 refine loopF_at (body:=fun x=>licence_sets.b1 m v a x.1 x.2) (fun k=>((k:Int),next ++ (m.take k).map fun b=>srt (a ++ b))) m.length (by simp) (fun k hk=>?_) ?_ (by omega)
 ·have hx:=hm _ (List.getElem_mem hk)
  have hsl:(a ++ m[k]).length ≤ 4000000000:=by rw[List.length_append]; omega
  simp only[licence_sets.b1]
  rw[ltZ_eq,decide_eq_true (by omega),cond_true,idx_nat hk,bind_in,concat_ok _ _ (by omega),bind_in]
  unfold slices_Sort_string slices_Compact_string
  rw[sortS_ok hsl,bind_in,compS_ok hsl,bind_in,app_in (by simp only[List.length_append,List.length_map,List.length_take,List.length_singleton]; omega),bind_in,z64_succ (by omega),bind_in,take_snoc m k hk,List.map_append,List.append_assoc]
  rfl
 ·simp only[licence_sets.b1]
  rw[ltZ_eq,decide_eq_false (by omega),cond_false,hv,bind_in,List.take_length]; rfl
theorem prod_out (out m:List (List Bs)) (v:Int) (hv:z64 (v + 1) = some (v + 1)) (hl:out.length * m.length ≤ 1000000) (ho:out.length ≤ 1000000) (hm:∀ a ∈ out,∀ x ∈ m,a.length + x.length ≤ 2000000) :
  loopF (fun x=>licence_sets.b2 v out m x.1 x.2) (0,[]) = some (.inl (v + 1,prodS out m)):=by
 refine loopF_at (body:=fun x=>licence_sets.b2 v out m x.1 x.2) (fun k=>((k:Int),prodS (out.take k) m)) out.length rfl (fun k hk=>?_) ?_ (by omega)
 ·simp only[licence_sets.b2]
  have hml:(k + 1) * m.length ≤ out.length * m.length:=Nat.mul_le_mul_right _ hk
  rw[Nat.succ_mul] at hml
  rw[ltZ_eq,decide_eq_true (by omega),cond_true,idx_nat hk,bind_in,bind_in,
   prod_in out m out[k] (k:Int) (z64_succ (by omega)) _ (by rw[prod_len,List.length_take,Nat.min_eq_left (by omega)]; omega) (fun x hx=>hm _ (List.getElem_mem hk) x hx),take_snoc out k hk,prod_snoc]
  rfl
 ·simp only[licence_sets.b2]
  rw[ltZ_eq,decide_eq_false (by omega),cond_false,hv,bind_in,List.take_length]; rfl
def SetsOf (e:LicT) (l:List (List Bs)):Prop:=Anti l ∧ (∀ x,Up l x ↔ e.hd x = true) ∧ l.length ≤ 2 ^ e.lv ∧ ∀ a ∈ l,a.length ≤ e.lv
theorem sets_leaf {e:LicT} (hf:e.fm = true) (h0:e.op = 0):SetsOf e [[e.nm]]:=by
 have hlv:e.lv = 1:=by rw[LicT.lv_eq,if_pos h0]
 refine⟨anti_one (by unfold Asc; simp),fun x=>?_,by rw[hlv]; simp,fun a ha=>by rw[List.mem_singleton.1 ha,hlv]; simp⟩
 rw[up_one,subB_iff,LicT.hd_eq,if_pos h0,decide_eq_true_eq]
 simp
def OutOf (e:LicT) (k:Nat) (out:List (List Bs)):Prop :=
 (∀ a ∈ out,Asc a) ∧ (∀ x,Up out x ↔ (if e.op = 2 then (e.ar.take k).any (·.hd x) else (e.ar.take k).all (·.hd x)) = true) ∧ out.length ≤ 2 ^ LicT.lvs (e.ar.take k) ∧ (∀ a ∈ out,a.length ≤ LicT.lvs (e.ar.take k)) ∧ (e.op = 2 → k = 0 → out = [])
theorem out_or {e:LicT} {k:Nat} {out m:List (List Bs)} (hf:e.fm = true) (h2:e.op = 2) (hk:k < e.ar.length) (ho:OutOf e k out) (hm:SetsOf e.ar[k] m):OutOf e (k + 1) (out ++ m):=by
 obtain⟨o1,o2,o3,o4,o5⟩:=ho
 obtain⟨m1,m2,m3,m4⟩:=hm
 have hfa:∀ y ∈ e.ar,y.fm = true:=fun y hy=>(fm_ar hf hy).1
 have hlv:=lvs_take_succ hk
 refine⟨fun a ha=>?_,fun x=>?_,?_,fun a ha=>?_,fun _ h=>by cases h⟩
 ·rcases List.mem_append.1 ha with ha | ha
  ·exact o1 a ha
  ·exact m1.1 a ha
 ·rw[up_app,o2,m2,if_pos h2,if_pos h2,take_snoc e.ar k hk,List.any_append,Bool.or_eq_true]
  simp
 ·rw[List.length_append,hlv]
  have hp:=lv_pos (hfa _ (List.getElem_mem hk))
  cases k with
  | zero =>
   rw[o5 h2 rfl]
   have:=pow_mono (a:=e.ar[0].lv) (b:=LicT.lvs (e.ar.take 0) + e.ar[0].lv) (by omega)
   simp only[List.length_nil]; omega
  | succ k =>
   have:=len_lvs (l:=e.ar.take (k + 1)) fun y hy=>hfa y (List.mem_of_mem_take hy)
   rw[List.length_take] at this
   have:=pow_sum (a:=LicT.lvs (e.ar.take (k + 1))) (b:=e.ar[k + 1].lv) (by omega) hp
   omega
 ·rw[hlv]
  rcases List.mem_append.1 ha with ha | ha
  ·have:=o4 a ha; omega
  ·have:=m4 a ha; omega
theorem out_and {e:LicT} {k:Nat} {out m:List (List Bs)} (h2:¬ e.op = 2) (hk:k < e.ar.length) (ho:OutOf e k out) (hm:SetsOf e.ar[k] m):OutOf e (k + 1) (prodS out m):=by
 obtain⟨o1,o2,o3,o4,o5⟩:=ho
 obtain⟨m1,m2,m3,m4⟩:=hm
 have hlv:=lvs_take_succ hk
 refine⟨fun a ha=>?_,fun x=>?_,?_,fun a ha=>?_,fun h=>absurd h h2⟩
 ·obtain⟨b,hb,c,hc,rfl⟩:=mem_prod.1 ha
  exact srt_asc _
 ·rw[up_prod,o2,m2,if_neg h2,if_neg h2,take_snoc e.ar k hk,List.all_append,Bool.and_eq_true]
  simp
 ·rw[prod_len,hlv,Nat.pow_add]
  exact Nat.mul_le_mul o3 m3
 ·obtain⟨b,hb,c,hc,rfl⟩:=mem_prod.1 ha
  have h1:=srt_len (b ++ c)
  rw[List.length_append] at h1
  have:=o4 b hb
  have:=m4 c hc
  omega
theorem out_end {e:LicT} {out:List (List Bs)} (h0:¬ e.op = 0) (ho:OutOf e e.ar.length out):(∀ a ∈ out,Asc a) ∧ (∀ x,Up out x ↔ e.hd x = true) ∧ out.length ≤ 2 ^ e.lv ∧ ∀ a ∈ out,a.length ≤ e.lv:=by
 obtain⟨o1,o2,o3,o4,o5⟩:=ho
 rw[List.take_length] at o3 o4
 have hlv:e.lv = LicT.lvs e.ar:=by rw[LicT.lv_eq,if_neg h0]
 refine⟨o1,fun x=>?_,by rw[hlv]; exact o3,by rw[hlv]; exact o4⟩
 rw[o2,LicT.hd_eq,if_neg h0,List.take_length]
theorem sets_rec:∀ (n:Nat) (e:LicT),e.fm = true → e.sz < n → e.lv ≤ 16 → ∃ l,licence_sets.rec n e.op e.nm (unL e.ar) = some l ∧ SetsOf e l
 | 0,_,_,h,_=>absurd h (by omega)
 | n + 1,e,hf,hn,hlv=>by
  show ∃ l,licence_sets.body (licence_sets.rec n) e.op e.nm (unL e.ar) = some l ∧ _
  unfold licence_sets.body
  by_cases h0:e.op = 0
  ·rw[eqZ_eq,decide_eq_true h0,cond_true]
   exact⟨_,rfl,sets_leaf hf h0⟩
  ·rw[eqZ_eq,decide_eq_false h0,cond_false]
   have hfa:∀ y ∈ e.ar,y.fm = true:=fun y hy=>(fm_ar hf hy).1
   have hlvs:e.lv = LicT.lvs e.ar:=by rw[LicT.lv_eq,if_neg h0]
   have hlen:=len_lvs hfa
   have hp:=pow16 hlv
   have hch:∀ k (hk:k < e.ar.length),∃ l,licence_sets.rec n e.ar[k].op e.ar[k].nm (unL e.ar[k].ar) = some l ∧ SetsOf e.ar[k] l:=fun k hk=>by
    have hm:=List.getElem_mem hk
    have h1:=LicT.sz_lt hm
    have h2:=LicT.lv_mem hm
    exact sets_rec n e.ar[k] (hfa _ hm) (by omega) (by omega)
   have key:∀ out0,OutOf e 0 out0 → ∃ l,licence_sets.j2 (licence_sets.rec n) e.op (unL e.ar) out0 = some l ∧ SetsOf e l:=fun out0 hout0=>by
    unfold licence_sets.j2
    obtain⟨out,hr,hq⟩:=loopF_inv (body:=fun x=>licence_sets.b3 (licence_sets.rec n) e.op (unL e.ar) x.1 x.2) (fun k x=>x.1 = (k:Int) ∧ OutOf e k x.2) (Q:=fun r=>OutOf e e.ar.length r) e.ar.length (x:=(0,out0)) ⟨rfl,hout0⟩ (fun k hk x hx=>by
     obtain⟨i,out⟩:=x
     obtain⟨h1,h2⟩:=hx
     simp only at h1 h2
     subst h1
     obtain⟨m,hm,hms⟩:=hch k hk
     have hlk:=lvs_take_succ hk
     have hlk2:=lvs_take_le e.ar (k + 1)
     have hol:out.length ≤ 65536:=Nat.le_trans h2.2.2.1 (pow16 (by omega))
     have hml:m.length ≤ 65536:=Nat.le_trans hms.2.2.1 (pow16 (by omega))
     simp only[licence_sets.b3]
     rw[un_len,ltZ_eq,decide_eq_true (by omega),cond_true,idx_un hk]
     simp only[bind_in,fu1,fu2,fu3,fu4]
     rw[hm]
     simp only[bind_in]
     by_cases ho:e.op = 2
     ·rw[eqZ_eq,decide_eq_true ho,cond_true,app_in (by omega),bind_in,z64_succ (by omega),bind_in]
      exact .inl ⟨_,rfl,rfl,out_or hf ho hk h2 hms⟩
     ·have hpl:(prodS out m).length ≤ 65536:=Nat.le_trans (out_and ho hk h2 hms).2.2.1 (pow16 (by omega))
      rw[prod_len] at hpl
      rw[eqZ_eq,decide_eq_false ho,cond_false,prod_out out m (k:Int) (z64_succ (by omega)) (by omega) (by omega) (fun a ha x hx=>by have:=h2.2.2.2.1 a ha; have:=hms.2.2.2 x hx; omega)]
      exact .inl ⟨_,rfl,rfl,out_and ho hk h2 hms⟩) (fun x hx=>by
     obtain⟨i,out⟩:=x
     obtain⟨h1,h2⟩:=hx
     simp only at h1 h2
     subst h1
     refine⟨out,?_,h2⟩
     simp only[licence_sets.b3]
     rw[un_len,ltZ_eq,decide_eq_false (by omega),cond_false]) (by omega)
    obtain⟨q1,q2,q3,q4⟩:=out_end h0 hq
    rw[hr,bind_in]
    unfold licence_sets.j1
    have hne:out ≠ []:=fun e0=>by
     subst e0
     exact up_nil _ ((q2 e.nl).2 (hd_all hf fun s hs=>hs))
    obtain⟨r,hr2,r1,r2,r3,r4⟩:=least_ok out hne (by omega) (fun x hx=>by have:=q4 x hx; omega) q1
    rw[hr2,bind_in]
    exact⟨_,rfl,r1,fun x=>(r2 x).trans (q2 x),by omega,fun a ha=>q4 a (r4 a ha)⟩
   by_cases ho:e.op = 2
   ·rw[eqZ_eq,decide_eq_true ho,cond_true,bind_in]
    exact key _ ⟨by simp,fun x=>by rw[if_pos ho]; simp [up_nil],by simp,by simp,fun _ _=>rfl⟩
   ·rw[eqZ_eq,decide_eq_false ho,cond_false,bind_in]
    refine key _ ⟨fun a ha=>by rw[List.mem_singleton.1 ha]; exact List.Pairwise.nil,fun x=>by rw[if_neg ho,up_one]; simp [subB],by simp [LicT.lvs],fun a ha=>by rw[List.mem_singleton.1 ha]; simp,fun h=>absurd h ho⟩
end Go.Proofs.YtcmibmohdnbhgaaGreatDoor
namespace Go.Proofs.YtcmibmohdnbhgaaGreatDoor
open Go.Lad
theorem cl_drop {a b:List Bs} (hl:a.length = b.length):∀ (k:Nat),(∀ j (h:j < a.length),j < k → a[j] = b[j]'(hl ▸ h)) → k ≤ a.length → cmpSets.cmpL a b = cmpSets.cmpL (a.drop k) (b.drop k)
 | 0,_,_=>by simp
 | k + 1,h,hk=>by
  rw[cl_drop hl k (fun j hj hjk=>h j hj (by omega)) (by omega)]
  rw[List.drop_eq_getElem_cons (by omega:k < a.length),List.drop_eq_getElem_cons (by omega:k < b.length),cmpSets.cmpL,decide_eq_true (h k (by omega) (by omega)),cond_true]
theorem before_ok (a b:List Bs) (ha:a.length ≤ 1000000000) (hb:b.length ≤ 1000000000):ladingref13_before a b = some (cmpSets a b):=by
 unfold ladingref13_before cmpSets
 by_cases h:a.length = b.length
 ·rw[eqZ_eq,decide_eq_true (by omega),Bool.not_true,cond_false,h,Nat.beq_refl,cond_true]
  obtain⟨r,hr,hq⟩:=loopF_inv (body:=fun x=>ladingref13_before.b1 a b x) (fun k x=>x = (k:Int) ∧ ∀ j (h':j < a.length),j < k → a[j] = b[j]'(h ▸ h')) (Q:=fun r=>r = cmpSets.cmpL a b) a.length (x:=0) ⟨rfl,fun j _ hj=>absurd hj (by omega)⟩ (fun k hk x hx=>by
   obtain⟨rfl,hall⟩:=hx
   have hkb:k < b.length:=by omega
   simp only[ladingref13_before.b1]
   rw[ltZ_eq,decide_eq_true (by omega),cond_true,idx_nat hk,bind_in,idx_nat hkb,bind_in]
   by_cases e:a[k] = b[k]
   ·rw[decide_eq_true e,Bool.not_true,cond_false,z64_succ (by omega)]
    refine .inl ⟨_,rfl,rfl,fun j hj hjk=>?_⟩
    by_cases ejk:j = k
    ·subst ejk; exact e
    ·exact hall j hj (by omega)
   ·rw[decide_eq_false e,Bool.not_false,cond_true]
    refine .inr ⟨_,rfl,?_⟩
    rw[cl_drop h k hall (by omega),List.drop_eq_getElem_cons hk,List.drop_eq_getElem_cons hkb,cmpSets.cmpL,decide_eq_false e,cond_false]) (fun x hx=>by
   obtain⟨rfl,hall⟩:=hx
   refine⟨false,?_,?_⟩
   ·simp only[ladingref13_before.b1]
    rw[ltZ_eq,decide_eq_false (by omega),cond_false]
   ·rw[cl_drop h a.length hall (Nat.le_refl _),List.drop_length]
    rfl) (by omega)
  rw[hr,hq]
 ·rw[eqZ_eq,decide_eq_false (by omega),Bool.not_false,cond_true,show Nat.beq a.length b.length = false by rw[← Bool.not_eq_true]; exact fun e=>h (Nat.eq_of_beq_eq_true e),cond_false,ltZ_eq]
  congr 1
  rw[Bool.eq_iff_iff,decide_eq_true_eq,Nat.blt_eq]
  omega
def AddI (l:List (List Bs)) (s:List Bs) (k:Nat) (p:Bool) (out:List (List Bs)):Prop :=
 (∀ x ∈ l.take k,subB x s = false) ∧ out.Pairwise (fun a b=>cmpSets a b = true) ∧ (∀ y,y ∈ out ↔ (y ∈ l.take k ∧ subB s y = false) ∨ (p = true ∧ y = s)) ∧
 (p = false → ∀ y ∈ out,cmpSets y s = true) ∧ (p = true → ∃ y ∈ l.take k,cmpSets s y = true) ∧ out.length ≤ k + (if p = true then 1 else 0)
theorem add_ok (l:List (List Bs)) (s:List Bs) (hl:Anti l) (hs:Asc s) (hn:l.length ≤ 1000000) (hm:∀ x ∈ l,x.length ≤ 1000000) (hsl:s.length ≤ 1000000) :
  ∃ r,ladingref13_add l s = some r ∧ Anti r ∧ (∀ x,Up r x ↔ Up l x ∨ subB s x = true) ∧ r.length ≤ l.length + 1 ∧ ∀ x ∈ r,x ∈ l ∨ x = s:=by
 unfold ladingref13_add
 obtain⟨r,hr,hq⟩:=loopF_inv (body:=fun x=>ladingref13_add.b1 l s x.1 x.2.1 x.2.2) (fun k x=>x.2.1 = (k:Int) ∧ AddI l s k x.1 x.2.2)
  (Q:=fun r=>(r = .inr l ∧ ∃ x ∈ l,subB x s = true) ∨ ∃ p out,r = .inl (p,out) ∧ AddI l s l.length p out) l.length (x:=(false,0,[]))
  ⟨rfl,by simp,by simp,by simp,by simp,by simp,by simp⟩ (fun k hk x hx=>by
   obtain⟨p,i,out⟩:=x
   obtain⟨h0,h1,h2,h3,h4,h5,h6⟩:=hx
   simp only at h0 h1 h2 h3 h4 h5 h6
   subst h0
   have hkm:=List.getElem_mem hk
   have hol:out.length ≤ k + 1:=by split at h6 <;> omega
   simp only[ladingref13_add.b1]
   rw[ltZ_eq,decide_eq_true (by omega),cond_true,idx_nat hk,bind_in,within_ok _ _ (by have:=hm _ hkm; omega) (by omega),bind_in]
   cases hw:subB l[k] s with
   | true =>
    rw[cond_true]
    exact .inr ⟨_,rfl,.inl ⟨rfl,_,hkm,hw⟩⟩
   | false =>
    left
    rw[cond_false,bind_in,within_ok _ _ (by omega) (by have:=hm _ hkm; omega),bind_in]
    have h1':=all_take_succ (p:=fun x=>subB x s = false) hk h1 hw
    have htk:∀ y,y ∈ l.take (k + 1) ↔ y ∈ l.take k ∨ y = l[k]:=fun y=>by rw[take_snoc l k hk,List.mem_append,List.mem_singleton]
    have hbf:∀ y ∈ l.take k,cmpSets y l[k] = true:=fun y hy=>by
     obtain⟨j,hj,rfl⟩:=List.mem_iff_getElem.1 hy
     rw[List.length_take] at hj
     rw[List.getElem_take]
     exact List.pairwise_iff_getElem.1 hl.2.1 j k (by omega) hk (by omega)
    have h5':p = true → ∃ y ∈ l.take (k + 1),cmpSets s y = true:=fun hp=>by
     obtain⟨y,hy,hys⟩:=h5 hp
     exact⟨y,(htk y).2 (.inl hy),hys⟩
    cases hw2:subB s l[k] with
    | true =>
     rw[cond_true,z64_succ (by omega),bind_in]
     refine⟨_,rfl,rfl,h1',h2,fun y=>?_,h4,h5',by simp only; omega⟩
     simp only
     rw[h3,htk]
     constructor
     ·rintro (⟨a,b⟩ | a)
      ·exact .inl ⟨.inl a,b⟩
      ·exact .inr a
     ·rintro (⟨a | a,b⟩ | a)
      ·exact .inl ⟨a,b⟩
      ·subst a; rw[hw2] at b; cases b
      ·exact .inr a
    | false =>
     rw[cond_false]
     have hne:s ≠ l[k]:=fun e=>by rw[← e,sub_refl] at hw; cases hw
     have hmem:∀ y,(y ∈ l.take (k + 1) ∧ subB s y = false) ↔ (y ∈ l.take k ∧ subB s y = false) ∨ y = l[k]:=fun y=>by
      rw[htk]
      constructor
      ·rintro⟨a | a,b⟩
       ·exact .inl ⟨a,b⟩
       ·exact .inr a
      ·rintro (⟨a,b⟩ | a)
       ·exact⟨.inl a,b⟩
       ·subst a; exact⟨.inr rfl,hw2⟩
     have keep:(p = true ∨ cmpSets s l[k] = false) → (∃ y,ladingref13_add.j1 l s p (k:Int) out false = some (.inl y) ∧ y.2.1 = ((k + 1:Nat):Int) ∧ AddI l s (k + 1) y.1 y.2.2):=fun hpk=>by
      unfold ladingref13_add.j1
      rw[cond_false,idx_nat hk,bind_in,app_in (by simp only[List.length_singleton]; omega),bind_in,z64_succ (by omega),bind_in]
      refine⟨_,rfl,rfl,h1',List.pairwise_append.2 ⟨h2,by simp,fun a ha b hb=>?_⟩,fun y=>?_,fun hp y hy=>?_,h5',by simp only[List.length_append,List.length_singleton]; omega⟩
      ·rw[List.mem_singleton.1 hb]
       rcases (h3 a).1 ha with⟨ha,_⟩ | ⟨hp,rfl⟩
       ·exact hbf a ha
       ·obtain⟨y,hy,hys⟩:=h5 hp
        exact ss_trans hys (hbf y hy)
      ·simp only
       rw[List.mem_append,List.mem_singleton,h3,hmem]
       constructor
       ·rintro ((a | a) | a)
        ·exact .inl (.inl a)
        ·exact .inr a
        ·exact .inl (.inr a)
       ·rintro ((a | a) | a)
        ·exact .inl (.inl a)
        ·exact .inr a
        ·exact .inl (.inr a)
      ·simp only at hp hy
       rcases List.mem_append.1 hy with hy | hy
       ·exact h4 hp y hy
       ·rw[List.mem_singleton.1 hy]
        rcases hpk with e | e
        ·rw[hp] at e; cases e
        ·rcases ss_tri hne with e2 | e2
         ·rw[e] at e2; cases e2
         ·exact e2
     cases hp:p with
     | true =>
      subst hp
      rw[Bool.not_true,cond_false,bind_in]
      exact keep (.inl rfl)
     | false =>
      subst hp
      rw[Bool.not_false,cond_true,bind_in,before_ok _ _ (by omega) (by have:=hm _ hkm; omega),bind_in]
      simp only[bind_in]
      cases hb:cmpSets s l[k] with
      | false=>exact keep (.inr hb)
      | true =>
       unfold ladingref13_add.j1
       rw[cond_true,app_in (by simp only[List.length_singleton]; omega),bind_in,idx_nat hk,bind_in,app_in (by simp only[List.length_append,List.length_singleton]; omega),bind_in,z64_succ (by omega),bind_in]
       refine⟨_,rfl,rfl,h1',?_,fun y=>?_,?_,fun _=>⟨l[k],(htk _).2 (.inr rfl),hb⟩,?_⟩
       ·simp only
        refine List.pairwise_append.2 ⟨List.pairwise_append.2 ⟨h2,by simp,fun a ha b hb=>?_⟩,by simp,fun a ha b hb'=>?_⟩
        ·rw[List.mem_singleton.1 hb]; exact h4 rfl a ha
        ·rw[List.mem_singleton.1 hb']
         rcases List.mem_append.1 ha with ha | ha
         ·exact ss_trans (h4 rfl a ha) hb
         ·rw[List.mem_singleton.1 ha]; exact hb
       ·simp only
        rw[List.mem_append,List.mem_append,List.mem_singleton,List.mem_singleton,h3,hmem]
        constructor
        ·rintro (((a | a) | a) | a)
         ·exact .inl (.inl a)
         ·cases a.1
         ·exact .inr ⟨trivial,a⟩
         ·exact .inl (.inr a)
        ·rintro ((a | a) | a)
         ·exact .inl (.inl (.inl a))
         ·exact .inr a
         ·exact .inl (.inr a.2)
       ·intro hp; cases hp
       ·simp only[List.length_append,List.length_singleton]
        simp at h6
        simp
        try omega) (fun x hx=>by
   obtain⟨p,i,out⟩:=x
   obtain⟨h0,h1⟩:=hx
   simp only at h0 h1
   subst h0
   refine⟨.inl (p,out),?_,.inr ⟨p,out,rfl,h1⟩⟩
   simp only[ladingref13_add.b1]
   rw[ltZ_eq,decide_eq_false (by omega),cond_false]) (by omega)
 rw[hr,bind_in]
 rcases hq with⟨rfl,x,hx,hxs⟩ | ⟨p,out,rfl,h1,h2,h3,h4,h5,h6⟩
 ·refine⟨l,rfl,hl,fun y=>⟨.inl,fun h=>h.elim id fun h=>⟨x,hx,sub_trans hxs h⟩⟩,by omega,fun y hy=>.inl hy⟩
 ·rw[List.take_length] at h1 h3 h5
  have key:∀ r:List (List Bs),r.Pairwise (fun a b=>cmpSets a b = true) → (∀ y,y ∈ r ↔ (y ∈ l ∧ subB s y = false) ∨ y = s) → Anti r ∧ (∀ x,Up r x ↔ Up l x ∨ subB s x = true) ∧ ∀ x ∈ r,x ∈ l ∨ x = s:=fun r r1 r2=>by
   refine⟨⟨fun a ha=>?_,r1,fun a ha b hb hab=>?_⟩,fun x=>⟨?_,?_⟩,fun x hx=>?_⟩
   ·rcases (r2 a).1 ha with⟨ha,_⟩ | rfl
    ·exact hl.1 a ha
    ·exact hs
   ·rcases (r2 a).1 ha with⟨ha,ha2⟩ | rfl
    ·rcases (r2 b).1 hb with⟨hb,hb2⟩ | rfl
     ·exact hl.2.2 a ha b hb hab
     ·rw[h1 a ha] at hab; cases hab
    ·rcases (r2 b).1 hb with⟨hb,hb2⟩ | rfl
     ·rw[hb2] at hab; cases hab
     ·rfl
   ·rintro⟨a,ha,hax⟩
    rcases (r2 a).1 ha with⟨ha,_⟩ | rfl
    ·exact .inl ⟨a,ha,hax⟩
    ·exact .inr hax
   ·rintro (⟨a,ha,hax⟩ | h)
    ·by_cases hsa:subB s a = true
     ·exact⟨s,(r2 s).2 (.inr rfl),sub_trans hsa hax⟩
     ·exact⟨a,(r2 a).2 (.inl ⟨ha,by simpa using hsa⟩),hax⟩
    ·exact⟨s,(r2 s).2 (.inr rfl),h⟩
   ·rcases (r2 x).1 hx with⟨hx,_⟩ | rfl
    ·exact .inl hx
    ·exact .inr rfl
  show ∃ r,ladingref13_add.j2 s p out = some r ∧ _
  unfold ladingref13_add.j2
  cases hp:p with
  | true =>
   subst hp
   rw[Bool.not_true,cond_false]
   simp at h6
   obtain⟨k1,k2,k3⟩:=key out h2 fun y=>by rw[h3]; simp
   exact⟨_,rfl,k1,k2,h6,k3⟩
  | false =>
   subst hp
   simp at h6
   rw[Bool.not_false,cond_true,app_in (by simp only[List.length_singleton]; omega),bind_in]
   obtain⟨k1,k2,k3⟩:=key (out ++ [s]) (List.pairwise_append.2 ⟨h2,by simp,fun a ha b hb=>by rw[List.mem_singleton.1 hb]; exact h4 rfl a ha⟩) fun y=>by rw[List.mem_append,List.mem_singleton,h3]; simp
   exact⟨_,rfl,k1,k2,by simp only[List.length_append,List.length_singleton]; omega,k3⟩
end Go.Proofs.YtcmibmohdnbhgaaGreatDoor
namespace Go.Proofs.YtcmibmohdnbhgaaGreatDoor
open Go.Lad
theorem union_ok (a b:List Bs) (ha:Asc a) (hl:a.length + b.length ≤ 1000000):ladingref13_union a b = some (srt (a ++ b)):=by
 unfold ladingref13_union
 rw[app_in (by simp only[List.length_nil]; omega),bind_in]
 refine loopF_at (body:=fun x=>ladingref13_union.b1 b x.1 x.2) (fun k=>(srt (a ++ b.take k),(k:Int))) b.length (by rw[List.take_zero,List.append_nil,srt_self ha]; rfl) (fun k hk=>?_) ?_ (by omega)
 ·simp only[ladingref13_union.b1]
  have:=srt_len (a ++ b.take k)
  rw[List.length_append,List.length_take] at this
  rw[ltZ_eq,decide_eq_true (by omega),cond_true,idx_nat hk,bind_in,put_ok _ (srt_asc _) (by omega),bind_in,z64_succ (by omega),bind_in,srt_put _ _ _ hk]
 ·simp only[ladingref13_union.b1]
  rw[ltZ_eq,decide_eq_false (by omega),cond_false,List.take_length]
def AddsI (o t:List (List Bs)) (k:Nat) (out:List (List Bs)):Prop :=
 Anti out ∧ (∀ x,Up out x ↔ Up o x ∨ Up (t.take k) x) ∧ out.length ≤ o.length + k ∧ ∀ a ∈ out,a ∈ o ∨ a ∈ t
theorem adds_zero {o t:List (List Bs)} (h:Anti o):AddsI o t 0 o:=⟨h,fun x=>by rw[List.take_zero]; simp [up_nil],by omega,fun a ha=>.inl ha⟩
theorem adds_succ {o t out:List (List Bs)} {k:Nat} (hk:k < t.length) (ht:∀ a ∈ t,Asc a ∧ a.length ≤ 1000) (ho:∀ a ∈ o,a.length ≤ 1000) (hl:o.length + t.length ≤ 1000000) (h:AddsI o t k out) :
  ∃ r,ladingref13_add out t[k] = some r ∧ AddsI o t (k + 1) r:=by
 obtain⟨h1,h2,h3,h4⟩:=h
 have htk:=ht _ (List.getElem_mem hk)
 obtain⟨r,hr,r1,r2,r3,r4⟩:=add_ok out t[k] h1 htk.1 (by omega) (fun x hx=>by
  rcases h4 x hx with h | h
  ·have:=ho x h; omega
  ·have:=(ht x h).2; omega) (by omega)
 refine⟨r,hr,r1,fun x=>?_,by omega,fun a ha=>?_⟩
 ·rw[r2,h2,take_snoc t k hk,up_app,up_one,or_assoc]
 ·rcases r4 a ha with h | rfl
  ·exact h4 a h
  ·exact .inr (List.getElem_mem hk)
theorem adds_loop (m out:List (List Bs)) (v:Int) (hv:z64 (v + 1) = some (v + 1)) (ha:Anti out) (ht:∀ a ∈ m,Asc a ∧ a.length ≤ 1000) (ho:∀ a ∈ out,a.length ≤ 1000) (hl:out.length + m.length ≤ 1000000) :
  ∃ r,loopF (fun x=>ladingref13_normal.b1 v m x.1 x.2) (out,0) = some (.inr (.inl (r,v + 1))) ∧ AddsI out m m.length r:=by
 obtain⟨b,hb,r,rfl,hq⟩:=loopF_inv (body:=fun x=>ladingref13_normal.b1 v m x.1 x.2) (fun k x=>x.2 = (k:Int) ∧ AddsI out m k x.1) (Q:=fun b=>∃ r,b = .inr (.inl (r,v + 1)) ∧ AddsI out m m.length r) m.length (x:=(out,0)) ⟨rfl,adds_zero ha⟩ (fun k hk x hx=>by
  obtain⟨l,i⟩:=x
  obtain⟨h1,h2⟩:=hx
  simp only at h1 h2
  subst h1
  obtain⟨r,hr,hrs⟩:=adds_succ hk ht ho hl h2
  simp only[ladingref13_normal.b1]
  rw[ltZ_eq,decide_eq_true (by omega),cond_true,idx_nat hk,bind_in,hr,bind_in,z64_succ (by omega)]
  exact .inl ⟨_,rfl,rfl,hrs⟩) (fun x hx=>by
  obtain⟨l,i⟩:=x
  obtain⟨h1,h2⟩:=hx
  simp only at h1 h2
  subst h1
  simp only[ladingref13_normal.b1]
  rw[ltZ_eq,decide_eq_false (by omega),cond_false,hv]
  exact⟨_,rfl,l,rfl,h2⟩) (by omega)
 exact⟨r,hb,hq⟩
theorem mix_loop (n out next:List (List Bs)) (k:Nat) (hk:k < n.length) (hkb:k ≤ 1000000) (hn:Anti next) (ho:∀ a ∈ out,Asc a ∧ a.length ≤ 500) (hm:∀ a ∈ n,a.length ≤ 500) (hx:∀ a ∈ next,a.length ≤ 1000) (hl:next.length + out.length ≤ 1000000) :
  ∃ r,loopF (fun x=>ladingref13_normal.b2 n out (k:Int) x.1 x.2) (next,0) = some (.inl (r,((k + 1:Nat):Int))) ∧ AddsI next (out.map fun a=>srt (a ++ n[k])) out.length r:=by
 have hT:∀ b ∈ out.map (fun a=>srt (a ++ n[k])),Asc b ∧ b.length ≤ 1000:=fun b hb=>by
  obtain⟨a,ha,rfl⟩:=List.mem_map.1 hb
  have h1:=srt_len (a ++ n[k])
  rw[List.length_append] at h1
  have:=(ho a ha).2
  have:=hm _ (List.getElem_mem hk)
  exact⟨srt_asc _,by omega⟩
 obtain⟨b,hb,r,rfl,hq⟩:=loopF_inv (body:=fun x=>ladingref13_normal.b2 n out (k:Int) x.1 x.2) (fun j x=>x.2 = (j:Int) ∧ AddsI next (out.map fun a=>srt (a ++ n[k])) j x.1) (Q:=fun b=>∃ r,b = .inl (r,((k + 1:Nat):Int)) ∧ AddsI next (out.map fun a=>srt (a ++ n[k])) out.length r) out.length (x:=(next,0)) ⟨rfl,adds_zero hn⟩ (fun j hj x hx'=>by
  obtain⟨l,i⟩:=x
  obtain⟨h1,h2⟩:=hx'
  simp only at h1 h2
  subst h1
  obtain⟨r,hr,hrs⟩:=adds_succ (k:=j) (by rw[List.length_map]; exact hj) hT hx (by rw[List.length_map]; exact hl) h2
  rw[List.getElem_map] at hr
  have h3:=ho _ (List.getElem_mem hj)
  have h4:=hm _ (List.getElem_mem hk)
  simp only[ladingref13_normal.b2]
  rw[ltZ_eq,decide_eq_true (by omega),cond_true,idx_nat hj,bind_in,idx_nat hk,bind_in,union_ok _ _ h3.1 (by omega),bind_in,hr,bind_in,z64_succ (by omega)]
  exact .inl ⟨_,rfl,rfl,hrs⟩) (fun x hx'=>by
  obtain⟨l,i⟩:=x
  obtain⟨h1,h2⟩:=hx'
  simp only at h1 h2
  subst h1
  simp only[ladingref13_normal.b2]
  rw[ltZ_eq,decide_eq_false (by omega),cond_false,z64_succ (by omega)]
  exact⟨_,rfl,l,rfl,h2⟩) (by omega)
 exact⟨r,hb,hq⟩
theorem up_map (out:List (List Bs)) (c x:List Bs):Up (out.map fun a=>srt (a ++ c)) x ↔ Up out x ∧ subB c x = true:=by
 constructor
 ·rintro⟨b,hb,h⟩
  obtain⟨a,ha,rfl⟩:=List.mem_map.1 hb
  exact⟨⟨a,ha,(sub_srt.1 h).1⟩,(sub_srt.1 h).2⟩
 ·rintro⟨⟨a,ha,h1⟩,h2⟩
  exact⟨_,List.mem_map.2 ⟨a,ha,rfl⟩,sub_srt.2 ⟨h1,h2⟩⟩
theorem mixes_loop (n out:List (List Bs)) (v:Int) (hv:z64 (v + 1) = some (v + 1)) (B:Nat) (hB:B ≤ 1000) (ho:∀ a ∈ out,Asc a ∧ a.length ≤ 500) (hm:∀ a ∈ n,a.length ≤ 500) (hb:∀ a ∈ out,∀ b ∈ n,a.length + b.length ≤ B) (hl:out.length * n.length + out.length ≤ 1000000) (hn:n.length ≤ 1000000) :
  ∃ r,loopF (fun x=>ladingref13_normal.b3 v n out x.1 x.2) ([],0) = some (.inl (r,v + 1)) ∧ Anti r ∧ (∀ x,Up r x ↔ Up out x ∧ Up n x) ∧ r.length ≤ out.length * n.length ∧ ∀ a ∈ r,a.length ≤ B:=by
 obtain⟨b,hbb,r,rfl,hq⟩:=loopF_inv (body:=fun x=>ladingref13_normal.b3 v n out x.1 x.2) (fun k x=>x.2 = (k:Int) ∧ Anti x.1 ∧ (∀ y,Up x.1 y ↔ Up out y ∧ Up (n.take k) y) ∧ x.1.length ≤ out.length * k ∧ ∀ a ∈ x.1,a.length ≤ B)
  (Q:=fun b=>∃ r,b = .inl (r,v + 1) ∧ Anti r ∧ (∀ x,Up r x ↔ Up out x ∧ Up n x) ∧ r.length ≤ out.length * n.length ∧ ∀ a ∈ r,a.length ≤ B) n.length (x:=([],0)) ⟨rfl,anti_nil,fun y=>by simp [up_nil],by simp,by simp⟩ (fun k hk x hx=>by
  obtain⟨l,i⟩:=x
  obtain⟨h1,h2,h3,h4,h5⟩:=hx
  simp only at h1 h2 h3 h4 h5
  subst h1
  have hmul:out.length * k + out.length ≤ out.length * n.length:=by rw[← Nat.mul_succ]; exact Nat.mul_le_mul_left _ hk
  obtain⟨r,hr,r1,r2,r3,r4⟩:=mix_loop n out l k hk (by omega) h2 ho hm (fun a ha=>by have:=h5 a ha; omega) (by omega)
  simp only[ladingref13_normal.b3]
  rw[ltZ_eq,decide_eq_true (by omega),cond_true,hr]
  refine .inl ⟨_,rfl,rfl,r1,fun y=>?_,?_,fun a ha=>?_⟩
  ·simp only
   rw[r2,h3,List.take_of_length_le (l:=out.map fun a=>srt (a ++ n[k])) (by rw[List.length_map]; omega),up_map,take_snoc n k hk,up_app,up_one]
   constructor
   ·rintro (⟨a,b⟩ | ⟨a,b⟩)
    ·exact⟨a,.inl b⟩
    ·exact⟨a,.inr b⟩
   ·rintro⟨a,b | b⟩
    ·exact .inl ⟨a,b⟩
    ·exact .inr ⟨a,b⟩
  ·simp only
   rw[Nat.mul_succ]; omega
  ·rcases r4 a ha with h | h
   ·exact h5 a h
   ·obtain⟨c,hc,rfl⟩:=List.mem_map.1 h
    have h1:=srt_len (c ++ n[k])
    rw[List.length_append] at h1
    have:=hb c hc _ (List.getElem_mem hk)
    omega) (fun x hx=>by
  obtain⟨l,i⟩:=x
  obtain⟨h1,h2,h3,h4,h5⟩:=hx
  simp only at h1 h2 h3 h4 h5
  subst h1
  rw[List.take_length] at h3
  simp only[ladingref13_normal.b3]
  rw[ltZ_eq,decide_eq_false (by omega),cond_false,hv]
  exact⟨_,rfl,l,rfl,h2,h3,h4,h5⟩) (by omega)
 exact⟨r,hbb,hq⟩
theorem out_tr {e:LicT} {k:Nat} {l r:List (List Bs)} (h:OutOf e (k + 1) l) (h1:∀ a ∈ r,Asc a) (h2:∀ x,Up r x ↔ Up l x) (h3:r.length ≤ l.length) (h4:∀ a ∈ r,a.length ≤ LicT.lvs (e.ar.take (k + 1))):OutOf e (k + 1) r :=
 ⟨h1,fun x=>(h2 x).trans (h.2.1 x),Nat.le_trans h3 h.2.2.1,h4,fun _ h=>by cases h⟩
theorem normal_rec:∀ (n:Nat) (e:LicT),e.fm = true → e.sz < n → e.lv ≤ 16 → ∃ l,ladingref13_normal.rec n e.op e.nm (unL e.ar) = some l ∧ SetsOf e l
 | 0,_,_,h,_=>absurd h (by omega)
 | n + 1,e,hf,hn,hlv=>by
  show ∃ l,ladingref13_normal.body (ladingref13_normal.rec n) e.op e.nm (unL e.ar) = some l ∧ _
  unfold ladingref13_normal.body
  by_cases h0:e.op = 0
  ·rw[eqZ_eq,decide_eq_true h0,cond_true]
   exact⟨_,rfl,sets_leaf hf h0⟩
  ·rw[eqZ_eq,decide_eq_false h0,cond_false]
   have hfa:∀ y ∈ e.ar,y.fm = true:=fun y hy=>(fm_ar hf hy).1
   have hlvs:e.lv = LicT.lvs e.ar:=by rw[LicT.lv_eq,if_neg h0]
   have hlen:=len_lvs hfa
   have h2len:2 ≤ e.ar.length:=by
    rw[LicT.fm_eq,if_neg h0,Bool.and_eq_true,decide_eq_true_eq] at hf
    exact hf.1.2.2
   have hch:∀ k (hk:k < e.ar.length),∃ l,ladingref13_normal.rec n e.ar[k].op e.ar[k].nm (unL e.ar[k].ar) = some l ∧ SetsOf e.ar[k] l:=fun k hk=>by
    have hm:=List.getElem_mem hk
    have h1:=LicT.sz_lt hm
    have h2:=LicT.lv_mem hm
    exact normal_rec n e.ar[k] (hfa _ hm) (by omega) (by omega)
   obtain⟨out,hr,hq1,hq2⟩:=loopF_inv (body:=fun x=>ladingref13_normal.b4 (ladingref13_normal.rec n) e.op (unL e.ar) x.1 x.2) (fun k x=>x.2 = (k:Int) ∧ Anti x.1 ∧ ((k = 0 ∧ x.1 = []) ∨ (0 < k ∧ OutOf e k x.1))) (Q:=fun r=>Anti r ∧ OutOf e e.ar.length r) e.ar.length (x:=([],0)) ⟨rfl,anti_nil,.inl ⟨rfl,rfl⟩⟩ (fun k hk x hx=>by
    obtain⟨out,i⟩:=x
    obtain⟨h1,h2,h3⟩:=hx
    simp only at h1 h2 h3
    subst h1
    obtain⟨m,hm,hms⟩:=hch k hk
    have hlk:=lvs_take_succ hk
    have hlk2:=lvs_take_le e.ar (k + 1)
    have hml:m.length ≤ 65536:=Nat.le_trans hms.2.2.1 (pow16 (by omega))
    have hol:out.length ≤ 65536:=by
     rcases h3 with⟨_,h3⟩ | ⟨_,h3⟩
     ·rw[h3]; simp
     ·exact Nat.le_trans h3.2.2.1 (pow16 (by omega))
    have hoa:∀ a ∈ out,a.length ≤ LicT.lvs (e.ar.take k):=by
     rcases h3 with⟨_,h3⟩ | ⟨_,h3⟩
     ·rw[h3]; simp
     ·exact h3.2.2.2.1
    have hma:∀ a ∈ m,a.length ≤ e.ar[k].lv:=hms.2.2.2
    simp only[ladingref13_normal.b4]
    rw[un_len,ltZ_eq,decide_eq_true (by omega),cond_true,idx_un hk]
    simp only[bind_in,fu1,fu2,fu3,fu4]
    rw[hm]
    simp only[bind_in]
    left
    by_cases hadd:k = 0 ∨ e.op = 2
    ·have hc:(bif eqZ (k:Int) 0 then some true else some (eqZ e.op 2)) = some true:=by
      rw[eqZ_eq,eqZ_eq]
      rcases hadd with h | h
      ·rw[decide_eq_true (by omega)]; rfl
      ·rw[decide_eq_true h]; cases decide ((k:Int) = 0) <;> rfl
     rw[hc,bind_in]
     unfold ladingref13_normal.j1
     rw[cond_true]
     obtain⟨r,hr,r1,r2,r3,r4⟩:=adds_loop m out (k:Int) (z64_succ (by omega)) h2 (fun a ha=>⟨hms.1.1 a ha,by have:=hma a ha; omega⟩) (fun a ha=>by have:=hoa a ha; omega) (by omega)
     rw[hr,bind_in]
     rw[List.take_length] at r2
     have hra:∀ a ∈ r,a.length ≤ LicT.lvs (e.ar.take (k + 1)):=fun a ha=>by
      rcases r4 a ha with h | h
      ·have:=hoa a h; omega
      ·have:=hma a h; omega
     refine⟨_,rfl,rfl,r1,.inr ⟨by omega,?_⟩⟩
     simp only
     by_cases ho:e.op = 2
     ·have ho1:OutOf e k out:=by
       rcases h3 with⟨rfl,rfl⟩ | ⟨_,h3⟩
       ·exact⟨by simp,fun x=>by rw[if_pos ho]; simp [up_nil],by simp,by simp,fun _ _=>rfl⟩
       ·exact h3
      exact out_tr (out_or hf ho hk ho1 hms) r1.1 (fun x=>by rw[r2,up_app]) (by rw[List.length_append]; exact r3) hra
     ·have hk0:k = 0:=hadd.resolve_right ho
      subst hk0
      have hout:out = []:=by
       rcases h3 with⟨_,h3⟩ | ⟨h3,_⟩
       ·exact h3
       ·omega
      subst hout
      have ho1:OutOf e 0 [[]]:=⟨fun a ha=>by rw[List.mem_singleton.1 ha]; exact List.Pairwise.nil,fun x=>by rw[if_neg ho,up_one]; simp [subB],by simp [LicT.lvs],fun a ha=>by rw[List.mem_singleton.1 ha]; simp,fun h=>absurd h ho⟩
      exact out_tr (out_and ho hk ho1 hms) r1.1 (fun x=>by
       rw[r2,up_prod,up_one]
       have:subB [] x = true:=rfl
       simp [up_nil,this]) (by rw[prod_len]; simpa using r3) hra
    ·have hk0:¬ k = 0:=fun h=>hadd (.inl h)
     have ho:¬ e.op = 2:=fun h=>hadd (.inr h)
     have hc:(bif eqZ (k:Int) 0 then some true else some (eqZ e.op 2)) = some false:=by
      rw[eqZ_eq,eqZ_eq,decide_eq_false (by omega),decide_eq_false ho]; rfl
     rw[hc,bind_in]
     unfold ladingref13_normal.j1
     rw[cond_false,bind_in]
     unfold ladingref13_normal.j2
     have ho1:OutOf e k out:=by
      rcases h3 with⟨h3,_⟩ | ⟨_,h3⟩
      ·exact absurd h3 hk0
      ·exact h3
     have hp:=out_and ho hk ho1 hms
     have hpl:(prodS out m).length ≤ 65536:=Nat.le_trans hp.2.2.1 (pow16 (by omega))
     rw[prod_len] at hpl
     obtain⟨r,hr,r1,r2,r3,r4⟩:=mixes_loop m out (k:Int) (z64_succ (by omega)) (LicT.lvs (e.ar.take (k + 1))) (by omega) (fun a ha=>⟨ho1.1 a ha,by have:=hoa a ha; omega⟩) (fun a ha=>by have:=hma a ha; omega) (fun a ha b hb=>by have:=hoa a ha; have:=hma b hb; omega) (by omega) (by omega)
     simp only
     rw[hr]
     exact⟨_,rfl,rfl,r1,.inr ⟨by omega,out_tr hp r1.1 (fun x=>by rw[r2,up_prod]) (by rw[prod_len]; exact r3) r4⟩⟩) (fun x hx=>by
    obtain⟨out,i⟩:=x
    obtain⟨h1,h2,h3⟩:=hx
    simp only at h1 h2 h3
    subst h1
    refine⟨out,?_,h2,?_⟩
    ·simp only[ladingref13_normal.b4]
     rw[un_len,ltZ_eq,decide_eq_false (by omega),cond_false]
    ·rcases h3 with⟨h3,_⟩ | ⟨_,h3⟩
     ·omega
     ·exact h3) (by omega)
   obtain⟨q1,q2,q3,q4⟩:=out_end h0 hq2
   exact⟨out,hr,hq1,q2,q3,q4⟩
theorem sets_ok (e:LicT) (h:e.rt = true) (hz:e.sz ≤ 1000000000):∃ l,licence_sets e.op e.nm (unL e.ar) = some l ∧ ladingref13_normal e.op e.nm (unL e.ar) = some l ∧ SetsOf e l:=by
 unfold LicT.rt at h
 rw[Bool.and_eq_true,Nat.ble_eq] at h
 obtain⟨l,hl,hls⟩:=sets_rec bigFuel.n e h.1 (fuel_big (by omega)) h.2
 obtain⟨m,hm,hms⟩:=normal_rec bigFuel.n e h.1 (fuel_big (by omega)) h.2
 have:l = m:=anti_ext hls.1 hms.1 fun x _=>(hls.2.1 x).trans (hms.2.1 x).symm
 subst this
 exact⟨l,hl,hm,hls⟩
theorem normal_ok (e:LicT) (hz:e.sz ≤ 1000000000):∃ l,licence_Normal e.op e.nm (unL e.ar) = some (l,if e.rt = true then 0 else 1) ∧ ladingref13_Normal e.op e.nm (unL e.ar) = some (l,if e.rt = true then 0 else 1) ∧ (e.rt = true → SetsOf e l) ∧ (e.rt = false → l = []):=by
 unfold licence_Normal ladingref13_Normal
 rw[right_ok e hz,rright_ok e hz,bind_in,bind_in]
 cases h:e.rt with
 | false=>exact⟨[],rfl,rfl,by simp,by simp⟩
 | true =>
  obtain⟨l,h1,h2,h3⟩:=sets_ok e h hz
  rw[Bool.not_true,cond_false,cond_false,h1,h2]
  exact⟨l,rfl,rfl,fun _=>h3,by simp⟩
def impl (b:LicT) (l:List (List Bs)):Bool × List Bs × Int:=match l.find? (fun s=>!b.hd s) with
 | some s=>(false,s,0)
 | none=>(true,[],0)
theorem loop_find {β:Type} {body:Int → Option (Int ⊕ β)} (l:List (List Bs)) (p:List Bs → Bool) (g:List Bs → β) (d:β)
  (h:∀ k (hk:k < l.length),body (k:Int) = some (if p l[k] = true then .inr (g l[k]) else .inl ((k + 1:Nat):Int)))
  (hd:body (l.length:Int) = some (.inr d)) (hn:l.length ≤ 1000000000):loopF body 0 = some (match l.find? p with | some s=>g s | none=>d):=by
 obtain⟨b,hb,hq⟩:=loopF_inv (body:=body) (fun k x=>x = (k:Int) ∧ ∀ y ∈ l.take k,p y = false) (Q:=fun r=>r = (match l.find? p with | some s=>g s | none=>d)) l.length (x:=0) ⟨rfl,by simp⟩ (fun k hk x hx=>by
  obtain⟨rfl,hall⟩:=hx
  rw[h k hk]
  cases ht:p l[k] with
  | true =>
   refine .inr ⟨_,rfl,?_⟩
   have:l.find? p = some l[k]:=by
    have e:l.find? p = (l.take k ++ l.drop k).find? p:=by rw[List.take_append_drop]
    rw[e,List.find?_append,List.find?_eq_none.2 (fun y hy=>by rw[hall y hy]; simp),List.drop_eq_getElem_cons hk,List.find?_cons_of_pos ht]
    rfl
   rw[this]
  | false=>exact .inl ⟨_,rfl,rfl,all_take_succ hk hall ht⟩) (fun x hx=>by
  obtain⟨rfl,hall⟩:=hx
  rw[List.take_length] at hall
  refine⟨_,hd,?_⟩
  rw[List.find?_eq_none.2 (fun y hy=>by rw[hall y hy]; simp)]) (by omega)
 rw[hb,hq]
theorem implies_ok (a b:LicT) (ha:a.sz ≤ 1000000000) (hb:b.sz ≤ 1000000000):∃ r,licence_Implies a.op a.nm (unL a.ar) b.op b.nm (unL b.ar) = some r ∧ ladingref13_Implies a.op a.nm (unL a.ar) b.op b.nm (unL b.ar) = some r ∧ ((a.rt && b.rt) = false → r = (false,[],1)) ∧ (∀ l,a.rt = true → b.rt = true → licence_sets a.op a.nm (unL a.ar) = some l → r = impl b l):=by
 unfold licence_Implies ladingref13_Implies licence_Implies.j1 ladingref13_Implies.j1
 rw[right_ok a ha,rright_ok a ha,right_ok b hb,rright_ok b hb]
 simp only[bind_in]
 cases h1:a.rt with
 | false=>exact⟨_,rfl,rfl,fun _=>rfl,fun _ h=>by cases h⟩
 | true =>
  cases h2:b.rt with
  | false=>exact⟨_,rfl,rfl,fun _=>rfl,fun _ _ h=>by cases h⟩
  | true =>
   obtain⟨l,e1,e2,e3⟩:=sets_ok a h1 ha
   have hlv:a.lv ≤ 16:=by unfold LicT.rt at h1; rw[Bool.and_eq_true,Nat.ble_eq] at h1; exact h1.2
   have hfb:b.fm = true:=by unfold LicT.rt at h2; rw[Bool.and_eq_true] at h2; exact h2.1
   have hll:l.length ≤ 65536:=Nat.le_trans e3.2.2.1 (pow16 hlv)
   simp only[Bool.not_true,cond_false,cond_true,bind_in]
   rw[e1,e2,bind_in,bind_in]
   refine⟨impl b l,?_,?_,fun h=>(by cases h),fun l' _ _ h=>by cases h; rfl⟩
   ·exact loop_find (body:=fun x=>licence_Implies.b1 b.op b.nm (unL b.ar) l x) l (fun s=>!b.hd s) (fun s=>(false,s,0)) (true,[],0) (fun k hk=>by
     simp only[licence_Implies.b1]
     have:=e3.2.2.2 _ (List.getElem_mem hk)
     rw[ltZ_eq,decide_eq_true (by omega),cond_true,idx_nat hk,bind_in,hold_ok b _ hb (by omega),bind_in,z64_succ (by omega)]
     cases b.hd l[k] <;> rfl) (by
     simp only[licence_Implies.b1]
     rw[ltZ_eq,decide_eq_false (by omega),cond_false]) (by omega)
   ·exact loop_find (body:=fun x=>ladingref13_Implies.b1 b.op b.nm (unL b.ar) l x) l (fun s=>!b.hd s) (fun s=>(false,s,0)) (true,[],0) (fun k hk=>by
     simp only[ladingref13_Implies.b1]
     have:=e3.2.2.2 _ (List.getElem_mem hk)
     rw[ltZ_eq,decide_eq_true (by omega),cond_true,idx_nat hk,bind_in,perm_ok b _ hfb hb (by omega),bind_in,z64_succ (by omega)]
     cases b.hd l[k] <;> rfl) (by
     simp only[ladingref13_Implies.b1]
     rw[ltZ_eq,decide_eq_false (by omega),cond_false]) (by omega)
end Go.Proofs.YtcmibmohdnbhgaaGreatDoor
namespace Go.Proofs.YtcmibmohdnbhgaaGreatDoor
open Go.Lad
def lt (a:LicT):GLic:=(a.op,a.nm,a.ar)
end Go.Proofs.YtcmibmohdnbhgaaGreatDoor
namespace Go.Proofs.YtcmibmohdnbhgaaGreatDoor
open Go.Lad
end Go.Proofs.YtcmibmohdnbhgaaGreatDoor
