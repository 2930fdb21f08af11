import Derived.Test.YtaocfjifacnokaaGreatTModel
import Derived.Test.YtaocfjifacnokaaGreatDPl
import Derived.Test.YtaocfjifacnokaaGreatLs
import Derived.IntWalk
set_option linter.unusedVariables false
set_option linter.unusedSimpArgs false
set_option linter.unusedSectionVars false
namespace Go.Proofs.YtaocfjifacnokaaGreat
open Go.Lad
set_option maxRecDepth 100000
theorem Hw:eV = some true:=by kernel_rfl
end Go.Proofs.YtaocfjifacnokaaGreat
namespace Go.Proofs.YtaocfjifacnokaaGreat
open Go.Lad
end Go.Proofs.YtaocfjifacnokaaGreat
namespace Go.Lad
def ab.nm:ab → Bs
 | .mk n _ _=>n
def ab.kd:ab → Int
 | .mk _ k _=>k
def ab.fs:ab → List ab
 | .mk _ _ l=>l
theorem ab.eta (f:ab):ab.mk f.nm f.kd f.fs = f:=by cases f; rfl
end Go.Lad
namespace Go.Proofs.YtaocfjifacnokaaGreat
open Go.Lad
def unL (l:List ab):List b9:=List.map (α:=ab) (β:=b9) (Uun 0) l
def mkL (l:List b9):List ab:=List.map (α:=b9) (β:=ab) (Umk 0) l
theorem fu1 (l:List ab):@List.map (UD 0) b9 (Uun 0) l = unL l:=rfl
theorem fu2 (l:List ab):@List.map ab b9 (Uun 0) l = unL l:=rfl
theorem fu3 (l:List ab):@List.map (UD 0) (eH 0).den (Uun 0) l = unL l:=rfl
theorem fu4 (l:List ab):@List.map ab (eH 0).den (Uun 0) l = unL l:=rfl
theorem sV:∀ (l:List ab),mkL (unL l) = l
 | []=>rfl
 | x :: r=>congr (congrArg List.cons (GH 0 x)) (sV r)
theorem Kh:∀ (l:List b9),unL (mkL l) = l
 | []=>rfl
 | x :: r=>congr (congrArg List.cons (GI 0 x)) (Kh r)
theorem fx1 (l:List ab):@List.map (eH 0).den ab (Umk 0) (@List.map (UD 0) (eH 0).den (Uun 0) l) = l:=sV l
theorem fx2 (l:List ab):@List.map (eH 0).den (UD 0) (Umk 0) (@List.map (UD 0) (eH 0).den (Uun 0) l) = l:=sV l
theorem fx3 (l:List ab):@List.map b9 ab (Umk 0) (@List.map (UD 0) b9 (Uun 0) l) = l:=sV l
theorem Lf (f:ab):(Uun 0 f:b9) = (f.nm,f.kd,f.fs):=by cases f; rfl
theorem bw (l:List ab):(unL l).length = l.length:=List.length_map _
theorem Lg (l:List ab) {k:Nat} (h:k < l.length):(unL l)[k]'(by rw[bw]; exact h) = (l[k].nm,l[k].kd,l[k].fs) :=
 (List.getElem_map (α:=ab) (β:=b9) (Uun 0)).trans (Lf _)
theorem dy {l:List ab} {k:Nat} (h:k < l.length):idx (unL l) (k:Int) = some (l[k].nm,l[k].kd,l[k].fs):=by
 rw[cR (by rw[bw]; exact h),Lg l h]
def allI {α:Type} (t:Nat → α → Bool):Nat → List α → Bool
 | _,[]=>true
 | k,x :: r=>t k x && allI t (k + 1) r
theorem mI {α:Type} (t:Nat → α → Bool):∀ (l:List α) (k:Nat),allI t k l = true ↔ ∀ i (h:i < l.length),t (k + i) l[i] = true
 | [],k=>by simp [allI]
 | x :: r,k=>by
  unfold allI
  rw[Bool.and_eq_true,mI t r (k + 1)]
  constructor
  ·rintro⟨h1,h2⟩ i hi
   cases i with
   | zero=>exact h1
   | succ i=>rw[List.getElem_cons_succ,show k + (i + 1) = k + 1 + i by omega]; exact h2 i (by simpa using hi)
  ·intro h
   exact⟨h 0 (by simp),fun i hi=>by have:=h (i + 1) (by simpa using hi); rw[List.getElem_cons_succ,show k + (i + 1) = k + 1 + i by omega] at this; exact this⟩
theorem oO {α:Type} (p:α → Bool) (l:List α) (k:Nat):allI (fun _ x=>p x) k l = l.all p:=by
 induction l generalizing k with
 | nil=>rfl
 | cons x r ih=>unfold allI; rw[List.all_cons,ih]
theorem gQ {α:Type} {body:Int → Option (Int ⊕ Bool)} (l:List α) (t:Nat → α → Bool)
  (h:∀ k (hk:k < l.length),body (k:Int) = some (if t k l[k] = true then .inl ((k + 1:Nat):Int) else .inr false))
  (hd:body (l.length:Int) = some (.inr true)) (hn:l.length < 1606938044258990275541962092341162602522202993782792835301376) :
  bO body 0 = some (allI t 0 l):=by
 have e:allI t 0 l = (scan (fun k x=>if t k x = true then none else some false) 0 l).getD true:=by
  have:∀ (r:List α) (k:Nat),allI t k r = (scan (fun k x=>if t k x = true then none else some false) k r).getD true:=by
   intro r
   induction r with
   | nil=>intro k; rfl
   | cons x r ih =>
    intro k
    unfold allI scan
    cases t k x with
    | true=>simp [ih (k + 1)]
    | false=>simp
  exact this l 0
 rw[e]
 refine fM l _ true (fun k hk=>?_) hd hn
 rw[h k hk]
 cases t k l[k] <;> simp
theorem so (c:Int):fp c = some (leZ 97 c && leZ c 122):=by unfold fp; cases leZ 97 c <;> rfl
theorem Hy (c:Int):ig c = some (leZ 48 c && leZ c 57):=by unfold ig; cases leZ 48 c <;> rfl
theorem Hz (c:Int):gE c = some ((leZ 97 c && leZ c 122) || (leZ 48 c && leZ c 57)):=by
 unfold gE
 rw[so,Hy]
 simp only[aa]
 cases (leZ 97 c && leZ c 122) <;> rfl
theorem CO {s:Bs} {k:Nat} (h:k < s.length):bAt s (k:Int) = some (s[k].toNat:Int):=by unfold bAt; rw[cR h]; rfl
theorem Ju (s:Bs) (h:s.length ≤ 20):∃ n,dZ s = some n:=by
 unfold dZ
 obtain⟨b,hb,_⟩:=ew (body:=fun x=>dZ.b1 s x) (fun k x=>x = (k:Int) ∧ k ≤ s.length) (Q:=fun _=>True) s.length (x:=0) ⟨rfl,Nat.zero_le _⟩ (fun k hk x hx=>by
  obtain⟨rfl,_⟩:=hx
  unfold dZ.b1 dZ.j1
  simp only[ao]
  rw[decide_eq_true (show (k:Int) < (s.length:Int) by omega),cond_true,CO hk,aa,Hz]
  simp only[aa]
  cases ((leZ 97 (s[k].toNat:Int) && leZ (s[k].toNat:Int) 122) || (leZ 48 (s[k].toNat:Int) && leZ (s[k].toNat:Int) 57)) with
  | true =>
   simp only[cond_true]
   rw[aB (by omega),aa]
   exact .inl ⟨_,rfl,rfl,by omega⟩
  | false=>exact .inr ⟨_,rfl,trivial⟩) (fun x hx=>by
  obtain⟨rfl,_⟩:=hx
  unfold dZ.b1 dZ.j1
  simp only[ao]
  rw[decide_eq_false (by omega),cond_false]
  simp only[aa]
  exact⟨_,rfl,trivial⟩) (by omega)
 exact⟨b,hb⟩
theorem DY (s:Bs):∃ b,eT s = some b:=by
 unfold eT eT.j1
 by_cases h0:s = []
 ·rw[decide_eq_true h0]; exact⟨false,by subst h0; rfl⟩
 ·have hl:0 < s.length:=List.length_pos_iff.2 h0
  rw[decide_eq_false h0,cond_false,show (0:Int) = ((0:Nat):Int) from rfl,CO hl,aa,so]
  simp only[aa]
  cases (leZ 97 (s[0].toNat:Int) && leZ (s[0].toNat:Int) 122) with
  | false=>exact⟨_,rfl⟩
  | true =>
   simp only[Bool.not_true,cond_false,aa,ao]
   by_cases h20:(20:Int) < (s.length:Int)
   ·rw[decide_eq_true h20]; exact⟨_,rfl⟩
   ·rw[decide_eq_false h20,cond_false]
    obtain⟨n,hn⟩:=Ju s (by omega)
    rw[hn]; exact⟨_,rfl⟩
noncomputable def dQ (s:Bs):Bool:=(cZ s).getD false
theorem A6 {s:Bs} (h:eT s = some true):s.length ≤ 20:=by
 refine Classical.byContradiction fun hl=>?_
 unfold eT eT.j1 at h
 have h0:s ≠ []:=fun e=>hl (by subst e; simp)
 have hp:0 < s.length:=List.length_pos_iff.2 h0
 rw[decide_eq_false h0,cond_false,show (0:Int) = ((0:Nat):Int) from rfl,CO hp,aa,so] at h
 simp only[aa] at h
 cases hc:(leZ 97 (s[0].toNat:Int) && leZ (s[0].toNat:Int) 122) with
 | false=>rw[hc] at h; cases h
 | true =>
  rw[hc] at h
  simp only[Bool.not_true,cond_false,aa,ao] at h
  rw[decide_eq_true (show (20:Int) < (s.length:Int) by omega)] at h
  cases h
theorem qY (w v:Bs) (h:Nat.ble w.length 1000000000 = true):strings_Contains w v = some (Lib.contains w v):=by
 unfold strings_Contains mH
 rw[h]; rfl
theorem iv (s:Bs):cZ s = some (dQ s):=by
 have:∃ b,cZ s = some b:=by
  unfold cZ
  obtain⟨b,hb⟩:=DY s
  rw[hb,aa]
  cases b with
  | false=>exact⟨_,rfl⟩
  | true =>
   have hl:=A6 hb
   rw[cond_true]
   unfold cat?
   rw[if_pos (by simp; omega),aa,if_pos (by simp; omega),aa]
   rw[qY _ _ (by kernel_rfl),aa]
   exact⟨_,rfl⟩
 obtain⟨b,hb⟩:=this
 unfold dQ
 rw[hb]; rfl
def upN (a b:Bs):Bool := !(Op.bytesLess b a || decide (b = a))
noncomputable def bG:Nat → Int → List ab → Bool
 | 0,_,_=>false
 | d + 1,k,l=>(decide (0 ≤ k ∧ k < 3 ∧ l.length ≤ 8 ∧ (k = 2 ∨ l = []))) && allI (fun i f=>dQ f.nm && ((decide (i = 0) || upN ((l.map ab.nm).getD (i - 1) []) f.nm) && bG d f.kd f.fs)) 0 l
theorem Jv {α:Type} {l:List α}:l = [] ↔ l.length = 0:=List.length_eq_zero_iff.symm
theorem CP (k:Int) (l:List ab) (d:Nat):(bif (eqZ ((d + 1:Nat):Int) 0) then some true else (bif (ltZ k 0) then some true else (bif (leZ 3 k) then some true else (bif (ltZ 8 (l.length:Int)) then some true else
   (bif (!eqZ k 2) then some (ltZ 0 (l.length:Int)) else some false))))) = some (!decide (0 ≤ k ∧ k < 3 ∧ l.length ≤ 8 ∧ (k = 2 ∨ l = []))):=by
 simp only[ao,dk,bg,gz,y8,Jv]
 split
 ·omega
 split
 ·rw[decide_eq_false (by omega)]; rfl
 split
 ·rw[decide_eq_false (by omega)]; rfl
 split
 ·rw[decide_eq_false (by omega)]; rfl
 split
 ·rw[decide_eq_true (by omega)]; rfl
 ·by_cases h:(0:Int) < (l.length:Int)
  ·rw[decide_eq_true h,decide_eq_false (by omega)]; rfl
  ·rw[decide_eq_false h,decide_eq_true (by omega)]; rfl
theorem xK:∀ (d n:Nat) (k:Int) (l:List ab),d ≤ 4 → d < n → aT.rec n k (unL l) (d:Int) = some (bG d k l)
 | d,0,_,_,_,h=>absurd h (by omega)
 | 0,n + 1,k,l,_,_=>rfl
 | d + 1,n + 1,k,l,hd,hn=>by
  show aT.body (aT.rec n) k (unL l) ((d + 1:Nat):Int) = _
  unfold aT.body aT.j2
  rw[bw,CP,aa]
  unfold bG
  by_cases hok:0 ≤ k ∧ k < 3 ∧ l.length ≤ 8 ∧ (k = 2 ∨ l = [])
  rotate_left
  ·rw[decide_eq_false hok]; rfl
  ·rw[decide_eq_true hok,Bool.not_true,cond_false,Bool.true_and]
   refine gQ l _ (fun i hi=>?_) ?_ (by omega)
   ·unfold aT.b1 aT.j1
    simp only[fu1,fu2,fu3,fu4]
    rw[bw,ao,decide_eq_true (by omega),cond_true,dy hi,aa,iv,aa]
    rw[aB (by omega)]
    cases hnm:dQ l[i].nm with
    | false=>rfl
    | true =>
     rw[Bool.not_true,cond_false]
     have hd1:z64 (((d + 1:Nat):Int) - 1) = some (d:Int):=by rw[ji (by omega)]; congr 1; omega
     have hrec:=xK d n l[i].kd l[i].fs (by omega) (by omega)
     simp only[hd1,aa,hrec,Bool.true_and]
     by_cases h0:i = 0
     ·subst h0
      rw[ao,decide_eq_false (by omega),cond_false,decide_eq_true rfl,Bool.true_or,Bool.true_and]
      simp only[aa]
      cases bG d (l[0]'hi).kd (l[0]'hi).fs <;> rfl
     ·obtain⟨j,rfl⟩:∃ j,i = j + 1:=⟨i - 1,by omega⟩
      have hj:z64 (((j + 1:Nat):Int) - 1) = some (j:Int):=by rw[ji (by omega)]; congr 1; omega
      rw[ao,decide_eq_true (by omega),cond_true,hj,aa,dy (show j < l.length by omega),aa,decide_eq_false (show ¬ (j + 1 = 0) by omega),Bool.false_or]
      have hg:(l.map ab.nm).getD (j + 1 - 1) [] = (l[j]'(by omega)).nm:=by
       rw[Nat.add_sub_cancel,List.getD_eq_getElem?_getD,List.getElem?_map,List.getElem?_eq_getElem (by omega)]; rfl
      rw[hg]
      unfold upN
      simp only[aa]
      cases (Op.bytesLess (l[j + 1]'hi).nm (l[j]'(by omega)).nm || decide ((l[j + 1]'hi).nm = (l[j]'(by omega)).nm)) <;> cases bG d (l[j + 1]'hi).kd (l[j + 1]'hi).fs <;> rfl
   ·unfold aT.b1
    rw[bw,ao,decide_eq_false (by omega),cond_false]
end Go.Proofs.YtaocfjifacnokaaGreat
namespace Go.Proofs.YtaocfjifacnokaaGreat
open Go.Lad
def okL:Nat → List ab → Prop
 | 0,l=>l = []
 | d + 1,l=>l.length ≤ 1000000 ∧ ∀ f ∈ l,okL d f.fs
theorem ey:∀ d,okL d []
 | 0=>rfl
 | d + 1=>⟨by simp,fun f h=>by cases h⟩
theorem oP:∀ {d:Nat} {l:List ab},okL d l → okL (d + 1) l
 | 0,l,h=>by
  have h:l = []:=h
  subst h; exact ey _
 | d + 1,l,h=>⟨h.1,fun f hf=>oP (h.2 f hf)⟩
theorem lL {d e:Nat} (h:d ≤ e) {l:List ab} (hl:okL d l):okL e l:=by
 induction h with
 | refl=>exact hl
 | step _ ih=>exact oP ih
theorem pr {d:Nat} {k:Int} {l:List ab}:bG (d + 1) k l = true ↔ (0 ≤ k ∧ k < 3 ∧ l.length ≤ 8 ∧ (k = 2 ∨ l = [])) ∧
  ∀ i (h:i < l.length),dQ l[i].nm = true ∧ (i = 0 ∨ upN (l[i - 1]'(by omega)).nm l[i].nm = true) ∧ bG d l[i].kd l[i].fs = true:=by
 show (decide (0 ≤ k ∧ k < 3 ∧ l.length ≤ 8 ∧ (k = 2 ∨ l = [])) && allI (fun i f=>dQ f.nm && ((decide (i = 0) || upN ((l.map ab.nm).getD (i - 1) []) f.nm) && bG d f.kd f.fs)) 0 l) = true ↔ _
 rw[Bool.and_eq_true,decide_eq_true_eq,mI]
 refine and_congr_right fun _=>forall_congr' fun i=>forall_congr' fun h=>?_
 have hg:(l.map ab.nm).getD (i - 1) [] = (l[i - 1]'(by omega)).nm:=by
  rw[List.getD_eq_getElem?_getD,List.getElem?_map,List.getElem?_eq_getElem (by omega)]; rfl
 simp only[Nat.zero_add,Bool.and_eq_true,Bool.or_eq_true,decide_eq_true_eq,hg]
theorem dp:∀ {d:Nat} {k:Int} {l:List ab},bG d k l = true → okL d l
 | 0,_,_,h=>by cases h
 | d + 1,k,l,h=>by
  obtain⟨h1,h2⟩:=pr.1 h
  refine⟨by omega,fun f hf=>?_⟩
  obtain⟨i,hi,rfl⟩:=List.mem_iff_getElem.1 hf
  exact dp (h2 i hi).2.2
theorem fH (k:Int) (l:List ab):bI k (unL l) = some (bG 4 k l):=by
 unfold bI cL aT
 have h:=xK 4 Fuel.n k l (by omega) (by show 4 < 1606938044258990275541962092341162602522202993782792835301376; omega)
 rw[show (4:Int) = ((4:Nat):Int) from rfl,h]; rfl
def jj (l:List ab) (n:Bs):Option ab:=nI (fun f=>decide (f.nm = n)) l
def eP (l:List ab) (n:Bs):aK × Bool:=match jj l n with | some f=>((f.kd,f.fs),true) | none=>((0,[]),false)
theorem vM {α β:Type} (p:α → Bool) (g:α → β):∀ (l:List α) (k:Nat),oF (fun _ r (_:Unit)=>some (if p r = true then .inr (g r) else .inl ())) k l () = some (match l.find? p with | some x=>.inr (g x) | none=>.inl ())
 | [],_=>rfl
 | x :: r,k=>by
  unfold oF
  rw[aa,List.find?_cons]
  cases p x with
  | true=>rfl
  | false=>exact vM p g r (k + 1)
theorem E9 {α:Type} (l:List α):(kO l).map Prod.snd = l.reverse:=by
 unfold kO
 rw[List.map_reverse,List.map_map]
 congr 1
 apply List.ext_getElem
 ·simp
 ·intro i h1 h2
  simp
theorem iP (l:List ab) (n:Bs):bR (unL l) n = some (eP l n):=by
 unfold bR cT Hq bR.r1 bR.j1
 simp only[aa,gz,fx1,fx2,fx3]
 have e:(fun (_:Nat) (r:Int × b9) (x:Unit)=>if r.2.1 = n then (some (.inr ((r.2.2.1,r.2.2.2),true)):Option (Unit ⊕ (aK × Bool))) else some (.inl ())) =
   fun _ r _=>some (if (decide (r.2.1 = n)) = true then .inr ((r.2.2.1,r.2.2.2),true) else .inl ()):=by
  funext k r x
  by_cases h:r.2.1 = n <;> simp [h]
 refine (congrArg (fun f=>Option.bind (oF f 0 (kO (unL l)) ()) _) e).trans ?_
 rw[vM (p:=fun r:Int × b9=>decide (r.2.1 = n)) (g:=fun r=>((r.2.2.1,r.2.2.2),true)),aa]
 have h1:((kO (unL l)).find? fun r=>decide (r.2.1 = n)).map (fun r=>r.2) = (jj l n).map fun f=>(f.nm,f.kd,f.fs):=by
  have h2:((kO (unL l)).find? fun r=>decide (r.2.1 = n)).map (fun r=>r.2) = ((kO (unL l)).map Prod.snd).find? fun g=>decide (g.1 = n):=by
   rw[List.find?_map]; rfl
  rw[h2,E9]
  have h3:unL l = l.map fun f=>(f.nm,f.kd,f.fs):=List.map_congr_left fun f _=>Lf f
  rw[h3,← List.map_reverse,List.find?_map]; rfl
 unfold eP
 cases hf:jj l n with
 | none =>
  rw[hf] at h1
  cases hb:(kO (unL l)).find? fun r=>decide (r.2.1 = n) with
  | none=>rfl
  | some r=>rw[hb] at h1; cases h1
 | some f =>
  rw[hf] at h1
  cases hb:(kO (unL l)).find? fun r=>decide (r.2.1 = n) with
  | none=>rw[hb] at h1; cases h1
  | some r =>
   rw[hb] at h1
   injection h1 with h1
   dsimp only at h1 ⊢
   rw[h1]
mutual
def kE:ab → List ab → Bool
 | .mk n k l,al=>match jj al n with | some g=>decide (g.kd = k) && eK l g.fs | none=>false
def eK:List ab → List ab → Bool
 | [],_=>true
 | f :: r,al=>kE f al && eK r al
end
theorem tK (f:ab) (al:List ab):kE f al = match jj al f.nm with | some g=>decide (g.kd = f.kd) && eK f.fs g.fs | none=>false:=by cases f; rw[kE]; rfl
theorem oQ:∀ (l al:List ab),eK l al = l.all fun f=>kE f al
 | [],_=>by rw[eK]; rfl
 | f :: r,al=>by rw[eK,List.all_cons,oQ r al]
theorem xL:∀ (d n:Nat) (k:Int) (al:List ab) (k':Int) (bs:List ab),okL d bs → d < n → bf.rec n k (unL al) k' (unL bs) = some (decide (k = k') && eK bs al)
 | d,0,_,_,_,_,_,h=>absurd h (by omega)
 | d,n + 1,k,al,k',bs,hb,hn=>by
  show bf.body (bf.rec n) k (unL al) k' (unL bs) = _
  unfold bf.body cd aP
  rw[bg]
  by_cases hk:k = k'
  rotate_left
  ·rw[decide_eq_false hk]; rfl
  rw[decide_eq_true hk,cond_true,Bool.true_and]
  have hlen:bs.length ≤ 1000000:=by
   cases d with
   | zero =>
    have hb:bs = []:=hb
    subst hb; simp
   | succ d=>exact hb.1
  have hl:=fM (body:=fun x=>aP.b1 (bf.rec n) (unL bs) k (unL al) x) bs (fun k f=>if kE f al = true then none else some (k:Int)) (-1) (fun i hi=>by
   unfold aP.b1 gF
   simp only[fu1,fu2]
   rw[bw,ao,decide_eq_true (by omega),cond_true,dy hi,aa,iP,aa,tK,aB (by omega)]
   unfold eP
   cases hf:jj al bs[i].nm with
   | none=>rfl
   | some g =>
    have hok:∃ e,e < n ∧ okL e bs[i].fs:=by
     cases d with
     | zero =>
      have hb:bs = []:=hb
      subst hb; simp at hi
     | succ d=>exact⟨d,by omega,hb.2 _ (List.getElem_mem hi)⟩
    obtain⟨e,he,hok⟩:=hok
    have hr:=xL e n g.kd g.fs bs[i].kd bs[i].fs hok he
    dsimp only[Bool.not_true]
    rw[Bool.not_true,cond_false]
    simp only[hr,aa]
    by_cases hh:(decide (g.kd = bs[i].kd) && eK bs[i].fs g.fs) = true
    ·rw[if_pos hh,hh]; rfl
    ·rw[if_neg hh]
     rw[Bool.not_eq_true] at hh
     rw[hh]; rfl) (by
   unfold aP.b1
   rw[bw,ao,decide_eq_false (by omega),cond_false]) (by omega)
  rw[hl]
  simp only[aa,dk]
  rw[oQ]
  cases ha:bs.all fun f=>kE f al with
  | true =>
   have:scan (fun k f=>if kE f al = true then none else some (k:Int)) 0 bs = none:=sm.2 fun i hi=>by
    rw[List.all_eq_true] at ha
    rw[if_pos (ha _ (List.getElem_mem hi))]
   rw[this]; rfl
  | false =>
   cases hs:scan (fun k f=>if kE f al = true then none else some (k:Int)) 0 bs with
   | none =>
    exfalso
    have h2:=sm.1 hs
    have:(bs.all fun f=>kE f al) = true:=List.all_eq_true.2 fun f hf=>by
     obtain⟨i,hi,rfl⟩:=List.mem_iff_getElem.1 hf
     have:=h2 i hi
     split at this
     ·assumption
     ·cases this
    rw[ha] at this; cases this
   | some b =>
    obtain⟨i,hi,h1,_⟩:=sn.1 hs
    split at h1
    ·cases h1
    ·injection h1 with h1
     rw[Option.getD_some,decide_eq_true (by omega)]; rfl
theorem lM {d:Nat} (hd:d ≤ 1000) (k:Int) (al:List ab) (k':Int) (bs:List ab) (h:okL d bs):bf k (unL al) k' (unL bs) = some (decide (k = k') && eK bs al) :=
 xL d Fuel.n k al k' bs h (by show d < 1606938044258990275541962092341162602522202993782792835301376; omega)
theorem Lh (k:Int) (al:List ab) (k':Int) (bs:List ab):gu k (unL al) k' (unL bs) = some (bG 4 k al && (bG 4 k' bs && (decide (k = k') && eK bs al))):=by
 unfold gu
 rw[fH,fH,aa]
 cases ha:bG 4 k al with
 | false=>rfl
 | true =>
  rw[cond_true,aa]
  cases hb:bG 4 k' bs with
  | false=>rfl
  | true=>rw[cond_true,lM (d:=4) (by omega) _ _ _ _ (dp hb)]; rfl
end Go.Proofs.YtaocfjifacnokaaGreat
namespace Go.Proofs.YtaocfjifacnokaaGreat
open Go.Lad
noncomputable def eqL (al bl:List ab):Bool:=@decide (al = bl) (Classical.propDecidable _)
theorem pt {al bl:List ab}:eqL al bl = true ↔ al = bl:=by unfold eqL; exact @decide_eq_true_iff _ (Classical.propDecidable _)
theorem qZ (al:List ab):eqL al al = true:=pt.2 rfl
theorem y9 {al bl:List ab} (h:al.length = bl.length):allI (fun i f=>decide (f.nm = ((bl[i]?).map ab.nm).getD []) && (decide (f.kd = ((bl[i]?).map ab.kd).getD 0) && eqL f.fs (((bl[i]?).map ab.fs).getD []))) 0 al = eqL al bl:=by
 rw[Bool.eq_iff_iff,mI,pt]
 constructor
 ·intro hh
  apply List.ext_getElem h
  intro i h1 h2
  have:=hh i h1
  simp only[Nat.zero_add,Bool.and_eq_true,decide_eq_true_eq,List.getElem?_eq_getElem h2,Option.map_some,Option.getD_some,pt] at this
  rw[← ab.eta al[i],← ab.eta bl[i],this.1,this.2.1,this.2.2]
 ·rintro rfl i hi
  simp only[Nat.zero_add,List.getElem?_eq_getElem hi,Option.map_some,Option.getD_some,decide_true,Bool.true_and,qZ]
theorem jJ {b:Bool} {k:Int}:(bif !b then (some (.inr false):Option (Int ⊕ Bool)) else some (.inl k)) = some (if b = true then .inl k else .inr false):=by cases b <;> rfl
theorem A7:∀ (d n:Nat) (k:Int) (al:List ab) (k':Int) (bl:List ab),okL d al → d < n → bS.rec n k (unL al) k' (unL bl) = some (decide (k = k') && eqL al bl)
 | d,0,_,_,_,_,_,h=>absurd h (by omega)
 | d,n + 1,k,al,k',bl,ha,hn=>by
  show bS.body (bS.rec n) k (unL al) k' (unL bl) = _
  unfold bS.body ar
  rw[bg,bg,bw,bw]
  by_cases hk:k = k'
  rotate_left
  ·rw[decide_eq_false hk]; rfl
  rw[decide_eq_true hk,cond_true,Bool.true_and]
  by_cases hl:al.length = bl.length
  rotate_left
  ·rw[decide_eq_false (by omega),Bool.not_false,cond_true,aa]
   have:eqL al bl = false:=by rw[Bool.eq_false_iff,Ne,pt]; rintro rfl; exact hl rfl
   rw[this]
  rw[decide_eq_true (by omega),Bool.not_true,cond_false]
  have hlen:al.length ≤ 1000000:=by
   cases d with
   | zero=>have ha:al = []:=ha; subst ha; simp
   | succ d=>exact ha.1
  have hL:bO (fun x=>ar.b1 (bS.rec n) (unL al) (unL bl) x) 0 = some (allI (fun i f=>decide (f.nm = ((bl[i]?).map ab.nm).getD []) && (decide (f.kd = ((bl[i]?).map ab.kd).getD 0) && eqL f.fs (((bl[i]?).map ab.fs).getD []))) 0 al):=by
   refine gQ al _ (fun i hi=>?_) ?_ (by omega)
   ·unfold ar.b1 ft
    simp only[fu1,fu2]
    have hi2:i < bl.length:=by omega
    rw[bw,ao,decide_eq_true (by omega),cond_true,dy hi,aa,dy hi2,aa,aB (by omega)]
    simp only[List.getElem?_eq_getElem hi2,Option.map_some,Option.getD_some]
    have hok:∃ e,e < n ∧ okL e al[i].fs:=by
     cases d with
     | zero=>have ha:al = []:=ha; subst ha; simp at hi
     | succ d=>exact⟨d,by omega,ha.2 _ (List.getElem_mem hi)⟩
    obtain⟨e,he,hok⟩:=hok
    have hr:=A7 e n al[i].kd al[i].fs bl[i].kd bl[i].fs hok he
    simp only[hr,aa,gz]
    by_cases hnm:al[i].nm = bl[i].nm
    ·rw[if_pos hnm,decide_eq_true hnm,Bool.true_and]
     exact jJ
    ·rw[if_neg hnm,decide_eq_false hnm]; rfl
   ·unfold ar.b1
    rw[bw,ao,decide_eq_false (by omega),cond_false]
  rw[hL,aa,y9 hl]
theorem vN:∀ (d n:Nat) (k:Int) (al:List ab) (k':Int) (bl:List ab),okL d al → d < n → aY.rec n k (unL al) k' (unL bl) = some (decide (k = k') && eqL al bl)
 | d,0,_,_,_,_,_,h=>absurd h (by omega)
 | d,n + 1,k,al,k',bl,ha,hn=>by
  show aY.body (aY.rec n) k (unL al) k' (unL bl) = _
  unfold aY.body cg
  rw[bg,bg,bw,bw]
  by_cases hk:k = k'
  rotate_left
  ·rw[decide_eq_false hk]; rfl
  rw[decide_eq_true hk,cond_true,Bool.true_and]
  by_cases hl:al.length = bl.length
  rotate_left
  ·rw[decide_eq_false (by omega),Bool.not_false,cond_true,aa]
   have:eqL al bl = false:=by rw[Bool.eq_false_iff,Ne,pt]; rintro rfl; exact hl rfl
   rw[this]
  rw[decide_eq_true (by omega),Bool.not_true,cond_false]
  have hlen:al.length ≤ 1000000:=by
   cases d with
   | zero=>have ha:al = []:=ha; subst ha; simp
   | succ d=>exact ha.1
  have hL:bO (fun x=>cg.b1 (aY.rec n) (unL al) (unL bl) x) 0 = some (allI (fun i f=>decide (f.nm = ((bl[i]?).map ab.nm).getD []) && (decide (f.kd = ((bl[i]?).map ab.kd).getD 0) && eqL f.fs (((bl[i]?).map ab.fs).getD []))) 0 al):=by
   refine gQ al _ (fun i hi=>?_) ?_ (by omega)
   ·unfold cg.b1 cg.j1
    simp only[fu1,fu2]
    have hi2:i < bl.length:=by omega
    rw[bw,ao,decide_eq_true (by omega),cond_true,dy hi,aa,dy hi2,aa,aB (by omega)]
    simp only[List.getElem?_eq_getElem hi2,Option.map_some,Option.getD_some]
    have hok:∃ e,e < n ∧ okL e al[i].fs:=by
     cases d with
     | zero=>have ha:al = []:=ha; subst ha; simp at hi
     | succ d=>exact⟨d,by omega,ha.2 _ (List.getElem_mem hi)⟩
    obtain⟨e,he,hok⟩:=hok
    have hr:=vN e n al[i].kd al[i].fs bl[i].kd bl[i].fs hok he
    by_cases hnm:al[i].nm = bl[i].nm
    ·rw[decide_eq_true hnm,Bool.not_true,cond_false,Bool.true_and]
     simp only[hr,aa]
     exact jJ
    ·rw[decide_eq_false hnm,Bool.not_false,cond_true]; rfl
   ·unfold cg.b1
    rw[bw,ao,decide_eq_false (by omega),cond_false]
  rw[hL,aa,y9 hl]
theorem fl {d:Nat} (h:d ≤ 1000000):d < jI.n:=by show d < 1606938044258990275541962092341162602522202993782792835301376; omega
theorem HA {d:Nat} (hd:d ≤ 1000000) (k:Int) (al:List ab) (k':Int) (bl:List ab) (h:okL d al):bS k (unL al) k' (unL bl) = some (decide (k = k') && eqL al bl) :=
 A7 d _ k al k' bl h (fl hd)
theorem sq {d:Nat} (hd:d ≤ 1000000) (k:Int) (al:List ab) (k':Int) (bl:List ab) (h:okL d al):cX k (unL al) k' (unL bl) = some (decide (k = k') && eqL al bl):=by
 unfold cX aY
 rw[vN d _ k al k' bl h (fl hd)]; rfl
theorem HB (k:Int) (al:List ab) (k':Int) (bl:List ab):iG k (unL al) k' (unL bl) = some (bG 4 k al && (bG 4 k' bl && (decide (k = k') && eqL al bl))):=by
 unfold iG
 rw[fH,fH,aa]
 cases ha:bG 4 k al with
 | false=>rfl
 | true =>
  rw[cond_true,aa]
  cases hb:bG 4 k' bl with
  | false=>rfl
  | true=>rw[cond_true,HA (d:=4) (by omega) _ _ _ _ (dp ha)]; rfl
theorem xM:∀ (m n:Nat) (k:Int) (l:List ab) (most lev:Int),lev ≤ m → -9 ≤ lev → m ≤ 100 → m < n → 0 ≤ most → most ≤ 1000 → ∃ r,aC.rec n k (unL l) most lev = some r ∧ 1 ≤ r ∧ r ≤ most + 1
 | m,0,_,_,_,_,_,_,_,h,_,_=>absurd h (by omega)
 | m,n + 1,k,l,most,lev,h1,h2,h3,h4,h5,h6=>by
  show ∃ r,aC.body (aC.rec n) k (unL l) most lev = some r ∧ _
  unfold aC.body aC.j2
  rw[bw]
  simp only[ao,gz]
  by_cases hl:lev < 1
  ·rw[if_pos hl,aa,cond_true,ji (by omega),aa]
   exact⟨_,rfl,by omega,by omega⟩
  rw[if_neg hl]
  by_cases h12:(12:Int) < (l.length:Int)
  ·rw[decide_eq_true h12,aa,cond_true,ji (by omega),aa]
   exact⟨_,rfl,by omega,by omega⟩
  rw[decide_eq_false h12,aa,cond_false]
  obtain⟨r,hr,hq⟩:=ew (body:=fun x=>aC.b1 (aC.rec n) (unL l) most lev x.1 x.2) (fun i x=>∃ nn:Int,x = (nn,(i:Int)) ∧ 1 ≤ nn ∧ nn ≤ most + 1) (Q:=fun r=>1 ≤ r ∧ r ≤ most + 1) l.length (x:=(1,0)) ⟨1,rfl,by omega,by omega⟩ (fun i hi x hx=>by
   obtain⟨nn,rfl,g1,g2⟩:=hx
   unfold aC.b1 aC.j1
   simp only[fu1,fu2]
   rw[bw]
   simp only[ao,dk]
   rw[decide_eq_true (show (i:Int) < (l.length:Int) by omega),cond_true,aa,dy hi,aa]
   by_cases hm:nn ≤ most
   ·rw[decide_eq_true hm,cond_true,aa]
    by_cases h60:(60:Int) < (l[i].nm.length:Int)
    ·rw[decide_eq_true h60,cond_true,ji (by omega),aa]
     exact .inr ⟨_,rfl,by omega,by omega⟩
    ·rw[decide_eq_false h60,cond_false,ji (by omega),aa,ji (by omega),aa]
     obtain⟨r,hr,g3,g4⟩:=xM (m - 1) n l[i].kd l[i].fs (most - nn) (lev - 1) (by omega) (by omega) (by omega) (by omega) (by omega) (by omega)
     simp only[hr,aa]
     rw[ji (by omega),aa,aB (by omega),aa]
     exact .inl ⟨_,rfl,nn + r,rfl,by omega,by omega⟩
   ·rw[decide_eq_false hm,cond_false]
    exact .inr ⟨_,rfl,by omega,by omega⟩) (fun x hx=>by
   obtain⟨nn,rfl,g1,g2⟩:=hx
   unfold aC.b1 aC.j1
   rw[bw]
   simp only[ao,dk]
   rw[decide_eq_false (by omega),cond_false,aa,cond_false]
   exact⟨_,rfl,by omega,by omega⟩) (by omega)
  exact⟨r,hr,hq⟩
theorem oR (l:List aK) (hl:l.length ≤ 1000000):∃ b,bL l = some b:=by
 unfold bL
 obtain⟨r,hr,_⟩:=ew (body:=fun x=>bL.b1 l x) (fun i x=>x = (i:Int)) (Q:=fun _=>True) l.length (x:=0) rfl (fun i hi x hx=>by
  subst hx
  unfold bL.b1 aC
  simp only[fu1,fu2,ao]
  rw[decide_eq_true (show (i:Int) < (l.length:Int) by omega),cond_true,cR hi,aa]
  obtain⟨r,hr,_,_⟩:=xM 6 jI.n l[i].1 l[i].2 40 6 (by omega) (by omega) (by omega) (fl (by omega)) (by omega) (by omega)
  simp only[hr,aa]
  by_cases h:(40:Int) < r
  ·rw[decide_eq_true h]; exact .inr ⟨_,rfl,trivial⟩
  ·rw[decide_eq_false h,cond_false,aB (by omega)]
   exact .inl ⟨_,rfl,rfl⟩) (fun x hx=>by
  subst hx
  unfold bL.b1
  rw[ao,decide_eq_false (by omega),cond_false]
  exact⟨_,rfl,trivial⟩) (by omega)
 exact⟨r,hr⟩
end Go.Proofs.YtaocfjifacnokaaGreat
namespace Go.Proofs.YtaocfjifacnokaaGreat
open Go.Lad
theorem jv:∀ a:Bs,Op.bytesLess a a = false
 | []=>rfl
 | x :: a=>by
  unfold Op.bytesLess
  rw[jv a,Bool.and_false,Bool.or_false,decide_eq_false (by rw[UInt8.lt_iff_toNat_lt]; omega)]
theorem jk:∀ {a b c:Bs},Op.bytesLess a b = true → Op.bytesLess b c = true → Op.bytesLess a c = true
 | _,[],_,h,_=>by unfold Op.bytesLess at h; cases h
 | _,_ :: _,[],_,h=>by unfold Op.bytesLess at h; cases h
 | [],y :: b,z :: c,_,_=>rfl
 | x :: a,y :: b,z :: c,h1,h2=>by
  unfold Op.bytesLess at h1 h2 ⊢
  simp only[Bool.or_eq_true,Bool.and_eq_true,decide_eq_true_eq,beq_iff_eq,UInt8.lt_iff_toNat_lt] at h1 h2 ⊢
  rcases h1 with h1 | ⟨rfl,h1⟩
  ·rcases h2 with h2 | ⟨rfl,h2⟩
   ·exact .inl (by omega)
   ·exact .inl h1
  ·rcases h2 with h2 | ⟨rfl,h2⟩
   ·exact .inl h2
   ·exact .inr ⟨rfl,jk h1 h2⟩
theorem za:∀ {a b:Bs},a ≠ b → Op.bytesLess a b = true ∨ Op.bytesLess b a = true
 | [],[],h=>absurd rfl h
 | [],y :: b,_=>.inl rfl
 | x :: a,[],_=>.inr rfl
 | x :: a,y :: b,h=>by
  unfold Op.bytesLess
  simp only[Bool.or_eq_true,Bool.and_eq_true,decide_eq_true_eq,beq_iff_eq,UInt8.lt_iff_toNat_lt]
  by_cases hxy:x = y
  ·subst hxy
   have:a ≠ b:=fun e=>h (by rw[e])
   rcases za this with h1 | h1
   ·exact .inl (.inr ⟨rfl,h1⟩)
   ·exact .inr (.inr ⟨rfl,h1⟩)
  ·have:x.toNat ≠ y.toNat:=fun e=>hxy (UInt8.toNat_inj.1 e)
   rcases Nat.lt_or_gt_of_ne this with h1 | h1
   ·exact .inl (.inl h1)
   ·exact .inr (.inl h1)
theorem CQ {a b:Bs}:upN a b = true ↔ Op.bytesLess a b = true:=by
 unfold upN
 rw[Bool.not_eq_true',Bool.or_eq_false_iff,decide_eq_false_iff_not]
 constructor
 ·rintro⟨h1,h2⟩
  rcases za (Ne.symm h2) with h | h
  ·exact h
  ·rw[h1] at h; cases h
 ·intro h
  refine⟨?_,fun e=>by subst e; rw[jv] at h; cases h⟩
  cases hb:Op.bytesLess b a with
  | false=>rfl
  | true=>have:=jk h hb; rw[jv] at this; cases this
def srt (l:List ab):Prop := ∀ i j (hi:i < j) (hj:j < l.length),Op.bytesLess (l[i]'(by omega)).nm l[j].nm = true
theorem Fa {d:Nat} {k:Int} {l:List ab} (h:bG d k l = true):srt l:=by
 cases d with
 | zero=>cases h
 | succ d =>
  obtain⟨_,h2⟩:=pr.1 h
  have key:∀ (m i:Nat) (hj:i + 1 + m < l.length),Op.bytesLess (l[i]'(by omega)).nm l[i + 1 + m].nm = true:=by
   intro m
   induction m with
   | zero =>
    intro i hj
    rcases (h2 (i + 1) hj).2.1 with h | h
    ·omega
    ·exact CQ.1 h
   | succ m ih =>
    intro i hj
    have h1:=ih i (by omega)
    rcases (h2 (i + 1 + (m + 1)) hj).2.1 with h | h
    ·omega
    ·exact jk h1 (CQ.1 h)
  intro i j hi hj
  obtain⟨m,rfl⟩:∃ m,j = i + 1 + m:=⟨j - (i + 1),by omega⟩
  exact key m i hj
theorem DZ {l:List ab} (h:srt l) {i j:Nat} (hi:i < l.length) (hj:j < l.length) (e:l[i].nm = l[j].nm):i = j:=by
 rcases Nat.lt_trichotomy i j with h1 | h1 | h1
 ·have:=h i j h1 hj; rw[e,jv] at this; cases this
 ·exact h1
 ·have:=h j i h1 hi; rw[e,jv] at this; cases this
theorem ra {l:List ab} {n:Bs} {f:ab} (h:jj l n = some f):f ∈ l ∧ f.nm = n:=by
 obtain⟨h1,h2⟩:=A5 h
 exact⟨h1,by simpa using h2⟩
theorem xN {l:List ab} (h:srt l) {f:ab} (hf:f ∈ l):jj l f.nm = some f:=by
 obtain⟨i,hi,rfl⟩:=List.mem_iff_getElem.1 hf
 refine E8 hi (by simp) fun j hj hij=>?_
 rw[decide_eq_false_iff_not]
 intro e
 have:=DZ h hj hi e
 omega
theorem Fb {d:Nat} {k:Int} {l:List ab} (h:bG (d + 1) k l = true) {f:ab} (hf:f ∈ l):bG d f.kd f.fs = true:=by
 obtain⟨i,hi,rfl⟩:=List.mem_iff_getElem.1 hf
 exact ((pr.1 h).2 i hi).2.2
theorem vO {l al:List ab}:eK l al = true ↔ ∀ f ∈ l,∃ g,jj al f.nm = some g ∧ g.kd = f.kd ∧ eK f.fs g.fs = true:=by
 rw[oQ,List.all_eq_true]
 refine forall_congr' fun f=>forall_congr' fun hf=>?_
 rw[tK]
 cases jj al f.nm with
 | none=>simp
 | some g=>simp
theorem vP {f:ab} {l:List ab} (h:srt (f :: l)):srt l ∧ ∀ g ∈ l,Op.bytesLess f.nm g.nm = true :=
 ⟨fun i j hi hj=>h (i + 1) (j + 1) (by omega) (by simpa using hj),fun g hg=>by
  obtain⟨i,hi,rfl⟩:=List.mem_iff_getElem.1 hg
  exact h 0 (i + 1) (by omega) (by simpa using hi)⟩
theorem D0:∀ {al bl:List ab},srt al → srt bl → (∀ f,f ∈ al ↔ f ∈ bl) → al = bl
 | [],[],_,_,_=>rfl
 | [],b :: bl,_,_,h=>absurd ((h b).2 List.mem_cons_self) (by simp)
 | a :: al,[],_,_,h=>absurd ((h a).1 List.mem_cons_self) (by simp)
 | a :: al,b :: bl,h1,h2,h=>by
  obtain⟨s1,m1⟩:=vP h1
  obtain⟨s2,m2⟩:=vP h2
  have hab:a = b:=by
   rcases List.mem_cons.1 ((h a).1 List.mem_cons_self) with e | hb
   ·exact e
   ·rcases List.mem_cons.1 ((h b).2 List.mem_cons_self) with e | ha
    ·exact e.symm
    ·have:=jk (m1 b ha) (m2 a hb)
     rw[jv] at this; cases this
  subst hab
  refine congrArg _ (D0 s1 s2 fun f=>⟨fun hf=>?_,fun hf=>?_⟩)
  ·rcases List.mem_cons.1 ((h f).1 (List.mem_cons_of_mem _ hf)) with rfl | hb
   ·have:=m1 _ hf; rw[jv] at this; cases this
   ·exact hb
  ·rcases List.mem_cons.1 ((h f).2 (List.mem_cons_of_mem _ hf)) with rfl | hb
   ·have:=m2 _ hf; rw[jv] at this; cases this
   ·exact hb
end Go.Proofs.YtaocfjifacnokaaGreat
namespace Go.Proofs.YtaocfjifacnokaaGreat
open Go.Lad
theorem iU {d:Nat} {l:List ab} (h:okL d l):l.length ≤ 1000000:=by
 cases d with
 | zero=>have h:l = []:=h; subst h; simp
 | succ d=>exact h.1
theorem mg {d n:Nat} {l:List ab} (h:okL d l) (hn:d < n + 1) {f:ab} (hf:f ∈ l):∃ e,e < n ∧ okL e f.fs:=by
 cases d with
 | zero=>have h:l = []:=h; subst h; cases hf
 | succ d=>exact⟨d,by omega,h.2 _ hf⟩
theorem take_succ {α:Type} {l:List α} {i:Nat} (h:i < l.length):l.take (i + 1) = l.take i ++ [l[i]]:=by
 rw[List.take_add_one,List.getElem?_eq_getElem h]; rfl
theorem iZ (a b:List ab):unL (a ++ b) = unL a ++ unL b:=List.map_append
theorem ml (n:Bs) (k:Int) (l:List ab):unL [ab.mk n k l] = [(n,k,l)]:=rfl
theorem fmu (l:List ab):@List.map (eH 0).den ab (Umk 0) (unL l) = l:=sV l
theorem HC (l:List ab):@List.map b9 ab (Umk 0) (unL l) = l:=sV l
theorem vQ:∀ (d n:Nat) (k:Int) (l:List ab),okL d l → d < n → aX.rec n k (unL l) = some (k,l)
 | d,0,_,_,_,h=>absurd h (by omega)
 | d,n + 1,k,l,h,hn=>by
  show aX.body (aX.rec n) k (unL l) = _
  unfold aX.body
  have hl:=iU h
  have:=hU (body:=fun x:Int × Int × List b9=>aX.b1 (aX.rec n) (unL l) x.1 x.2.1 x.2.2) (x:=(0,k,[])) (b:=(k,l)) (fun i=>((i:Int),k,unL (l.take i))) l.length rfl (fun i hi=>by
   unfold aX.b1
   simp only[fu1,fu2]
   rw[bw,ao,decide_eq_true (by omega),cond_true,dy hi,aa]
   obtain⟨e,he,hok⟩:=mg h hn (List.getElem_mem hi)
   have hr:=vQ e n l[i].kd l[i].fs hok he
   simp only[hr,aa,fx1]
   rw[gi (by rw[bw,List.length_take]; simp; omega),aa,aB (by omega),aa,take_succ hi,iZ,← ab.eta l[i],ml]; rfl) (by
   unfold aX.b1
   simp only[ao]
   rw[bw,decide_eq_false (by omega),cond_false,List.take_length]
   simp only[fmu]) (by omega)
  exact this
theorem vR {d:Nat} (hd:d ≤ 1000000) (k:Int) (l:List ab) (h:okL d l):aX k (unL l) = some (k,l):=vQ d _ k l h (fl hd)
theorem xO {d:Nat} (hd:d ≤ 1000000) (k:Int) (l:List ab) (h:okL d l):eQ k (unL l) = some (k,unL l):=by
 unfold eQ
 have hl:=iU h
 exact hU (body:=fun x:Int × Int × List b9=>eQ.b1 (unL l) x.1 x.2.1 x.2.2) (x:=(0,k,[])) (b:=(k,unL l)) (fun i=>((i:Int),k,unL (l.take i))) l.length rfl (fun i hi=>by
  unfold eQ.b1
  simp only[fu1,fu2]
  rw[bw,ao,decide_eq_true (by omega),cond_true,dy hi,aa]
  obtain⟨e,he,hok⟩:=mg h (Nat.lt_succ_self d) (List.getElem_mem hi)
  have hr:=vR (d:=e) (by omega) l[i].kd l[i].fs hok
  simp only[hr,aa,fx1]
  rw[gi (by rw[bw,List.length_take]; simp; omega),aa,aB (by omega),aa,take_succ hi,iZ,← ab.eta l[i],ml]; rfl) (by
  unfold eQ.b1
  simp only[ao]
  rw[bw,decide_eq_false (by omega),cond_false,List.take_length]) (by omega)
mutual
def upF:ab → List ab → List ab
 | .mk n k l,bl=>match jj bl n with | some g=>if k = g.kd then [.mk n k (upL l g.fs)] else [] | none=>[]
def upL:List ab → List ab → List ab
 | [],_=>[]
 | f :: r,bl=>upF f bl ++ upL r bl
end
theorem zb (f:ab) (bl:List ab):upF f bl = match jj bl f.nm with | some g=>if f.kd = g.kd then [.mk f.nm f.kd (upL f.fs g.fs)] else [] | none=>[]:=by cases f; rw[upF]; rfl
theorem zc:∀ (a b bl:List ab),upL (a ++ b) bl = upL a bl ++ upL b bl
 | [],b,bl=>by rw[List.nil_append,upL]; rfl
 | f :: a,b,bl=>by rw[List.cons_append,upL,upL,zc a b bl,List.append_assoc]
theorem Jw (f:ab) (bl:List ab):(upF f bl).length ≤ 1:=by
 rw[zb]
 split
 ·split <;> simp
 ·simp
theorem tM:∀ (a bl:List ab),(upL a bl).length ≤ a.length
 | [],bl=>by rw[upL]; simp
 | f :: a,bl=>by
  rw[upL,List.length_append,List.length_cons]
  have:=Jw f bl
  have:=tM a bl
  omega
def upR (k:Int) (al:List ab) (k':Int) (bl:List ab):aK × Bool:=if k = k' then ((k,upL al bl),true) else ((0,[]),false)
theorem xP:∀ (d n:Nat) (k:Int) (al:List ab) (k':Int) (bl:List ab),okL d al → d < n → cF.rec n k (unL al) k' (unL bl) = some (upR k al k' bl)
 | d,0,_,_,_,_,_,h=>absurd h (by omega)
 | d,n + 1,k,al,k',bl,h,hn=>by
  show cF.body (cF.rec n) k (unL al) k' (unL bl) = _
  unfold cF.body upR
  rw[bg]
  by_cases hk:k = k'
  rotate_left
  ·rw[decide_eq_false hk,if_neg hk]; rfl
  rw[decide_eq_true hk,if_pos hk,Bool.not_true,cond_false]
  have hl:=iU h
  exact hU (body:=fun x:Int × Int × List b9=>cF.b1 (cF.rec n) (unL al) (unL bl) x.1 x.2.1 x.2.2) (x:=(0,k,[])) (b:=((k,upL al bl),true)) (fun i=>((i:Int),k,unL (upL (al.take i) bl))) al.length (by rw[List.take_zero,upL]; rfl) (fun i hi=>by
   unfold cF.b1
   simp only[fu1,fu2]
   rw[bw,ao,decide_eq_true (by omega),cond_true,dy hi,aa,iP,aa]
   obtain⟨e,he,hok⟩:=mg h hn (List.getElem_mem hi)
   have hsm:(upL (al.take i) bl).length ≤ i:=Nat.le_trans (tM _ _) (by rw[List.length_take]; omega)
   have hup:upL [al[i]] bl = upF al[i] bl:=by rw[upL,upL,List.append_nil]
   rw[take_succ hi,zc,hup,zb]
   unfold eP
   cases hf:jj bl al[i].nm with
   | none =>
    dsimp only
    rw[cond_false,aB (by omega),aa,List.append_nil]
   | some g =>
    dsimp only
    have hr:=xP e n al[i].kd al[i].fs g.kd g.fs hok he
    rw[cond_true]
    simp only[hr,aa]
    unfold upR
    by_cases hkd:al[i].kd = g.kd
    ·rw[if_pos hkd,if_pos hkd]
     dsimp only
     rw[cond_true]
     simp only[fx1]
     rw[gi (by rw[bw]; simp; omega),aa,aB (by omega),aa,iZ,ml]
    ·rw[if_neg hkd,if_neg hkd]
     dsimp only
     rw[cond_false,aB (by omega),aa,List.append_nil]) (by
   unfold cF.b1
   simp only[ao]
   rw[bw,decide_eq_false (by omega),cond_false,List.take_length]
   simp only[fmu]) (by omega)
theorem A8 {d:Nat} (hd:d ≤ 1000000) (k:Int) (al:List ab) (k':Int) (bl:List ab) (h:okL d al):cF k (unL al) k' (unL bl) = some (upR k al k' bl):=xP d _ k al k' bl h (fl hd)
theorem zd:∀ {d:Nat} (al bl:List ab),okL d al → okL d (upL al bl)
 | 0,al,bl,h=>by
  have h:al = []:=h
  subst h
  show upL [] bl = []
  rw[upL]
 | d + 1,al,bl,h=>by
  refine⟨Nat.le_trans (tM _ _) h.1,fun f hf=>?_⟩
  have h2:=h.2
  clear h
  induction al with
  | nil=>rw[upL] at hf; cases hf
  | cons a r ih =>
   rw[upL] at hf
   rcases List.mem_append.1 hf with hf | hf
   ·rw[zb] at hf
    split at hf
    ·split at hf
     ·rw[List.mem_singleton] at hf
      subst hf
      exact zd _ _ (h2 a List.mem_cons_self)
     ·cases hf
    ·cases hf
   ·exact ih hf fun f hf=>h2 f (List.mem_cons_of_mem _ hf)
end Go.Proofs.YtaocfjifacnokaaGreat
namespace Go.Proofs.YtaocfjifacnokaaGreat
open Go.Lad
def lZ {α:Type} (p:α → Bool):Nat → List α → Int
 | _,[]=>-1
 | k,x :: r=>if p x = true then (k:Int) else lZ p (k + 1) r
theorem xQ {α:Type} (p:α → Bool):∀ (l:List α) (k:Nat),lZ p k l = (scan (fun k x=>if p x = true then some (k:Int) else none) k l).getD (-1)
 | [],_=>rfl
 | x :: r,k=>by
  unfold lZ scan
  by_cases h:p x = true
  ·rw[if_pos h,if_pos h]; rfl
  ·rw[if_neg h,if_neg h]; exact xQ p r (k + 1)
theorem lN {α:Type} {body:Int → Option (Int ⊕ Int)} (l:List α) (p:α → Bool)
  (h:∀ k (hk:k < l.length),body (k:Int) = some (if p l[k] = true then .inr (k:Int) else .inl ((k + 1:Nat):Int)))
  (hd:body (l.length:Int) = some (.inr (-1))) (hn:l.length < 1606938044258990275541962092341162602522202993782792835301376):bO body 0 = some (lZ p 0 l):=by
 rw[xQ]
 refine fM l _ (-1) (fun k hk=>?_) hd hn
 rw[h k hk]
 by_cases h:p l[k] = true
 ·rw[if_pos h,if_pos h]
 ·rw[if_neg h,if_neg h]
theorem D1 {α:Type} (p:α → Bool):∀ (l:List α) (k:Nat),lZ p k l = -1 ∨ (k:Int) ≤ lZ p k l
 | [],_=>.inl rfl
 | x :: r,k=>by
  unfold lZ
  by_cases h:p x = true
  ·rw[if_pos h]; exact .inr (Int.le_refl _)
  ·rw[if_neg h]
   rcases D1 p r (k + 1) with h | h
   ·exact .inl h
   ·exact .inr (by omega)
theorem jK {α:Type} (p:α → Bool):∀ (l:List α) (k:Nat),decide (0 ≤ lZ p k l) = l.any p
 | [],_=>rfl
 | x :: r,k=>by
  unfold lZ
  rw[List.any_cons]
  by_cases h:p x = true
  ·rw[if_pos h,h,Bool.true_or,decide_eq_true (by omega)]
  ·rw[if_neg h,Bool.not_eq_true] at *
   rw[h,Bool.false_or]; exact jK p r (k + 1)
theorem mJ {α:Type} (p:α → Bool):∀ (l:List α) (k:Nat),l.find? p = if lZ p k l < 0 then none else l[(lZ p k l).toNat - k]?
 | [],_=>rfl
 | x :: r,k=>by
  unfold lZ
  rw[List.find?_cons]
  by_cases h:p x = true
  ·rw[if_pos h,h,if_neg (by omega)]
   simp
  ·rw[if_neg h]
   rw[Bool.not_eq_true] at h
   rw[h]
   dsimp only
   rw[mJ p r (k + 1)]
   rcases D1 p r (k + 1) with h1 | h1
   ·rw[h1]; rfl
   ·rw[if_neg (by omega),if_neg (by omega)]
    have:(lZ p (k + 1) r).toNat - k = ((lZ p (k + 1) r).toNat - (k + 1)) + 1:=by omega
    rw[this,List.getElem?_cons_succ]
theorem A9 {α:Type} {p:α → Bool} {l:List α} (h:¬ lZ p 0 l < 0):idx l (lZ p 0 l) = l.find? p:=by
 rw[mJ p l 0,if_neg h,Nat.sub_zero]
 unfold idx
 rw[if_pos (by omega)]
def qa (l:List aK) (k:Int):Bool:=l.all fun t=>decide (t.1 = k)
theorem oS (l:List aK) (k:Int) (hl:l.length ≤ 1000000):eo k l = some (qa l k):=by
 unfold eo cv bm
 rw[lN l (fun t=>!decide (t.1 = k)) (fun i hi=>by
  unfold bm.b1 fP
  rw[ao,decide_eq_true (by omega),cond_true,cR hi,aa,aa,bg,aB (by omega)]
  cases (!decide (l[i].1 = k)) <;> rfl) (by
  unfold bm.b1
  rw[ao,decide_eq_false (by omega),cond_false]) (by omega),aa,aa,dk,jK]
 unfold qa
 congr 1
 induction l with
 | nil=>rfl
 | cons x r ih =>
  rw[List.any_cons,List.all_cons,Bool.not_or,ih (by simp at hl; omega),Bool.not_not]
def k7:List Bs → List aK → List ab
 | n :: ns,t :: l=>.mk n t.1 t.2 :: k7 ns l
 | _,_=>[]
theorem su:∀ (ns:List Bs) (l:List aK) (n:Bs) (t:aK),ns.length = l.length → k7 (ns ++ [n]) (l ++ [t]) = k7 ns l ++ [.mk n t.1 t.2]
 | [],[],n,t,_=>rfl
 | a :: ns,b :: l,n,t,h=>by
  show _ :: k7 (ns ++ [n]) (l ++ [t]) = _ :: (k7 ns l ++ _)
  rw[su ns l n t (by simpa using h)]
 | [],_ :: _,_,_,h=>by simp at h
 | _ :: _,[],_,_,h=>by simp at h
theorem rb:∀ (ns:List Bs) (l:List aK),(k7 ns l).length ≤ l.length
 | [],l=>by rw[k7] <;> simp
 | _ :: _,[]=>by rw[k7] <;> simp
 | n :: ns,t :: l=>by
  show (_ :: k7 ns l).length ≤ _
  have:=rb ns l
  simp; omega
theorem Ba:∀ {ns:List Bs} {l:List aK} {f:ab},f ∈ k7 ns l → ∃ t ∈ l,f.kd = t.1 ∧ f.fs = t.2
 | [],l,f,h=>by rw[k7] at h; cases h; simp
 | _ :: _,[],f,h=>by rw[k7] at h; cases h; simp
 | n :: ns,t :: l,f,h=>by
  rcases List.mem_cons.1 (show f ∈ ab.mk n t.1 t.2 :: k7 ns l from h) with rfl | h
  ·exact⟨t,List.mem_cons_self,rfl,rfl⟩
  ·obtain⟨u,hu,h2⟩:=Ba h
   exact⟨u,List.mem_cons_of_mem _ hu,h2⟩
def gT (l:List aK) (i:Nat):aK:=l.getD i (0,[])
def nJ (o:Int) (s:Bs) (ns:List Bs) (l:List aK):Bool × aK :=
 if o = 3 ∨ o = 4 ∨ o = 5 ∨ o = 16 then (qa l 0,(0,[]))
 else if o = 1 then (true,(1,[]))
 else if o = 6 then (qa l 0,(1,[]))
 else if o = 7 then (qa l 0 || qa l 1,(1,[]))
 else if o = 8 ∨ o = 9 ∨ o = 10 then (qa l 1,(1,[]))
 else if o = 11 then ((upR (gT l 1).1 (gT l 1).2 (gT l 2).1 (gT l 2).2).2 && decide ((gT l 0).1 = 1),(upR (gT l 1).1 (gT l 1).2 (gT l 2).1 (gT l 2).2).1)
 else if o = 13 then (true,(2,k7 ns l))
 else if o = 14 then ((eP (gT l 0).2 s).2,(eP (gT l 0).2 s).1)
 else (true,(0,[]))
def qb (o:Int) (s:Bs) (ns:List Bs) (l:List aK):aK × Int:=if (nJ o s ns l).1 = true then ((nJ o s ns l).2,0) else ((0,[]),13)
theorem oT {l:List aK} {i:Nat} (h:i < l.length):idx l (i:Int) = some (gT l i):=by
 rw[cR h]; unfold gT; rw[List.getD_eq_getElem?_getD,List.getElem?_eq_getElem h]; rfl
theorem HD (ns:List Bs) (l:List aK) (hn:ns.length = l.length) (hl:l.length ≤ 1000000):bO (fun x:Int × Int × List b9=>cU.b1 ns l x.1 x.2.1 x.2.2) (0,2,[]) = some (true,2,unL (k7 ns l)):=by
 refine hU (x:=(0,2,[])) (b:=(true,2,unL (k7 ns l))) (fun i=>((i:Int),2,unL (k7 (ns.take i) (l.take i)))) l.length (by rw[List.take_zero,List.take_zero,k7]; rfl; simp) (fun i hi=>?_) ?_ (by omega)
 ·have hi2:i < ns.length:=by omega
  unfold cU.b1
  simp only[fx1]
  rw[ao,decide_eq_true (by omega),cond_true,cR hi,aa,cR hi2,aa]
  have hlen:(unL (k7 (ns.take i) (l.take i))).length ≤ i:=by
   rw[bw]
   exact Nat.le_trans (rb _ _) (by rw[List.length_take]; omega)
  rw[gi (by simp; omega),aa,aB (by omega),aa,take_succ hi,take_succ hi2,su _ _ _ _ (by rw[List.length_take,List.length_take]; omega),iZ,ml]
 ·unfold cU.b1
  simp only[ao]
  rw[decide_eq_false (by omega),cond_false,List.take_length,← hn,List.take_length]
theorem Bb {d:Nat} (hd:d ≤ 1000000) (o n:Int) (s m:Bs) (ns:List Bs) (ag:List dS) (l:List aK) (hl:l.length ≤ 1000000)
  (h3:o = 11 → l.length = 3) (h13:o = 13 → ns.length = l.length) (h14:o = 14 → 0 < l.length) (hok:∀ t ∈ l,okL d t.2):cU o n s m ns ag l = some (qb o s ns l):=by
 have h1:((bif (eqZ o 3) then some (eqZ o 3) else (bif (eqZ o 4) then some (eqZ o 4) else (bif (eqZ o 5) then some (eqZ o 5) else some (eqZ o 16)))):Option Bool) = some (decide (o = 3 ∨ o = 4 ∨ o = 5 ∨ o = 16)):=by
  simp only[bg]
  by_cases a:o = 3
  ·simp [a]
  by_cases b:o = 4
  ·simp [b]
  by_cases c:o = 5
  ·simp [c]
  simp [a,b,c]
 have h2:((bif (eqZ o 8) then some (eqZ o 8) else (bif (eqZ o 9) then some (eqZ o 9) else some (eqZ o 10))):Option Bool) = some (decide (o = 8 ∨ o = 9 ∨ o = 10)):=by
  simp only[bg]
  by_cases a:o = 8
  ·simp [a]
  by_cases b:o = 9
  ·simp [b]
  simp [a,b]
 have fin:∀ (x:Bool) (t:aK),cU.j3 x t.1 (unL t.2) = some (if x = true then (t,0) else ((0,[]),13)):=fun x t=>by
  unfold cU.j3
  simp only[fmu,HC]
  cases x <;> rfl
 have key:((some (decide (o = 3 ∨ o = 4 ∨ o = 5 ∨ o = 16))).bind fun x=>cU.j2 o s ns l x) = some ((nJ o s ns l).1,(nJ o s ns l).2.1,unL (nJ o s ns l).2.2):=by
  rw[aa]
  unfold nJ
  by_cases c1:o = 3 ∨ o = 4 ∨ o = 5 ∨ o = 16
  ·rw[if_pos c1,decide_eq_true c1]
   unfold cU.j2
   rw[cond_true,oS l 0 hl]; rfl
  rw[if_neg c1,decide_eq_false c1]
  unfold cU.j2
  rw[cond_false,bg]
  by_cases c2:o = 1
  ·rw[if_pos c2,decide_eq_true c2]; rfl
  rw[if_neg c2,decide_eq_false c2,cond_false,bg]
  by_cases c3:o = 6
  ·rw[if_pos c3,decide_eq_true c3,cond_true,oS l 0 hl]; rfl
  rw[if_neg c3,decide_eq_false c3,cond_false,bg]
  by_cases c4:o = 7
  ·rw[if_pos c4,decide_eq_true c4,cond_true,oS l 0 hl,oS l 1 hl,aa]
   cases qa l 0 <;> rfl
  rw[if_neg c4,decide_eq_false c4,cond_false,h2,aa]
  unfold cU.j1
  by_cases c5:o = 8 ∨ o = 9 ∨ o = 10
  ·rw[if_pos c5,decide_eq_true c5,cond_true,oS l 1 hl]; rfl
  rw[if_neg c5,decide_eq_false c5,cond_false,bg]
  by_cases c6:o = 11
  ·have hl3:=h3 c6
   rw[if_pos c6,decide_eq_true c6,cond_true,show (1:Int) = ((1:Nat):Int) from rfl,show (2:Int) = ((2:Nat):Int) from rfl,show (0:Int) = ((0:Nat):Int) from rfl]
   rw[oT (show 1 < l.length by omega),aa,oT (show 2 < l.length by omega),aa]
   simp only[fu1,fu2]
   have hg:okL d (gT l 1).2:=by
    unfold gT
    rw[List.getD_eq_getElem?_getD,List.getElem?_eq_getElem (show 1 < l.length by omega)]
    exact hok _ (List.getElem_mem _)
   rw[A8 hd _ _ _ _ hg,aa]
   cases hu:(upR (gT l 1).1 (gT l 1).2 (gT l 2).1 (gT l 2).2).2 with
   | false=>rfl
   | true =>
    rw[cond_true,oT (show 0 < l.length by omega),aa,bg]; rfl
  rw[if_neg c6,decide_eq_false c6,cond_false,bg]
  by_cases c7:o = 13
  ·rw[if_pos c7,decide_eq_true c7,cond_true,HD ns l (h13 c7) hl]
  rw[if_neg c7,decide_eq_false c7,cond_false,bg]
  by_cases c8:o = 14
  ·rw[if_pos c8,decide_eq_true c8,cond_true,show (0:Int) = ((0:Nat):Int) from rfl,oT (h14 c8),aa]
   simp only[fu1,fu2]
   rw[iP]; rfl
  ·rw[if_neg c8,decide_eq_false c8]; rfl
 unfold cU
 rw[h1,key,aa]
 exact fin _ _
end Go.Proofs.YtaocfjifacnokaaGreat
namespace Go.Proofs.YtaocfjifacnokaaGreat
open Go.Lad
def isL (c:UInt8):Bool:=decide (97 ≤ c.toNat ∧ c.toNat ≤ 122)
def isD (c:UInt8):Bool:=decide (48 ≤ c.toNat ∧ c.toNat ≤ 57)
def isA (c:UInt8):Bool:=isL c || isD c
theorem ze {s:Bs} {k:Nat} (h:k < s.length):bAt s (k:Int) = some (s[k].toNat:Int):=by unfold bAt; rw[cR h]; rfl
theorem Ki {s:Bs} (h:0 < s.length):bAt s 0 = some (s[0].toNat:Int):=ze h
theorem D2 {α:Type} (p:α → Bool):∀ (s:List α) (h:(s.takeWhile p).length < s.length),p s[(s.takeWhile p).length] = false
 | x :: r,h=>by
  by_cases hx:p x = true
  ·have e:(x :: r).takeWhile p = x :: r.takeWhile p:=by simp [hx]
   have hl:(r.takeWhile p).length < r.length:=by rw[e] at h; simpa using h
   have:=D2 p r hl
   simp only[e,List.length_cons,List.getElem_cons_succ]
   exact this
  ·have e:(x :: r).takeWhile p = []:=by simp [hx]
   simp only[e,List.length_nil,List.getElem_cons_zero]
   simpa using hx
theorem Kj {α:Type} (p:α → Bool):∀ (s:List α) (k:Nat) (h:k < (s.takeWhile p).length) (h2:k < s.length),p s[k] = true
 | x :: r,k,h,h2=>by
  by_cases hx:p x = true
  ·have e:(x :: r).takeWhile p = x :: r.takeWhile p:=by simp [hx]
   rw[e] at h
   cases k with
   | zero=>exact hx
   | succ k=>exact Kj p r k (by simpa using h) (by simpa using h2)
  ·have e:(x :: r).takeWhile p = []:=by simp [hx]
   rw[e] at h; cases h
theorem Mn {α:Type} (p:α → Bool) (s:List α):(s.takeWhile p).length ≤ s.length:=(List.takeWhile_prefix p).length_le
theorem Li {α:Type} (p:α → Bool) (s:List α):s.all p = decide ((s.takeWhile p).length = s.length):=by
 induction s with
 | nil=>rfl
 | cons x r ih =>
  by_cases hx:p x = true
  ·simp [hx,ih]
  ·simp [hx]
theorem Fc {body:Int → Option (Int ⊕ Int)} (p:UInt8 → Bool) (s:Bs) (k0:Nat) (h0:k0 ≤ s.length)
  (h:∀ k (hk:k < s.length),body (k:Int) = some (if p s[k] = true then .inl ((k + 1:Nat):Int) else .inr (k:Int))) (hd:body (s.length:Int) = some (.inr (s.length:Int))) (hs:s.length ≤ 1000000000000) :
  bO body (k0:Int) = some ((k0 + ((s.drop k0).takeWhile p).length:Nat):Int):=by
 have hle:=Mn p (s.drop k0)
 rw[List.length_drop] at hle
 refine hU (fun k=>((k0 + k:Nat):Int)) ((s.drop k0).takeWhile p).length rfl (fun k hk=>?_) ?_
 ·rw[h (k0 + k) (by omega)]
  have:=Kj p (s.drop k0) k hk (by rw[List.length_drop]; omega)
  rw[List.getElem_drop] at this
  rw[if_pos this]; rfl
 ·by_cases hl:k0 + ((s.drop k0).takeWhile p).length < s.length
  ·rw[h _ hl]
   have:=D2 p (s.drop k0) (by rw[List.length_drop]; omega)
   rw[List.getElem_drop] at this
   rw[if_neg (by rw[this]; simp)]
  ·rw[show k0 + ((s.drop k0).takeWhile p).length = s.length by omega]; exact hd
abbrev Mx:Nat:=1000000000000
theorem sw (c:UInt8):fp (c.toNat:Int) = some (isL c):=by
 unfold fp isL
 simp only[dk,gz]
 by_cases h:97 ≤ c.toNat
 ·rw[if_pos (by omega)]; congr 1; rw[decide_eq_decide]; omega
 ·rw[if_neg (by omega)]; congr 1; symm; rw[decide_eq_false_iff_not]; omega
theorem Bc (c:UInt8):ig (c.toNat:Int) = some (isD c):=by
 unfold ig isD
 simp only[dk,gz]
 by_cases h:48 ≤ c.toNat
 ·rw[if_pos (by omega)]; congr 1; rw[decide_eq_decide]; omega
 ·rw[if_neg (by omega)]; congr 1; symm; rw[decide_eq_false_iff_not]; omega
theorem vS (c:UInt8):eh (c.toNat:Int) = some (isL c):=sw c
theorem Fe (c:UInt8):eW (c.toNat:Int) = some (isD c):=Bc c
theorem HE (c:UInt8):gE (c.toNat:Int) = some (isA c):=by
 unfold gE isA
 rw[sw,aa,Bc,aa]
 cases isL c <;> rfl
theorem HF {s:Bs} (hs:s.length ≤ Mx):dZ s = some ((s.takeWhile isA).length:Int):=by
 have:=Fc (body:=fun x=>dZ.b1 s x) isA s 0 (Nat.zero_le _) (fun k hk=>?_) ?_ hs
 ·rw[Nat.zero_add,List.drop_zero] at this; exact this
 ·simp only[dZ.b1,tJ,Ml hk,if_true,ze hk,aa,HE,dZ.j1,aB (show k + 1 ≤ 9223372036854775807 by unfold Mx at hs; omega)]
  cases isA s[k] <;> rfl
 ·simp only[dZ.b1,tJ,Mm,if_false,aa,dZ.j1]; rfl
def HG (p:UInt8 → Bool):Bs → Bool
 | []=>false
 | c :: _=>p c
theorem Bd {p:UInt8 → Bool} {s:Bs} (h:0 < s.length):HG p s = p s[0]:=by
 cases s with
 | nil=>cases h
 | cons c r=>rfl
def kP (s:Bs):Bool:=HG isL s && decide (s.length ≤ 20) && s.all isA
theorem Jy {s:Bs} (hs:s.length ≤ Mx):eT s = some (kP s):=by
 unfold eT
 rw[gz]
 by_cases h0:s = []
 ·subst h0; rfl
 ·have hp:0 < s.length:=List.length_pos_iff.2 h0
  rw[if_neg h0,Ki hp,aa,sw,aa,y8]
  unfold kP
  rw[Bd hp]
  cases h1:isL s[0] with
  | false=>rfl
  | true =>
   simp only[cond_true,ao,aa,eT.j1,HF hs,gz,bg,Bool.true_and]
   by_cases h2:s.length ≤ 20
   ·rw[if_neg (by omega),Li]
    congr 1
    simp [h2]
    omega
   ·rw[if_pos (by omega)]; simp [h2]
theorem HH {s:Bs} (hs:s.length ≤ Mx):bV s = some (kP s):=by
 unfold bV
 simp only[ao,gz]
 by_cases h0:s = []
 ·subst h0; rfl
 ·have hp:0 < s.length:=List.length_pos_iff.2 h0
  rw[if_neg (by omega)]
  by_cases h2:s.length ≤ 20
  ·rw[if_neg (by omega),Ki hp,aa,vS,aa,aa]
   unfold kP bV.j2
   rw[Bd hp]
   cases h1:isL s[0] with
   | false=>rfl
   | true =>
    rw[Bool.not_true,cond_false,decide_eq_true h2,Bool.true_and,Bool.true_and]
    have key:∃ b,bO (fun x=>bV.b1 s x) 1 = some b ∧ b = s.all isA:=by
     have ha:isA s[0] = true:=by unfold isA; rw[h1]; rfl
     refine ew (fun k x=>x = ((k + 1:Nat):Int) ∧ k + 1 ≤ s.length ∧ ∀ j (hj:j < s.length),j ≤ k → isA s[j] = true) (s.length - 1) ⟨rfl,hp,fun j hj hk=>by
      obtain rfl:j = 0:=by omega
      exact ha⟩ (fun k hk x hx=>?_) (fun x hx=>?_) (by omega)
     ·obtain⟨rfl,h3,h4⟩:=hx
      have hk1:k + 1 < s.length:=by omega
      have hb:bV.b1 s ((k + 1:Nat):Int) = some (if isA s[k + 1] = true then .inl ((k + 1 + 1:Nat):Int) else .inr false):=by
       simp only[bV.b1,tJ,Ml hk1,if_true,ze hk1,aa,vS,Fe,bV.j1,aB (show k + 1 + 1 ≤ 9223372036854775807 by omega),y8]
       unfold isA
       cases isL s[k + 1] <;> cases isD s[k + 1] <;> rfl
      cases h5:isA s[k + 1] with
      | true =>
       exact .inl ⟨_,by rw[hb,if_pos h5],rfl,by omega,fun j hj hjk=>by
        by_cases e:j = k + 1
        ·subst e; exact h5
        ·exact h4 j hj (by omega)⟩
      | false =>
       refine .inr ⟨_,by rw[hb,if_neg (by rw[h5]; simp)],?_⟩
       symm
       rw[List.all_eq_false]
       exact⟨s[k + 1],List.getElem_mem _,by rw[h5]; simp⟩
     ·obtain⟨rfl,h3,h4⟩:=hx
      refine⟨true,?_,?_⟩
      ·rw[show s.length - 1 + 1 = s.length by omega]
       simp only[bV.b1,tJ,Mm,if_false]
      ·symm
       rw[List.all_eq_true]
       intro x hx
       obtain⟨i,hi,rfl⟩:=List.mem_iff_getElem.1 hx
       exact h4 i hi (by omega)
    obtain⟨b,h5,rfl⟩:=key
    exact h5
  ·rw[if_pos (by omega)]
   unfold kP
   simp [h2,aa,bV.j2]
end Go.Proofs.YtaocfjifacnokaaGreat
namespace Go.Proofs.YtaocfjifacnokaaGreat
open Go.Lad
def vT (W:List Bs):Bs:=32 :: W.flatMap fun w=>w ++ [32]
def occ (r sub:Bs):Prop := ∃ i,sub <+: r.drop i
theorem xR:∀ (r sub:Bs),0 ≤ Lib.index r sub ↔ occ r sub
 | [],sub=>by
  unfold Lib.index occ
  cases sub with
  | nil=>simp
  | cons c l=>simp
 | b :: l,sub=>by
  have ih:=xR l sub
  have hge:=Lib.index_ge l sub
  unfold Lib.index
  by_cases hp:sub.isPrefixOf (b :: l) = true
  ·rw[if_pos hp]
   exact⟨fun _=>⟨0,by simpa [List.isPrefixOf_iff_prefix] using hp⟩,fun _=>Int.le_refl _⟩
  ·rw[if_neg hp]
   have hocc:occ (b :: l) sub ↔ occ l sub:=by
    constructor
    ·rintro⟨i,hi⟩
     cases i with
     | zero=>exact absurd (List.isPrefixOf_iff_prefix.2 hi) hp
     | succ i=>exact⟨i,hi⟩
    ·rintro⟨i,hi⟩
     exact⟨i + 1,hi⟩
   rw[hocc,← ih]
   by_cases hm:Lib.index l sub = -1
   ·simp [hm]
   ·have:¬ ((Lib.index l sub == -1) = true):=by simpa using hm
    rw[if_neg this]
    omega
theorem Be:∀ {s w r r':Bs},32 ∉ s → 32 ∉ w → (s ++ 32 :: r') <+: (w ++ 32 :: r) → s = w
 | [],[],_,_,_,_,_=>rfl
 | [],c :: w,_,_,_,hw,h=>by
  obtain⟨q,h⟩:=h
  simp at h
  exact absurd (by simp [← h.1]) hw
 | c :: s,[],_,_,hs,_,h=>by
  obtain⟨q,h⟩:=h
  simp at h
  exact absurd (by simp [h.1]) hs
 | c :: s,d :: w,r,r',hs,hw,h=>by
  rw[List.cons_append,List.cons_append,List.cons_prefix_cons] at h
  obtain⟨rfl,h⟩:=h
  rw[Be (fun h=>hs (List.mem_cons_of_mem _ h)) (fun h=>hw (List.mem_cons_of_mem _ h)) h]
theorem HI (s r:Bs):(32 :: s ++ [32]) <+: (32 :: (s ++ 32 :: r)):=⟨r,by simp⟩
theorem xS {s r:Bs}:∀ {w:Bs},32 ∉ w → (occ (w ++ r) (32 :: s) ↔ occ r (32 :: s))
 | [],_=>Iff.rfl
 | c :: w,hw=>by
  refine Iff.trans ?_ (xS (w:=w) (r:=r) (fun h=>hw (List.mem_cons_of_mem _ h)))
  constructor
  ·rintro⟨i,hi⟩
   cases i with
   | zero =>
    obtain⟨q,hi⟩:=hi
    simp at hi
    exact absurd (by simp [hi.1]) hw
   | succ i=>exact⟨i,hi⟩
  ·rintro⟨i,hi⟩
   exact⟨i + 1,hi⟩
theorem Bf {s:Bs} (hs:32 ∉ s) (h0:s ≠ []):∀ {W:List Bs},(∀ w ∈ W,32 ∉ w) → (occ (vT W) (32 :: (s ++ [32])) ↔ s ∈ W)
 | [],_=>by
  constructor
  ·rintro⟨i,q,hi⟩
   have:=congrArg List.length hi
   have hl:0 < s.length:=List.length_pos_iff.2 h0
   simp [vT] at this
   omega
  ·intro h; cases h
 | w :: W,hW=>by
  have hw:=hW w List.mem_cons_self
  have ih:=Bf hs h0 (W:=W) fun w hw=>hW w (List.mem_cons_of_mem _ hw)
  have e:vT (w :: W) = 32 :: (w ++ vT W):=by simp [vT]
  rw[e,List.mem_cons,← ih,← xS (w:=w) (r:=vT W) hw]
  constructor
  ·rintro⟨i,hi⟩
   cases i with
   | zero =>
    rw[List.drop_zero,List.cons_prefix_cons] at hi
    exact .inl (Be (r:=W.flatMap fun w=>w ++ [32]) hs hw hi.2)
   | succ i=>exact .inr ⟨i,hi⟩
  ·rintro (rfl | ⟨i,hi⟩)
   ·exact⟨0,HI s _⟩
   ·exact⟨i + 1,hi⟩
end Go.Proofs.YtaocfjifacnokaaGreat
namespace Go.Proofs.YtaocfjifacnokaaGreat
open Go.Lad
def Ff:List Bs:=[[97,110,100],[98,97,99,107],[98,111,111,108],[99,108,111,99,107],[101,108,115,101],[102,97,108,115,101],[102,105,108,101,115],[102,110],[102,111,114,119,97,114,100],
 [103,101,116],[105,102],[105,110],[105,110,116],[108,101,116],[109,111,100,117,108,101],[109,111,118,101],[110,101,116],[110,111,116],[111,114],[112,117,98],[115,101,99,114,101,116,115],
 [115,101,116],[116,104,101,110],[116,114,117,101],[117,115,101],[118,97,114]]
theorem Lj:ek = some Ff:=rfl
theorem Fg:∀ w ∈ Ff,(32:UInt8) ∉ w:=by decide
theorem HJ (s:Bs):cZ s = (eT s).bind fun w2=>bif w2 then ((cat? ([32]:Bs) s).bind fun s3=>(cat? s3 ([32]:Bs)).bind fun s4=>(strings_Contains (vT Ff) s4).bind fun c5=>some (!c5)) else some false:=by kernel_rfl
theorem HK (s:Bs):eT s = some (kP s):=by
 by_cases h:s.length ≤ 20
 ·exact Jy (by unfold Mx; omega)
 ·obtain⟨b,hb⟩:=DY s
  have hf:kP s = false:=by unfold kP; rw[decide_eq_false h,Bool.and_false,Bool.false_and]
  rw[hb,hf]
  cases b with
  | false=>rfl
  | true=>exact absurd (A6 hb) h
theorem Fh (s:Bs):bV s = some (kP s):=by
 by_cases h:s.length ≤ 20
 ·exact HH (by unfold Mx; omega)
 ·have hf:kP s = false:=by unfold kP; rw[decide_eq_false h,Bool.and_false,Bool.false_and]
  rw[hf]
  unfold bV
  simp only[ao,gz]
  rw[if_neg (by omega),if_pos (by omega),aa]; rfl
theorem CR {s:Bs} (h:kP s = true):s.length ≤ 20 ∧ s ≠ [] ∧ (32:UInt8) ∉ s:=by
 unfold kP at h
 rw[Bool.and_eq_true,Bool.and_eq_true,decide_eq_true_eq] at h
 refine⟨h.1.2,fun e=>?_,fun e=>?_⟩
 ·subst e; exact absurd h.1.1 (by simp [HG])
 ·have:=List.all_eq_true.1 h.2 _ e
  exact absurd this (by decide)
theorem HL (s:Bs):dQ s = (kP s && !decide (s ∈ Ff)):=by
 unfold dQ
 rw[HJ,HK,aa]
 cases hw:kP s with
 | false=>rfl
 | true =>
  obtain⟨h1,h2,h3⟩:=CR hw
  have e1:cat? ([32]:Bs) s = some (32 :: s):=by unfold cat?; rw[if_pos (by simp; omega)]; rfl
  have e2:cat? (32 :: s) ([32]:Bs) = some (32 :: (s ++ [32])):=by unfold cat?; rw[if_pos (by simp; omega)]; rfl
  rw[cond_true,e1,aa,e2,aa,qY _ _ (by kernel_rfl),aa,Option.getD_some,Bool.true_and]
  unfold Lib.contains
  congr 1
  rw[decide_eq_decide,xR]
  exact Bf h3 h2 Fg
theorem xT (l:List Bs) (s:Bs) (h:l.length ≤ 1000000):dd l s = some (lZ (fun w=>decide (w = s)) 0 l):=by
 unfold dd
 refine lN (body:=fun x=>dd.b1 l s x) l (fun w=>decide (w = s)) (fun i hi=>?_) ?_ (by omega)
 ·unfold dd.b1
  rw[ao,decide_eq_true (by omega),cond_true,cR hi,aa,gz,aB (by omega),aa]
  by_cases h:l[i] = s
  ·rw[if_pos h,if_pos (decide_eq_true h)]
  ·rw[if_neg h,if_neg (by rw[decide_eq_true_eq]; exact h)]
 ·unfold dd.b1
  rw[ao,decide_eq_false (by omega),cond_false]
theorem Jz (l:List Bs) (s:Bs):(l.any fun w=>decide (w = s)) = decide (s ∈ l):=by
 rw[Bool.eq_iff_iff,List.any_eq_true,decide_eq_true_eq]
 constructor
 ·rintro⟨w,hw,h⟩
  rw[decide_eq_true_eq] at h
  subst h; exact hw
 ·exact fun h=>⟨s,h,decide_eq_true rfl⟩
theorem oU (s:Bs):cq s = some (dQ s):=by
 unfold cq
 rw[Fh,aa,HL]
 cases kP s with
 | false=>rfl
 | true =>
  rw[cond_true,Lj,aa,xT _ _ (by decide),aa,Bool.true_and,← Jz,← jK _ Ff 0,ao]
  congr 1
  generalize lZ (fun w=>decide (w = s)) 0 Ff = x
  by_cases h:x < 0
  ·rw[decide_eq_true h,decide_eq_false (by omega)]; rfl
  ·rw[decide_eq_false h,decide_eq_true (by omega)]; rfl
noncomputable def zf (l:List Bs):Bool:=allI (fun i n=>dQ n && (decide (i = 0) || upN (l.getD (i - 1) []) n)) 0 l
theorem Mo (a b:Bs):upN a b = Op.bytesLess a b:=by
 rw[Bool.eq_iff_iff,CQ]
theorem HM (l:List Bs) (h:l.length ≤ 1000000):bo l = some (zf l):=by
 unfold bo zf
 refine gQ (body:=fun x=>bo.b1 l x) l _ (fun i hi=>?_) ?_ (by omega)
 ·unfold bo.b1 bo.j1
  rw[ao,decide_eq_true (by omega),cond_true,cR hi,aa,oU,aa,aB (by omega)]
  cases hn:dQ l[i] with
  | false=>rfl
  | true =>
   rw[Bool.not_true,cond_false,Bool.true_and]
   by_cases h0:i = 0
   ·subst h0; rfl
   ·rw[ao,decide_eq_true (by omega),cond_true,vL (by omega) (by omega),aa,cR (show i - 1 < l.length by omega),aa,aa,aa,decide_eq_false h0,Bool.false_or]
    have hg:l.getD (i - 1) [] = l[i - 1]'(by omega):=by rw[List.getD_eq_getElem?_getD,List.getElem?_eq_getElem (by omega)]; rfl
    rw[hg,Mo]
    cases Op.bytesLess (l[i - 1]'(by omega)) l[i] <;> rfl
 ·unfold bo.b1
  rw[ao,decide_eq_false (by omega),cond_false]
theorem xU (l:List ab) (h:l.length ≤ 1000000):cx (unL l) = some (l.map ab.nm):=by
 unfold cx
 refine hU (body:=fun x:Int × List Bs=>cx.b1 (unL l) x.1 x.2) (x:=(0,[])) (fun i=>((i:Int),(l.take i).map ab.nm)) l.length rfl (fun i hi=>?_) ?_ (by omega)
 ·unfold cx.b1
  rw[bw,ao,decide_eq_true (by omega),cond_true,dy hi,aa,gi (by simp; omega),aa,aB (by omega),aa,take_succ hi,List.map_append]; rfl
 ·unfold cx.b1
  rw[bw,ao,decide_eq_false (by omega),cond_false,List.take_length]
theorem Bg {d:Nat} {k:Int} {l:List ab}:bG (d + 1) k l = (decide (0 ≤ k ∧ k < 3 ∧ l.length ≤ 8 ∧ (k = 2 ∨ l = [])) && (zf (l.map ab.nm) && l.all fun f=>bG d f.kd f.fs)):=by
 rw[Bool.eq_iff_iff,pr,Bool.and_eq_true,Bool.and_eq_true,decide_eq_true_eq]
 refine and_congr_right fun _=>?_
 unfold zf
 rw[mI,List.all_eq_true]
 have hg:∀ i (h:i < l.length),(l.map ab.nm).getD (i - 1) [] = (l[i - 1]'(by omega)).nm:=fun i h=>by
  rw[List.getD_eq_getElem?_getD,List.getElem?_map,List.getElem?_eq_getElem (by omega)]; rfl
 constructor
 ·intro h
  refine⟨fun i hi=>?_,fun f hf=>?_⟩
  ·rw[List.length_map] at hi
   obtain⟨h1,h2,_⟩:=h i hi
   rw[Nat.zero_add,List.getElem_map,h1,Bool.true_and,hg i hi,Bool.or_eq_true,decide_eq_true_eq]
   exact h2
  ·obtain⟨i,hi,rfl⟩:=List.mem_iff_getElem.1 hf
   exact (h i hi).2.2
 ·rintro⟨h1,h2⟩ i hi
  have:=h1 i (by rw[List.length_map]; exact hi)
  rw[Nat.zero_add,List.getElem_map,hg i hi,Bool.and_eq_true,Bool.or_eq_true,decide_eq_true_eq] at this
  exact⟨this.1,this.2,h2 _ (List.getElem_mem hi)⟩
theorem xV:∀ (d n:Nat) (k:Int) (l:List ab),d ≤ 4 → d < n → aS.rec n k (unL l) (d:Int) = some (bG d k l)
 | d,0,_,_,_,h=>absurd h (by omega)
 | 0,n + 1,k,l,_,_=>rfl
 | d + 1,n + 1,k,l,hd,hn=>by
  show aS.body (aS.rec n) k (unL l) ((d + 1:Nat):Int) = _
  unfold aS.body cO
  rw[bg,decide_eq_false (show ¬ ((d + 1:Nat):Int) = 0 by omega),cond_false,bw,Bg]
  simp only[dk,ao,bg,gz]
  have dF:¬ (0 ≤ k ∧ k < 3 ∧ l.length ≤ 8 ∧ (k = 2 ∨ l = [])) → decide (0 ≤ k ∧ k < 3 ∧ l.length ≤ 8 ∧ (k = 2 ∨ l = [])) = false:=decide_eq_false
  have dT:(0 ≤ k ∧ k < 3 ∧ l.length ≤ 8 ∧ (k = 2 ∨ l = [])) → decide (0 ≤ k ∧ k < 3 ∧ l.length ≤ 8 ∧ (k = 2 ∨ l = [])) = true:=decide_eq_true
  by_cases h0:0 ≤ k
  rotate_left
  ·rw[if_neg h0,dF (fun h=>h0 h.1)]; rfl
  rw[if_pos h0,aa]
  by_cases h1:k ≤ 2
  rotate_left
  ·rw[decide_eq_false h1,dF (fun h=>h1 (by omega))]; rfl
  rw[decide_eq_true h1,Bool.not_true,cond_false]
  have key:l.length ≤ 8 → (((cx (unL l)).bind fun l7=>(bo l7).bind fun a8=>some (!a8)).bind fun x=>aS.j1 (aS.rec n) (unL l) ((d + 1:Nat):Int) x) = some (zf (l.map ab.nm) && l.all fun f=>bG d f.kd f.fs):=fun h8=>by
   rw[xU l (by omega),aa,HM _ (by rw[List.length_map]; omega),aa,aa]
   unfold aS.j1
   cases zf (l.map ab.nm) with
   | false=>rfl
   | true =>
    rw[Bool.not_true,cond_false,Bool.true_and,← oO (fun f=>bG d f.kd f.fs) l 0]
    refine gQ l _ (fun i hi=>?_) ?_ (by omega)
    ·unfold aS.b1
     simp only[fu1,fu2]
     have hd1:z64 (((d + 1:Nat):Int) - 1) = some (d:Int):=by rw[ji (by omega)]; congr 1; omega
     have hrec:=xV d n l[i].kd l[i].fs (by omega) (by omega)
     rw[bw,ao,decide_eq_true (by omega),cond_true,dy hi,aa,hd1,aa,aB (by omega)]
     simp only[hrec,aa]
     exact jJ
    ·unfold aS.b1
     rw[bw,ao,decide_eq_false (by omega),cond_false]
  by_cases h2:k = 2
  ·rw[decide_eq_true h2,Bool.not_true,cond_false]
   by_cases h8:(8:Int) < (l.length:Int)
   ·rw[if_pos h8,dF (fun h=>by omega)]; rfl
   ·rw[if_neg h8,key (by omega),dT ⟨h0,by omega,by omega,.inl h2⟩,Bool.true_and]
  ·rw[decide_eq_false h2,Bool.not_false,cond_true]
   by_cases h3:(0:Int) < (l.length:Int)
   ·rw[if_pos h3,dF (fun h=>h.2.2.2.elim h2 fun e=>by rw[e] at h3; simp at h3)]; rfl
   ·have hl:l = []:=List.length_eq_zero_iff.1 (by omega)
    rw[if_neg h3,if_neg (by omega),key (by omega),dT ⟨h0,by omega,by omega,.inr hl⟩,Bool.true_and]
theorem qc (k:Int) (l:List ab):cI k (unL l) = some (bG 4 k l):=by
 unfold cI aS
 have h:=xV 4 Fuel.n k l (by omega) (fl (by omega))
 rw[show (4:Int) = ((4:Nat):Int) from rfl,h]; rfl
theorem fv (k:Int) (l:List ab):aN k (unL l) = some (bG 4 k l):=by
 unfold aN
 rw[qc]; rfl
end Go.Proofs.YtaocfjifacnokaaGreat
namespace Go.Proofs.YtaocfjifacnokaaGreat
open Go.Lad
def dE:List ab → Bs → Nat
 | [],_=>0
 | f :: r,s=>if Op.bytesLess f.nm s = true then dE r s + 1 else 0
theorem xW (f:ab) (r:List ab) (s:Bs):dE (f :: r) s = if Op.bytesLess f.nm s = true then dE r s + 1 else 0:=by rw[dE]
theorem bn (c:List ab):eK [] c = true:=by rw[eK]
theorem tN:∀ (l:List ab) (s:Bs),dE l s ≤ l.length
 | [],_=>Nat.le_refl _
 | f :: r,s=>by
  unfold dE
  have:=tN r s
  split <;> simp <;> omega
theorem zg:∀ (l:List ab) (s:Bs) (k:Nat) (hk:k < l.length),k < dE l s → Op.bytesLess l[k].nm s = true
 | [],_,k,hk,_=>absurd hk (by simp)
 | f :: r,s,k,hk,h=>by
  unfold dE at h
  split at h
  ·rename_i hf
   cases k with
   | zero=>exact hf
   | succ k=>exact zg r s k (by simpa using hk) (by omega)
  ·omega
theorem re:∀ (l:List ab) (s:Bs) (h:dE l s < l.length),Op.bytesLess l[dE l s].nm s = false
 | [],_,h=>absurd h (by simp)
 | f :: r,s,h=>by
  by_cases hf:Op.bytesLess f.nm s = true
  ·have e:dE (f :: r) s = dE r s + 1:=by rw[xW,if_pos hf]
   have h':dE r s < r.length:=by rw[e] at h; simpa using h
   have:=re r s h'
   simp only[e,List.getElem_cons_succ]
   exact this
  ·have e:dE (f :: r) s = 0:=by rw[xW,if_neg hf]
   simp only[e,List.getElem_cons_zero]
   rwa [Bool.not_eq_true] at hf
theorem JA {l:List ab} {s:Bs} (hs:srt l) {m:Nat} (hm:m ≤ l.length) (h1:∀ k (hk:k < l.length),k < m → Op.bytesLess l[k].nm s = true) (h2:∀ k (hk:k < l.length),m ≤ k → Op.bytesLess l[k].nm s = false):m = dE l s:=by
 have hp:=tN l s
 rcases Nat.lt_trichotomy m (dE l s) with h | h | h
 ·have a:=zg l s m (by omega) h
  rw[h2 m (by omega) (Nat.le_refl _)] at a
  cases a
 ·exact h
 ·have a:=re l s (by omega)
  rw[h1 _ (by omega) h] at a
  cases a
def SA:Nat → List ab → Prop
 | 0,l=>l = []
 | d + 1,l=>srt l ∧ ∀ f ∈ l,SA d f.fs
theorem oV:∀ {d:Nat} {k:Int} {l:List ab},bG d k l = true → SA d l
 | 0,_,_,h=>by cases h
 | d + 1,k,l,h=>⟨Fa h,fun f hf=>oV (Fb h hf)⟩
theorem rh:∀ {d:Nat} {l:List ab},SA d l → eK l l = true
 | 0,l,h=>by
  have h:l = []:=h
  subst h
  rw[eK]
 | d + 1,l,h=>vO.2 fun f hf=>⟨f,xN h.1 hf,rfl,rh (h.2 f hf)⟩
theorem tO {l:List ab}:srt l ↔ l.Pairwise (fun f g=>Op.bytesLess f.nm g.nm = true):=by
 rw[List.pairwise_iff_getElem]
 exact⟨fun h i j hi hj hij=>h i j hij hj,fun h i j hij hj=>h i j (by omega) hj hij⟩
theorem mK {l c:List ab}:eK l c = true ↔ ∀ f ∈ l,kE f c = true:=by rw[oQ,List.all_eq_true]
theorem gA {f:ab} {c:List ab}:kE f c = true ↔ ∃ g,jj c f.nm = some g ∧ g.kd = f.kd ∧ eK f.fs g.fs = true:=by
 rw[tK]
 cases jj c f.nm with
 | none=>simp
 | some g=>simp
def sx (l:List ab) (f:ab):List ab:=l.take (dE l f.nm) ++ [f] ++ l.drop (dE l f.nm)
def hD (F:List ab → List ab → Option (List ab)) (out:List ab) (f:ab):Option (List ab) :=
 match out[dE out f.nm]? with
 | some x=>if x.nm = f.nm then (if x.kd = f.kd then (F x.fs f.fs).map fun t=>out.set (dE out f.nm) (.mk x.nm x.kd t) else none) else some (sx out f)
 | none=>some (sx out f)
def gk (F:List ab → List ab → Option (List ab)):List ab → List ab → Option (List ab)
 | out,[]=>some out
 | out,f :: r=>(hD F out f).bind fun o=>gk F o r
def ke:Nat → List ab → List ab → Option (List ab)
 | 0,a,_=>some a
 | d + 1,a,b=>gk (ke d) a b
def Fi (d:Nat) (a b:List ab) (B:List ab → Prop):Option (List ab) → Prop
 | some t=>SA d t ∧ t.length ≤ a.length + b.length ∧ ∀ c,eK t c = true ↔ (eK a c = true ∧ B c)
 | none=>∀ c,¬ (eK a c = true ∧ B c)
theorem oW {l:List ab} {f x:ab}:x ∈ sx l f ↔ x = f ∨ x ∈ l:=by
 unfold sx
 rw[List.mem_append,List.mem_append,List.mem_singleton]
 have:x ∈ l ↔ x ∈ l.take (dE l f.nm) ∨ x ∈ l.drop (dE l f.nm):=by rw[← List.mem_append,List.take_append_drop]
 rw[this]
 constructor
 ·rintro ((h | h) | h)
  ·exact .inr (.inl h)
  ·exact .inl h
  ·exact .inr (.inr h)
 ·rintro (h | h | h)
  ·exact .inl (.inr h)
  ·exact .inl (.inl h)
  ·exact .inr h
theorem HN {l:List ab} {f:ab} (hs:srt l) (h:∀ hp:dE l f.nm < l.length,l[dE l f.nm].nm ≠ f.nm):srt (sx l f):=by
 have hs':=tO.1 hs
 rw[tO]
 unfold sx
 have hlt:∀ x ∈ l.take (dE l f.nm),Op.bytesLess x.nm f.nm = true:=fun x hx=>by
  rw[List.mem_take_iff_getElem] at hx
  obtain⟨i,hi,rfl⟩:=hx
  exact zg l f.nm i (by omega) (by omega)
 have hgt:∀ x ∈ l.drop (dE l f.nm),Op.bytesLess f.nm x.nm = true:=fun x hx=>by
  by_cases hp:dE l f.nm < l.length
  ·have h0:Op.bytesLess f.nm l[dE l f.nm].nm = true:=by
    rcases za (h hp) with h1 | h1
    ·rw[re l f.nm hp] at h1; cases h1
    ·exact h1
   rw[List.drop_eq_getElem_cons hp] at hx
   rcases List.mem_cons.1 hx with rfl | hx
   ·exact h0
   ·obtain⟨j,hj,rfl⟩:=List.mem_iff_getElem.1 hx
    rw[List.getElem_drop]
    rw[List.length_drop] at hj
    exact jk h0 (hs (dE l f.nm) (dE l f.nm + 1 + j) (by omega) (by omega))
  ·rw[List.drop_of_length_le (by omega)] at hx
   cases hx
 rw[List.append_assoc,List.pairwise_append]
 refine⟨hs'.sublist (List.take_sublist _ _),?_,fun a ha b hb=>?_⟩
 ·rw[List.singleton_append,List.pairwise_cons]
  exact⟨fun x hx=>hgt x hx,hs'.sublist (List.drop_sublist _ _)⟩
 ·rcases List.mem_append.1 hb with hb | hb
  ·rw[List.mem_singleton] at hb
   subst hb; exact hlt a ha
  ·exact jk (hlt a ha) (hgt b hb)
theorem Bh (l:List ab) (f:ab):(sx l f).length = l.length + 1:=by
 have:=tN l f.nm
 unfold sx
 rw[List.length_append,List.length_append,List.length_take,List.length_drop]
 simp; omega
theorem D3 {d:Nat} {out:List ab} {f:ab} (ho:SA (d + 1) out) (hf:SA d f.fs) (h:∀ hp:dE out f.nm < out.length,out[dE out f.nm].nm ≠ f.nm):SA (d + 1) (sx out f) ∧ (sx out f).length ≤ out.length + 1 ∧ ∀ c,eK (sx out f) c = true ↔ (eK out c = true ∧ kE f c = true):=by
 refine⟨⟨HN ho.1 h,fun x hx=>?_⟩,Nat.le_of_eq (Bh out f),fun c=>?_⟩
 ·rcases oW.1 hx with rfl | hx
  ·exact hf
  ·exact ho.2 x hx
 ·rw[mK,mK]
  exact⟨fun hh=>⟨fun x hx=>hh x (oW.2 (.inr hx)),hh f (oW.2 (.inl rfl))⟩,fun hh x hx=>(oW.1 hx).elim (fun e=>by rw[e]; exact hh.2) (hh.1 x)⟩
theorem Bi {d:Nat} {F:List ab → List ab → Option (List ab)} (hF:∀ a b,SA d a → SA d b → Fi d a b (fun c=>eK b c = true) (F a b)) {out:List ab} {f:ab} (ho:SA (d + 1) out) (hf:SA d f.fs) :
  Fi (d + 1) out [f] (fun c=>kE f c = true) (hD F out f):=by
 unfold hD
 by_cases hp:dE out f.nm < out.length
 rotate_left
 ·rw[List.getElem?_eq_none (by omega)]
  exact D3 ho hf fun h=>absurd h hp
 rw[List.getElem?_eq_getElem hp]
 dsimp only
 by_cases hn:out[dE out f.nm].nm = f.nm
 rotate_left
 ·rw[if_neg hn]
  exact D3 ho hf fun _=>hn
 rw[if_pos hn]
 have hx:=List.getElem_mem hp
 by_cases hk:out[dE out f.nm].kd = f.kd
 rotate_left
 ·rw[if_neg hk]
  intro c ⟨h1,h2⟩
  obtain⟨g,g1,g2,_⟩:=gA.1 (mK.1 h1 _ hx)
  obtain⟨g',g1',g2',_⟩:=gA.1 h2
  rw[hn,g1'] at g1
  cases g1
  exact hk (g2.symm.trans g2')
 rw[if_pos hk]
 have:=hF out[dE out f.nm].fs f.fs (ho.2 _ hx) hf
 cases ht:F out[dE out f.nm].fs f.fs with
 | none =>
  rw[ht] at this
  intro c ⟨h1,h2⟩
  obtain⟨g,g1,g2,g3⟩:=gA.1 (mK.1 h1 _ hx)
  obtain⟨g',g1',g2',g3'⟩:=gA.1 h2
  rw[hn,g1'] at g1
  cases g1
  exact this _ ⟨g3,g3'⟩
 | some t =>
  rw[ht] at this
  obtain⟨t1,t2,t3⟩:=this
  show SA (d + 1) (out.set (dE out f.nm) _) ∧ _
  have hy:∀ c,kE (.mk out[dE out f.nm].nm out[dE out f.nm].kd t) c = true ↔ (kE out[dE out f.nm] c = true ∧ kE f c = true):=fun c=>by
   rw[gA,gA,gA]
   constructor
   ·rintro⟨g,g1,g2,g3⟩
    obtain⟨q1,q2⟩:=(t3 g.fs).1 g3
    exact⟨⟨g,g1,g2,q1⟩,g,by rw[← hn]; exact g1,by rw[← hk]; exact g2,q2⟩
   ·rintro⟨⟨g,g1,g2,g3⟩,g',g1',g2',g3'⟩
    rw[hn,g1'] at g1
    cases g1
    exact⟨_,by show jj c out[dE out f.nm].nm = _; rw[hn]; exact g1',g2,(t3 _).2 ⟨g3,g3'⟩⟩
  refine⟨⟨?_,fun x hx'=>?_⟩,by rw[List.length_set]; simp,fun c=>?_⟩
  ·intro i j hij hj
   have key:∀ i (hi:i < (out.set (dE out f.nm) (.mk out[dE out f.nm].nm out[dE out f.nm].kd t)).length),((out.set (dE out f.nm) (.mk out[dE out f.nm].nm out[dE out f.nm].kd t))[i]).nm = (out[i]'(by rw[List.length_set] at hi; exact hi)).nm:=fun i hi=>by
    rw[List.getElem_set]
    split
    ·rename_i e
     subst e; rfl
    ·rfl
   rw[key,key]
   rw[List.length_set] at hj
   exact ho.1 i j hij hj
  ·rcases List.mem_or_eq_of_mem_set hx' with h | rfl
   ·exact ho.2 x h
   ·exact t1
  ·have hsp:out = out.take (dE out f.nm) ++ out[dE out f.nm] :: out.drop (dE out f.nm + 1):=by rw[← List.drop_eq_getElem_cons hp,List.take_append_drop]
   have e1:out.set (dE out f.nm) (.mk out[dE out f.nm].nm out[dE out f.nm].kd t) = out.take (dE out f.nm) ++ ab.mk out[dE out f.nm].nm out[dE out f.nm].kd t :: out.drop (dE out f.nm + 1):=List.set_eq_take_append_cons_drop.trans (if_pos hp)
   have e2:eK out c = true ↔ (∀ x ∈ out.take (dE out f.nm),kE x c = true) ∧ kE out[dE out f.nm] c = true ∧ ∀ x ∈ out.drop (dE out f.nm + 1),kE x c = true:=by
    rw[mK]
    conv=>lhs; rw[hsp]
    simp only[List.mem_append,List.mem_cons,or_imp,forall_and,forall_eq]
   show eK (out.set (dE out f.nm) (.mk out[dE out f.nm].nm out[dE out f.nm].kd t)) c = true ↔ (eK out c = true ∧ kE f c = true)
   rw[e1,mK,e2]
   simp only[List.mem_append,List.mem_cons,or_imp,forall_and,forall_eq,hy]
   constructor
   ·rintro⟨q1,⟨q2,q3⟩,q4⟩
    exact⟨⟨q1,q2,q4⟩,q3⟩
   ·rintro⟨⟨q1,q2,q4⟩,q3⟩
    exact⟨q1,⟨q2,q3⟩,q4⟩
theorem Bj {d:Nat} {F:List ab → List ab → Option (List ab)} (hF:∀ a b,SA d a → SA d b → Fi d a b (fun c=>eK b c = true) (F a b)):∀ (b out:List ab),SA (d + 1) out → (∀ f ∈ b,SA d f.fs) → Fi (d + 1) out b (fun c=>eK b c = true) (gk F out b)
 | [],out,ho,_=>⟨ho,Nat.le_refl _,fun c=>⟨fun h=>⟨h,bn c⟩,fun h=>h.1⟩⟩
 | f :: r,out,ho,hb=>by
  unfold gk
  have h1:=Bi hF ho (hb f List.mem_cons_self)
  have e:∀ c,eK (f :: r) c = true ↔ (kE f c = true ∧ eK r c = true):=fun c=>by rw[eK,Bool.and_eq_true]
  cases hs:hD F out f with
  | none =>
   rw[hs] at h1
   intro c ⟨q1,q2⟩
   exact h1 c ⟨q1,((e c).1 q2).1⟩
  | some o =>
   rw[hs] at h1
   obtain⟨o1,o2,o3⟩:=h1
   have h2:=Bj hF r o o1 fun f hf=>hb f (List.mem_cons_of_mem _ hf)
   rw[Option.bind_some]
   cases hl:gk F o r with
   | none =>
    rw[hl] at h2
    intro c ⟨q1,q2⟩
    obtain⟨q3,q4⟩:=(e c).1 q2
    exact h2 c ⟨(o3 c).2 ⟨q1,q3⟩,q4⟩
   | some t =>
    rw[hl] at h2
    obtain⟨t1,t2,t3⟩:=h2
    have o2:o.length ≤ out.length + 1:=o2
    refine⟨t1,by rw[List.length_cons]; omega,fun c=>?_⟩
    show eK t c = true ↔ (eK out c = true ∧ eK (f :: r) c = true)
    rw[t3,o3,e,and_assoc]
theorem zh:∀ (d:Nat) (a b:List ab),SA d a → SA d b → Fi d a b (fun c=>eK b c = true) (ke d a b)
 | 0,a,b,ha,hb=>by
  have hb:b = []:=hb
  subst hb
  exact⟨ha,Nat.le_refl _,fun c=>⟨fun h=>⟨h,bn c⟩,fun h=>h.1⟩⟩
 | d + 1,a,b,ha,hb=>Bj (zh d) b a ha hb.2
end Go.Proofs.YtaocfjifacnokaaGreat
namespace Go.Proofs.YtaocfjifacnokaaGreat
open Go.Lad
theorem vU {α β:Type} {body:α → Option (α ⊕ β)} (I:α → Prop) (m:α → Nat) {Q:β → Prop} {x:α} (h0:I x) (h:∀ x,I x → (∃ y,body x = some (.inl y) ∧ I y ∧ m y < m x) ∨ ∃ b,body x = some (.inr b) ∧ Q b)
  (hn:m x < 1606938044258990275541962092341162602522202993782792835301375):∃ b,bO body x = some b ∧ Q b:=by
 refine ew (fun k y=>I y ∧ m y + k ≤ m x) (m x + 1) ⟨h0,Nat.le_refl _⟩ (fun k hk y hy=>?_) (fun y hy=>absurd hy.2 (by omega)) (by omega)
 rcases h y hy.1 with⟨z,hz,hi,hl⟩ | h
 ·exact .inl ⟨z,hz,hi,by omega⟩
 ·exact .inr h
theorem JB {a:Nat} (h:a ≤ 4000000):ES .u64 (IntKind.u64.wrap (a:Int)) 1 = some ((a / 2:Nat):Int):=by
 have h1:IntKind.u64.wrap (a:Int) = (a:Int):=by
  unfold IntKind.wrap
  have h1:(a:Int) % 18446744073709551616 = (a:Int):=Int.emod_eq_of_lt (by omega) (by omega)
  simp [IntKind.bits,IntKind.signed,h1]
 have e2:wD .u64 (a:Int) 1 = ((a / 2:Nat):Int):=by
  unfold wD
  rw[show min ((1:Int).toNat) (IntKind.u64.bits) = 1 from rfl]
  rw[Int.fdiv_eq_ediv_of_nonneg _ (by omega)]
  simp
 rw[h1]
 have hd:a / 2 ≤ a:=Nat.div_le_self _ _
 generalize a / 2 = y at *
 unfold ES
 rw[e2,dk,decide_eq_true (by omega),Bool.true_and]
 have:inZ .u64 (y:Int) = true:=by
  unfold inZ
  rw[dk,dk,Bool.and_eq_true,decide_eq_true_eq,decide_eq_true_eq]
  exact⟨by show (0:Int) ≤ _; omega,by show _ ≤ (18446744073709551615:Int); omega⟩
 rw[this]; rfl
theorem Mp {a:Nat} (h:a ≤ 4000000):IntKind.i64.wrap (a:Int) = (a:Int):=by
 unfold IntKind.wrap
 have h1:(a:Int) % 18446744073709551616 = (a:Int):=Int.emod_eq_of_lt (by omega) (by omega)
 have h2:¬ ((9223372036854775808:Int) ≤ (a:Int)):=by omega
 simp [IntKind.bits,IntKind.signed,h1,h2]
theorem HO (x1:Bs) (x2:Int) (x3:List b9) (s:Bs):fD x1 x2 x3 s = some (if Op.bytesLess x1 s = true then -1 else if x1 = s then 0 else 1):=by
 unfold fD
 cases Op.bytesLess x1 s with
 | true=>rfl
 | false =>
  by_cases h:x1 = s
  ·rw[decide_eq_true h,if_neg (by simp),if_pos h]; rfl
  ·rw[decide_eq_false h,if_neg (by simp),if_neg h]; rfl
theorem Lk {a b:Nat} (h:a + b ≤ 4000000):z64 ((a:Int) + (b:Int)) = some ((a + b:Nat):Int):=by
 have:=ji (n:=(a:Int) + (b:Int)) (by omega)
 rw[this]; congr 1
def Fj (l:List ab) (s:Bs):Bool:=match l[dE l s]? with | some x=>decide (x.nm = s) | none=>false
theorem Mq {l:List ab} {s:Bs} (hl:l.length ≤ 2000000) (hs:srt l):aq (unL l) s = some ((dE l s:Int),Fj l s):=by
 unfold aq
 obtain⟨b,h1,m,rfl,hm,h2,h3⟩:=vU (body:=fun x=>aq.b1 (unL l) s x.1 x.2) (x:=(0,((unL l).length:Int)))
  (fun y=>∃ i j:Nat,y = ((i:Int),(j:Int)) ∧ i ≤ j ∧ j ≤ l.length ∧ (∀ k (hk:k < l.length),k < i → Op.bytesLess l[k].nm s = true) ∧ ∀ k (hk:k < l.length),j ≤ k → Op.bytesLess l[k].nm s = false)
  (fun y=>(y.2 - y.1).toNat)
  (Q:=fun b=>∃ m:Nat,b = (m:Int) ∧ m ≤ l.length ∧ (∀ k (hk:k < l.length),k < m → Op.bytesLess l[k].nm s = true) ∧ ∀ k (hk:k < l.length),m ≤ k → Op.bytesLess l[k].nm s = false)
  ⟨0,l.length,by rw[bw]; rfl,by omega,by omega,fun k _ h=>by omega,fun k hk h=>by omega⟩
  (fun y hy=>by
   obtain⟨i,j,rfl,hij,hj,h1,h2⟩:=hy
   unfold aq.b1
   by_cases hlt:i < j
   ·have hh:(i + j) / 2 < l.length:=by omega
    rw[ao,decide_eq_true (by omega),cond_true,Lk (by omega),aa,JB (by omega),aa,Mp (by omega),dy hh,aa,HO,aa]
    by_cases hc:Op.bytesLess l[(i + j) / 2].nm s = true
    ·rw[if_pos hc,show ltZ (-1) 0 = true from rfl,cond_true,aB (by omega),aa]
     refine .inl ⟨_,rfl,⟨(i + j) / 2 + 1,j,rfl,by omega,hj,fun k hk hlt=>?_,h2⟩,by simp only; omega⟩
     rcases Nat.lt_or_ge k ((i + j) / 2) with h | h
     ·exact jk (hs k ((i + j) / 2) h hh) hc
     ·have:k = (i + j) / 2:=by omega
      subst this; exact hc
    ·have hlz:ltZ (if Op.bytesLess l[(i + j) / 2].nm s = true then -1 else if l[(i + j) / 2].nm = s then 0 else 1) 0 = false:=by
      rw[if_neg hc]
      split <;> rfl
     rw[hlz,cond_false]
     refine .inl ⟨_,rfl,⟨i,(i + j) / 2,rfl,by omega,by omega,h1,fun k hk hle=>?_⟩,by simp only; omega⟩
     rcases Nat.lt_or_ge ((i + j) / 2) k with h | h
     ·rw[Bool.eq_false_iff]
      intro h3
      exact hc (jk (hs ((i + j) / 2) k h hk) h3)
     ·have:k = (i + j) / 2:=by omega
      subst this
      rwa [Bool.not_eq_true] at hc
   ·have:i = j:=by omega
    subst this
    exact .inr ⟨(i:Int),by rw[ao,decide_eq_false (by omega),cond_false],i,rfl,hj,h1,h2⟩)
  (by simp only; rw[bw]; omega)
 rw[h1,aa]
 have hp:=JA hs hm h2 h3
 subst hp
 unfold aq.j1 Fj
 rw[bw,ao]
 by_cases hml:dE l s < l.length
 ·rw[decide_eq_true (by omega),cond_true,dy hml,aa,HO,aa,if_neg (by rw[re l s hml]; simp),List.getElem?_eq_getElem hml]
  dsimp only
  by_cases he:l[dE l s].nm = s
  ·rw[if_pos he,decide_eq_true he]; rfl
  ·rw[if_neg he,decide_eq_false he]; rfl
 ·rw[decide_eq_false (by omega),cond_false,List.getElem?_eq_none (by omega)]
def nK (d:Nat) (k:Int) (a:List ab) (k':Int) (b:List ab):aK × Bool:=if k = k' then (match ke d a b with | some t=>((k,t),true) | none=>((0,[]),false)) else ((0,[]),false)
theorem oX (F:List ab → List ab → Option (List ab)):∀ (b c out:List ab),gk F out (b ++ c) = (gk F out b).bind fun o=>gk F o c
 | [],c,out=>rfl
 | f :: r,c,out=>by
  rw[List.cons_append,gk,gk]
  cases hD F out f with
  | none=>rfl
  | some o=>exact oX F r c o
theorem Ll (l:List ab) (i:Nat) (f:ab):(unL l).set i (f.nm,f.kd,f.fs) = unL (l.set i f):=by
 have h:((f.nm,f.kd,f.fs):b9) = Uun 0 f:=(Lf f).symm
 rw[h]
 exact (List.map_set (α:=ab) (β:=b9) (f:=Uun 0)).symm
theorem HP (l:List ab) (i:Nat):(unL l).take i = unL (l.take i):=(List.map_take (α:=ab) (β:=b9) (f:=Uun 0)).symm
theorem HQ (l:List ab) (i:Nat):(unL l).drop i = unL (l.drop i):=(List.map_drop (α:=ab) (β:=b9) (f:=Uun 0)).symm
theorem ri (f:ab):([(f.nm,f.kd,f.fs)]:List b9) = unL [f]:=by cases f; rfl
theorem Lm (out:List ab) (f:ab) (hl:out.length ≤ 900000000):E5 (α:=b9) (dE out f.nm:Int) [(f.nm,f.kd,f.fs)] (unL out) = some (unL (sx out f)):=by
 have hp:=tN out f.nm
 unfold E5
 rw[bw,dk,dk,lX,lX,decide_eq_true (by omega),decide_eq_true (by omega),decide_eq_true (by simp),decide_eq_true (by simp; omega)]
 show some _ = _
 rw[Int.toNat_natCast,HP,HQ,ri,← iZ,← iZ]; rfl
theorem D4:∀ (d n:Nat) (k:Int) (a:List ab) (k':Int) (b:List ab),SA d a → SA d b → okL d a → okL d b → d ≤ 1000000 → d < n → ct.rec n k (unL a) k' (unL b) = some (nK d k a k' b)
 | d,0,_,_,_,_,_,_,_,_,_,h=>absurd h (by omega)
 | 0,n + 1,k,a,k',b,ha,hb,_,_,_,_=>by
  have ha:a = []:=ha
  have hb:b = []:=hb
  subst ha hb
  show ct.body (ct.rec n) k (unL []) k' (unL []) = _
  unfold ct.body nK
  rw[bg]
  by_cases hk:k = k'
  ·rw[decide_eq_true hk,if_pos hk,Bool.not_true,cond_false,xO (d:=0) (by omega) _ _ rfl,aa]
   refine hU (fun _=>((0:Int),k,unL [])) 0 rfl (fun k hk=>absurd hk (by omega)) ?_ (by omega)
   rfl
  ·rw[decide_eq_false hk,if_neg hk]; rfl
 | d + 1,n + 1,k,a,k',b,ha,hb,oa,ob,hd,hn=>by
  show ct.body (ct.rec n) k (unL a) k' (unL b) = _
  unfold ct.body nK
  rw[bg]
  by_cases hk:k = k'
  rotate_left
  ·rw[decide_eq_false hk,if_neg hk]; rfl
  rw[decide_eq_true hk,if_pos hk,Bool.not_true,cond_false,xO hd _ _ oa,aa]
  have hla:=iU oa
  have hlb:=iU ob
  obtain⟨r,hr,hq⟩:=ew (body:=fun x:Int × Int × List b9=>ct.b1 (ct.rec n) (unL b) x.1 x.2.1 x.2.2)
   (fun i x=>∃ out,x = ((i:Int),k,unL out) ∧ gk (ke d) a (b.take i) = some out ∧ SA (d + 1) out ∧ out.length ≤ a.length + i ∧ ∀ x ∈ out,x ∈ a ∨ ∃ j,∃ hj:j < b.length,j < i ∧ x.nm = b[j].nm)
   (Q:=fun r=>r = (match gk (ke d) a b with | some t=>((k,t),true) | none=>((0,[]),false))) b.length (x:=(0,k,unL a)) ⟨a,rfl,rfl,ha,by omega,fun x hx=>.inl hx⟩ (fun i hi x hx=>by
    obtain⟨out,rfl,h1,h2,h3,h4⟩:=hx
    have hbi:=List.getElem_mem hi
    have hsp:gk (ke d) a b = (hD (ke d) out b[i]).bind fun o=>gk (ke d) o (b.drop (i + 1)):=by
     conv=>lhs; rw[← List.take_append_drop i b,oX,h1]
     rw[Option.bind_some,List.drop_eq_getElem_cons hi,gk]
    have htk:gk (ke d) a (b.take (i + 1)) = hD (ke d) out b[i]:=by
     rw[take_succ hi,oX,h1,Option.bind_some]
     show (hD (ke d) out b[i]).bind some = _
     cases hD (ke d) out b[i] <;> rfl
    have hst:=Bi (zh d) h2 (hb.2 _ hbi)
    unfold ct.b1
    simp only[fu1,fu2,fx1,fx3]
    rw[bw,ao,decide_eq_true (by omega),cond_true,dy hi,aa]
    dsimp only
    rw[Mq (by omega) h2.1,aa]
    by_cases hp:dE out b[i].nm < out.length ∧ ∃ hp:dE out b[i].nm < out.length,out[dE out b[i].nm].nm = b[i].nm
    ·obtain⟨_,hp,hnm⟩:=hp
     have hhit:Fj out b[i].nm = true:=by unfold Fj; rw[List.getElem?_eq_getElem hp]; exact decide_eq_true hnm
     have hmem:=List.getElem_mem hp
     have hia:out[dE out b[i].nm] ∈ a:=by
      rcases h4 _ hmem with h | ⟨j,hj,hji,e⟩
      ·exact h
      ·have:=DZ hb.1 hj hi (e.symm.trans hnm)
       omega
     have hih:=D4 d n out[dE out b[i].nm].kd out[dE out b[i].nm].fs b[i].kd b[i].fs (ha.2 _ hia) (hb.2 _ hbi) (oa.2 _ hia) (ob.2 _ hbi) (by omega) (by omega)
     rw[hhit,Bool.not_true,cond_false,dy hp,aa,aa]
     dsimp only
     rw[hih,aa]
     have hls:hD (ke d) out b[i] = if out[dE out b[i].nm].kd = b[i].kd then (ke d out[dE out b[i].nm].fs b[i].fs).map fun t=>out.set (dE out b[i].nm) (.mk out[dE out b[i].nm].nm out[dE out b[i].nm].kd t) else none:=by
      unfold hD
      rw[List.getElem?_eq_getElem hp]
      dsimp only
      rw[if_pos hnm]
     have hbad:hD (ke d) out b[i] = none → (nK d out[dE out b[i].nm].kd out[dE out b[i].nm].fs b[i].kd b[i].fs).2 = false → (∃ y,(some (.inr ((0,[]),false)):Option ((Int × Int × List b9) ⊕ (aK × Bool))) = some (.inl y) ∧ ∃ out,y = (((i + 1:Nat):Int),k,unL out) ∧ gk (ke d) a (b.take (i + 1)) = some out ∧ SA (d + 1) out ∧ out.length ≤ a.length + (i + 1) ∧ ∀ x ∈ out,x ∈ a ∨ ∃ j,∃ hj:j < b.length,j < i + 1 ∧ x.nm = b[j].nm) ∨ ∃ r,(some (.inr ((0,[]),false)):Option ((Int × Int × List b9) ⊕ (aK × Bool))) = some (.inr r) ∧ r = (match gk (ke d) a b with | some t=>((k,t),true) | none=>((0,[]),false)):=fun e1 _=>.inr ⟨_,rfl,by rw[hsp,e1]; rfl⟩
     unfold nK at hbad ⊢
     by_cases hkk:out[dE out b[i].nm].kd = b[i].kd
     rotate_left
     ·rw[if_neg hkk] at hls hbad ⊢
      exact hbad hls rfl
     rw[if_pos hkk] at hls hbad ⊢
     cases ht:ke d out[dE out b[i].nm].fs b[i].fs with
     | none =>
      rw[ht] at hls hbad
      exact hbad hls rfl
     | some t =>
      rw[ht] at hls
      dsimp only
      rw[Bool.not_true,cond_false,aB (by omega)]
      simp only[aa]
      have hls:hD (ke d) out b[i] = some (out.set (dE out b[i].nm) (.mk out[dE out b[i].nm].nm out[dE out b[i].nm].kd t)):=hls
      rw[hls] at hst htk
      refine .inl ⟨_,rfl,_,?_,htk,hst.1,by rw[List.length_set]; omega,fun x hx=>?_⟩
      ·rw[Int.toNat_natCast,← Ll]; rfl
      ·rcases List.mem_or_eq_of_mem_set hx with h | rfl
       ·exact (h4 x h).imp id fun⟨j,hj,hji,e⟩=>⟨j,hj,by omega,e⟩
       ·exact .inr ⟨i,hi,by omega,hnm⟩
    ·have hhit:Fj out b[i].nm = false:=by
      unfold Fj
      by_cases h:dE out b[i].nm < out.length
      ·rw[List.getElem?_eq_getElem h]
       exact decide_eq_false fun e=>hp ⟨h,h,e⟩
      ·rw[List.getElem?_eq_none (by omega)]
     have hls:hD (ke d) out b[i] = some (sx out b[i]):=by
      unfold hD
      by_cases h:dE out b[i].nm < out.length
      ·rw[List.getElem?_eq_getElem h]
       dsimp only
       rw[if_neg fun e=>hp ⟨h,h,e⟩]
      ·rw[List.getElem?_eq_none (by omega)]
     rw[hls] at hst htk
     rw[hhit,Bool.not_false,cond_true,vR (d:=d) (by omega) _ _ (ob.2 _ hbi),aa]
     unfold eD
     dsimp only
     rw[Lm out b[i] (by omega),aa,aB (by omega),aa]
     refine .inl ⟨_,rfl,_,rfl,htk,hst.1,by rw[Bh]; omega,fun x hx=>?_⟩
     rcases oW.1 hx with rfl | h
     ·exact .inr ⟨i,hi,by omega,rfl⟩
     ·exact (h4 x h).imp id fun⟨j,hj,hji,e⟩=>⟨j,hj,by omega,e⟩) (fun x hx=>by
    obtain⟨out,rfl,h1,h2,h3,h4⟩:=hx
    rw[List.take_length] at h1
    unfold ct.b1
    simp only[fmu,HC]
    rw[bw,ao,decide_eq_false (by omega),cond_false]
    exact⟨_,rfl,by rw[h1]⟩) (by omega)
  show bO (fun x:Int × Int × List b9=>ct.b1 (ct.rec n) (unL b) x.1 x.2.1 x.2.2) (0,k,unL a) = _
  rw[hr,hq]; rfl
theorem HR {d:Nat} (hd:d ≤ 1000000) (k:Int) (a:List ab) (k':Int) (b:List ab) (ha:SA d a) (hb:SA d b) (oa:okL d a) (ob:okL d b):ct k (unL a) k' (unL b) = some (nK d k a k' b):=D4 d _ k a k' b ha hb oa ob hd (fl hd)
noncomputable def pI (k:Int) (a:List ab) (k':Int) (b:List ab):aK × Bool :=
 if (bG 4 k a && bG 4 k' b) = true then (if (nK 4 k a k' b).2 = true ∧ bG 4 (nK 4 k a k' b).1.1 (nK 4 k a k' b).1.2 = true then ((nK 4 k a k' b).1,true) else ((0,[]),false)) else ((0,[]),false)
noncomputable def pJ (k:Int) (a:List ab) (k':Int) (b:List ab):aK × Bool :=
 if (bG 4 k a && bG 4 k' b) = true then upR k a k' b else ((0,[]),false)
theorem JC (k:Int) (a:List ab) (k':Int) (b:List ab):eb k (unL a) k' (unL b) = some (pI k a k' b):=by
 unfold eb eb.j2 eb.j1 pI
 simp only[fu1,fu2,fx1,fx3]
 rw[fH,fH,aa]
 cases ha:bG 4 k a with
 | false=>rfl
 | true =>
 cases hb:bG 4 k' b with
 | false=>rfl
 | true =>
 simp only[aa,Bool.not_true,cond_false,Bool.and_self,if_true]
 rw[HR (d:=4) (by omega) _ _ _ _ (oV ha) (oV hb) (dp ha) (dp hb),aa,fH]
 simp only[aa]
 cases (nK 4 k a k' b).2 with
 | false=>rfl
 | true =>
  cases bG 4 (nK 4 k a k' b).1.1 (nK 4 k a k' b).1.2 <;> rfl
theorem JD (k:Int) (a:List ab) (k':Int) (b:List ab):eU k (unL a) k' (unL b) = some (pJ k a k' b):=by
 unfold eU eU.j1 pJ
 simp only[fu1,fu2,fx1,fx3]
 rw[fH,fH,aa]
 cases ha:bG 4 k a with
 | false=>rfl
 | true =>
 cases hb:bG 4 k' b with
 | false=>rfl
 | true =>
 simp only[aa,Bool.not_true,cond_false,Bool.and_self,if_true]
 rw[A8 (d:=4) (by omega) _ _ _ _ (dp ha),aa]
end Go.Proofs.YtaocfjifacnokaaGreat
namespace Go.Proofs.YtaocfjifacnokaaGreat
open Go.Lad
theorem mL {α β:Type} (p:α → Bool) (g:α → β):∀ (l:List α) (k:Nat),scan (fun _ x=>if p x = true then some (g x) else none) k l = (l.find? p).map g
 | [],_=>rfl
 | x :: r,k=>by
  unfold scan
  rw[List.find?_cons]
  cases p x with
  | true=>rfl
  | false=>exact mL p g r (k + 1)
theorem lH (l:List ab) (n:Bs) (h:l.length ≤ 1000000):bD (unL l) n = some (eP l n):=by
 unfold bD
 rw[bw,ji (by omega),aa]
 have:=E7 (body:=fun x=>bD.b1 (unL l) n x) l (fun _ f=>if (fun f:ab=>decide (f.nm = n)) f = true then some (((f.kd,f.fs),true):aK × Bool) else none) ((0,[]),false) (fun k hk=>by
  unfold bD.b1
  rw[dk,decide_eq_true (by omega),cond_true,dy hk,aa,gz]
  by_cases h:l[k].nm = n
  ·rw[if_pos h]
   simp only[h,decide_true,if_true]
   rw[aa]
   simp only[fx1]
  ·rw[if_neg h]
   simp only[decide_eq_false h]
   rw[ji (by omega),aa]; rfl) (by
  unfold bD.b1
  rw[dk,decide_eq_false (by omega),cond_false]) (by omega)
 rw[this]
 have e:=mL (fun f:ab=>decide (f.nm = n)) (fun f=>(((f.kd,f.fs),true):aK × Bool)) l.reverse 0
 rw[e]
 unfold eP jj nI
 cases l.reverse.find? (fun f=>decide (f.nm = n)) <;> rfl
theorem vV:∀ (d n:Nat) (k:Int) (al:List ab) (k':Int) (bl:List ab),okL d al → d < n → aV.rec n k (unL al) k' (unL bl) = some (decide (k = k') && eqL al bl)
 | d,0,_,_,_,_,_,h=>absurd h (by omega)
 | d,n + 1,k,al,k',bl,ha,hn=>by
  show aV.body (aV.rec n) k (unL al) k' (unL bl) = _
  unfold aV.body aV.j2
  rw[bg,bg,bw,bw]
  by_cases hk:k = k'
  rotate_left
  ·rw[decide_eq_false hk]; rfl
  rw[decide_eq_true hk,Bool.not_true,cond_false,aa,Bool.true_and]
  by_cases hl:al.length = bl.length
  rotate_left
  ·rw[decide_eq_false (by omega),Bool.not_false,cond_true]
   have:eqL al bl = false:=by rw[Bool.eq_false_iff,Ne,pt]; rintro rfl; exact hl rfl
   rw[this]
  rw[decide_eq_true (by omega),Bool.not_true,cond_false]
  have hlen:=iU ha
  rw[← y9 hl]
  refine gQ al _ (fun i hi=>?_) ?_ (by omega)
  ·unfold aV.b1 aV.j1
   simp only[fu1,fu2]
   have hi2:i < bl.length:=by omega
   rw[bw,ao,decide_eq_true (by omega),cond_true,dy hi,aa,dy hi2,aa,aB (by omega)]
   simp only[List.getElem?_eq_getElem hi2,Option.map_some,Option.getD_some]
   obtain⟨e,he,hok⟩:=mg ha hn (List.getElem_mem hi)
   have hr:=vV e n al[i].kd al[i].fs bl[i].kd bl[i].fs hok he
   simp only[hr,aa]
   by_cases hnm:al[i].nm = bl[i].nm
   ·rw[decide_eq_true hnm,Bool.not_true,cond_false,Bool.true_and,aa]
    exact jJ
   ·rw[decide_eq_false hnm,Bool.not_false,cond_true]; rfl
  ·unfold aV.b1
   rw[bw,ao,decide_eq_false (by omega),cond_false]
theorem Fk (k:Int) (al:List ab) (k':Int) (bl:List ab):eR k (unL al) k' (unL bl) = some (bG 4 k al && (bG 4 k' bl && (decide (k = k') && eqL al bl))):=by
 unfold eR aV
 rw[fv,fv,aa]
 cases ha:bG 4 k al with
 | false=>rfl
 | true =>
  rw[cond_true,aa]
  cases hb:bG 4 k' bl with
  | false=>rfl
  | true=>rw[cond_true,vV 4 _ k al k' bl (dp ha) (fl (by omega))]; rfl
theorem rj {d e:Nat} (hd:d ≤ 1000000) (k:Int) (al:List ab) (k':Int) (bs:List ab) (ha:okL e al) (hb:okL d bs):aF k (unL al) k' (unL bs) = some (decide (k = k') && eK bs al):=by
 have:∀ (d e n:Nat) (k:Int) (al:List ab) (k':Int) (bs:List ab),okL e al → okL d bs → d < n → aF.rec n k (unL al) k' (unL bs) = some (decide (k = k') && eK bs al):=by
  intro d
  induction d using Nat.strongRecOn with
  | _ d ih =>
   intro e n k al k' bs ha hb hn
   cases n with
   | zero=>omega
   | succ n =>
    show aF.body (aF.rec n) k (unL al) k' (unL bs) = _
    unfold aF.body
    rw[bg]
    by_cases hk:k = k'
    rotate_left
    ·rw[decide_eq_false hk]; rfl
    rw[decide_eq_true hk,Bool.not_true,cond_false,Bool.true_and,oQ,← oO (fun f=>kE f al) bs 0]
    have hla:=iU ha
    have hlb:=iU hb
    refine gQ bs _ (fun i hi=>?_) ?_ (by omega)
    ·unfold aF.b1
     simp only[fu1,fu2]
     rw[bw,ao,decide_eq_true (by omega),cond_true,dy hi,aa,lH al _ hla,aa,tK,aa,aB (by omega)]
     unfold eP
     cases hf:jj al bs[i].nm with
     | none=>rfl
     | some g =>
      dsimp only
      obtain⟨d',hd',hok⟩:=mg hb (Nat.lt_succ_self d) (List.getElem_mem hi)
      obtain⟨e',_,hok2⟩:=mg ha (Nat.lt_succ_self e) (ra hf).1
      cases d with
      | zero=>omega
      | succ d =>
       have hr:=ih d (by omega) e' n g.kd g.fs bs[i].kd bs[i].fs hok2 (hb.2 _ (List.getElem_mem hi)) (by omega)
       rw[Bool.not_true,cond_false]
       simp only[fu1,fu2,hr,aa]
       exact jJ
    ·unfold aF.b1
     rw[bw,ao,decide_eq_false (by omega),cond_false]
 exact this d e _ k al k' bs ha hb (fl hd)
theorem JE (k:Int) (al:List ab) (k':Int) (bl:List ab):fg k (unL al) k' (unL bl) = some (bG 4 k al && (bG 4 k' bl && (decide (k = k') && eK bl al))):=by
 unfold fg
 rw[fv,fv,aa]
 cases ha:bG 4 k al with
 | false=>rfl
 | true =>
  rw[cond_true,aa]
  cases hb:bG 4 k' bl with
  | false=>rfl
  | true=>rw[cond_true,rj (d:=4) (e:=4) (by omega) k al k' bl (dp ha) (dp hb)]; rfl
theorem vW:∀ (d e n:Nat) (k:Int) (al:List ab) (k':Int) (bl:List ab),okL d al → okL e bl → d < n → aZ.rec n k (unL al) k' (unL bl) = some (upR k al k' bl)
 | d,e,0,_,_,_,_,_,_,h=>absurd h (by omega)
 | d,e,n + 1,k,al,k',bl,h,hb,hn=>by
  show aZ.body (aZ.rec n) k (unL al) k' (unL bl) = _
  unfold aZ.body upR
  rw[bg]
  by_cases hk:k = k'
  rotate_left
  ·rw[decide_eq_false hk,if_neg hk]; rfl
  rw[decide_eq_true hk,if_pos hk,Bool.not_true,cond_false]
  have hl:=iU h
  have hlb:=iU hb
  exact hU (body:=fun x:Int × Int × List b9=>aZ.b1 (aZ.rec n) (unL al) (unL bl) x.1 x.2.1 x.2.2) (x:=(0,k,[])) (b:=((k,upL al bl),true)) (fun i=>((i:Int),k,unL (upL (al.take i) bl))) al.length (by rw[List.take_zero,upL]; rfl) (fun i hi=>by
   unfold aZ.b1
   simp only[fu1,fu2]
   rw[bw,ao,decide_eq_true (by omega),cond_true,dy hi,aa,lH bl _ hlb,aa,aa]
   obtain⟨d',he,hok⟩:=mg h hn (List.getElem_mem hi)
   have hsm:(upL (al.take i) bl).length ≤ i:=Nat.le_trans (tM _ _) (by rw[List.length_take]; omega)
   have hup:upL [al[i]] bl = upF al[i] bl:=by rw[upL,upL,List.append_nil]
   rw[take_succ hi,zc,hup,zb]
   unfold eP
   cases hf:jj bl al[i].nm with
   | none =>
    dsimp only
    rw[Bool.not_false,cond_true,aB (by omega),aa,List.append_nil]
   | some g =>
    dsimp only
    obtain⟨e',_,hok2⟩:=mg hb (Nat.lt_succ_self e) (ra hf).1
    have hr:=vW d' e' n al[i].kd al[i].fs g.kd g.fs hok hok2 he
    rw[Bool.not_true,cond_false]
    simp only[fu1,fu2,hr,aa]
    unfold upR
    by_cases hkd:al[i].kd = g.kd
    ·rw[if_pos hkd,if_pos hkd]
     dsimp only
     rw[cond_true]
     simp only[fx1]
     rw[gi (by rw[bw]; simp; omega),aa,aB (by omega),aa,iZ,ml]
    ·rw[if_neg hkd,if_neg hkd]
     dsimp only
     rw[cond_false,aB (by omega),aa,List.append_nil]) (by
   unfold aZ.b1
   simp only[ao]
   rw[bw,decide_eq_false (by omega),cond_false,List.take_length]
   simp only[fmu]) (by omega)
theorem xX {d e:Nat} (hd:d ≤ 1000000) (k:Int) (al:List ab) (k':Int) (bl:List ab) (h:okL d al) (hb:okL e bl):aZ k (unL al) k' (unL bl) = some (upR k al k' bl):=vW d e _ k al k' bl h hb (fl hd)
theorem HS (k:Int) (a:List ab) (k':Int) (b:List ab):dK k (unL a) k' (unL b) = some (pJ k a k' b):=by
 unfold dK dK.j1 pJ
 simp only[fu1,fu2,fx1,fx3]
 rw[fv,fv,aa]
 cases ha:bG 4 k a with
 | false=>rfl
 | true =>
 cases hb:bG 4 k' b with
 | false=>rfl
 | true =>
 simp only[aa,Bool.not_true,cond_false,Bool.and_self,if_true]
 rw[xX (d:=4) (e:=4) (by omega) _ _ _ _ (dp ha) (dp hb),aa]
def mrg (F:List ab → List ab → Option (List ab)):List ab → List ab → Option (List ab)
 | [],b=>some b
 | x :: a,[]=>some (x :: a)
 | x :: a,y :: b=>if Op.bytesLess x.nm y.nm = true then (mrg F a (y :: b)).map (x :: ·) else if Op.bytesLess y.nm x.nm = true then (mrg F (x :: a) b).map (y :: ·)
  else if x.kd = y.kd then (F x.fs y.fs).bind fun t=>(mrg F a b).map (ab.mk x.nm x.kd t :: ·) else none
 termination_by a b=>a.length + b.length
def MT (d:Nat) (a b:List ab):Option (List ab) → Prop
 | some t=>SA (d + 1) t ∧ (∀ z ∈ t,∃ w,(w ∈ a ∨ w ∈ b) ∧ z.nm = w.nm) ∧ ∀ c,eK t c = true ↔ (eK a c = true ∧ eK b c = true)
 | none=>∀ c,¬ (eK a c = true ∧ eK b c = true)
theorem fy {f:ab} {r c:List ab}:eK (f :: r) c = true ↔ (kE f c = true ∧ eK r c = true):=by rw[eK,Bool.and_eq_true]
theorem rk {d:Nat} {f:ab} {l:List ab}:SA (d + 1) (f :: l) ↔ (SA d f.fs ∧ (∀ g ∈ l,Op.bytesLess f.nm g.nm = true) ∧ SA (d + 1) l):=by
 constructor
 ·rintro⟨h1,h2⟩
  obtain⟨s1,s2⟩:=vP h1
  exact⟨h2 f List.mem_cons_self,s2,s1,fun g hg=>h2 g (List.mem_cons_of_mem _ hg)⟩
 ·rintro⟨h1,h2,h3,h4⟩
  refine⟨tO.2 (List.pairwise_cons.2 ⟨h2,tO.1 h3⟩),fun g hg=>?_⟩
  rcases List.mem_cons.1 hg with rfl | hg
  ·exact h1
  ·exact h4 g hg
theorem HT {x y:ab} {t:List ab} (hn:x.nm = y.nm) (hk:x.kd = y.kd) (ht:∀ c,eK t c = true ↔ (eK x.fs c = true ∧ eK y.fs c = true)) (c:List ab):kE (.mk x.nm x.kd t) c = true ↔ (kE x c = true ∧ kE y c = true):=by
 rw[gA,gA,gA]
 constructor
 ·rintro⟨g,g1,g2,g3⟩
  obtain⟨q1,q2⟩:=(ht g.fs).1 g3
  exact⟨⟨g,g1,g2,q1⟩,g,by rw[← hn]; exact g1,by rw[← hk]; exact g2,q2⟩
 ·rintro⟨⟨g,g1,g2,g3⟩,g',g1',g2',g3'⟩
  rw[← hn,g1] at g1'
  cases g1'
  exact⟨_,g1,g2,(ht _).2 ⟨g3,g3'⟩⟩
theorem Ln {d:Nat} {F:List ab → List ab → Option (List ab)} (hF:∀ a b,SA d a → SA d b → Fi d a b (fun c=>eK b c = true) (F a b)):∀ (m:Nat) (a b:List ab),a.length + b.length ≤ m → SA (d + 1) a → SA (d + 1) b → MT d a b (mrg F a b):=by
 intro m
 induction m with
 | zero =>
  intro a b h ha hb
  have h1:a = []:=List.length_eq_zero_iff.1 (by omega)
  have h2:b = []:=List.length_eq_zero_iff.1 (by omega)
  subst h1 h2
  rw[mrg]
  exact⟨ha,fun z hz=>⟨z,.inl hz,rfl⟩,fun c=>⟨fun h=>⟨h,h⟩,fun h=>h.1⟩⟩
 | succ m ih =>
  intro a b h ha hb
  cases a with
  | nil =>
   rw[mrg]
   exact⟨hb,fun z hz=>⟨z,.inr hz,rfl⟩,fun c=>⟨fun h=>⟨bn c,h⟩,fun h=>h.2⟩⟩
  | cons x a =>
   cases b with
   | nil =>
    rw[mrg]
    exact⟨ha,fun z hz=>⟨z,.inl hz,rfl⟩,fun c=>⟨fun h=>⟨h,bn c⟩,fun h=>h.1⟩⟩
   | cons y b =>
    rw[List.length_cons,List.length_cons] at h
    obtain⟨x1,x2,x3⟩:=rk.1 ha
    obtain⟨y1,y2,y3⟩:=rk.1 hb
    rw[mrg]
    by_cases h1:Op.bytesLess x.nm y.nm = true
    ·rw[if_pos h1]
     have:=ih a (y :: b) (by rw[List.length_cons]; omega) x3 hb
     cases hm:mrg F a (y :: b) with
     | none =>
      rw[hm] at this
      intro c ⟨q1,q2⟩
      exact this c ⟨(fy.1 q1).2,q2⟩
     | some t =>
      rw[hm] at this
      obtain⟨t1,t2,t3⟩:=this
      refine⟨rk.2 ⟨x1,fun g hg=>?_,t1⟩,fun z hz=>?_,fun c=>?_⟩
      ·obtain⟨w,hw,e⟩:=t2 g hg
       rw[e]
       rcases hw with hw | hw
       ·exact x2 w hw
       ·rcases List.mem_cons.1 hw with rfl | hw
        ·exact h1
        ·exact jk h1 (y2 w hw)
      ·rcases List.mem_cons.1 hz with rfl | hz
       ·exact⟨_,.inl List.mem_cons_self,rfl⟩
       ·obtain⟨w,hw,e⟩:=t2 z hz
        exact⟨w,hw.imp (List.mem_cons_of_mem _) id,e⟩
      ·rw[fy (f:=x),fy (f:=x),t3,and_assoc]
    rw[if_neg h1]
    by_cases h2:Op.bytesLess y.nm x.nm = true
    ·rw[if_pos h2]
     have:=ih (x :: a) b (by rw[List.length_cons]; omega) ha y3
     cases hm:mrg F (x :: a) b with
     | none =>
      rw[hm] at this
      intro c ⟨q1,q2⟩
      exact this c ⟨q1,(fy.1 q2).2⟩
     | some t =>
      rw[hm] at this
      obtain⟨t1,t2,t3⟩:=this
      refine⟨rk.2 ⟨y1,fun g hg=>?_,t1⟩,fun z hz=>?_,fun c=>?_⟩
      ·obtain⟨w,hw,e⟩:=t2 g hg
       rw[e]
       rcases hw with hw | hw
       ·rcases List.mem_cons.1 hw with rfl | hw
        ·exact h2
        ·exact jk h2 (x2 w hw)
       ·exact y2 w hw
      ·rcases List.mem_cons.1 hz with rfl | hz
       ·exact⟨_,.inr List.mem_cons_self,rfl⟩
       ·obtain⟨w,hw,e⟩:=t2 z hz
        exact⟨w,hw.imp id (List.mem_cons_of_mem _),e⟩
      ·rw[fy (f:=y),fy (f:=y),t3]
       exact⟨fun h=>⟨h.2.1,h.1,h.2.2⟩,fun h=>⟨h.2.1,h.1,h.2.2⟩⟩
    rw[if_neg h2]
    have hn:x.nm = y.nm:=Classical.byContradiction fun hne=>(za hne).elim h1 h2
    by_cases hk:x.kd = y.kd
    rotate_left
    ·rw[if_neg hk]
     intro c ⟨q1,q2⟩
     obtain⟨g,g1,g2,_⟩:=gA.1 (fy.1 q1).1
     obtain⟨g',g1',g2',_⟩:=gA.1 (fy.1 q2).1
     rw[← hn,g1] at g1'
     cases g1'
     exact hk (g2.symm.trans g2')
    rw[if_pos hk]
    have hf:=hF x.fs y.fs x1 y1
    cases hft:F x.fs y.fs with
    | none =>
     rw[hft] at hf
     intro c ⟨q1,q2⟩
     obtain⟨g,g1,g2,g3⟩:=gA.1 (fy.1 q1).1
     obtain⟨g',g1',g2',g3'⟩:=gA.1 (fy.1 q2).1
     rw[← hn,g1] at g1'
     cases g1'
     exact hf _ ⟨g3,g3'⟩
    | some t =>
     rw[hft] at hf
     obtain⟨f1,_,f3⟩:=hf
     rw[Option.bind_some]
     have:=ih a b (by omega) x3 y3
     cases hm:mrg F a b with
     | none =>
      rw[hm] at this
      intro c ⟨q1,q2⟩
      exact this c ⟨(fy.1 q1).2,(fy.1 q2).2⟩
     | some r =>
      rw[hm] at this
      obtain⟨t1,t2,t3⟩:=this
      refine⟨rk.2 ⟨f1,fun g hg=>?_,t1⟩,fun z hz=>?_,fun c=>?_⟩
      ·obtain⟨w,hw,e⟩:=t2 g hg
       rw[e]
       rcases hw with hw | hw
       ·exact x2 w hw
       ·show Op.bytesLess x.nm w.nm = true
        rw[hn]; exact y2 w hw
      ·rcases List.mem_cons.1 hz with rfl | hz
       ·exact⟨_,.inl List.mem_cons_self,rfl⟩
       ·obtain⟨w,hw,e⟩:=t2 z hz
        exact⟨w,hw.imp (List.mem_cons_of_mem _) (List.mem_cons_of_mem _),e⟩
      ·rw[fy,t3,fy,fy,HT hn hk f3]
       exact⟨fun h=>⟨⟨h.1.1,h.2.1⟩,h.1.2,h.2.2⟩,fun h=>⟨⟨h.1.1,h.2.1⟩,h.1.2,h.2.2⟩⟩
theorem D5:∀ {d:Nat} {al bl:List ab},SA d al → SA d bl → eK bl al = true → eK al bl = true → al = bl
 | 0,al,bl,ha,hb,_,_=>by
  have ha:al = []:=ha
  have hb:bl = []:=hb
  rw[ha,hb]
 | d + 1,al,bl,ha,hb,h1,h2=>by
  have key:∀ {al bl:List ab},SA (d + 1) al → SA (d + 1) bl → eK bl al = true → eK al bl = true → ∀ f ∈ al,f ∈ bl:=by
   intro al bl ha hb h1 h2 f hf
   obtain⟨g,g1,g2,g3⟩:=vO.1 h2 f hf
   obtain⟨hg,hn⟩:=ra g1
   obtain⟨f',f1,f2,f3⟩:=vO.1 h1 g hg
   have hff:jj al g.nm = some f:=by rw[hn]; exact xN ha.1 hf
   rw[hff] at f1
   injection f1 with f1
   subst f1
   have he:=D5 (hb.2 g hg) (ha.2 f hf) g3 f3
   have:f = g:=by rw[← ab.eta f,← ab.eta g,hn,g2,he]
   rw[this]; exact hg
  exact D0 ha.1 hb.1 fun f=>⟨key ha hb h1 h2 f,key hb ha h2 h1 f⟩
theorem JF {d:Nat} {a b:List ab} (ha:SA (d + 1) a) (hb:SA (d + 1) b):mrg (ke d) a b = ke (d + 1) a b:=by
 have h1:=Ln (zh d) _ a b (Nat.le_refl _) ha hb
 have h2:=zh (d + 1) a b ha hb
 cases e1:mrg (ke d) a b with
 | none =>
  cases e2:ke (d + 1) a b with
  | none=>rfl
  | some t =>
   rw[e1] at h1
   rw[e2] at h2
   exact (h1 t ((h2.2.2 t).1 (rh h2.1))).elim
 | some r =>
  rw[e1] at h1
  cases e2:ke (d + 1) a b with
  | none =>
   rw[e2] at h2
   exact (h2 r ((h1.2.2 r).1 (rh h1.1))).elim
  | some t =>
   rw[e2] at h2
   have q1:=(h1.2.2 t).2 ((h2.2.2 t).1 (rh h2.1))
   have q2:=(h2.2.2 r).2 ((h1.2.2 r).1 (rh h1.1))
   rw[D5 h1.1 h2.1 q2 q1]
def HU (k:Int) (o:Option (List ab)):aK × Bool:=match o with | some t=>((k,t),true) | none=>((0,[]),false)
theorem D6 (F:List ab → List ab → Option (List ab)) (a:List ab):mrg F a [] = some a:=by
 cases a with
 | nil=>rw[mrg]
 | cons x a=>rw[mrg]
theorem zi (o:Option (List ab)) (out:List ab) (f:ab):(o.map (f :: ·)).map (out ++ ·) = o.map ((out ++ [f]) ++ ·):=by
 cases o with
 | none=>rfl
 | some t=>simp
theorem xY {Gr:Int → List b9 → Int → List b9 → Option (aK × Bool)} {F:List ab → List ab → Option (List ab)} {k:Int} {a b:List ab} (hla:a.length ≤ 1000000) (hlb:b.length ≤ 1000000)
  (hG:∀ x ∈ a,∀ y ∈ b,Gr x.kd (unL x.fs) y.kd (unL y.fs) = some (if x.kd = y.kd then HU x.kd (F x.fs y.fs) else ((0,[]),false))) :
  bO (fun x:Int × Int × Int × List b9=>aA.b1 Gr (unL a) (unL b) x.1 x.2.1 x.2.2.1 x.2.2.2) (0,0,k,[]) = some (HU k (mrg F a b)):=by
 obtain⟨r,hr,hq⟩:=vU (body:=fun x:Int × Int × Int × List b9=>aA.b1 Gr (unL a) (unL b) x.1 x.2.1 x.2.2.1 x.2.2.2) (x:=(0,0,k,[]))
  (fun x=>∃ (i j:Nat) (out:List ab),x = ((i:Int),(j:Int),k,unL out) ∧ i ≤ a.length ∧ j ≤ b.length ∧ out.length ≤ i + j ∧ (mrg F (a.drop i) (b.drop j)).map (out ++ ·) = mrg F a b)
  (fun x=>2000000 - x.1.toNat - x.2.1.toNat) (Q:=fun r=>r = HU k (mrg F a b))
  ⟨0,0,[],rfl,by omega,by omega,by simp,by rw[List.drop_zero,List.drop_zero]; cases mrg F a b <;> rfl⟩ (fun x hx=>by
   obtain⟨i,j,out,rfl,hi,hj,ho,hm⟩:=hx
   dsimp only
   unfold aA.b1 aA.j3
   rw[bw,bw,ao,ao,dk]
   by_cases hia:i < a.length
   ·rw[decide_eq_true (show (i:Int) < (a.length:Int) by omega),cond_true,aa,cond_true,cond_true,dy hia]
    by_cases hjb:j < b.length
    ·rw[decide_eq_false (show ¬ (b.length:Int) ≤ (j:Int) by omega),cond_false,dy hjb,aa,aa,aa]
     rw[List.drop_eq_getElem_cons hia,List.drop_eq_getElem_cons hjb,mrg] at hm
     unfold aA.j2
     dsimp only
     by_cases h1:Op.bytesLess a[i].nm b[j].nm = true
     ·rw[h1,cond_true,dy hia,aa]
      simp only[fx1,fx2]
      rw[gi (by rw[bw]; simp; omega),aa,aB (by omega),aa]
      rw[if_pos h1,zi] at hm
      refine .inl ⟨_,rfl,⟨i + 1,j,out ++ [a[i]],by rw[iZ,ri],by omega,hj,by simp; omega,by rw[List.drop_eq_getElem_cons hjb]; exact hm⟩,by simp only; omega⟩
     rw[if_neg h1] at hm
     rw[Bool.not_eq_true] at h1
     rw[h1,cond_false,bw,dk,decide_eq_false (show ¬ (a.length:Int) ≤ (i:Int) by omega),cond_false,dy hjb,aa,dy hia,aa,aa]
     unfold aA.j1
     dsimp only
     by_cases h2:Op.bytesLess b[j].nm a[i].nm = true
     ·rw[h2,cond_true,dy hjb,aa]
      simp only[fx1,fx2]
      rw[gi (by rw[bw]; simp; omega),aa,aB (by omega),aa]
      rw[if_pos h2,zi] at hm
      refine .inl ⟨_,rfl,⟨i,j + 1,out ++ [b[j]],by rw[iZ,ri],hi,by omega,by simp; omega,by rw[List.drop_eq_getElem_cons hia]; exact hm⟩,by simp only; omega⟩
     rw[if_neg h2] at hm
     rw[Bool.not_eq_true] at h2
     rw[h2,cond_false,dy hia,aa,dy hjb,aa]
     simp only[fu1,fu2]
     rw[hG _ (List.getElem_mem hia) _ (List.getElem_mem hjb),aa]
     by_cases hk:a[i].kd = b[j].kd
     rotate_left
     ·rw[if_neg hk] at hm ⊢
      exact .inr ⟨_,rfl,by rw[← hm]; rfl⟩
     rw[if_pos hk] at hm ⊢
     cases hf:F a[i].fs b[j].fs with
     | none =>
      rw[hf] at hm
      exact .inr ⟨_,rfl,by rw[← hm]; rfl⟩
     | some t =>
      rw[hf,Option.bind_some,zi] at hm
      unfold HU
      dsimp only
      rw[Bool.not_true,cond_false,aa]
      simp only[fx1,fx2]
      rw[gi (by rw[bw]; simp; omega),aa,aB (by omega),aa,aB (by omega),aa]
      exact .inl ⟨_,rfl,⟨i + 1,j + 1,out ++ [.mk a[i].nm a[i].kd t],by rw[iZ,ml],by omega,by omega,by simp; omega,hm⟩,by simp only; omega⟩
    ·have hje:j = b.length:=by omega
     subst hje
     rw[decide_eq_true (Int.le_refl _),cond_true,aa]
     unfold aA.j2
     rw[cond_true,dy hia,aa]
     simp only[fx1,fx2]
     rw[gi (by rw[bw]; simp; omega),aa,aB (by omega),aa]
     rw[List.drop_length,D6,List.drop_eq_getElem_cons hia] at hm
     refine .inl ⟨_,rfl,⟨i + 1,b.length,out ++ [a[i]],by rw[iZ,ri],by omega,by omega,by simp; omega,by rw[List.drop_length,D6,← hm]; simp⟩,by simp only; omega⟩
   ·have hie:i = a.length:=by omega
    subst hie
    rw[decide_eq_false (show ¬ (a.length:Int) < (a.length:Int) by omega),cond_false,aa]
    rw[List.drop_length,mrg] at hm
    by_cases hjb:j < b.length
    ·rw[decide_eq_true (show (j:Int) < (b.length:Int) by omega),cond_true,decide_eq_false (show ¬ (b.length:Int) ≤ (j:Int) by omega),cond_false,cond_false,aa]
     unfold aA.j2
     rw[cond_false,bw,dk,decide_eq_true (Int.le_refl _),cond_true,aa]
     unfold aA.j1
     rw[cond_true,dy hjb,aa]
     simp only[fx1,fx2]
     rw[gi (by rw[bw]; simp; omega),aa,aB (by omega),aa]
     rw[List.drop_eq_getElem_cons hjb] at hm
     refine .inl ⟨_,rfl,⟨a.length,j + 1,out ++ [b[j]],by rw[iZ,ri],by omega,by omega,by simp; omega,by rw[List.drop_length,mrg,← hm]; simp⟩,by simp only; omega⟩
    ·have hje:j = b.length:=by omega
     subst hje
     rw[decide_eq_false (show ¬ (b.length:Int) < (b.length:Int) by omega),cond_false]
     simp only[fmu,HC]
     rw[List.drop_length] at hm
     exact .inr ⟨_,rfl,by rw[← hm]; simp [HU]⟩) (by simp only; omega)
 rw[hr,hq]
theorem vX:∀ (d n:Nat) (k:Int) (a:List ab) (k':Int) (b:List ab),SA d a → SA d b → okL d a → okL d b → d < n → aA.rec n k (unL a) k' (unL b) = some (nK d k a k' b)
 | d,0,_,_,_,_,_,_,_,_,h=>absurd h (by omega)
 | 0,n + 1,k,a,k',b,ha,hb,oa,ob,_=>by
  have ha:a = []:=ha
  have hb:b = []:=hb
  subst ha hb
  show aA.body (aA.rec n) k (unL []) k' (unL []) = _
  unfold aA.body nK
  rw[bg]
  by_cases hk:k = k'
  ·rw[decide_eq_true hk,if_pos hk,Bool.not_true,cond_false,xY (F:=ke 0) (by simp) (by simp) (fun x hx=>by cases hx),mrg]; rfl
  ·rw[decide_eq_false hk,if_neg hk]; rfl
 | d + 1,n + 1,k,a,k',b,ha,hb,oa,ob,hn=>by
  show aA.body (aA.rec n) k (unL a) k' (unL b) = _
  unfold aA.body nK
  rw[bg]
  by_cases hk:k = k'
  rotate_left
  ·rw[decide_eq_false hk,if_neg hk]; rfl
  rw[decide_eq_true hk,if_pos hk,Bool.not_true,cond_false,xY (F:=ke d) (iU oa) (iU ob) (fun x hx y hy=>?_),JF ha hb]
  ·rfl
  ·exact vX d n x.kd x.fs y.kd y.fs (ha.2 x hx) (hb.2 y hy) (oa.2 x hx) (ob.2 y hy) (by omega)
theorem HV (k:Int) (a:List ab) (k':Int) (b:List ab):dj k (unL a) k' (unL b) = some (pI k a k' b):=by
 unfold dj dj.j2 dj.j1 aA pI
 simp only[fu1,fu2,fx1,fx3]
 rw[fv,fv,aa]
 cases ha:bG 4 k a with
 | false=>rfl
 | true =>
 cases hb:bG 4 k' b with
 | false=>rfl
 | true =>
 simp only[aa,Bool.not_true,cond_false,Bool.and_self,if_true]
 rw[vX 4 _ k a k' b (oV ha) (oV hb) (dp ha) (dp hb) (fl (by omega)),aa,fv]
 simp only[aa]
 cases (nK 4 k a k' b).2 with
 | false=>rfl
 | true =>
  cases bG 4 (nK 4 k a k' b).1.1 (nK 4 k a k' b).1.2 <;> rfl
end Go.Proofs.YtaocfjifacnokaaGreat
