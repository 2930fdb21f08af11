import Derived.Test.YtaocfjifacnokaaGreatPZ1
set_option linter.unusedVariables false
set_option linter.unusedSimpArgs false
set_option linter.unusedSectionVars false
namespace Go.Lad
def cN.op:cN → Int
 | .mk o _ _ _ _ _=>o
def cN.n:cN → Int
 | .mk _ n _ _ _ _=>n
def cN.s:cN → Bs
 | .mk _ _ s _ _ _=>s
def cN.m:cN → Bs
 | .mk _ _ _ m _ _=>m
def cN.names:cN → List Bs
 | .mk _ _ _ _ ns _=>ns
def cN.args:cN → List cN
 | .mk _ _ _ _ _ l=>l
end Go.Lad
namespace Go.Proofs.YtaocfjifacnokaaGreat
open Go.Lad
def unE (l:List cN):List dS:=List.map (α:=cN) (β:=dS) (Uun 1) l
def mkE (l:List dS):List cN:=List.map (α:=dS) (β:=cN) (Umk 1) l
theorem fe1 (l:List cN):@List.map (UD 1) dS (Uun 1) l = unE l:=rfl
theorem fe2 (l:List cN):@List.map cN dS (Uun 1) l = unE l:=rfl
theorem zj:∀ (l:List cN),mkE (unE l) = l
 | []=>rfl
 | x :: r=>congr (congrArg List.cons (GH 1 x)) (zj r)
theorem Mr (l:List cN):@List.map (eH 1).den cN (Umk 1) (@List.map (UD 1) (eH 1).den (Uun 1) l) = l:=zj l
theorem fme (l:List cN):@List.map (eH 1).den cN (Umk 1) (unE l) = l:=zj l
theorem MU (l:List cN):@List.map dS cN (Umk 1) (unE l) = l:=zj l
def kf (e:cN):dS:=(e.op,e.n,e.s,e.m,e.names,e.args)
theorem MV (e:cN):(Uun 1 e:dS) = kf e:=by cases e; rfl
theorem dR (l:List cN):(unE l).length = l.length:=List.length_map _
theorem gl {l:List cN} {k:Nat} (h:k < l.length):idx (unE l) (k:Int) = some (kf l[k]):=by
 rw[cR (by rw[dR]; exact h)]
 exact congrArg some ((List.getElem_map (α:=cN) (β:=dS) (Uun 1)).trans (MV _))
def eL (l:List cN) (i:Nat):cN:=l.getD i (.mk 0 0 [] [] [] [])
theorem kF {l:List cN} {i:Nat} (h:i < l.length):eL l i = l[i]:=by unfold eL; rw[List.getD_eq_getElem?_getD,List.getElem?_eq_getElem h]; rfl
theorem Bk {l:List cN} {k:Nat} (h:k < l.length):idx (unE l) (k:Int) = some (kf (eL l k)):=by rw[gl h,kF h]
theorem mM {l:List cN} (h:0 < l.length):idx (unE l) 0 = some (kf (eL l 0)):=Bk (k:=0) h
theorem vY {l:List cN} (h:1 < l.length):idx (unE l) 1 = some (kf (eL l 1)):=Bk (k:=1) h
structure Cx where
 vars:List ab
 funcs:List fW
 iz:List Bs
 look:Bs → Option bH
def iw (C:Cx) (s m:Bs):Option gD :=
 if m = [] then (C.funcs.find? fun f=>decide (f.1 = s)).map fun f=>([],f.2.2.1.map (fun p=>(p.kd,p.fs)),f.2.2.2.1,f.2.2.2.2.1)
 else match C.look m with
  | some face=>match face.2.find? fun g=>decide (g.1 = s) with
   | some g=>if (C.iz.any fun u=>decide (m = u)) = true then some g else none
   | none=>none
  | none=>none
abbrev FR:Type:=aK × Int × Int
def bQ (F:Int → cN → FR):Int → List cN → List aK × Int × Int
 | eff,[]=>([],0,eff)
 | eff,a :: r=>if (F eff a).2.1 = 0 then (if (bQ F (F eff a).2.2 r).2.1 = 0 then ((F eff a).1 :: (bQ F (F eff a).2.2 r).1,0,(bQ F (F eff a).2.2 r).2.2) else ([],(bQ F (F eff a).2.2 r).2.1,(bQ F (F eff a).2.2 r).2.2)) else ([],(F eff a).2.1,(F eff a).2.2)
def lO (t u:aK):Bool:=decide (t.1 = u.1) && eK u.2 t.2
def Fl (C:Cx) (F:Int → cN → FR) (eff:Int) (e:cN):FR :=
 if (eP C.vars e.s).2 = true then
  (if e.op = 18 then
   (if (F eff (eL e.args 0)).2.1 = 0 then (if lO (F eff (eL e.args 0)).1 (eP C.vars e.s).1 = true then ((eP C.vars e.s).1,0,(F eff (eL e.args 0)).2.2) else ((0,[]),13,(F eff (eL e.args 0)).2.2))
    else ((0,[]),(F eff (eL e.args 0)).2.1,(F eff (eL e.args 0)).2.2))
   else ((eP C.vars e.s).1,0,eff))
 else ((0,[]),12,eff)
def HW (l ps:List aK):Bool:=allI (fun k x=>lO x (gT ps k)) 0 l
def xZ (C:Cx) (F:Int → cN → FR) (eff:Int) (e:cN):FR :=
 match iw C e.s e.m with
 | none=>((0,[]),12,eff)
 | some g=>if g.2.1.length = e.args.length then
   (if (bQ F eff e.args).2.1 = 0 then (if HW (bQ F eff e.args).1 g.2.1 = true then (g.2.2.1,0,orI .i64 (bQ F eff e.args).2.2 g.2.2.2) else ((0,[]),13,(bQ F eff e.args).2.2))
    else ((0,[]),(bQ F eff e.args).2.1,(bQ F eff e.args).2.2))
  else ((0,[]),13,eff)
def x6 (F:Int → cN → FR) (eff:Int) (e:cN):FR :=
 if (bQ F eff e.args).2.1 = 0 then ((qb e.op e.s e.names (bQ F eff e.args).1).1,(qb e.op e.s e.names (bQ F eff e.args).1).2,if e.op = 16 then orI .i64 (bQ F eff e.args).2.2 e.n else (bQ F eff e.args).2.2)
 else ((0,[]),(bQ F eff e.args).2.1,(bQ F eff e.args).2.2)
def Fm (F:List ab → Int → cN → FR) (L:List ab) (eff:Int) (e:cN):FR :=
 if (F L eff (eL e.args 0)).2.1 = 0 then F (L ++ [.mk e.s (F L eff (eL e.args 0)).1.1 (F L eff (eL e.args 0)).1.2]) (F L eff (eL e.args 0)).2.2 (eL e.args 1)
 else ((0,[]),(F L eff (eL e.args 0)).2.1,(F L eff (eL e.args 0)).2.2)
def br (C:Cx):Nat → List ab → Int → cN → FR
 | 0,_,eff,_=>((0,[]),0,eff)
 | d + 1,L,eff,e =>
  if e.op = 2 then (if (eP L e.s).2 = true then ((eP L e.s).1,0,eff) else ((0,[]),12,eff))
  else if e.op = 12 then Fm (br C d) L eff e
  else if e.op = 17 ∨ e.op = 18 then Fl C (br C d L) eff e
  else if e.op = 15 then xZ C (br C d L) eff e
  else x6 (br C d L) eff e
def okE:Nat → cN → Prop
 | 0,_=>False
 | d + 1,e=>e.args.length ≤ 1000 ∧ (e.op = 12 → e.args.length = 2) ∧ (e.op = 18 → 0 < e.args.length) ∧ (e.op = 11 → e.args.length = 3) ∧ (e.op = 14 → 0 < e.args.length) ∧ (e.op = 13 → e.names.length = e.args.length) ∧ ∀ a ∈ e.args,okE d a
structure OkC (C:Cx):Prop where
 vars:∀ f ∈ C.vars,okL 4 f.fs
 JQ:C.funcs.length ≤ 1000
 funcs:∀ f ∈ C.funcs,f.2.2.1.length ≤ 1000 ∧ (∀ p ∈ f.2.2.1,okL 4 p.fs) ∧ okL 4 f.2.2.2.1.2
 JR:C.iz.length ≤ 1000
 look:∀ m face,C.look m = some face → face.2.length ≤ 1000 ∧ ∀ g ∈ face.2,(∀ t ∈ g.2.1,okL 4 t.2) ∧ okL 4 g.2.2.1.2
theorem nL {C:Cx} (h:OkC C) {s m:Bs} {g:gD} (hg:iw C s m = some g):(∀ t ∈ g.2.1,okL 4 t.2) ∧ okL 4 g.2.2.1.2:=by
 unfold iw at hg
 split at hg
 ·rw[Option.map_eq_some_iff] at hg
  obtain⟨f,hf,rfl⟩:=hg
  obtain⟨_,h2,h3⟩:=h.funcs f (List.mem_of_find?_eq_some hf)
  refine⟨fun t ht=>?_,h3⟩
  obtain⟨p,hp,rfl⟩:=List.mem_map.1 ht
  exact h2 p hp
 ·split at hg
  ·rename_i face hl
   split at hg
   ·rename_i g' hf
    split at hg
    ·injection hg with hg
     subst hg
     exact (h.look _ _ hl).2 _ (List.mem_of_find?_eq_some hf)
    ·cases hg
   ·cases hg
  ·cases hg
theorem lP {d:Nat} {l:List ab} (h:∀ f ∈ l,okL d f.fs) (n:Bs):okL d (eP l n).1.2:=by
 unfold eP
 cases hf:jj l n with
 | none=>exact ey d
 | some f=>exact h f (ra hf).1
theorem ln {F:Int → cN → FR} {P:aK → Prop}:∀ (l:List cN) (eff:Int),(∀ eff,∀ a ∈ l,P (F eff a).1) → ∀ t ∈ (bQ F eff l).1,P t
 | [],eff,_,t,ht=>by cases ht
 | a :: r,eff,h,t,ht=>by
  unfold bQ at ht
  split at ht
  ·split at ht
   ·rcases List.mem_cons.1 ht with rfl | ht
    ·exact h eff a List.mem_cons_self
    ·exact ln r _ (fun eff a ha=>h eff a (List.mem_cons_of_mem _ ha)) t ht
   ·cases ht
  ·cases ht
theorem jw {F:Int → cN → FR}:∀ (l:List cN) (eff:Int),(bQ F eff l).2.1 = 0 → (bQ F eff l).1.length = l.length
 | [],eff,_=>rfl
 | a :: r,eff,h=>by
  unfold bQ at h ⊢
  split
  ·rename_i h1
   rw[if_pos h1] at h
   split
   ·rename_i h2
    rw[List.length_cons,List.length_cons,jw r _ h2]
   ·rename_i h2
    rw[if_neg h2] at h
    exact absurd h h2
  ·rename_i h1
   rw[if_neg h1] at h
   exact absurd h h1
theorem Fo {q:Nat} {o:Int} {s:Bs} {ns:List Bs} {l:List aK} (hl:l.length ≤ 1000000) (h:∀ t ∈ l,okL q t.2):okL (q + 1) (qb o s ns l).1.2:=by
 have hg:∀ i,okL q (gT l i).2:=fun i=>by
  unfold gT
  rw[List.getD_eq_getElem?_getD]
  cases hi:l[i]? with
  | none=>exact ey q
  | some t=>exact h t (List.mem_of_getElem? hi)
 have key:okL (q + 1) (nJ o s ns l).2.2:=by
  unfold nJ
  split
  ·exact ey _
  split
  ·exact ey _
  split
  ·exact ey _
  split
  ·exact ey _
  split
  ·exact ey _
  split
  ·show okL (q + 1) (upR _ _ _ _).1.2
   unfold upR
   split
   ·exact zd _ _ (oP (hg 1))
   ·exact ey _
  split
  ·refine⟨Nat.le_trans (rb _ _) hl,fun f hf=>?_⟩
   obtain⟨t,ht,_,e⟩:=Ba hf
   rw[e]; exact h t ht
  split
  ·show okL (q + 1) (eP _ _).1.2
   refine lP (fun f hf=>?_) _
   cases q with
   | zero =>
    have h0:(gT l 0).2 = []:=hg 0
    rw[h0] at hf; cases hf
   | succ q=>exact oP (oP ((hg 0).2 f hf))
  ·exact ey _
 unfold qb
 split
 ·exact key
 ·exact ey _
theorem rm (d:Nat):1 ≤ 2 ^ d:=Nat.one_le_two_pow
theorem mN {C:Cx} (hC:OkC C):∀ (d:Nat) (q:Nat) (L:List ab) (eff:Int) (e:cN),4 ≤ q → okE d e → (∀ f ∈ L,okL q f.fs) → okL (q + 2 ^ d) (br C d L eff e).1.2
 | 0,_,_,_,_,_,h,_=>h.elim
 | d + 1,q,L,eff,e,hq,he,hL=>by
  have hp:2 ^ (d + 1) = 2 ^ d + 2 ^ d:=by rw[Nat.pow_succ]; omega
  have h1:=rm d
  obtain⟨a0,a1,a2,a3,a4,a5,a6⟩:=he
  have hla:∀ eff,∀ a ∈ e.args,okL (q + 2 ^ d) (br C d L eff a).1.2:=fun eff a ha=>mN hC d q L eff a hq (a6 a ha) hL
  unfold br
  split
  ·split
   ·exact lL (by omega) (lP hL _)
   ·exact ey _
  split
  ·rename_i h12
   have hl2:=a1 h12
   have e0:eL e.args 0 ∈ e.args:=by rw[kF (by omega)]; exact List.getElem_mem _
   have e1:eL e.args 1 ∈ e.args:=by rw[kF (by omega)]; exact List.getElem_mem _
   unfold Fm
   split
   ·refine lL (show (q + 2 ^ d) + 2 ^ d ≤ _ by omega) (mN hC d (q + 2 ^ d) _ _ _ (by omega) (a6 _ e1) fun f hf=>?_)
    rcases List.mem_append.1 hf with hf | hf
    ·exact lL (by omega) (hL f hf)
    ·rw[List.mem_singleton] at hf
     subst hf
     exact hla eff _ e0
   ·exact ey _
  split
  ·unfold Fl
   split
   ·split
    ·split
     ·split
      ·exact lL (by omega) (lP hC.vars _)
      ·exact ey _
     ·exact ey _
    ·exact lL (by omega) (lP hC.vars _)
   ·exact ey _
  split
  ·unfold xZ
   split
   ·exact ey _
   ·rename_i g hg
    split
    ·split
     ·split
      ·exact lL (by omega) (nL hC hg).2
      ·exact ey _
     ·exact ey _
    ·exact ey _
  ·unfold x6
   split
   ·rename_i h0
    refine lL (show q + 2 ^ d + 1 ≤ _ by omega) (Fo (by rw[jw _ _ h0]; omega) fun t ht=>ln (P:=fun t=>okL (q + 2 ^ d) t.2) _ _ hla t ht)
   ·exact ey _
theorem mO {α β:Type} (t:Nat → α → Bool) (b:β):∀ (l:List α) (k:Nat),scan (fun k x=>if t k x = true then none else some b) k l = if allI t k l = true then none else some b
 | [],_=>rfl
 | x :: r,k=>by
  unfold scan allI
  cases t k x with
  | true=>simpa using mO t b r (k + 1)
  | false=>simp
theorem Bl (L:List ab) (h:L.length ≤ 1000000):bK (unL L) = some (unL L):=by
 unfold bK
 refine CN ?_ fun e=>by rw[e]
 rw[gi (by rw[bw]; simp; omega)]; rfl
theorem vZ (s1:List fW) (p2 p3:Int) (p4 p5:Bs) (p6:List Bs) (p7:List dS) (h:s1.length ≤ 1000):aH s1 p2 p3 p4 p5 p6 p7 = some (lZ (fun f=>decide (f.1 = p4)) 0 s1):=by
 unfold aH
 refine lN s1 _ (fun i hi=>?_) ?_ (by omega)
 ·unfold aH.b1 ed
  rw[ao,decide_eq_true (by omega),cond_true,cR hi,aa,aa,aB (by omega)]
  cases decide (s1[i].1 = p4) <;> rfl
 ·unfold aH.b1
  rw[ao,decide_eq_false (by omega),cond_false]
theorem zk (s1:List gD) (p2 p3:Int) (p4 p5:Bs) (p6:List Bs) (p7:List dS) (h:s1.length ≤ 1000):aQ s1 p2 p3 p4 p5 p6 p7 = some (lZ (fun f=>decide (f.1 = p4)) 0 s1):=by
 unfold aQ
 refine lN s1 _ (fun i hi=>?_) ?_ (by omega)
 ·unfold aQ.b1 ef
  rw[ao,decide_eq_true (by omega),cond_true,cR hi,aa,aa,aB (by omega)]
  cases decide (s1[i].1 = p4) <;> rfl
 ·unfold aQ.b1
  rw[ao,decide_eq_false (by omega),cond_false]
theorem Bm (l:List Bs) (s:Bs) (h:l.length ≤ 1000):bZ l s = some (l.any fun u=>decide (s = u)):=by
 unfold bZ cG
 rw[lN l (fun u=>decide (s = u)) (fun i hi=>by
  unfold cG.b1
  rw[ao,decide_eq_true (by omega),cond_true,cR hi,aa,aB (by omega)]
  cases decide (s = l[i]) <;> rfl) (by
  unfold cG.b1
  rw[ao,decide_eq_false (by omega),cond_false]) (by omega),aa,dk,jK]
theorem JG (l:List ab):(@List.map (UD 0) (eH 0).den (Uun 0) l).length = l.length:=List.length_map _
theorem Ms {l:List ab} {k:Nat} (h:k < l.length):@idx (eH 0).den (@List.map (UD 0) (eH 0).den (Uun 0) l) (k:Int) = @some (eH 0).den (l[k].nm,l[k].kd,l[k].fs):=dy h
def HX (o:Option gD):gD × Bool:=match o with | some g=>(g,true) | none=>((([]:Bs),[],(0,[]),0),false)
theorem Fp {C:Cx} (hC:OkC C) (faces:List (Bs × bH)) (hf:C.look = cD faces) (e1 e2:Int) (e3 e4:Bs) (e5:List Bs) (e6:List dS) (nm:Bs) (j10:List dS) (j12:Bool) (j13:List b9) (j14 j15:List dS) (j16:Int) :
  cf e1 e2 e3 e4 e5 e6 nm C.iz (unL C.vars) j10 C.funcs j12 j13 j14 j15 j16 faces = some (HX (iw C e3 e4)):=by
 unfold cf iw
 by_cases hm:e4 = []
 ·rw[decide_eq_true hm,cond_true,if_pos hm,vZ _ _ _ _ _ _ _ hC.JQ,aa,ao]
  by_cases hi:lZ (fun f:fW=>decide (f.1 = e3)) 0 C.funcs < 0
  ·rw[decide_eq_true hi,cond_true,aa,mJ _ _ 0,if_pos hi]; rfl
  ·rw[decide_eq_false hi,cond_false,A9 hi]
   cases hg:C.funcs.find? fun f:fW=>decide (f.1 = e3) with
   | none =>
    have:=mJ (fun f:fW=>decide (f.1 = e3)) C.funcs 0
    rw[hg,if_neg hi] at this
    have hge:=jK (fun f:fW=>decide (f.1 = e3)) C.funcs 0
    rw[decide_eq_true (by omega)] at hge
    obtain⟨f,hf1,hf2⟩:=List.any_eq_true.1 hge.symm
    have:=List.find?_eq_none.1 hg f hf1
    exact absurd hf2 this
   | some f =>
    obtain⟨h1,_,_⟩:=hC.funcs f (List.mem_of_find?_eq_some hg)
    rw[aa]
    simp only[fu1,fu2]
    have hl:=hU (body:=fun x:Int × Bs × Int × List b9 × Int × List aK=>cf.b1 f x.1 x.2.1 x.2.2.1 x.2.2.2.1 x.2.2.2.2.1 x.2.2.2.2.2) (x:=(0,([]:Bs),f.2.2.2.1.1,unL f.2.2.2.1.2,f.2.2.2.2.1,[])) (b := .inr ((([]:Bs),f.2.2.1.map (fun p=>(p.kd,p.fs)),f.2.2.2.1,f.2.2.2.2.1),true)) (fun i=>((i:Int),([]:Bs),f.2.2.2.1.1,unL f.2.2.2.1.2,f.2.2.2.2.1,(f.2.2.1.take i).map (fun p=>(p.kd,p.fs)))) f.2.2.1.length rfl (fun i hi=>by
     unfold cf.b1
     simp only[fx1]
     rw[JG,ao,decide_eq_true (by omega),cond_true]
     refine (congrArg (fun o=>Option.bind o _) (Ms hi)).trans ?_
     show (app? ((f.2.2.1.take i).map (fun p=>(p.kd,p.fs))) [(f.2.2.1[i].kd,mkL (unL f.2.2.1[i].fs))]).bind _ = _
     rw[sV,gi (by simp; omega),aa,aB (by omega),aa,take_succ hi,List.map_append]; rfl) (by
     unfold cf.b1
     rw[JG,ao,decide_eq_false (by omega),cond_false,List.take_length]
     simp only[fmu,HC]) (by omega)
    rw[hl]; rfl
 ·rw[decide_eq_false hm,cond_false,if_neg hm,aa,hf]
  dsimp only
  unfold cf.j2 cf.j1
  cases hl:cD faces e4 with
  | none=>rw[Option.getD_none,zk _ _ _ _ _ _ _ (by simp),aa]; rfl
  | some face =>
   obtain⟨h1,_⟩:=hC.look e4 face (by rw[hf]; exact hl)
   rw[Option.getD_some,zk _ _ _ _ _ _ _ h1,aa,Option.isSome_some,Bool.not_true,cond_false,ao]
   by_cases hi:lZ (fun f:gD=>decide (f.1 = e3)) 0 face.2 < 0
   ·rw[decide_eq_true hi,cond_true,aa,cond_true]
    dsimp only
    rw[mJ _ _ 0,if_pos hi]; rfl
   ·rw[decide_eq_false hi,cond_false,Bm _ _ hC.JR,aa,aa]
    dsimp only
    have hfd:=A9 hi
    cases hg:face.2.find? fun f:gD=>decide (f.1 = e3) with
    | none =>
     have hge:=jK (fun f:gD=>decide (f.1 = e3)) face.2 0
     rw[decide_eq_true (by omega)] at hge
     obtain⟨f,hf1,hf2⟩:=List.any_eq_true.1 hge.symm
     have:=List.find?_eq_none.1 hg f hf1
     exact absurd hf2 this
    | some g =>
     rw[hg] at hfd
     dsimp only
     cases hu:(C.iz.any fun u=>decide (e4 = u)) with
     | false=>rfl
     | true =>
      rw[Bool.not_true,cond_false,hfd,aa]
      simp only[fx1]
      rfl
theorem CS (e1 e2:Int) (e3 e4:Bs) (e5:List Bs) (e6:List dS) (nm:Bs) (j8:Bool) (j9:Int):cw e1 e2 e3 e4 e5 e6 nm j8 j9 = some (HX (iw ⟨[],[],[],fun _=>none⟩ e3 e4)):=by
 unfold cw iw
 by_cases hm:e4 = []
 ·rw[decide_eq_true hm,cond_true,if_pos hm,vZ _ _ _ _ _ _ _ (by simp),aa]; rfl
 ·rw[decide_eq_false hm,cond_false,if_neg hm,aa]
  dsimp only
  unfold cw.j2 cw.j1
  rw[Option.getD_none,zk _ _ _ _ _ _ _ (by simp),aa]; rfl
theorem zm (o:Int):((bif (eqZ o 17) then some (eqZ o 17) else some (eqZ o 18)):Option Bool) = some (decide (o = 17 ∨ o = 18)):=by
 simp only[bg]
 by_cases a:o = 17
 ·simp [a]
 ·simp [a]
abbrev tup (nm:Bs) (us:List Bs) (vs:List b9) (ini:List dS) (fu:List fW) (mv:Bool) (old:List b9) (fw:List dS) (bk:List dS) (fa:List (Bs × bH)) (e:Int):=(nm,us,vs,ini,fu,mv,old,fw,bk,e,fa)
theorem JH (Gr:List b9 → Int → Int → Bs → Bs → List Bs → List dS → Bs → List Bs → List b9 → List dS → List fW → Bool → List b9 → List dS → List dS → Int → List (Bs × bH) → Option (aK × Int × Bs × List Bs × List b9 × List dS × List fW × Bool × List b9 × List dS × List dS × Int × List (Bs × bH))) (F:Int → cN → FR) (LG:List b9) (nm:Bs) (us:List Bs) (vs:List b9) (ini:List dS) (fu:List fW) (mv:Bool) (old:List b9) (fw:List dS) (bk:List dS) (fa:List (Bs × bH)) (l:List cN) (hl:l.length ≤ 1000)
  (h:∀ eff,∀ a ∈ l,Gr LG a.op a.n a.s a.m a.names (unE a.args) nm us vs ini fu mv old fw bk eff fa = some ((F eff a).1,(F eff a).2.1,tup nm us vs ini fu mv old fw bk fa (F eff a).2.2)) (eff:Int) :
  db Gr LG (unE l) nm us vs ini fu mv old fw bk eff fa = some ((bQ F eff l).1,(bQ F eff l).2.1,tup nm us vs ini fu mv old fw bk fa (bQ F eff l).2.2):=by
 unfold db
 have hr:=qX (body:=fun x=>db.b1 Gr LG (unE l) x.1 x.2.1 x.2.2.1 x.2.2.2.1 x.2.2.2.2.1 x.2.2.2.2.2.1 x.2.2.2.2.2.2.1 x.2.2.2.2.2.2.2.1 x.2.2.2.2.2.2.2.2.1 x.2.2.2.2.2.2.2.2.2.1 x.2.2.2.2.2.2.2.2.2.2.1 x.2.2.2.2.2.2.2.2.2.2.2.1 x.2.2.2.2.2.2.2.2.2.2.2.2) (mk:=fun k (s:Int × List aK)=>((k:Int),nm,us,vs,ini,fu,mv,old,fw,bk,s.1,s.2,fa)) l
  (fun k s a=>if (F s.1 a).2.1 = 0 then .inl ((F s.1 a).2.2,s.2 ++ [(F s.1 a).1]) else .inr ([],(F s.1 a).2.1,tup nm us vs ini fu mv old fw bk fa (F s.1 a).2.2)) (fun s=>(s.2,0,tup nm us vs ini fu mv old fw bk fa s.1)) (fun k s=>s.2.length = k)
  (fun k hk s s' hs he=>by
   split at he
   ·injection he with he
    subst he
    simp [hs]
   ·cases he)
  (fun k hk s hs=>by
   unfold db.b1
   simp only[fe1,fe2]
   rw[dR,ao,decide_eq_true (by omega),cond_true,gl hk,aa]
   have hh:=h s.1 l[k] (List.getElem_mem hk)
   unfold kf
   simp only[hh,aa,fx1]
   rw[bg]
   by_cases h0:(F s.1 l[k]).2.1 = 0
   ·rw[decide_eq_true h0,if_pos h0,Bool.not_true,cond_false,gi (by rw[hs]; simp; omega),aa,aB (by omega)]; rfl
   ·rw[decide_eq_false h0,if_neg h0,Bool.not_false,cond_true])
  (fun s hs=>by
   unfold db.b1
   rw[dR,ao,decide_eq_false (by omega),cond_false]) (by omega) (s0:=(eff,[])) rfl
 refine hr.trans ?_
 have key:∀ (r:List cN) (k:Nat) (eff:Int) (out:List aK),pZ (fun k s a=>if (F s.1 a).2.1 = 0 then .inl ((F s.1 a).2.2,s.2 ++ [(F s.1 a).1]) else .inr (([]:List aK),(F s.1 a).2.1,tup nm us vs ini fu mv old fw bk fa (F s.1 a).2.2)) (fun (s:Int × List aK)=>(s.2,0,tup nm us vs ini fu mv old fw bk fa s.1)) k (eff,out) r =
   if (bQ F eff r).2.1 = 0 then (out ++ (bQ F eff r).1,0,tup nm us vs ini fu mv old fw bk fa (bQ F eff r).2.2) else ([],(bQ F eff r).2.1,tup nm us vs ini fu mv old fw bk fa (bQ F eff r).2.2):=by
  intro r
  induction r with
  | nil=>intro k eff out; unfold pZ bQ; rw[if_pos rfl,List.append_nil]
  | cons a r ih =>
   intro k eff out
   unfold pZ bQ
   dsimp only
   by_cases h0:(F eff a).2.1 = 0
   ·rw[if_pos h0,if_pos h0]
    dsimp only
    rw[ih]
    by_cases h1:(bQ F (F eff a).2.2 r).2.1 = 0
    ·rw[if_pos h1,if_pos h1,if_pos rfl,List.append_assoc]; rfl
    ·rw[if_neg h1,if_neg h1,if_neg h1]
   ·rw[if_neg h0,if_neg h0,if_neg h0]
 rw[key l 0 eff []]
 by_cases h0:(bQ F eff l).2.1 = 0
 ·rw[if_pos h0,List.nil_append,h0]
 ·rw[if_neg h0]
  have:∀ (r:List cN) (eff:Int),(bQ F eff r).2.1 ≠ 0 → (bQ F eff r).1 = []:=by
   intro r
   cases r with
   | nil=>intro eff h; exact absurd rfl h
   | cons a r =>
    intro eff h
    unfold bQ at h ⊢
    split
    ·rename_i h1
     rw[if_pos h1] at h
     split
     ·rename_i h2
      rw[if_pos h2] at h
      exact absurd rfl h
     ·rfl
    ·rfl
  rw[this l eff h0]
theorem wa {C:Cx} (hC:OkC C) (nm:Bs) (ini:List dS) (mv:Bool) (old:List b9) (fw bk:List dS) (fa:List (Bs × bH)) (hfa:C.look = cD fa):∀ (d n:Nat) (q:Nat) (L:List ab) (eff:Int) (e:cN),d ≤ 12 → d < n → 4 ≤ q → q + 2 ^ d ≤ 100000 → okE d e → (∀ f ∈ L,okL q f.fs) → L.length + d ≤ 1000000 →
  aw.rec n (unL L) e.op e.n e.s e.m e.names (unE e.args) nm C.iz (unL C.vars) ini C.funcs mv old fw bk eff fa = some ((br C d L eff e).1,(br C d L eff e).2.1,tup nm C.iz (unL C.vars) ini C.funcs mv old fw bk fa (br C d L eff e).2.2)
 | 0,_,_,_,_,_,_,_,_,_,h,_,_=>h.elim
 | d + 1,0,_,_,_,_,_,h,_,_,_,_,_=>absurd h (by omega)
 | d + 1,n + 1,q,L,eff,e,hd,hn,hq,hq2,he,hL,hlen=>by
  have he0:=he
  obtain⟨a0,a1,a2,a3,a4,a5,a6⟩:=he
  have h1:=rm d
  have hp:2 ^ (d + 1) = 2 ^ d + 2 ^ d:=by rw[Nat.pow_succ]; omega
  rw[hp] at hq2
  have ih:∀ eff,∀ a ∈ e.args,aw.rec n (unL L) a.op a.n a.s a.m a.names (unE a.args) nm C.iz (unL C.vars) ini C.funcs mv old fw bk eff fa = some ((br C d L eff a).1,(br C d L eff a).2.1,tup nm C.iz (unL C.vars) ini C.funcs mv old fw bk fa (br C d L eff a).2.2):=fun eff a ha =>
   wa hC nm ini mv old fw bk fa hfa d n q L eff a (by omega) (by omega) hq (by omega) (a6 a ha) hL (by omega)
  have hla:∀ eff,∀ a ∈ e.args,okL (q + 2 ^ d) (br C d L eff a).1.2:=fun eff a ha=>mN hC d q L eff a hq (a6 a ha) hL
  have hlist:=fun eff=>JH (aw.rec n) (br C d L) (unL L) nm C.iz (unL C.vars) ini C.funcs mv old fw bk fa e.args a0 ih eff
  have hmem:∀ i,i < e.args.length → eL e.args i ∈ e.args:=fun i hi=>by rw[kF hi]; exact List.getElem_mem _
  show aw.body (aw.rec n) (unL L) e.op e.n e.s e.m e.names (unE e.args) nm C.iz (unL C.vars) ini C.funcs mv old fw bk eff fa = _
  unfold aw.body br
  rw[bg,bg,zm,aa]
  by_cases c1:e.op = 2
  ·rw[decide_eq_true c1,cond_true,if_pos c1,iP,aa]
   simp only[fx1]
   cases (eP L e.s).2 <;> rfl
  rw[decide_eq_false c1,cond_false,if_neg c1]
  by_cases c2:e.op = 12
  ·have hl2:=a1 c2
   rw[decide_eq_true c2,cond_true,if_pos c2]
   unfold Fm
   rw[mM (show 0 < e.args.length by omega),aa]
   have i0:=ih eff _ (hmem 0 (by omega))
   unfold kf
   simp only[fe1,fe2,fx1]
   simp only[i0,aa]
   rw[bg]
   by_cases h0:(br C d L eff (eL e.args 0)).2.1 = 0
   rotate_left
   ·rw[decide_eq_false (by simpa using h0),Bool.not_false,cond_true,if_neg h0]
   ·rw[decide_eq_true (by simpa using h0),Bool.not_true,cond_false,if_pos h0,Bl L (by omega),aa,gi (by rw[bw]; simp; omega),aa,vY (show 1 < e.args.length by omega),aa]
    have i1:=wa hC nm ini mv old fw bk fa hfa d n (q + 2 ^ d) (L ++ [.mk e.s (br C d L eff (eL e.args 0)).1.1 (br C d L eff (eL e.args 0)).1.2]) (br C d L eff (eL e.args 0)).2.2 (eL e.args 1) (by omega) (by omega) (by omega) (by omega) (a6 _ (hmem 1 (by omega))) (fun f hf=>by
     rcases List.mem_append.1 hf with hf | hf
     ·exact lL (by omega) (hL f hf)
     ·rw[List.mem_singleton] at hf
      subst hf
      exact hla eff _ (hmem 0 (by omega))) (by rw[List.length_append]; simp; omega)
    rw[iZ,ml] at i1
    simp only[kf,i1,aa]
  rw[decide_eq_false c2,cond_false,if_neg c2]
  by_cases c3:e.op = 17 ∨ e.op = 18
  ·rw[decide_eq_true c3,if_pos c3]
   unfold aw.j2 ec Fl
   rw[cond_true,iP,aa]
   simp only[fe1,fe2,fx1,fu1,fu2]
   cases hv:(eP C.vars e.s).2 with
   | false=>rfl
   | true =>
    rw[Bool.not_true,cond_false,if_pos rfl,bg]
    by_cases c4:e.op = 18
    rotate_left
    ·rw[decide_eq_false c4,cond_false,if_neg c4,aa]
    ·have hl1:=a2 c4
     rw[decide_eq_true c4,cond_true,if_pos c4,mM hl1,aa]
     have i0:=ih eff _ (hmem 0 hl1)
     unfold kf
     simp only[i0,aa]
     rw[bg]
     by_cases h0:(br C d L eff (eL e.args 0)).2.1 = 0
     rotate_left
     ·rw[decide_eq_false (by simpa using h0),Bool.not_false,cond_true,if_neg h0]; rfl
     ·rw[decide_eq_true (by simpa using h0),Bool.not_true,cond_false,if_pos h0,lM (d:=4) (by omega) _ _ _ _ (lP hC.vars _),aa]
      unfold lO
      cases (decide ((br C d L eff (eL e.args 0)).1.1 = (eP C.vars e.s).1.1) && eK (eP C.vars e.s).1.2 (br C d L eff (eL e.args 0)).1.2) <;> rfl
  rw[decide_eq_false c3,if_neg c3]
  unfold aw.j2
  rw[cond_false,bg]
  by_cases c5:e.op = 15
  ·rw[decide_eq_true c5,cond_true,if_pos c5]
   unfold dz xZ
   rw[Fp hC fa hfa,aa]
   simp only[fx1]
   cases hg:iw C e.s e.m with
   | none=>rfl
   | some g =>
    have hgk:=nL hC hg
    unfold HX
    dsimp only
    rw[Bool.not_true,cond_false,bg,dR]
    by_cases h3:g.2.1.length = e.args.length
    rotate_left
    ·rw[decide_eq_false (by omega),Bool.not_false,cond_true,if_neg h3]; rfl
    ·rw[decide_eq_true (by omega),Bool.not_true,cond_false,if_pos h3,hlist eff,aa]
     dsimp only
     rw[bg]
     by_cases h0:(bQ (br C d L) eff e.args).2.1 = 0
     rotate_left
     ·rw[decide_eq_false h0,Bool.not_false,cond_true,if_neg h0]; rfl
     ·rw[decide_eq_true h0,Bool.not_true,cond_false,if_pos h0]
      have hll:=jw _ _ h0
      have hloop:=fM (body:=fun x=>dz.b1 (g,true) ((bQ (br C d L) eff e.args).1,(bQ (br C d L) eff e.args).2.1,tup nm C.iz (unL C.vars) ini C.funcs mv old fw bk fa (bQ (br C d L) eff e.args).2.2) x) (bQ (br C d L) eff e.args).1
       (fun k x=>if lO x (gT g.2.1 k) = true then none else some (((0,[]):aK),(13:Int),tup nm C.iz (unL C.vars) ini C.funcs mv old fw bk fa (bQ (br C d L) eff e.args).2.2)) (g.2.2.1,0,tup nm C.iz (unL C.vars) ini C.funcs mv old fw bk fa (orI .i64 (bQ (br C d L) eff e.args).2.2 g.2.2.2)) (fun k hk=>by
        unfold dz.b1
        simp only[fu1,fu2]
        rw[ao,decide_eq_true (by omega),cond_true,cR hk,aa,oT (show k < g.2.1.length by omega),aa]
        have hgt:okL 4 (gT g.2.1 k).2:=by
         unfold gT
         rw[List.getD_eq_getElem?_getD,List.getElem?_eq_getElem (show k < g.2.1.length by omega)]
         exact hgk.1 _ (List.getElem_mem _)
        rw[lM (d:=4) (by omega) _ _ _ _ hgt,aa,aB (by omega)]
        unfold lO
        by_cases hh:(decide ((bQ (br C d L) eff e.args).1[k].1 = (gT g.2.1 k).1) && eK (gT g.2.1 k).2 (bQ (br C d L) eff e.args).1[k].2) = true
        ·rw[if_pos hh,hh]; rfl
        ·rw[if_neg hh]
         rw[Bool.not_eq_true] at hh
         rw[hh]; rfl) (by
        unfold dz.b1
        simp only[fx1]
        rw[ao,decide_eq_false (by omega),cond_false]) (by omega)
      rw[hloop,aa,mO]
      unfold HW
      cases (allI (fun k x=>lO x (gT g.2.1 k)) 0 (bQ (br C d L) eff e.args).1) <;> rfl
  ·rw[decide_eq_false c5,cond_false,if_neg c5,hlist eff,aa]
   dsimp only
   unfold x6
   rw[bg,bg]
   by_cases h0:(bQ (br C d L) eff e.args).2.1 = 0
   rotate_left
   ·rw[decide_eq_false h0,Bool.not_false,cond_true,if_neg h0]
   ·rw[decide_eq_true h0,Bool.not_true,cond_false,if_pos h0]
    have hll:=jw _ _ h0
    have hp:=Bb (d:=q + 2 ^ d) (by omega) e.op e.n e.s e.m e.names (unE e.args) (bQ (br C d L) eff e.args).1 (by omega) (fun h=>by rw[hll]; exact a3 h) (fun h=>by rw[hll]; exact a5 h) (fun h=>by rw[hll]; exact a4 h) (fun t ht=>ln (P:=fun t=>okL (q + 2 ^ d) t.2) _ _ hla t ht)
    unfold aw.j1
    simp only[hp,fx1]
    by_cases c6:e.op = 16
    ·rw[decide_eq_true c6,if_pos c6]; rfl
    ·rw[decide_eq_false c6,if_neg c6]; rfl
abbrev kg (nm:Bs) (mv:Bool) (e:Int):=(nm,mv,e)
theorem CT (Gr:List b9 → Int → Int → Bs → Bs → List Bs → List dS → Bs → Bool → Int → Option (aK × Int × Bs × Bool × Int)) (F:Int → cN → FR) (LG:List b9) (nm:Bs) (mv:Bool) (l:List cN) (hl:l.length ≤ 1000)
  (h:∀ eff,∀ a ∈ l,Gr LG a.op a.n a.s a.m a.names (unE a.args) nm mv eff = some ((F eff a).1,(F eff a).2.1,kg nm mv (F eff a).2.2)) (eff:Int) :
  cE Gr LG (unE l) nm mv eff = some ((bQ F eff l).1,(bQ F eff l).2.1,kg nm mv (bQ F eff l).2.2):=by
 unfold cE
 have hr:=qX (body:=fun x=>cE.b1 Gr LG (unE l) x.1 x.2.1 x.2.2.1 x.2.2.2.1 x.2.2.2.2) (mk:=fun k (s:Int × List aK)=>((k:Int),nm,mv,s.1,s.2)) l
  (fun k s a=>if (F s.1 a).2.1 = 0 then .inl ((F s.1 a).2.2,s.2 ++ [(F s.1 a).1]) else .inr ([],(F s.1 a).2.1,kg nm mv (F s.1 a).2.2)) (fun s=>(s.2,0,kg nm mv s.1)) (fun k s=>s.2.length = k)
  (fun k hk s s' hs he=>by
   split at he
   ·injection he with he
    subst he
    simp [hs]
   ·cases he)
  (fun k hk s hs=>by
   unfold cE.b1
   simp only[fe1,fe2]
   rw[dR,ao,decide_eq_true (by omega),cond_true,gl hk,aa]
   have hh:=h s.1 l[k] (List.getElem_mem hk)
   unfold kf
   simp only[hh,aa,fx1]
   rw[bg]
   by_cases h0:(F s.1 l[k]).2.1 = 0
   ·rw[decide_eq_true h0,if_pos h0,Bool.not_true,cond_false,gi (by rw[hs]; simp; omega),aa,aB (by omega)]; rfl
   ·rw[decide_eq_false h0,if_neg h0,Bool.not_false,cond_true])
  (fun s hs=>by
   unfold cE.b1
   rw[dR,ao,decide_eq_false (by omega),cond_false]) (by omega) (s0:=(eff,[])) rfl
 refine hr.trans ?_
 have key:∀ (r:List cN) (k:Nat) (eff:Int) (out:List aK),pZ (fun k s a=>if (F s.1 a).2.1 = 0 then .inl ((F s.1 a).2.2,s.2 ++ [(F s.1 a).1]) else .inr (([]:List aK),(F s.1 a).2.1,kg nm mv (F s.1 a).2.2)) (fun (s:Int × List aK)=>(s.2,0,kg nm mv s.1)) k (eff,out) r =
   if (bQ F eff r).2.1 = 0 then (out ++ (bQ F eff r).1,0,kg nm mv (bQ F eff r).2.2) else ([],(bQ F eff r).2.1,kg nm mv (bQ F eff r).2.2):=by
  intro r
  induction r with
  | nil=>intro k eff out; unfold pZ bQ; rw[if_pos rfl,List.append_nil]
  | cons a r ih =>
   intro k eff out
   unfold pZ bQ
   dsimp only
   by_cases h0:(F eff a).2.1 = 0
   ·rw[if_pos h0,if_pos h0]
    dsimp only
    rw[ih]
    by_cases h1:(bQ F (F eff a).2.2 r).2.1 = 0
    ·rw[if_pos h1,if_pos h1,if_pos rfl,List.append_assoc]; rfl
    ·rw[if_neg h1,if_neg h1,if_neg h1]
   ·rw[if_neg h0,if_neg h0,if_neg h0]
 rw[key l 0 eff []]
 by_cases h0:(bQ F eff l).2.1 = 0
 ·rw[if_pos h0,List.nil_append,h0]
 ·rw[if_neg h0]
  have:∀ (r:List cN) (eff:Int),(bQ F eff r).2.1 ≠ 0 → (bQ F eff r).1 = []:=by
   intro r
   cases r with
   | nil=>intro eff h; exact absurd rfl h
   | cons a r =>
    intro eff h
    unfold bQ at h ⊢
    split
    ·rename_i h1
     rw[if_pos h1] at h
     split
     ·rename_i h2
      rw[if_pos h2] at h
      exact absurd rfl h
     ·rfl
    ·rfl
  rw[this l eff h0]
theorem oY {C:Cx} (hC:OkC C) (hcx:C = ⟨[],[],[],fun _=>none⟩) (nm:Bs) (mv:Bool):∀ (d n:Nat) (q:Nat) (L:List ab) (eff:Int) (e:cN),d ≤ 12 → d < n → 4 ≤ q → q + 2 ^ d ≤ 100000 → okE d e → (∀ f ∈ L,okL q f.fs) → L.length + d ≤ 1000000 →
  az.rec n (unL L) e.op e.n e.s e.m e.names (unE e.args) nm mv eff = some ((br C d L eff e).1,(br C d L eff e).2.1,kg nm mv (br C d L eff e).2.2)
 | 0,_,_,_,_,_,_,_,_,_,h,_,_=>h.elim
 | d + 1,0,_,_,_,_,_,h,_,_,_,_,_=>absurd h (by omega)
 | d + 1,n + 1,q,L,eff,e,hd,hn,hq,hq2,he,hL,hlen=>by
  have he0:=he
  obtain⟨a0,a1,a2,a3,a4,a5,a6⟩:=he
  have h1:=rm d
  have hp:2 ^ (d + 1) = 2 ^ d + 2 ^ d:=by rw[Nat.pow_succ]; omega
  rw[hp] at hq2
  have ih:∀ eff,∀ a ∈ e.args,az.rec n (unL L) a.op a.n a.s a.m a.names (unE a.args) nm mv eff = some ((br C d L eff a).1,(br C d L eff a).2.1,kg nm mv (br C d L eff a).2.2):=fun eff a ha =>
   oY hC hcx nm mv d n q L eff a (by omega) (by omega) hq (by omega) (a6 a ha) hL (by omega)
  have hla:∀ eff,∀ a ∈ e.args,okL (q + 2 ^ d) (br C d L eff a).1.2:=fun eff a ha=>mN hC d q L eff a hq (a6 a ha) hL
  have hlist:=fun eff=>CT (az.rec n) (br C d L) (unL L) nm mv e.args a0 ih eff
  have hmem:∀ i,i < e.args.length → eL e.args i ∈ e.args:=fun i hi=>by rw[kF hi]; exact List.getElem_mem _
  show az.body (az.rec n) (unL L) e.op e.n e.s e.m e.names (unE e.args) nm mv eff = _
  unfold az.body br
  rw[bg,bg,zm,aa]
  by_cases c1:e.op = 2
  ·rw[decide_eq_true c1,cond_true,if_pos c1,iP,aa]
   simp only[fx1]
   cases (eP L e.s).2 <;> rfl
  rw[decide_eq_false c1,cond_false,if_neg c1]
  by_cases c2:e.op = 12
  ·have hl2:=a1 c2
   rw[decide_eq_true c2,cond_true,if_pos c2]
   unfold Fm
   rw[mM (show 0 < e.args.length by omega),aa]
   have i0:=ih eff _ (hmem 0 (by omega))
   unfold kf
   simp only[fe1,fe2,fx1]
   simp only[i0,aa]
   rw[bg]
   by_cases h0:(br C d L eff (eL e.args 0)).2.1 = 0
   rotate_left
   ·rw[decide_eq_false (by simpa using h0),Bool.not_false,cond_true,if_neg h0]
   ·rw[decide_eq_true (by simpa using h0),Bool.not_true,cond_false,if_pos h0,Bl L (by omega),aa,gi (by rw[bw]; simp; omega),aa,vY (show 1 < e.args.length by omega),aa]
    have i1:=oY hC hcx nm mv d n (q + 2 ^ d) (L ++ [.mk e.s (br C d L eff (eL e.args 0)).1.1 (br C d L eff (eL e.args 0)).1.2]) (br C d L eff (eL e.args 0)).2.2 (eL e.args 1) (by omega) (by omega) (by omega) (by omega) (a6 _ (hmem 1 (by omega))) (fun f hf=>by
     rcases List.mem_append.1 hf with hf | hf
     ·exact lL (by omega) (hL f hf)
     ·rw[List.mem_singleton] at hf
      subst hf
      exact hla eff _ (hmem 0 (by omega))) (by rw[List.length_append]; simp; omega)
    rw[iZ,ml] at i1
    simp only[kf,i1,aa]
  rw[decide_eq_false c2,cond_false,if_neg c2]
  by_cases c3:e.op = 17 ∨ e.op = 18
  ·rw[decide_eq_true c3,if_pos c3]
   unfold az.j2 dJ Fl
   rw[cond_true,show bR [] e.s = some (eP C.vars e.s) by rw[hcx]; exact iP [] e.s,aa]
   simp only[fe1,fe2,fx1,fu1,fu2]
   cases hv:(eP C.vars e.s).2 with
   | false=>rfl
   | true =>
    rw[Bool.not_true,cond_false,if_pos rfl,bg]
    by_cases c4:e.op = 18
    rotate_left
    ·rw[decide_eq_false c4,cond_false,if_neg c4,aa]
    ·have hl1:=a2 c4
     rw[decide_eq_true c4,cond_true,if_pos c4,mM hl1,aa]
     have i0:=ih eff _ (hmem 0 hl1)
     unfold kf
     simp only[i0,aa]
     rw[bg]
     by_cases h0:(br C d L eff (eL e.args 0)).2.1 = 0
     rotate_left
     ·rw[decide_eq_false (by simpa using h0),Bool.not_false,cond_true,if_neg h0]; rfl
     ·rw[decide_eq_true (by simpa using h0),Bool.not_true,cond_false,if_pos h0,lM (d:=4) (by omega) _ _ _ _ (lP hC.vars _),aa]
      unfold lO
      cases (decide ((br C d L eff (eL e.args 0)).1.1 = (eP C.vars e.s).1.1) && eK (eP C.vars e.s).1.2 (br C d L eff (eL e.args 0)).1.2) <;> rfl
  rw[decide_eq_false c3,if_neg c3]
  unfold az.j2
  rw[cond_false,bg]
  by_cases c5:e.op = 15
  ·rw[decide_eq_true c5,cond_true,if_pos c5]
   unfold dh xZ
   rw[show cw e.op e.n e.s e.m e.names (unE e.args) nm mv eff = some (HX (iw C e.s e.m)) by rw[hcx]; exact CS _ _ _ _ _ _ _ _ _,aa]
   simp only[fx1]
   cases hg:iw C e.s e.m with
   | none=>rfl
   | some g =>
    have hgk:=nL hC hg
    unfold HX
    dsimp only
    rw[Bool.not_true,cond_false,bg,dR]
    by_cases h3:g.2.1.length = e.args.length
    rotate_left
    ·rw[decide_eq_false (by omega),Bool.not_false,cond_true,if_neg h3]; rfl
    ·rw[decide_eq_true (by omega),Bool.not_true,cond_false,if_pos h3,hlist eff,aa]
     dsimp only
     rw[bg]
     by_cases h0:(bQ (br C d L) eff e.args).2.1 = 0
     rotate_left
     ·rw[decide_eq_false h0,Bool.not_false,cond_true,if_neg h0]; rfl
     ·rw[decide_eq_true h0,Bool.not_true,cond_false,if_pos h0]
      have hll:=jw _ _ h0
      have hloop:=fM (body:=fun x=>dh.b1 (g,true) ((bQ (br C d L) eff e.args).1,(bQ (br C d L) eff e.args).2.1,kg nm mv (bQ (br C d L) eff e.args).2.2) x) (bQ (br C d L) eff e.args).1
       (fun k x=>if lO x (gT g.2.1 k) = true then none else some (((0,[]):aK),(13:Int),kg nm mv (bQ (br C d L) eff e.args).2.2)) (g.2.2.1,0,kg nm mv (orI .i64 (bQ (br C d L) eff e.args).2.2 g.2.2.2)) (fun k hk=>by
        unfold dh.b1
        simp only[fu1,fu2]
        rw[ao,decide_eq_true (by omega),cond_true,cR hk,aa,oT (show k < g.2.1.length by omega),aa]
        have hgt:okL 4 (gT g.2.1 k).2:=by
         unfold gT
         rw[List.getD_eq_getElem?_getD,List.getElem?_eq_getElem (show k < g.2.1.length by omega)]
         exact hgk.1 _ (List.getElem_mem _)
        rw[lM (d:=4) (by omega) _ _ _ _ hgt,aa,aB (by omega)]
        unfold lO
        by_cases hh:(decide ((bQ (br C d L) eff e.args).1[k].1 = (gT g.2.1 k).1) && eK (gT g.2.1 k).2 (bQ (br C d L) eff e.args).1[k].2) = true
        ·rw[if_pos hh,hh]; rfl
        ·rw[if_neg hh]
         rw[Bool.not_eq_true] at hh
         rw[hh]; rfl) (by
        unfold dh.b1
        simp only[fx1]
        rw[ao,decide_eq_false (by omega),cond_false]) (by omega)
      rw[hloop,aa,mO]
      unfold HW
      cases (allI (fun k x=>lO x (gT g.2.1 k)) 0 (bQ (br C d L) eff e.args).1) <;> rfl
  ·rw[decide_eq_false c5,cond_false,if_neg c5,hlist eff,aa]
   dsimp only
   unfold x6
   rw[bg,bg]
   by_cases h0:(bQ (br C d L) eff e.args).2.1 = 0
   rotate_left
   ·rw[decide_eq_false h0,Bool.not_false,cond_true,if_neg h0]
   ·rw[decide_eq_true h0,Bool.not_true,cond_false,if_pos h0]
    have hll:=jw _ _ h0
    have hp:=Bb (d:=q + 2 ^ d) (by omega) e.op e.n e.s e.m e.names (unE e.args) (bQ (br C d L) eff e.args).1 (by omega) (fun h=>by rw[hll]; exact a3 h) (fun h=>by rw[hll]; exact a5 h) (fun h=>by rw[hll]; exact a4 h) (fun t ht=>ln (P:=fun t=>okL (q + 2 ^ d) t.2) _ _ hla t ht)
    unfold az.j1
    simp only[hp,fx1]
    by_cases c6:e.op = 16
    ·rw[decide_eq_true c6,if_pos c6]; rfl
    ·rw[decide_eq_false c6,if_neg c6]; rfl
end Go.Proofs.YtaocfjifacnokaaGreat
namespace Go.Proofs.YtaocfjifacnokaaGreat
open Go.Lad
def Tot {α:Type} (x:Option α):Prop := ∃ b,x = some b
theorem mP {α:Type} (a:α):Tot (some a):=⟨a,rfl⟩
theorem oZ {α:Type} {b:Bool} {x y:Option α} (hx:Tot x) (hy:Tot y):Tot (bif b then x else y):=by cases b <;> assumption
theorem wb {α β:Type} {x:Option α} {f:α → Option β} (hx:Tot x) (hf:∀ a,Tot (f a)):Tot (x.bind f):=by
 obtain⟨a,rfl⟩:=hx
 exact hf a
theorem HY (s:Bs):Tot (cZ s):=⟨_,iv s⟩
theorem HZ (o n:Int) (s m:Bs) (ns:List Bs) (ag:List dS) (h:ns.length ≤ 1000):Tot (cA o n s m ns ag):=by
 have hbl:Tot (bO (fun x=>cA.b1 ns x) 0):=by
  obtain⟨b,hb,_⟩:=ew (body:=fun x=>cA.b1 ns x) (fun i x=>x = (i:Int)) (Q:=fun _=>True) ns.length (x:=0) rfl (fun i hi x hx=>by
   subst hx
   unfold cA.b1 cA.j1
   rw[ao,decide_eq_true (by omega),cond_true,cR hi,aa,iv,aa]
   have hin:Tot (bif (!dQ ns[i]) then some true else (bif (ltZ 0 (i:Int)) then ((z64 ((i:Int) - 1)).bind fun v14=>(idx ns v14).bind fun v15=>some (Op.bytesLess ns[i] v15 || decide (ns[i] = v15))) else some false)):=by
    refine oZ (mP _) ?_
    by_cases h0:0 < i
    ·rw[vL h0 (by omega),aa,cR (show i - 1 < ns.length by omega)]
     exact oZ (mP _) (mP _)
    ·have:i = 0:=by omega
     subst this
     exact⟨_,rfl⟩
   obtain⟨v,hv⟩:=hin
   rw[hv,aa]
   cases v with
   | true=>exact .inr ⟨_,rfl,trivial⟩
   | false=>rw[cond_false,aB (by omega),aa]; exact .inl ⟨_,rfl,rfl⟩) (fun x hx=>by
   subst hx
   unfold cA.b1
   rw[ao,decide_eq_false (by omega),cond_false]
   exact⟨_,rfl,trivial⟩) (by omega)
  exact⟨b,hb⟩
 unfold cA cA.j2
 repeat' first
  | exact mP _
  | exact HY _
  | exact hbl
  | refine oZ ?_ ?_
  | refine wb ?_ fun _=>?_
theorem H0 (o n:Int) (s m:Bs) (ns:List Bs) (ag:List dS):∃ c,cM o n s m ns ag = some c ∧ (o = 12 → c.2 = 2) ∧ (o = 18 → c.2 = 1) ∧ (o = 11 → c.2 = 3) ∧ (o = 14 → c.2 = 1) ∧ (o = 13 → c.2 = (ns.length:Int)):=by
 unfold cM cM.j3 cM.j2 cM.j1
 simp only[bg]
 by_cases h0:o = 0
 ·subst h0; exact⟨_,rfl,fun h=>absurd h (by decide),fun h=>absurd h (by decide),fun h=>absurd h (by decide),fun h=>absurd h (by decide),fun h=>absurd h (by decide)⟩
 by_cases h1:o = 1
 ·subst h1; exact⟨_,rfl,fun h=>absurd h (by decide),fun h=>absurd h (by decide),fun h=>absurd h (by decide),fun h=>absurd h (by decide),fun h=>absurd h (by decide)⟩
 by_cases h2:o = 2
 ·subst h2; exact⟨_,rfl,fun h=>absurd h (by decide),fun h=>absurd h (by decide),fun h=>absurd h (by decide),fun h=>absurd h (by decide),fun h=>absurd h (by decide)⟩
 by_cases h3:o = 17
 ·subst h3; exact⟨_,rfl,fun h=>absurd h (by decide),fun h=>absurd h (by decide),fun h=>absurd h (by decide),fun h=>absurd h (by decide),fun h=>absurd h (by decide)⟩
 by_cases h4:o = 18
 ·subst h4; exact⟨_,rfl,fun h=>absurd h (by decide),fun _=>rfl,fun h=>absurd h (by decide),fun h=>absurd h (by decide),fun h=>absurd h (by decide)⟩
 by_cases h5:o = 14
 ·subst h5; exact⟨_,rfl,fun h=>absurd h (by decide),fun h=>absurd h (by decide),fun h=>absurd h (by decide),fun _=>rfl,fun h=>absurd h (by decide)⟩
 by_cases h6:o = 16
 ·subst h6; exact⟨_,rfl,fun h=>absurd h (by decide),fun h=>absurd h (by decide),fun h=>absurd h (by decide),fun h=>absurd h (by decide),fun h=>absurd h (by decide)⟩
 by_cases h7:o = 10
 ·subst h7; exact⟨_,rfl,fun h=>absurd h (by decide),fun h=>absurd h (by decide),fun h=>absurd h (by decide),fun h=>absurd h (by decide),fun h=>absurd h (by decide)⟩
 by_cases h8:o = 12
 ·subst h8; exact⟨_,rfl,fun _=>rfl,fun h=>absurd h (by decide),fun h=>absurd h (by decide),fun h=>absurd h (by decide),fun h=>absurd h (by decide)⟩
 by_cases h9:o = 11
 ·subst h9; exact⟨_,rfl,fun h=>absurd h (by decide),fun h=>absurd h (by decide),fun _=>rfl,fun h=>absurd h (by decide),fun h=>absurd h (by decide)⟩
 by_cases h10:o = 13
 ·subst h10; exact⟨_,rfl,fun h=>absurd h (by decide),fun h=>absurd h (by decide),fun h=>absurd h (by decide),fun h=>absurd h (by decide),fun _=>rfl⟩
 rw[decide_eq_false h0,decide_eq_false h1,decide_eq_false h2,decide_eq_false h3,decide_eq_false h4,decide_eq_false h5,decide_eq_false h6,decide_eq_false h7,decide_eq_false h8,decide_eq_false h9,decide_eq_false h10]
 simp only[cond_false,aa]
 cases decide (o = 15) <;> exact⟨_,rfl,fun h=>absurd h h8,fun h=>absurd h h4,fun h=>absurd h h9,fun h=>absurd h h5,fun h=>absurd h h10⟩
def shE:Nat → cN → Prop
 | 0,_=>False
 | d + 1,e=>e.names.length ≤ 12 ∧ e.args.length ≤ 1000 ∧ ∀ a ∈ e.args,shE d a
theorem Bn:∀ (d n q:Nat) (e:cN),d ≤ 12 → d < n → shE q e → ∃ b,av.rec n e.op e.n e.s e.m e.names (unE e.args) (d:Int) = some b ∧ (b = true → okE d e)
 | d,0,_,_,_,h,_=>absurd h (by omega)
 | d,n + 1,0,_,_,_,h=>h.elim
 | 0,n + 1,q + 1,e,_,_,_=>⟨false,rfl,fun h=>by cases h⟩
 | d + 1,n + 1,q + 1,e,hd,hn,hs=>by
  obtain⟨s1,s2,s3⟩:=hs
  show ∃ b,av.body (av.rec n) e.op e.n e.s e.m e.names (unE e.args) ((d + 1:Nat):Int) = some b ∧ _
  unfold av.body av.j2 av.j1
  rw[bg,decide_eq_false (show ¬ (((d + 1:Nat):Int) = 0) by omega),cond_false]
  cases ltZ e.op 0 with
  | true=>exact⟨false,rfl,fun h=>by cases h⟩
  | false =>
  cases leZ 19 e.op with
  | true=>exact⟨false,rfl,fun h=>by cases h⟩
  | false =>
  rw[cond_false,aa,cond_false]
  obtain⟨c,hc,f12,f18,f11,f14,f13⟩:=H0 e.op e.n e.s e.m e.names (unE e.args)
  obtain⟨lb,hlb⟩:=HZ e.op e.n e.s e.m e.names (unE e.args) (by omega)
  rw[hc,aa,hlb,dR]
  have chk:∃ v,(bif (leZ 0 c.2) then (bif (!eqZ c.2 (e.args.length:Int)) then some true else (bif (!eqZ c.1.2.1 e.n) then some true else (bif (!decide (c.1.2.2.1 = e.s)) then some true else (bif (!decide (c.1.2.2.2.1 = e.m)) then some true else (bif (!eqZ (c.1.2.2.2.2.1.length:Int) (e.names.length:Int)) then some true else ((some lb).bind fun l10=>some (!l10))))))) else
    (bif (!eqZ c.1.2.1 e.n) then some true else (bif (!decide (c.1.2.2.1 = e.s)) then some true else (bif (!decide (c.1.2.2.2.1 = e.m)) then some true else (bif (!eqZ (c.1.2.2.2.2.1.length:Int) (e.names.length:Int)) then some true else ((some lb).bind fun l11=>some (!l11))))))) = some v ∧ (v = false → 0 ≤ c.2 → c.2 = (e.args.length:Int)):=by
   rw[dk]
   by_cases h0:0 ≤ c.2
   ·rw[decide_eq_true h0,cond_true,bg]
    by_cases h1:c.2 = (e.args.length:Int)
    ·rw[decide_eq_true h1]
     obtain⟨v,hv⟩:Tot (bif (!true) then some true else (bif (!eqZ c.1.2.1 e.n) then some true else (bif (!decide (c.1.2.2.1 = e.s)) then some true else (bif (!decide (c.1.2.2.2.1 = e.m)) then some true else (bif (!eqZ (c.1.2.2.2.2.1.length:Int) (e.names.length:Int)) then some true else ((some lb).bind fun l10=>some (!l10))))))):=by
      repeat' first
       | exact mP _
       | refine oZ ?_ ?_
       | refine wb ?_ fun _=>?_
     exact⟨v,hv,fun _ _=>h1⟩
    ·rw[decide_eq_false h1]
     exact⟨true,rfl,fun h=>by cases h⟩
   ·rw[decide_eq_false h0,cond_false]
    obtain⟨v,hv⟩:Tot (bif (!eqZ c.1.2.1 e.n) then some true else (bif (!decide (c.1.2.2.1 = e.s)) then some true else (bif (!decide (c.1.2.2.2.1 = e.m)) then some true else (bif (!eqZ (c.1.2.2.2.2.1.length:Int) (e.names.length:Int)) then some true else ((some lb).bind fun l11=>some (!l11)))))):=by
     repeat' first
      | exact mP _
      | refine oZ ?_ ?_
      | refine wb ?_ fun _=>?_
    exact⟨v,hv,fun _ h=>absurd h h0⟩
  obtain⟨v,hv,hv2⟩:=chk
  rw[hv,aa]
  cases v with
  | true=>exact⟨false,rfl,fun h=>by cases h⟩
  | false =>
  rw[cond_false]
  have hcl:=hv2 rfl
  obtain⟨b,hb,hb2⟩:=ew (body:=fun x=>av.b1 (av.rec n) (unE e.args) ((d + 1:Nat):Int) x) (fun i x=>x = (i:Int) ∧ ∀ j (hj:j < e.args.length),j < i → okE d e.args[j]) (Q:=fun b=>b = true → ∀ a ∈ e.args,okE d a) e.args.length (x:=0) ⟨rfl,fun j hj h=>absurd h (by omega)⟩ (fun i hi x hx=>by
   obtain⟨rfl,hP⟩:=hx
   unfold av.b1
   simp only[fe1,fe2]
   rw[dR,ao,decide_eq_true (by omega),cond_true,gl hi,aa,ji (by omega),aa]
   obtain⟨b,hb,hb2⟩:=Bn d n q e.args[i] (by omega) (by omega) (s3 _ (List.getElem_mem hi))
   unfold kf
   have e1:((d + 1:Nat):Int) - 1 = (d:Int):=by omega
   simp only[e1,hb,aa]
   cases b with
   | false=>exact .inr ⟨false,rfl,fun h=>by cases h⟩
   | true =>
    rw[Bool.not_true,cond_false,aB (by omega),aa]
    refine .inl ⟨_,rfl,rfl,fun j hj h=>?_⟩
    by_cases hji:j = i
    ·subst hji; exact hb2 rfl
    ·exact hP j hj (by omega)) (fun x hx=>by
   obtain⟨rfl,hP⟩:=hx
   unfold av.b1
   rw[dR,ao,decide_eq_false (by omega),cond_false]
   refine⟨true,rfl,fun _ a ha=>?_⟩
   obtain⟨j,hj,rfl⟩:=List.mem_iff_getElem.1 ha
   exact hP j hj hj) (by omega)
  refine⟨b,hb,fun h=>⟨s2,fun h'=>?_,fun h'=>?_,fun h'=>?_,fun h'=>?_,fun h'=>?_,hb2 h⟩⟩
  ·have:=hcl (by rw[f12 h']; omega); rw[f12 h'] at this; omega
  ·have:=hcl (by rw[f18 h']; omega); rw[f18 h'] at this; omega
  ·have:=hcl (by rw[f11 h']; omega); rw[f11 h'] at this; omega
  ·have:=hcl (by rw[f14 h']; omega); rw[f14 h'] at this; omega
  ·have:=hcl (by rw[f13 h']; omega); rw[f13 h'] at this; omega
noncomputable def fh (e:cN):Bool:=(cn e.op e.n e.s e.m e.names (unE e.args)).getD false
theorem iV {q:Nat} {e:cN} (h:shE q e):cn e.op e.n e.s e.m e.names (unE e.args) = some (fh e) ∧ (fh e = true → okE 12 e):=by
 obtain⟨b,hb,hb2⟩:=Bn 12 jI.n q e (by omega) (fl (by omega)) h
 have:cn e.op e.n e.s e.m e.names (unE e.args) = some b:=by
  unfold cn av
  rw[show (12:Int) = ((12:Nat):Int) from rfl,hb]; rfl
 unfold fh
 rw[this]
 exact⟨rfl,hb2⟩
theorem qd (l:List ab) (most:Int) (hl:l.length ≤ 1000):∃ b,bA (unL l) most = some b ∧ (b = true → (∀ f ∈ l,dQ f.nm = true ∧ bG 4 f.kd f.fs = true) ∧ (l.length:Int) ≤ most):=by
 unfold bA
 exact ew (body:=fun x:Int × List (Bs × Bool)=>bA.b1 (unL l) most x.1 x.2) (fun i x=>∃ kn,x = ((i:Int),kn) ∧ ∀ j (hj:j < l.length),j < i → dQ l[j].nm = true ∧ bG 4 l[j].kd l[j].fs = true) (Q:=fun b=>b = true → (∀ f ∈ l,dQ f.nm = true ∧ bG 4 f.kd f.fs = true) ∧ (l.length:Int) ≤ most) l.length (x:=(0,[])) ⟨[],rfl,fun j hj h=>absurd h (by omega)⟩ (fun i hi x hx=>by
  obtain⟨kn,rfl,hP⟩:=hx
  unfold bA.b1 bA.j1
  simp only[fu1,fu2]
  have hr:cL l[i].kd (unL l[i].fs) = some (bG 4 l[i].kd l[i].fs):=by
   have:=fH l[i].kd l[i].fs
   unfold bI at this
   cases hx:cL l[i].kd (unL l[i].fs) with
   | none=>rw[hx] at this; cases this
   | some b=>rw[hx] at this; exact this
  rw[bw,ao,decide_eq_true (by omega),cond_true,dy hi,aa,iv,hr,aB (by omega)]
  simp only[aa]
  cases ((cD kn l[i].nm).getD false) with
  | true=>exact .inr ⟨false,rfl,fun h=>by cases h⟩
  | false =>
  cases hnm:dQ l[i].nm with
  | false=>exact .inr ⟨false,rfl,fun h=>by cases h⟩
  | true =>
  cases hrt:bG 4 l[i].kd l[i].fs with
  | false=>exact .inr ⟨false,rfl,fun h=>by cases h⟩
  | true =>
   refine .inl ⟨_,rfl,_,rfl,fun j hj h=>?_⟩
   by_cases hji:j = i
   ·subst hji; exact⟨hnm,hrt⟩
   ·exact hP j hj (by omega)) (fun x hx=>by
  obtain⟨kn,rfl,hP⟩:=hx
  unfold bA.b1
  rw[bw,ao,decide_eq_false (by omega),cond_false]
  refine⟨_,rfl,fun h=>⟨fun f hf=>?_,by rw[dk,decide_eq_true_eq] at h; exact h⟩⟩
  obtain⟨j,hj,rfl⟩:=List.mem_iff_getElem.1 hf
  exact hP j hj hj) (by omega)
theorem wc (l:List cN) (n:Int) (hl:l.length ≤ 1000) (hs:∀ e ∈ l,∃ q,shE q e):∃ b,cC (unE l) n = some b ∧ (b = true → (∀ e ∈ l,fh e = true) ∧ (l.length:Int) = n):=by
 unfold cC
 exact ew (body:=fun x=>cC.b1 (unE l) n x) (fun i x=>x = (i:Int) ∧ ∀ j (hj:j < l.length),j < i → fh l[j] = true) (Q:=fun b=>b = true → (∀ e ∈ l,fh e = true) ∧ (l.length:Int) = n) l.length (x:=0) ⟨rfl,fun j hj h=>absurd h (by omega)⟩ (fun i hi x hx=>by
  obtain⟨rfl,hP⟩:=hx
  unfold cC.b1
  simp only[fe1,fe2]
  obtain⟨q,hq⟩:=hs _ (List.getElem_mem hi)
  have hr:=(iV hq).1
  rw[dR,ao,decide_eq_true (by omega),cond_true,gl hi,aa,aB (by omega)]
  unfold kf
  simp only[hr,aa]
  cases hb:fh l[i] with
  | false=>exact .inr ⟨false,rfl,fun h=>by cases h⟩
  | true =>
   refine .inl ⟨_,rfl,rfl,fun j hj h=>?_⟩
   by_cases hji:j = i
   ·subst hji; exact hb
   ·exact hP j hj (by omega)) (fun x hx=>by
  obtain⟨rfl,hP⟩:=hx
  unfold cC.b1
  rw[dR,ao,decide_eq_false (by omega),cond_false]
  refine⟨_,rfl,fun h=>⟨fun f hf=>?_,by rw[bg,decide_eq_true_eq] at h; exact h⟩⟩
  obtain⟨j,hj,rfl⟩:=List.mem_iff_getElem.1 hf
  exact hP j hj hj) (by omega)
def fI (f:fW):cN := .mk f.2.2.2.2.2.1 f.2.2.2.2.2.2.1 f.2.2.2.2.2.2.2.1 f.2.2.2.2.2.2.2.2.1 f.2.2.2.2.2.2.2.2.2.1 f.2.2.2.2.2.2.2.2.2.2
structure ShM (m:df):Prop where
 iz:m.2.1.length ≤ 8
 vars:m.2.2.1.length ≤ 8
 init:m.2.2.2.1.length ≤ 8 ∧ ∀ e ∈ m.2.2.2.1,shE 16 e
 funcs:m.2.2.2.2.1.length ≤ 6 ∧ ∀ f ∈ m.2.2.2.2.1,f.2.2.1.length ≤ 8 ∧ shE 16 (fI f)
 old:m.2.2.2.2.2.2.1.length ≤ 8
 fwd:m.2.2.2.2.2.2.2.1.length ≤ 8 ∧ ∀ e ∈ m.2.2.2.2.2.2.2.1,shE 16 e
 back:m.2.2.2.2.2.2.2.2.length ≤ 8 ∧ ∀ e ∈ m.2.2.2.2.2.2.2.2,shE 16 e
structure OkM (m:df):Prop where
 name:dQ m.1 = true
 M1:∀ s ∈ m.2.1,dQ s = true
 vars:∀ f ∈ m.2.2.1,dQ f.nm = true ∧ bG 4 f.kd f.fs = true
 init:(∀ e ∈ m.2.2.2.1,fh e = true) ∧ m.2.2.2.1.length = m.2.2.1.length
 funcs:∀ f ∈ m.2.2.2.2.1,dQ f.1 = true ∧ (∀ p ∈ f.2.2.1,dQ p.nm = true ∧ bG 4 p.kd p.fs = true) ∧ bG 4 f.2.2.2.1.1 f.2.2.2.1.2 = true ∧ fh (fI f) = true
 old:∀ f ∈ m.2.2.2.2.2.2.1,dQ f.nm = true ∧ bG 4 f.kd f.fs = true
 fwd:(∀ e ∈ m.2.2.2.2.2.2.2.1,fh e = true) ∧ (m.2.2.2.2.2.1 = true → m.2.2.2.2.2.2.2.1.length = m.2.2.1.length)
 back:(∀ e ∈ m.2.2.2.2.2.2.2.2,fh e = true) ∧ m.2.2.2.2.2.2.2.2.length = m.2.2.2.2.2.2.1.length
noncomputable abbrev zo (m:df):Option Bool:=au m.1 m.2.1 (unL m.2.2.1) (unE m.2.2.2.1) m.2.2.2.2.1 m.2.2.2.2.2.1 (unL m.2.2.2.2.2.2.1) (unE m.2.2.2.2.2.2.2.1) (unE m.2.2.2.2.2.2.2.2)
theorem Fq (old:List ab) (fw bk:List cN) (vs:Int) (h1:old.length ≤ 8) (h2:fw.length ≤ 8 ∧ ∀ e ∈ fw,shE 16 e) (h3:bk.length ≤ 8 ∧ ∀ e ∈ bk,shE 16 e) :
  ∃ b,au.j3 (unL old) (unE fw) (unE bk) vs = some b ∧ (b = true → (∀ f ∈ old,dQ f.nm = true ∧ bG 4 f.kd f.fs = true) ∧ ((∀ e ∈ fw,fh e = true) ∧ (fw.length:Int) = vs) ∧ (∀ e ∈ bk,fh e = true) ∧ bk.length = old.length):=by
 unfold au.j3
 obtain⟨b1,e1,f1⟩:=qd old 8 (by omega)
 obtain⟨b2,e2,f2⟩:=wc fw vs (by omega) fun e he=>⟨16,h2.2 e he⟩
 obtain⟨b3,e3,f3⟩:=wc bk (old.length:Int) (by omega) fun e he=>⟨16,h3.2 e he⟩
 rw[e1,aa,e2,bw,e3]
 simp only[aa]
 cases b1 with
 | false=>exact⟨false,rfl,fun h=>by cases h⟩
 | true =>
 cases b2 with
 | false=>exact⟨false,rfl,fun h=>by cases h⟩
 | true =>
 cases b3 with
 | false=>exact⟨false,rfl,fun h=>by cases h⟩
 | true=>exact⟨true,rfl,fun _=>⟨(f1 rfl).1,f2 rfl,(f3 rfl).1,by have:=(f3 rfl).2; omega⟩⟩
theorem Fs (m:df) (hs:ShM m):∃ b,zo m = some b ∧ (b = true → OkM m):=by
 obtain⟨nm,us,vs,ini,fu,mv,old,fw,bk⟩:=m
 have hsu:us.length ≤ 8:=hs.iz
 have hsv:vs.length ≤ 8:=hs.vars
 have hsi:=hs.init
 have hsf:=hs.funcs
 have hso:old.length ≤ 8:=hs.old
 have hsw:=hs.fwd
 have hsb:=hs.back
 dsimp only at hsi hsf hsw hsb
 show ∃ b,au nm us (unL vs) (unE ini) fu mv (unL old) (unE fw) (unE bk) = some b ∧ _
 unfold au
 obtain⟨r1,h1,q1⟩:=ew (body:=fun x:Int × List (Bs × Bool)=>au.b1 us x.1 x.2) (fun i x=>∃ kn,x = ((i:Int),kn) ∧ ∀ j (hj:j < us.length),j < i → dQ us[j] = true) (Q:=fun r=>r = .inr false ∨ r = .inl () ∧ ∀ s ∈ us,dQ s = true) us.length (x:=(0,[])) ⟨[],rfl,fun j hj h=>absurd h (by omega)⟩ (fun i hi x hx=>by
  obtain⟨kn,rfl,hP⟩:=hx
  unfold au.b1 au.j1
  rw[ao,decide_eq_true (by omega),cond_true,cR hi,aa,iv,aB (by omega)]
  simp only[aa]
  cases ((cD kn us[i]).getD false) with
  | true=>exact .inr ⟨_,rfl,.inl rfl⟩
  | false =>
  cases hnm:dQ us[i] with
  | false=>exact .inr ⟨_,rfl,.inl rfl⟩
  | true =>
   refine .inl ⟨_,rfl,_,rfl,fun j hj h=>?_⟩
   by_cases hji:j = i
   ·subst hji; exact hnm
   ·exact hP j hj (by omega)) (fun x hx=>by
  obtain⟨kn,rfl,hP⟩:=hx
  unfold au.b1
  rw[ao,decide_eq_false (by omega),cond_false]
  refine⟨_,rfl,.inr ⟨rfl,fun s hs=>?_⟩⟩
  obtain⟨j,hj,rfl⟩:=List.mem_iff_getElem.1 hs
  exact hP j hj hj) (by omega)
 rw[h1,aa]
 rcases q1 with rfl | ⟨rfl,hun⟩
 ·exact⟨false,rfl,fun h=>by cases h⟩
 dsimp only
 unfold au.j6
 obtain⟨r2,h2,q2⟩:=ew (body:=fun x:Int × List (Bs × Bool)=>au.b2 fu x.1 x.2) (fun i x=>∃ kn,x = ((i:Int),kn) ∧ ∀ j (hj:j < fu.length),j < i → dQ fu[j].1 = true ∧ (∀ p ∈ fu[j].2.2.1,dQ p.nm = true ∧ bG 4 p.kd p.fs = true) ∧ bG 4 fu[j].2.2.2.1.1 fu[j].2.2.2.1.2 = true ∧ fh (fI fu[j]) = true)
  (Q:=fun r=>r = .inr false ∨ r = .inl () ∧ ∀ f ∈ fu,dQ f.1 = true ∧ (∀ p ∈ f.2.2.1,dQ p.nm = true ∧ bG 4 p.kd p.fs = true) ∧ bG 4 f.2.2.2.1.1 f.2.2.2.1.2 = true ∧ fh (fI f) = true) fu.length (x:=(0,[])) ⟨[],rfl,fun j hj h=>absurd h (by omega)⟩ (fun i hi x hx=>by
  obtain⟨kn,rfl,hP⟩:=hx
  unfold au.b2 au.j2
  simp only[fu1,fu2,fe1,fe2]
  obtain⟨hf1,hf2⟩:=hsf.2 _ (List.getElem_mem hi)
  obtain⟨b1,e1,g1⟩:=qd fu[i].2.2.1 6 (by omega)
  have hr:cL fu[i].2.2.2.1.1 (unL fu[i].2.2.2.1.2) = some (bG 4 fu[i].2.2.2.1.1 fu[i].2.2.2.1.2):=by
   have:=fH fu[i].2.2.2.1.1 fu[i].2.2.2.1.2
   unfold bI at this
   cases hx:cL fu[i].2.2.2.1.1 (unL fu[i].2.2.2.1.2) with
   | none=>rw[hx] at this; cases this
   | some b=>rw[hx] at this; exact this
  have he:cn fu[i].2.2.2.2.2.1 fu[i].2.2.2.2.2.2.1 fu[i].2.2.2.2.2.2.2.1 fu[i].2.2.2.2.2.2.2.2.1 fu[i].2.2.2.2.2.2.2.2.2.1 (unE fu[i].2.2.2.2.2.2.2.2.2.2) = some (fh (fI fu[i])):=(iV hf2).1
  rw[ao,decide_eq_true (by omega),cond_true,cR hi,aa,iv,aB (by omega),e1,hr,he]
  simp only[aa]
  cases ((cD kn fu[i].1).getD false) with
  | true=>exact .inr ⟨_,rfl,.inl rfl⟩
  | false =>
  cases hnm:dQ fu[i].1 with
  | false=>exact .inr ⟨_,rfl,.inl rfl⟩
  | true =>
  cases b1 with
  | false=>exact .inr ⟨_,rfl,.inl rfl⟩
  | true =>
  cases hrt:bG 4 fu[i].2.2.2.1.1 fu[i].2.2.2.1.2 with
  | false=>exact .inr ⟨_,rfl,.inl rfl⟩
  | true =>
  cases hre:fh (fI fu[i]) with
  | false=>exact .inr ⟨_,rfl,.inl rfl⟩
  | true =>
  cases (!eqZ (anI .i64 fu[i].2.2.2.2.1 15) 0) with
  | true=>exact .inr ⟨_,rfl,.inl rfl⟩
  | false =>
   refine .inl ⟨_,rfl,_,rfl,fun j hj h=>?_⟩
   by_cases hji:j = i
   ·subst hji; exact⟨hnm,(g1 rfl).1,hrt,hre⟩
   ·exact hP j hj (by omega)) (fun x hx=>by
  obtain⟨kn,rfl,hP⟩:=hx
  unfold au.b2
  rw[ao,decide_eq_false (by omega),cond_false]
  refine⟨_,rfl,.inr ⟨rfl,fun s hs=>?_⟩⟩
  obtain⟨j,hj,rfl⟩:=List.mem_iff_getElem.1 hs
  exact hP j hj hj) (by omega)
 rw[h2,aa]
 rcases q2 with rfl | ⟨rfl,hfn⟩
 ·exact⟨false,rfl,fun h=>by cases h⟩
 dsimp only
 unfold au.j5
 obtain⟨b1,e1,g1⟩:=qd vs 8 (by omega)
 obtain⟨b2,e2,g2⟩:=wc ini (vs.length:Int) (by omega) fun e he=>⟨16,hsi.2 e he⟩
 rw[iv,e1,bw,e2]
 simp only[aa]
 cases hnm:dQ nm with
 | false=>exact⟨false,rfl,fun h=>by cases h⟩
 | true =>
 cases ltZ 12 (us.length:Int) with
 | true=>exact⟨false,rfl,fun h=>by cases h⟩
 | false =>
 cases ltZ 30 (fu.length:Int) with
 | true=>exact⟨false,rfl,fun h=>by cases h⟩
 | false =>
 cases b1 with
 | false=>exact⟨false,rfl,fun h=>by cases h⟩
 | true =>
 cases b2 with
 | false=>exact⟨false,rfl,fun h=>by cases h⟩
 | true =>
 simp only[Bool.not_true,cond_false,aa]
 unfold au.j4
 rw[bw,bw,cond_false]
 have fin:∀ vl:Int,(mv = true → vl = (vs.length:Int)) → ∃ b,au.j3 (unL old) (unE fw) (unE bk) vl = some b ∧ (b = true → OkM (nm,us,vs,ini,fu,mv,old,fw,bk)):=fun vl hvl=>by
  obtain⟨b,hb,hb2⟩:=Fq old fw bk vl hso hsw hsb
  refine⟨b,hb,fun h=>?_⟩
  obtain⟨k1,k2,k3⟩:=hb2 h
  exact⟨hnm,hun,(g1 rfl).1,⟨(g2 rfl).1,by have:=(g2 rfl).2; show ini.length = vs.length; omega⟩,hfn,k1,⟨k2.1,fun h=>by have h1:=k2.2; have h2:=hvl h; show fw.length = vs.length; omega⟩,k3⟩
 cases mv with
 | true =>
  rw[Bool.not_true,cond_false,aa]
  exact fin _ fun _=>rfl
 | false =>
  rw[Bool.not_false,cond_true]
  cases ltZ 0 (old.length:Int) with
  | true=>exact⟨false,rfl,fun h=>by cases h⟩
  | false =>
   rw[cond_false,aa]
   exact fin _ fun h=>by cases h
end Go.Proofs.YtaocfjifacnokaaGreat
namespace Go.Proofs.YtaocfjifacnokaaGreat
open Go.Lad
noncomputable def chunk (e1:Int) (e2:Int) (e3:Bs) (e4:Bs) (e5:List Bs) (e6:List dS):Option Bool :=
 (cM e1 e2 e3 e4 e5 e6).bind fun c9 =>
 (bif (leZ 0 c9.2) then
  (bif (!eqZ c9.2 (e6.length:Int)) then
  some true
  else
  (bif (!eqZ c9.1.2.1 e2) then
   some true
  else
   (bif (!decide (c9.1.2.2.1 = e3)) then
   some true
   else
   (bif (!decide (c9.1.2.2.2.1 = e4)) then
    some true
   else
    (bif (!eqZ (c9.1.2.2.2.2.1.length:Int) (e5.length:Int)) then
    some true
    else
    ((cA e1 e2 e3 e4 e5 e6).bind fun l10 =>
    some (!l10)))))))
 else
  (bif (!eqZ c9.1.2.1 e2) then
  some true
  else
  (bif (!decide (c9.1.2.2.1 = e3)) then
   some true
  else
   (bif (!decide (c9.1.2.2.2.1 = e4)) then
   some true
   else
   (bif (!eqZ (c9.1.2.2.2.2.1.length:Int) (e5.length:Int)) then
    some true
   else
    ((cA e1 e2 e3 e4 e5 e6).bind fun l11 =>
    some (!l11)))))))
theorem CU (Gr:Int → Int → Bs → Bs → List Bs → List dS → Int → Option Bool) (e1 e2:Int) (e3 e4:Bs) (e5:List Bs) (e6:List dS) (d:Int) :
  av.j2 Gr e1 e2 e3 e4 e5 e6 d false = (chunk e1 e2 e3 e4 e5 e6).bind fun x=>av.j1 Gr e6 d x:=by
 unfold av.j2 chunk
 rw[cond_false]
 cases cM e1 e2 e3 e4 e5 e6 <;> rfl
theorem Ft (e5:List Bs) (h:e5.length ≤ 1000000):bO (fun x=>cA.b1 e5 x) 0 = some (zf e5 && leZ (e5.length:Int) 8):=by
 have:=fM (body:=fun x=>cA.b1 e5 x) e5 (fun i n=>if (dQ n && (decide (i = 0) || upN (e5.getD (i - 1) []) n)) = true then none else some false) (leZ (e5.length:Int) 8) (fun i hi=>by
  unfold cA.b1 cA.j1
  rw[ao,decide_eq_true (by omega),cond_true,cR hi,aa,iv,aa,aB (by omega)]
  cases hn:dQ e5[i] with
  | false=>rfl
  | true =>
   rw[Bool.not_true,cond_false,Bool.true_and]
   by_cases h0:i = 0
   ·subst h0; rfl
   ·rw[ao,decide_eq_true (by omega),cond_true,vL (by omega) (by omega),aa,cR (show i - 1 < e5.length by omega),aa,aa,decide_eq_false h0,Bool.false_or]
    have hg:e5.getD (i - 1) [] = e5[i - 1]'(by omega):=by rw[List.getD_eq_getElem?_getD,List.getElem?_eq_getElem (by omega)]; rfl
    rw[hg]
    unfold upN
    cases (Op.bytesLess e5[i] (e5[i - 1]'(by omega)) || decide (e5[i] = e5[i - 1]'(by omega))) <;> rfl) (by
  unfold cA.b1
  rw[ao,decide_eq_false (by omega),cond_false]) (by omega)
 rw[this,mO]
 unfold zf
 cases allI (fun i n=>dQ n && (decide (i = 0) || upN (e5.getD (i - 1) []) n)) 0 e5 <;> rfl
theorem H2 {c x y:Bool}:(bif c then some x else some y) = some (bif c then x else y):=by cases c <;> rfl
theorem Lo {c x:Bool}:(bif c then x else x) = x:=by cases c <;> rfl
theorem head_eq {o:Int} (e2:Int) (e3 e4:Bs) (e5:List Bs) (e6:List dS) (h:0 ≤ o ∧ o < 19) (h5:e5.length ≤ 1000000):∃ b,bJ o e2 e3 e4 e5 e6 = some b ∧ chunk o e2 e3 e4 e5 e6 = some (!b):=by
 have p2:(0 = e2) = (e2 = 0):=propext eq_comm
 have p3:(([]:Bs) = e3) = (e3 = []):=propext eq_comm
 have p4:(([]:Bs) = e4) = (e4 = []):=propext eq_comm
 have p5:((0:Int) = (e5.length:Int)) = ((e5.length:Int) = 0):=propext eq_comm
 have p6:∀ k:Int,(k = (e6.length:Int)) = ((e6.length:Int) = k):=fun k=>propext eq_comm
 have z0:((([]:List Bs).length:Nat):Int) = 0:=rfl
 have zn:((0:Int) ≤ (e5.length:Int)) = True:=eq_true (by omega)
 have i8:(bif decide (0 ≤ e2) then decide (e2 ≤ 1) else false) = (bif decide (e2 = 0) then true else decide (e2 = 1)):=by
  by_cases a:e2 = 0
  ·subst a; rfl
  ·by_cases b:e2 = 1
   ·subst b; rfl
   ·rw[decide_eq_false a,decide_eq_false b,cond_false]
    by_cases c:0 ≤ e2
    ·rw[decide_eq_true c,decide_eq_false (by omega)]; rfl
    ·rw[decide_eq_false c]; rfl
 have hc:o = 0 ∨ o = 1 ∨ o = 2 ∨ o = 3 ∨ o = 4 ∨ o = 5 ∨ o = 6 ∨ o = 7 ∨ o = 8 ∨ o = 9 ∨ o = 10 ∨ o = 11 ∨ o = 12 ∨ o = 13 ∨ o = 14 ∨ o = 15 ∨ o = 16 ∨ o = 17 ∨ o = 18:=by omega
 clear h
 by_cases h13:o = 13
 ·subst h13
  unfold chunk bJ bJ.j3 bJ.j2 cJ cM cM.j3 cM.j2 cM.j1 cA cA.j2
  simp only[oU,iv,aa,HM e5 h5,Ft e5 h5,H2,bg,dk,Int.reduceEq,decide_false,decide_true,cond_true,cond_false,Bool.not_true,Bool.not_false,p2,p3,p4,z0,zn]
  by_cases hl:(e6.length:Int) = (e5.length:Int)
  ·rw[hl]
   simp only[decide_true,Bool.not_true,cond_true,cond_false]
   refine⟨_,rfl,congrArg some ?_⟩
   generalize decide (e2 = 0) = y2; generalize decide (e3 = []) = y3; generalize decide (e4 = []) = y4; generalize zf e5 = y5; generalize decide ((e5.length:Int) ≤ 8) = y6
   clear p2 p3 p4 p5 p6 h5 i8 z0 zn hc hl
   cases y2 <;> cases y3 <;> cases y4 <;> cases y5 <;> cases y6 <;> rfl
  ·have hl2:¬ (e5.length:Int) = (e6.length:Int):=fun e=>hl e.symm
   rw[decide_eq_false hl,decide_eq_false hl2]
   simp only[Bool.not_false,cond_true,cond_false,Lo]
   exact⟨_,rfl,rfl⟩
 rcases hc with rfl | rfl | rfl | rfl | rfl | rfl | rfl | rfl | rfl | rfl | rfl | rfl | rfl | rfl | rfl | rfl | rfl | rfl | rfl
 all_goals
  unfold chunk bJ bJ.j3 bJ.j2 bJ.j1 cJ cO cM cM.j3 cM.j2 cM.j1 cA cA.j2
  simp only[oU,iv,aa,H2,bg,dk,ao,Int.reduceEq,Int.reduceLE,decide_false,decide_true,cond_true,cond_false,Bool.not_true,Bool.not_false,p2,p3,p4,p6,z0,p5,i8]
  first
   | (refine⟨_,rfl,congrArg some ?_⟩; generalize decide (e2 = 0) = y2; generalize decide (e3 = []) = y3; generalize decide (e4 = []) = y4; generalize decide ((e5.length:Int) = 0) = y5; generalize decide ((e6.length:Int) = 0) = w0; generalize dQ e3 = w1; clear p2 p3 p4 p5 p6 h5 i8 z0 zn; cases y2 <;> cases y3 <;> cases y4 <;> cases y5 <;> cases w0 <;> cases w1 <;> rfl)
   | (refine⟨_,rfl,congrArg some ?_⟩; generalize decide (e2 = 0) = y2; generalize decide (e3 = []) = y3; generalize decide (e4 = []) = y4; generalize decide ((e5.length:Int) = 0) = y5; generalize decide ((e6.length:Int) = 1) = w0; generalize dQ e3 = w1; clear p2 p3 p4 p5 p6 h5 i8 z0 zn; cases y2 <;> cases y3 <;> cases y4 <;> cases y5 <;> cases w0 <;> cases w1 <;> rfl)
   | (refine⟨_,rfl,congrArg some ?_⟩; generalize decide (e2 = 0) = y2; generalize decide (e3 = []) = y3; generalize decide (e4 = []) = y4; generalize decide ((e5.length:Int) = 0) = y5; generalize decide ((e6.length:Int) = 2) = w0; generalize dQ e3 = w1; clear p2 p3 p4 p5 p6 h5 i8 z0 zn; cases y2 <;> cases y3 <;> cases y4 <;> cases y5 <;> cases w0 <;> cases w1 <;> rfl)
   | (refine⟨_,rfl,congrArg some ?_⟩; generalize decide (e2 = 0) = y2; generalize decide (e3 = []) = y3; generalize decide (e4 = []) = y4; generalize decide ((e5.length:Int) = 0) = y5; generalize decide ((e6.length:Int) = 3) = w0; generalize dQ e3 = w1; clear p2 p3 p4 p5 p6 h5 i8 z0 zn; cases y2 <;> cases y3 <;> cases y4 <;> cases y5 <;> cases w0 <;> cases w1 <;> rfl)
   | (refine⟨_,rfl,congrArg some ?_⟩; generalize decide (e2 = 0) = y2; generalize decide (e3 = []) = y3; generalize decide (e4 = []) = y4; generalize decide ((e5.length:Int) = 0) = y5; generalize decide ((e6.length:Int) = 0) = w0; generalize decide (0 ≤ e2) = w1; generalize decide (e2 ≤ 1099511627776) = w2; clear p2 p3 p4 p5 p6 h5 i8 z0 zn; cases y2 <;> cases y3 <;> cases y4 <;> cases y5 <;> cases w0 <;> cases w1 <;> cases w2 <;> rfl)
   | (refine⟨_,rfl,congrArg some ?_⟩; generalize decide (e2 = 0) = y2; generalize decide (e3 = []) = y3; generalize decide (e4 = []) = y4; generalize decide ((e5.length:Int) = 0) = y5; generalize decide ((e6.length:Int) = 0) = w0; generalize decide (e2 = 1) = w1; clear p2 p3 p4 p5 p6 h5 i8 z0 zn; cases y2 <;> cases y3 <;> cases y4 <;> cases y5 <;> cases w0 <;> cases w1 <;> rfl)
   | (refine⟨_,rfl,congrArg some ?_⟩; generalize decide (e2 = 0) = y2; generalize decide (e3 = []) = y3; generalize decide (e4 = []) = y4; generalize decide ((e5.length:Int) = 0) = y5; generalize decide ((e6.length:Int) = 1) = w0; generalize decide (e2 = 1) = w1; generalize decide (e2 = 2) = w2; generalize decide (e2 = 4) = w3; generalize decide (e2 = 8) = w4; clear p2 p3 p4 p5 p6 h5 i8 z0 zn; cases y2 <;> cases y3 <;> cases y4 <;> cases y5 <;> cases w0 <;> cases w1 <;> cases w2 <;> cases w3 <;> cases w4 <;> rfl)
   | (refine⟨_,rfl,congrArg some ?_⟩; generalize decide (e2 = 0) = y2; generalize decide (e3 = []) = y3; generalize decide (e4 = []) = y4; generalize decide ((e5.length:Int) = 0) = y5; generalize decide ((e6.length:Int) ≤ 6) = w0; generalize dQ e3 = w1; generalize dQ e4 = w2; clear p2 p3 p4 p5 p6 h5 i8 z0 zn; cases y2 <;> cases y3 <;> cases y4 <;> cases y5 <;> cases w0 <;> cases w1 <;> cases w2 <;> rfl)
   | exact absurd rfl h13
theorem H3 {o:Int} (e2:Int) (e3 e4:Bs) (e5:List Bs) (e6:List dS) (h:¬ (0 ≤ o ∧ o < 19)):bJ o e2 e3 e4 e5 e6 = some false:=by
 have hk:∀ k:Int,0 ≤ k → k < 19 → eqZ o k = false:=fun k h1 h2=>by rw[bg]; exact decide_eq_false fun e=>h (by omega)
 unfold bJ bJ.j3 bJ.j2 bJ.j1
 rw[hk 0,hk 1,hk 2,hk 17,hk 14,hk 18,hk 12,hk 10,hk 11,hk 13,hk 15,hk 16,hk 3,hk 4,hk 5,hk 6,hk 7,hk 8,hk 9]
 ·rfl
 all_goals omega
theorem x7:∀ (d n q:Nat) (e:cN),d ≤ 12 → d < n → shE q e → ∃ b,av.rec n e.op e.n e.s e.m e.names (unE e.args) (d:Int) = some b ∧ ba.rec n e.op e.n e.s e.m e.names (unE e.args) (d:Int) = some b
 | d,0,_,_,_,h,_=>absurd h (by omega)
 | d,n + 1,0,_,_,_,h=>h.elim
 | 0,n + 1,q + 1,e,_,_,_=>⟨false,rfl,rfl⟩
 | d + 1,n + 1,q + 1,e,hd,hn,hs=>by
  obtain⟨s1,s2,s3⟩:=hs
  show ∃ b,av.body (av.rec n) e.op e.n e.s e.m e.names (unE e.args) ((d + 1:Nat):Int) = some b ∧ ba.body (ba.rec n) e.op e.n e.s e.m e.names (unE e.args) ((d + 1:Nat):Int) = some b
  unfold av.body ba.body
  rw[bg,decide_eq_false (show ¬ (((d + 1:Nat):Int) = 0) by omega),cond_false,cond_false]
  by_cases ho:0 ≤ e.op ∧ e.op < 19
  rotate_left
  ·rw[H3 _ _ _ _ _ ho,aa,aa]
   refine⟨false,?_,rfl⟩
   rw[ao,dk]
   by_cases h0:e.op < 0
   ·rw[decide_eq_true h0]; rfl
   ·rw[decide_eq_false h0,decide_eq_true (show 19 ≤ e.op by omega)]; rfl
  rw[ao,dk,decide_eq_false (by omega),decide_eq_false (by omega),cond_false,aa,CU]
  obtain⟨hb,h1,h2⟩:=head_eq e.n e.s e.m e.names (unE e.args) ho (by omega)
  rw[h1,h2,aa,aa,aa]
  cases hb with
  | false=>exact⟨false,rfl,rfl⟩
  | true =>
  unfold av.j1 ba.j1
  rw[Bool.not_true,cond_false,cond_false]
  have hB:∀ a ∈ e.args,av.rec n a.op a.n a.s a.m a.names (unE a.args) (d:Int) = some ((av.rec n a.op a.n a.s a.m a.names (unE a.args) (d:Int)).getD false) ∧ ba.rec n a.op a.n a.s a.m a.names (unE a.args) (d:Int) = some ((av.rec n a.op a.n a.s a.m a.names (unE a.args) (d:Int)).getD false):=fun a ha=>by
   obtain⟨b,b1,b2⟩:=x7 d n q a (by omega) (by omega) (s3 a ha)
   rw[b1,b2]; exact⟨rfl,rfl⟩
  have hd1:z64 (((d + 1:Nat):Int) - 1) = some (d:Int):=by rw[ji (by omega)]; congr 1; omega
  refine⟨allI (fun _ a=>(av.rec n a.op a.n a.s a.m a.names (unE a.args) (d:Int)).getD false) 0 e.args,gQ e.args _ (fun i hi=>?_) ?_ (by omega),gQ e.args _ (fun i hi=>?_) ?_ (by omega)⟩
  ·unfold av.b1
   simp only[fe1,fe2]
   rw[dR,ao,decide_eq_true (by omega),cond_true,gl hi,aa,hd1,aa,aB (by omega)]
   unfold kf
   have hr:=(hB _ (List.getElem_mem hi)).1
   generalize (av.rec n e.args[i].op e.args[i].n e.args[i].s e.args[i].m e.args[i].names (unE e.args[i].args) (d:Int)).getD false = bb at hr ⊢
   simp only[hr,aa]
   exact jJ
  ·unfold av.b1
   rw[dR,ao,decide_eq_false (by omega),cond_false]
  ·unfold ba.b1
   simp only[fe1,fe2]
   rw[dR,ao,decide_eq_true (by omega),cond_true,gl hi,aa,hd1,aa,aB (by omega)]
   unfold kf
   have hr:=(hB _ (List.getElem_mem hi)).2
   generalize (av.rec n e.args[i].op e.args[i].n e.args[i].s e.args[i].m e.args[i].names (unE e.args[i].args) (d:Int)).getD false = bb at hr ⊢
   simp only[hr,aa]
   exact jJ
  ·unfold ba.b1
   rw[dR,ao,decide_eq_false (by omega),cond_false]
theorem sy {q:Nat} {e:cN} (h:shE q e):cu e.op e.n e.s e.m e.names (unE e.args) = some (fh e):=by
 obtain⟨b,h1,h2⟩:=x7 12 jI.n q e (by omega) (fl (by omega)) h
 have e1:cn e.op e.n e.s e.m e.names (unE e.args) = some b:=by
  unfold cn av
  rw[show (12:Int) = ((12:Nat):Int) from rfl,h1]; rfl
 have e2:cu e.op e.n e.s e.m e.names (unE e.args) = some b:=by
  unfold cu ba
  rw[show (12:Int) = ((12:Nat):Int) from rfl,h2]; rfl
 unfold fh
 rw[e1,e2]; rfl
end Go.Proofs.YtaocfjifacnokaaGreat
namespace Go.Proofs.YtaocfjifacnokaaGreat
open Go.Lad
theorem Bo:∀ (lv n:Nat) (e:cN) (most lev:Int),lev ≤ lv → -9 ≤ lev → lv ≤ 100 → lv < n → 0 ≤ most → most ≤ 1000 → ∃ r,aM.rec n e.op e.n e.s e.m e.names (unE e.args) most lev = some r ∧ 1 ≤ r ∧ r ≤ most + 1 ∧ (r ≤ most → shE lv e)
 | lv,0,_,_,_,_,_,_,h,_,_=>absurd h (by omega)
 | lv,n + 1,e,most,lev,h1,h2,h3,h4,h5,h6=>by
  show ∃ r,aM.body (aM.rec n) e.op e.n e.s e.m e.names (unE e.args) most lev = some r ∧ _
  unfold aM.body aM.j2
  simp only[ao,gz]
  have hbad:∃ r,((some true).bind fun x=>bif x then ((z64 (most + 1)).bind fun v10=>some v10) else bO (fun x=>aM.b1 (aM.rec n) (unE e.args) most lev x.1 x.2) (1,0)) = some r ∧ 1 ≤ r ∧ r ≤ most + 1 ∧ (r ≤ most → shE lv e):=by
   rw[aa,cond_true,ji (by omega),aa]
   exact⟨_,rfl,by omega,by omega,fun h=>by omega⟩
  by_cases hl:lev < 1
  ·rw[if_pos hl]; exact hbad
  rw[if_neg hl]
  by_cases h12:(12:Int) < (e.names.length:Int)
  ·rw[if_pos h12]; exact hbad
  rw[if_neg h12]
  by_cases h60:(60:Int) < (e.s.length:Int)
  ·rw[if_pos h60]; exact hbad
  rw[if_neg h60]
  by_cases h61:(60:Int) < (e.m.length:Int)
  ·rw[decide_eq_true h61]; exact hbad
  rw[decide_eq_false h61,aa,cond_false]
  obtain⟨lv',rfl⟩:∃ k,lv = k + 1:=⟨lv - 1,by omega⟩
  obtain⟨r,hr,hq1,hq2,hq3⟩:=ew (body:=fun x=>aM.b1 (aM.rec n) (unE e.args) most lev x.1 x.2)
   (fun i x=>∃ nn:Int,x = (nn,(i:Int)) ∧ 1 + (i:Int) ≤ nn ∧ nn ≤ most + 1 ∧ i ≤ e.args.length ∧ (nn ≤ most → ∀ j (hj:j < e.args.length),j < i → shE lv' e.args[j])) (Q:=fun r=>1 ≤ r ∧ r ≤ most + 1 ∧ (r ≤ most → e.args.length ≤ 1000 ∧ ∀ a ∈ e.args,shE lv' a)) (most.toNat + 1) (x:=(1,0)) ⟨1,rfl,by omega,by omega,by omega,fun _ j hj h=>absurd h (by omega)⟩ (fun i hi x hx=>by
   obtain⟨nn,rfl,g1,g2,g3,g4⟩:=hx
   unfold aM.b1 aM.j1
   simp only[fe1,fe2]
   rw[dR]
   simp only[ao,dk]
   by_cases hil:i < e.args.length
   rotate_left
   ·rw[decide_eq_false (by omega),cond_false,aa,cond_false]
    have:i = e.args.length:=by omega
    refine .inr ⟨_,rfl,by omega,by omega,fun h=>⟨by omega,fun a ha=>?_⟩⟩
    obtain⟨j,hj,rfl⟩:=List.mem_iff_getElem.1 ha
    exact g4 h j hj (by omega)
   rw[decide_eq_true (show (i:Int) < (e.args.length:Int) by omega),cond_true,aa,gl hil]
   by_cases hm:nn ≤ most
   rotate_left
   ·rw[decide_eq_false hm,cond_false]
    exact .inr ⟨_,rfl,by omega,by omega,fun h=>absurd h hm⟩
   rw[decide_eq_true hm,cond_true,aa,ji (by omega),aa,ji (by omega),aa]
   obtain⟨r,hr,r1,r2,r3⟩:=Bo lv' n e.args[i] (most - nn) (lev - 1) (by omega) (by omega) (by omega) (by omega) (by omega) (by omega)
   unfold kf
   simp only[hr,aa]
   rw[ji (by omega),aa,aB (by omega),aa]
   refine .inl ⟨_,rfl,nn + r,rfl,by omega,by omega,by omega,fun h j hj hji=>?_⟩
   by_cases hje:j = i
   ·subst hje; exact r3 (by omega)
   ·exact g4 (by omega) j hj (by omega)) (fun x hx=>by
   obtain⟨nn,rfl,g1,g2,g3,g4⟩:=hx
   omega) (by omega)
  refine⟨r,hr,hq1,hq2,fun h=>?_⟩
  obtain⟨k1,k2⟩:=hq3 h
  exact⟨by omega,k1,k2⟩
theorem JI (e:cN):∃ r,aM e.op e.n e.s e.m e.names (unE e.args) 60 16 = some r ∧ (r ≤ 60 → shE 16 e):=by
 obtain⟨r,h1,_,_,h4⟩:=Bo 16 jI.n e 60 16 (by omega) (by omega) (by omega) (fl (by omega)) (by omega) (by omega)
 exact⟨r,h1,h4⟩
theorem rn (l:List cN):∃ b,bU (unE l) = some b ∧ (b = true → l.length ≤ 8 ∧ ∀ e ∈ l,shE 16 e):=by
 unfold bU
 exact ew (body:=fun x=>bU.b1 (unE l) x) (fun i x=>x = (i:Int) ∧ i ≤ l.length ∧ ∀ j (hj:j < l.length),j < i → shE 16 l[j]) (Q:=fun b=>b = true → l.length ≤ 8 ∧ ∀ e ∈ l,shE 16 e) 9 (x:=0) ⟨rfl,by omega,fun j hj h=>absurd h (by omega)⟩ (fun i hi x hx=>by
  obtain⟨rfl,hil,hP⟩:=hx
  unfold bU.b1 bU.j1
  simp only[fe1,fe2,ao]
  rw[dR]
  by_cases hl:i < l.length
  rotate_left
  ·rw[decide_eq_false (by omega),cond_false,aa,cond_false]
   refine .inr ⟨_,rfl,fun h=>?_⟩
   rw[dk,decide_eq_true_eq] at h
   refine⟨by omega,fun a ha=>?_⟩
   obtain⟨j,hj,rfl⟩:=List.mem_iff_getElem.1 ha
   exact hP j hj (by omega)
  rw[decide_eq_true (show (i:Int) < (l.length:Int) by omega),cond_true,decide_eq_true (show (i:Int) < 9 by omega),aa,cond_true,gl hl,aa]
  obtain⟨r,hr,hr2⟩:=JI l[i]
  unfold kf
  simp only[hr,aa]
  by_cases h60:(60:Int) < r
  ·rw[decide_eq_true h60]; exact .inr ⟨_,rfl,fun h=>by cases h⟩
  ·rw[decide_eq_false h60,cond_false,aB (by omega),aa]
   refine .inl ⟨_,rfl,rfl,by omega,fun j hj hji=>?_⟩
   by_cases hje:j = i
   ·subst hje; exact hr2 (by omega)
   ·exact hP j hj (by omega)) (fun x hx=>by
  obtain⟨rfl,hil,hP⟩:=hx
  unfold bU.b1 bU.j1
  simp only[ao]
  rw[dR,dk,decide_eq_false (show ¬ (((9:Nat):Int) < 9) by omega)]
  refine⟨false,?_,fun h=>by cases h⟩
  rw[decide_eq_false (show ¬ ((l.length:Int) ≤ 8) by omega)]
  cases decide (((9:Nat):Int) < (l.length:Int)) <;> rfl) (by omega)
theorem pv (l:List ab):∃ b,bp (unL l) = some b ∧ (b = true → l.length ≤ 8):=by
 unfold bp
 exact ew (body:=fun x=>bp.b1 (unL l) x) (fun i x=>x = (i:Int) ∧ i ≤ l.length) (Q:=fun b=>b = true → l.length ≤ 8) 9 (x:=0) ⟨rfl,by omega⟩ (fun i hi x hx=>by
  obtain⟨rfl,hil⟩:=hx
  unfold bp.b1 bp.j2 bp.j1
  simp only[fx1,ao]
  rw[bw]
  by_cases hl:i < l.length
  rotate_left
  ·rw[decide_eq_false (by omega),cond_false,aa,cond_false]
   refine .inr ⟨_,rfl,fun h=>?_⟩
   rw[dk,decide_eq_true_eq] at h
   omega
  rw[decide_eq_true (show (i:Int) < (l.length:Int) by omega),cond_true,decide_eq_true (show (i:Int) < 9 by omega),aa,cond_true,dy hl,aa,aa]
  obtain⟨b,hb⟩:=oR [(l[i].kd,l[i].fs)] (by simp)
  rw[hb]
  simp only[aa]
  by_cases h60:(60:Int) < (l[i].nm.length:Int)
  ·rw[decide_eq_true h60]; exact .inr ⟨_,rfl,fun h=>by cases h⟩
  ·rw[decide_eq_false h60,cond_false,aa]
   cases b with
   | false=>exact .inr ⟨_,rfl,fun h=>by cases h⟩
   | true =>
    rw[Bool.not_true,cond_false,aB (by omega),aa]
    exact .inl ⟨_,rfl,rfl,by omega⟩) (fun x hx=>by
  obtain⟨rfl,hil⟩:=hx
  unfold bp.b1 bp.j2
  simp only[ao]
  rw[bw,dk,decide_eq_false (show ¬ (((9:Nat):Int) < 9) by omega)]
  refine⟨false,?_,fun h=>by cases h⟩
  rw[decide_eq_false (show ¬ ((l.length:Int) ≤ 8) by omega)]
  cases decide (((9:Nat):Int) < (l.length:Int)) <;> rfl) (by omega)
noncomputable abbrev MW (m:df):Option Bool:=bq m.1 m.2.1 (unL m.2.2.1) (unE m.2.2.2.1) m.2.2.2.2.1 m.2.2.2.2.2.1 (unL m.2.2.2.2.2.2.1) (unE m.2.2.2.2.2.2.2.1) (unE m.2.2.2.2.2.2.2.2)
theorem JJ (f:fW):([(f.2.2.2.2.2.1,f.2.2.2.2.2.2.1,f.2.2.2.2.2.2.2.1,f.2.2.2.2.2.2.2.2.1,f.2.2.2.2.2.2.2.2.2.1,f.2.2.2.2.2.2.2.2.2.2)]:List dS) = unE [fI f]:=rfl
theorem Fu (m:df):∃ b,MW m = some b ∧ (b = true → ShM m):=by
 obtain⟨nm,us,vs,ini,fu,mv,old,fw,bk⟩:=m
 show ∃ b,bq nm us (unL vs) (unE ini) fu mv (unL old) (unE fw) (unE bk) = some b ∧ _
 unfold bq
 obtain⟨r1,h1,q1⟩:=ew (body:=fun x=>bq.b1 fu x) (fun i x=>x = (i:Int) ∧ i ≤ fu.length ∧ ∀ j (hj:j < fu.length),j < i → fu[j].2.2.1.length ≤ 8 ∧ shE 16 (fI fu[j])) (Q:=fun r=>r = .inr false ∨ r = .inl () ∧ (fu.length ≤ 6 → ∀ f ∈ fu,f.2.2.1.length ≤ 8 ∧ shE 16 (fI f))) 7 (x:=0) ⟨rfl,by omega,fun j hj h=>absurd h (by omega)⟩ (fun i hi x hx=>by
  obtain⟨rfl,hil,hP⟩:=hx
  unfold bq.b1 bq.j2 bq.j1
  simp only[fu1,fu2,fx1,Mr,ao]
  by_cases hl:i < fu.length
  rotate_left
  ·rw[decide_eq_false (by omega),cond_false,aa,cond_false]
   refine .inr ⟨_,rfl,.inr ⟨rfl,fun _ a ha=>?_⟩⟩
   obtain⟨j,hj,rfl⟩:=List.mem_iff_getElem.1 ha
   exact hP j hj (by omega)
  rw[decide_eq_true (show (i:Int) < (fu.length:Int) by omega),cond_true,decide_eq_true (show (i:Int) < 7 by omega),aa,cond_true,cR hl,aa]
  obtain⟨b1,e1,g1⟩:=pv fu[i].2.2.1
  obtain⟨b2,e2⟩:=oR [(fu[i].2.2.2.1.1,fu[i].2.2.2.1.2)] (by simp)
  obtain⟨b3,e3,g3⟩:=rn [fI fu[i]]
  rw[e1,aa,e2,aa,JJ,e3,aa]
  cases b1 with
  | false=>exact .inr ⟨_,rfl,.inl rfl⟩
  | true =>
  cases b2 with
  | false=>exact .inr ⟨_,rfl,.inl rfl⟩
  | true =>
  cases b3 with
  | false=>exact .inr ⟨_,rfl,.inl rfl⟩
  | true =>
  simp only[Bool.not_true,cond_false,aa]
  by_cases h60:(60:Int) < (fu[i].1.length:Int)
  ·rw[decide_eq_true h60]; exact .inr ⟨_,rfl,.inl rfl⟩
  ·rw[decide_eq_false h60,cond_false,aB (by omega),aa]
   refine .inl ⟨_,rfl,rfl,by omega,fun j hj hji=>?_⟩
   by_cases hje:j = i
   ·subst hje; exact⟨g1 rfl,(g3 rfl).2 _ List.mem_cons_self⟩
   ·exact hP j hj (by omega)) (fun x hx=>by
  obtain⟨rfl,hil,hP⟩:=hx
  unfold bq.b1 bq.j2
  simp only[ao]
  rw[decide_eq_false (show ¬ (((7:Nat):Int) < 7) by omega)]
  refine⟨.inl (),?_,.inr ⟨rfl,fun h=>by omega⟩⟩
  cases decide (((7:Nat):Int) < (fu.length:Int)) <;> rfl) (by omega)
 rw[h1,aa]
 rcases q1 with rfl | ⟨rfl,hf⟩
 ·exact⟨false,rfl,fun h=>by cases h⟩
 dsimp only
 unfold bq.j3
 obtain⟨b1,e1,g1⟩:=pv vs
 obtain⟨b2,e2,g2⟩:=rn ini
 obtain⟨b3,e3,g3⟩:=pv old
 obtain⟨b4,e4,g4⟩:=rn fw
 obtain⟨b5,e5,g5⟩:=rn bk
 rw[e1,e2,e3,e4,e5]
 simp only[aa,dk]
 by_cases c1:(fu.length:Int) ≤ 6
 rotate_left
 ·rw[decide_eq_false c1]; exact⟨false,rfl,fun h=>by cases h⟩
 rw[decide_eq_true c1,cond_true]
 by_cases c2:(us.length:Int) ≤ 8
 rotate_left
 ·rw[decide_eq_false c2]; exact⟨false,rfl,fun h=>by cases h⟩
 rw[decide_eq_true c2,cond_true]
 cases b1 with
 | false=>exact⟨false,rfl,fun h=>by cases h⟩
 | true =>
 cases b2 with
 | false=>exact⟨false,rfl,fun h=>by cases h⟩
 | true =>
 cases b3 with
 | false=>exact⟨false,rfl,fun h=>by cases h⟩
 | true =>
 cases b4 with
 | false=>exact⟨false,rfl,fun h=>by cases h⟩
 | true =>
 cases b5 with
 | false=>exact⟨false,rfl,fun h=>by cases h⟩
 | true =>
 exact⟨_,rfl,fun _=>⟨by show us.length ≤ 8; omega,g1 rfl,g2 rfl,⟨by show fu.length ≤ 6; omega,hf (by omega)⟩,g3 rfl,g4 rfl,g5 rfl⟩⟩
def ShF (l:List bH):Prop:=l.length ≤ 4 ∧ ∀ f ∈ l,f.2.length ≤ 6 ∧ ∀ s ∈ f.2,s.2.1.length ≤ 8
theorem JK (l:List bH):∃ b,aU l = some b ∧ (b = true → ShF l):=by
 unfold aU
 exact ew (body:=fun x=>aU.b2 l x) (fun i x=>x = (i:Int) ∧ i ≤ l.length ∧ ∀ j (hj:j < l.length),j < i → l[j].2.length ≤ 6 ∧ ∀ s ∈ l[j].2,s.2.1.length ≤ 8) (Q:=fun b=>b = true → ShF l) 5 (x:=0) ⟨rfl,by omega,fun j hj h=>absurd h (by omega)⟩ (fun i hi x hx=>by
  obtain⟨rfl,hil,hP⟩:=hx
  unfold aU.b2 aU.j4 aU.j3
  simp only[ao]
  by_cases hl:i < l.length
  rotate_left
  ·rw[decide_eq_false (by omega),cond_false,aa,cond_false]
   refine .inr ⟨_,rfl,fun h=>?_⟩
   rw[dk,decide_eq_true_eq] at h
   refine⟨by omega,fun a ha=>?_⟩
   obtain⟨j,hj,rfl⟩:=List.mem_iff_getElem.1 ha
   exact hP j hj (by omega)
  rw[decide_eq_true (show (i:Int) < (l.length:Int) by omega),cond_true,decide_eq_true (show (i:Int) < 5 by omega),aa,cond_true]
  obtain⟨r,hr,hq⟩:=ew (body:=fun x=>aU.b1 l (i:Int) x) (fun k x=>x = (k:Int) ∧ k ≤ l[i].2.length ∧ ∀ j (hj:j < l[i].2.length),j < k → l[i].2[j].2.1.length ≤ 8) (Q:=fun r=>r = .inr (.inr false) ∨ r = .inl () ∧ (l[i].2.length ≤ 6 → ∀ s ∈ l[i].2,s.2.1.length ≤ 8)) 7 (x:=0) ⟨rfl,by omega,fun j hj h=>absurd h (by omega)⟩ (fun k hk x hx=>by
   obtain⟨rfl,hkl,hR⟩:=hx
   unfold aU.b1 aU.j2 aU.j1
   simp only[fx1,ao]
   rw[cR hl,aa,aa]
   by_cases hkk:k < l[i].2.length
   rotate_left
   ·rw[decide_eq_false (by omega),cond_false,aa,cond_false]
    refine .inr ⟨_,rfl,.inr ⟨rfl,fun _ a ha=>?_⟩⟩
    obtain⟨j,hj,rfl⟩:=List.mem_iff_getElem.1 ha
    exact hR j hj (by omega)
   rw[decide_eq_true (show (k:Int) < (l[i].2.length:Int) by omega),cond_true,decide_eq_true (show (k:Int) < 7 by omega),aa,cond_true,cR hkk,aa]
   by_cases h8:(8:Int) < (l[i].2[k].2.1.length:Int)
   ·rw[decide_eq_true h8]; exact .inr ⟨_,rfl,.inl rfl⟩
   rw[decide_eq_false h8,cond_false]
   obtain⟨b1,e1⟩:=oR l[i].2[k].2.1 (by omega)
   obtain⟨b2,e2⟩:=oR [(l[i].2[k].2.2.1.1,l[i].2[k].2.2.1.2)] (by simp)
   rw[e1,aa,e2,aa]
   cases b1 with
   | false=>exact .inr ⟨_,rfl,.inl rfl⟩
   | true =>
   cases b2 with
   | false=>exact .inr ⟨_,rfl,.inl rfl⟩
   | true =>
    simp only[Bool.not_true,cond_false,aa]
    rw[aB (by omega),aa]
    refine .inl ⟨_,rfl,rfl,by omega,fun j hj hjk=>?_⟩
    by_cases hje:j = k
    ·subst hje; omega
    ·exact hR j hj (by omega)) (fun x hx=>by
   obtain⟨rfl,hkl,hR⟩:=hx
   unfold aU.b1 aU.j2
   simp only[ao]
   rw[cR hl,aa,decide_eq_false (show ¬ (((7:Nat):Int) < 7) by omega)]
   refine⟨.inl (),?_,.inr ⟨rfl,fun h=>by omega⟩⟩
   cases decide (((7:Nat):Int) < (l[i].2.length:Int)) <;> rfl) (by omega)
  rw[hr,aa]
  rcases hq with rfl | ⟨rfl,hq⟩
  ·exact .inr ⟨_,rfl,fun h=>by cases h⟩
  dsimp only
  rw[cR hl,aa]
  by_cases h6:(6:Int) < (l[i].2.length:Int)
  ·rw[decide_eq_true h6]; exact .inr ⟨_,rfl,fun h=>by cases h⟩
  ·rw[decide_eq_false h6,cond_false,aB (by omega),aa]
   refine .inl ⟨_,rfl,rfl,by omega,fun j hj hji=>?_⟩
   by_cases hje:j = i
   ·subst hje; exact⟨by omega,hq (by omega)⟩
   ·exact hP j hj (by omega)) (fun x hx=>by
  obtain⟨rfl,hil,hP⟩:=hx
  unfold aU.b2 aU.j4
  simp only[ao]
  rw[dk,decide_eq_false (show ¬ (((5:Nat):Int) < 5) by omega)]
  refine⟨false,?_,fun h=>by cases h⟩
  rw[decide_eq_false (show ¬ ((l.length:Int) ≤ 4) by omega)]
  cases decide (((5:Nat):Int) < (l.length:Int)) <;> rfl) (by omega)
end Go.Proofs.YtaocfjifacnokaaGreat
namespace Go.Proofs.YtaocfjifacnokaaGreat
open Go.Lad
def goL {α β:Type} (f:Nat → α → Option (Option β)) (e:Option β):Nat → List α → Option β
 | _,[]=>e
 | k,x :: r=>match f k x with
  | none=>none
  | some none=>goL f e (k + 1) r
  | some (some b)=>some b
theorem iW {α τ β:Type} {body:τ → Option (τ ⊕ β)} (S:Nat → τ) (l:List α) (f:Nat → α → Option (Option β)) (e:Option β)
  (h:∀ k (hk:k < l.length),body (S k) = match f k l[k] with | none=>none | some none=>some (.inl (S (k + 1))) | some (some b)=>some (.inr b))
  (hd:body (S l.length) = e.map .inr) (hn:l.length < 1606938044258990275541962092341162602522202993782792835301376):bO body (S 0) = goL f e 0 l:=by
 have:∀ (r:List α) (k n:Nat),r = l.drop k → k ≤ l.length → r.length < n → iterM body n (S k) = goL f e k r:=by
  intro r
  induction r with
  | nil =>
   intro k n hr hk hn
   have:k = l.length:=by
    have:=congrArg List.length hr
    simp at this; omega
   subst this
   obtain⟨m,rfl⟩:∃ m,n = m + 1:=⟨n - 1,by simp at hn; omega⟩
   unfold iterM goL
   rw[hd]
   cases e <;> rfl
  | cons x r ih =>
   intro k n hr hk hn
   have hkl:k < l.length:=by
    have:=congrArg List.length hr
    simp at this; omega
   have hx:l[k] = x ∧ r = l.drop (k + 1):=by
    rw[List.drop_eq_getElem_cons hkl] at hr
    injection hr with h1 h2
    exact⟨h1.symm,h2⟩
   obtain⟨m,rfl⟩:∃ m,n = m + 1:=⟨n - 1,by simp at hn; omega⟩
   have hb:=h k hkl
   rw[hx.1] at hb
   unfold iterM goL
   rw[hb]
   cases hf:f k x with
   | none=>rfl
   | some o =>
    cases o with
    | none=>exact ih (k + 1) m hx.2 hkl (by simp at hn; omega)
    | some b=>rfl
 exact this l 0 jI.n rfl (Nat.zero_le _) (by show l.length < 1606938044258990275541962092341162602522202993782792835301376; exact hn)
theorem zp {α β:Type} (t:α → Bool) (e:Option β):∀ (l:List α) (k:Nat),goL (fun _ x=>if t x = true then some none else none) e k l = if l.all t = true then e else none
 | [],_=>rfl
 | x :: r,k=>by
  unfold goL
  rw[List.all_cons]
  cases t x with
  | true=>simpa using zp t e r (k + 1)
  | false=>rfl
theorem k8 {α β:Type} (t:α → Bool) (e:Option β) (b:β):∀ (l:List α) (k:Nat),goL (fun _ x=>if t x = true then some none else some (some b)) e k l = if l.all t = true then e else some b
 | [],_=>rfl
 | x :: r,k=>by
  unfold goL
  rw[List.all_cons]
  cases t x with
  | true=>simpa using k8 t e b r (k + 1)
  | false=>rfl
noncomputable def tn (s:gD):Bool:=bG 4 s.2.2.1.1 s.2.2.1.2 && s.2.1.all fun t=>bG 4 t.1 t.2
noncomputable def pK (f:bH):Bool:=f.2.all tn
noncomputable def iH (l:List bH):Bool:=l.all pK
def Bp (p:List (Bs × bH)) (f:bH):List (Bs × bH):=if (cD p f.1).isSome = true then p else fE p f.1 f
def eI (l:List bH):List (Bs × bH):=l.foldl Bp []
theorem x8 (l:List aK) (hl:l.length ≤ 1000):bh l = some (!l.all fun t=>bG 4 t.1 t.2):=by
 unfold bh bF
 rw[lN l (fun t=>!bG 4 t.1 t.2) (fun i hi=>by
  unfold bF.b1 fq
  simp only[fu1,fu2]
  rw[ao,decide_eq_true (by omega),cond_true,cR hi,aa,fH,aa,aa,aB (by omega)]
  cases (!bG 4 l[i].1 l[i].2) <;> rfl) (by
  unfold bF.b1
  rw[ao,decide_eq_false (by omega),cond_false]) (by omega),aa,dk,jK]
 congr 1
 clear hl
 induction l with
 | nil=>rfl
 | cons x r ih=>rw[List.any_cons,List.all_cons,Bool.not_and,ih]
theorem Fv (l:List ab) (hl:l.length ≤ 1000):aO (unL l) = some (!l.all fun f=>bG 4 f.kd f.fs):=by
 unfold aO bu
 rw[lN l (fun f=>!bG 4 f.kd f.fs) (fun i hi=>by
  unfold bu.b1 gg
  simp only[fu1,fu2]
  rw[bw,ao,decide_eq_true (by omega),cond_true,dy hi,aa,fH,aa,aa,aB (by omega)]
  cases (!bG 4 l[i].kd l[i].fs) <;> rfl) (by
  unfold bu.b1
  rw[bw,ao,decide_eq_false (by omega),cond_false]) (by omega),aa,dk,jK]
 congr 1
 clear hl
 induction l with
 | nil=>rfl
 | cons x r ih=>rw[List.any_cons,List.all_cons,Bool.not_and,ih]
theorem D7 (p:List (Bs × bH)) (f:bH):Bp p f = if (cD p f.1).isSome = true then p else fE p f.1 f:=rfl
theorem we (l:List bH) {i:Nat} (hi:i < l.length):eI (l.take (i + 1)) = Bp (eI (l.take i)) l[i]:=by
 unfold eI
 rw[take_succ hi,List.foldl_append]; rfl
theorem Bq (nm:Bs) (us:List Bs) (vs:List b9) (ini:List dS) (fu:List fW) (mv:Bool) (old:List b9) (fw bk:List dS) (l:List bH) (hs:ShF l) :
  bj nm us vs ini fu mv old fw bk l = if iH l = true then some (nm,us,vs,ini,fu,mv,old,fw,bk,0,eI l) else none:=by
 obtain⟨hl,hs⟩:=hs
 unfold bj
 refine (iW (body:=fun x:Int × Bs × List Bs × List b9 × List dS × List fW × Bool × List b9 × List dS × List dS × Int × List (Bs × bH)=>bj.b2 l x.1 x.2.1 x.2.2.1 x.2.2.2.1 x.2.2.2.2.1 x.2.2.2.2.2.1 x.2.2.2.2.2.2.1 x.2.2.2.2.2.2.2.1 x.2.2.2.2.2.2.2.2.1 x.2.2.2.2.2.2.2.2.2.1 x.2.2.2.2.2.2.2.2.2.2.1 x.2.2.2.2.2.2.2.2.2.2.2)
  (fun i=>((i:Int),nm,us,vs,ini,fu,mv,old,fw,bk,0,eI (l.take i))) l (fun _ x=>if pK x = true then some none else none) (some (nm,us,vs,ini,fu,mv,old,fw,bk,0,eI l)) (fun i hi=>?_) ?_ (by omega)).trans (zp _ _ _ _)
 ·obtain⟨hs1,hs2⟩:=hs _ (List.getElem_mem hi)
  have hin:bO (fun x=>bj.b1 l[i] x) 0 = if pK l[i] = true then some (.inl ()) else none:=by
   refine (iW (body:=fun x=>bj.b1 l[i] x) (fun k=>(k:Int)) l[i].2 (fun _ x=>if tn x = true then some none else none) (some (.inl ())) (fun k hk=>?_) ?_ (by omega)).trans (zp _ _ _ _)
   ·unfold bj.b1 bj.j1
    simp only[fu1,fu2]
    rw[ao,decide_eq_true (by omega),cond_true,cR hk,aa,fH,aa,x8 _ (by have:=hs2 _ (List.getElem_mem hk); omega),aB (by omega)]
    simp only[aa]
    unfold tn
    cases bG 4 l[i].2[k].2.2.1.1 l[i].2[k].2.2.1.2 with
    | false=>rfl
    | true=>cases (l[i].2[k].2.1.all fun t=>bG 4 t.1 t.2) <;> rfl
   ·unfold bj.b1
    rw[ao,decide_eq_false (by omega),cond_false]; rfl
  unfold bj.b2
  rw[ao,decide_eq_true (by omega),cond_true,cR hi,aa,hin]
  cases hb:pK l[i] with
  | false=>rfl
  | true =>
   rw[if_pos rfl,if_pos rfl,aa]
   dsimp only
   unfold bj.j2
   rw[aB (by omega),we l hi,D7]
   simp only[aa]
   cases hlk:(cD (eI (l.take i)) l[i].1).isSome <;> rfl
 ·unfold bj.b2
  rw[ao,decide_eq_false (by omega),cond_false,List.take_length]; rfl
theorem x9 (nm:Bs) (us:List Bs) (vs:List b9) (ini:List dS) (fu:List fW) (mv:Bool) (old:List b9) (fw bk:List dS) (l:List bH) (hs:ShF l) :
  aE nm us vs ini fu mv old fw bk l = if iH l = true then none else some ():=by
 obtain⟨hl,hs⟩:=hs
 unfold aE
 refine (iW (body:=fun x:Int × Bs × List Bs × List b9 × List dS × List fW × Bool × List b9 × List dS × List dS × Int × List (Bs × bH)=>aE.b2 l x.1 x.2.1 x.2.2.1 x.2.2.2.1 x.2.2.2.2.1 x.2.2.2.2.2.1 x.2.2.2.2.2.2.1 x.2.2.2.2.2.2.2.1 x.2.2.2.2.2.2.2.2.1 x.2.2.2.2.2.2.2.2.2.1 x.2.2.2.2.2.2.2.2.2.2.1 x.2.2.2.2.2.2.2.2.2.2.2)
  (fun i=>((i:Int),nm,us,vs,ini,fu,mv,old,fw,bk,0,eI (l.take i))) l (fun _ x=>if pK x = true then some none else some (some ())) none (fun i hi=>?_) ?_ (by omega)).trans (k8 _ _ _ _ _)
 ·obtain⟨hs1,hs2⟩:=hs _ (List.getElem_mem hi)
  have hin:bO (fun x=>aE.b1 l[i] x) 0 = if pK l[i] = true then some (.inl ()) else some (.inr (.inr ())):=by
   refine (iW (body:=fun x=>aE.b1 l[i] x) (fun k=>(k:Int)) l[i].2 (fun _ x=>if tn x = true then some none else some (some (.inr (.inr ())))) (some (.inl ())) (fun k hk=>?_) ?_ (by omega)).trans (k8 _ _ _ _ _)
   ·unfold aE.b1 aE.j1
    simp only[fu1,fu2]
    rw[ao,decide_eq_true (by omega),cond_true,cR hk,aa,fH,aa,x8 _ (by have:=hs2 _ (List.getElem_mem hk); omega),aB (by omega)]
    simp only[aa]
    unfold tn
    cases bG 4 l[i].2[k].2.2.1.1 l[i].2[k].2.2.1.2 with
    | false=>rfl
    | true=>cases (l[i].2[k].2.1.all fun t=>bG 4 t.1 t.2) <;> rfl
   ·unfold aE.b1
    rw[ao,decide_eq_false (by omega),cond_false]; rfl
  unfold aE.b2
  rw[ao,decide_eq_true (by omega),cond_true,cR hi,aa,hin]
  cases hb:pK l[i] with
  | false=>rfl
  | true =>
   rw[if_pos rfl,if_pos rfl,aa]
   dsimp only
   unfold aE.j2
   rw[aB (by omega),we l hi,D7]
   simp only[aa]
   cases hlk:(cD (eI (l.take i)) l[i].1).isSome <;> rfl
 ·unfold aE.b2
  rw[ao,decide_eq_false (by omega),cond_false]
theorem H4 {α β:Type} [DecidableEq α] {m:List (α × β)} {x:α} {y:β} (h:cD m x = some y):∃ p ∈ m,p.2 = y:=by
 unfold cD at h
 rw[Option.bind_eq_some_iff] at h
 obtain⟨i,_,h⟩:=h
 rw[Option.map_eq_some_iff] at h
 obtain⟨p,hp,rfl⟩:=h
 exact⟨p,List.mem_of_getElem? hp,rfl⟩
theorem JL {α β:Type} [DecidableEq α] {m:List (α × β)} {x:α} {y:β} {p:α × β} (h:p ∈ fE m x y):p ∈ m ∨ p = (x,y):=by
 unfold fE at h
 split at h
 ·rcases List.mem_or_eq_of_mem_set h with h | h
  ·exact .inl h
  ·exact .inr h
 ·rcases List.mem_append.1 h with h | h
  ·exact .inl h
  ·exact .inr (List.mem_singleton.1 h)
theorem CV (l:List bH):∀ p ∈ eI l,p.2 ∈ l:=by
 have:∀ (r:List bH) (m:List (Bs × bH)),(∀ p ∈ m,p.2 ∈ l) → (∀ f ∈ r,f ∈ l) → ∀ p ∈ r.foldl Bp m,p.2 ∈ l:=by
  intro r
  induction r with
  | nil=>intro m hm _ p hp; exact hm p hp
  | cons f r ih =>
   intro m hm hr p hp
   refine ih (Bp m f) (fun q hq=>?_) (fun f hf=>hr f (List.mem_cons_of_mem _ hf)) p hp
   unfold Bp at hq
   split at hq
   ·exact hm q hq
   ·rcases JL hq with hq | rfl
    ·exact hm q hq
    ·exact hr f List.mem_cons_self
 exact this l [] (fun p hp=>by cases hp) fun f hf=>hf
def cxM (m:df) (faces:List bH):Cx:=⟨m.2.2.1,m.2.2.2.2.1,m.2.1,cD (eI faces)⟩
theorem JM {s:gD} (h:tn s = true):(∀ t ∈ s.2.1,okL 4 t.2) ∧ okL 4 s.2.2.1.2:=by
 unfold tn at h
 rw[Bool.and_eq_true,List.all_eq_true] at h
 exact⟨fun t ht=>dp (h.2 t ht),dp h.1⟩
theorem wg {m:df} {faces:List bH} (hm:ShM m) (hf:ShF faces) (ho:OkM m) (hb:iH faces = true):OkC (cxM m faces) where
 vars:=fun f hf=>dp (ho.vars f hf).2
 JQ:=Nat.le_trans hm.funcs.1 (by omega)
 funcs:=fun f hf=>⟨Nat.le_trans (hm.funcs.2 f hf).1 (by omega),fun p hp=>dp ((ho.funcs f hf).2.1 p hp).2,dp (ho.funcs f hf).2.2.1⟩
 JR:=Nat.le_trans hm.iz (by omega)
 look:=fun x face h=>by
  obtain⟨p,hp,e⟩:=H4 h
  have hmem:face ∈ faces:=by rw[← e]; exact CV faces p hp
  refine⟨Nat.le_trans (hf.2 face hmem).1 (by omega),fun g hg=>JM ?_⟩
  unfold iH at hb
  rw[List.all_eq_true] at hb
  have:=hb face hmem
  unfold pK at this
  rw[List.all_eq_true] at this
  exact this g hg
noncomputable def gH (L:List ab):Bool:=L.all fun f=>bG 4 f.kd f.fs
noncomputable def iI (m:df):Bool:=(zo m).getD false
theorem iX {m:df} (hm:ShM m):zo m = some (iI m) ∧ (iI m = true → OkM m):=by
 obtain⟨b,hb,hb2⟩:=Fs m hm
 unfold iI
 rw[hb]
 exact⟨rfl,hb2⟩
noncomputable def JN (m:df) (faces:List bH) (L:List ab) (e:cN):Bool:=gH L && (fh e && (iI m && iH faces))
noncomputable def jL (m:df) (faces:List bH) (L:List ab) (e:cN):aK × Int × Int :=
 if JN m faces L e = true then (if (br (cxM m faces) 12 L 0 e).2.1 = 0 then ((br (cxM m faces) 12 L 0 e).1,(br (cxM m faces) 12 L 0 e).2.2,0) else ((0,[]),0,(br (cxM m faces) 12 L 0 e).2.1))
 else ((0,[]),0,1)
noncomputable abbrev JO (m:df) (faces:List bH) (L:List ab) (e:cN):Option (aK × Int × Int) :=
 dA m.1 m.2.1 (unL m.2.2.1) (unE m.2.2.2.1) m.2.2.2.2.1 m.2.2.2.2.2.1 (unL m.2.2.2.2.2.2.1) (unE m.2.2.2.2.2.2.2.1) (unE m.2.2.2.2.2.2.2.2) faces (unL L) e.op e.n e.s e.m e.names (unE e.args)
theorem lQ {L:List ab} (h:gH L = true):∀ f ∈ L,okL 4 f.fs:=fun f hf=>by
 unfold gH at h
 rw[List.all_eq_true] at h
 exact dp (h f hf)
theorem D8 {m:df} {faces:List bH} {L:List ab} {e:cN} (hm:ShM m) (hf:ShF faces) (hL:L.length ≤ 1000) (hr:iI m = true) (hb:iH faces = true) (hl:gH L = true) (he:okE 12 e) (nm:Bs) (ini:List dS) (mv:Bool) (old:List b9) (fw bk:List dS) :
  aw (unL L) e.op e.n e.s e.m e.names (unE e.args) nm m.2.1 (unL m.2.2.1) ini m.2.2.2.2.1 mv old fw bk 0 (eI faces) =
   some ((br (cxM m faces) 12 L 0 e).1,(br (cxM m faces) 12 L 0 e).2.1,nm,m.2.1,unL m.2.2.1,ini,m.2.2.2.2.1,mv,old,fw,bk,(br (cxM m faces) 12 L 0 e).2.2,eI faces) :=
 wa (wg hm hf ((iX hm).2 hr) hb) nm ini mv old fw bk (eI faces) rfl 12 jI.n 4 L 0 e (by omega) (fl (by omega)) (by omega) (by omega) he (lQ hl) (by omega)
theorem pw {C:Cx} (hC:OkC C) {L:List ab} {e:cN} (hl:gH L = true) (he:okE 12 e):okL 4100 (br C 12 L 0 e).1.2:=lL (by omega) (mN hC 12 4 L 0 e (by omega) he (lQ hl))
theorem Fw {m:df} {faces:List bH} {L:List ab} {e:cN} (hm:ShM m) (hf:ShF faces) (hL:L.length ≤ 1000) (he:shE 16 e):JO m faces L e = some (jL m faces L e):=by
 show dA m.1 m.2.1 (unL m.2.2.1) (unE m.2.2.2.1) m.2.2.2.2.1 m.2.2.2.2.2.1 (unL m.2.2.2.2.2.2.1) (unE m.2.2.2.2.2.2.2.1) (unE m.2.2.2.2.2.2.2.2) faces (unL L) e.op e.n e.s e.m e.names (unE e.args) = _
 unfold dA jL JN
 have h1:aO (unL L) = some (!gH L):=Fv L hL
 have h2:=(iV he).1
 have h3:au m.1 m.2.1 (unL m.2.2.1) (unE m.2.2.2.1) m.2.2.2.2.1 m.2.2.2.2.2.1 (unL m.2.2.2.2.2.2.1) (unE m.2.2.2.2.2.2.2.1) (unE m.2.2.2.2.2.2.2.2) = some (iI m):=(iX hm).1
 rw[h1,aa,h2,h3]
 simp only[aa]
 cases hl:gH L with
 | false=>rfl
 | true =>
 cases hre:fh e with
 | false=>rfl
 | true =>
 cases hrm:iI m with
 | false=>rfl
 | true =>
 unfold dA.j1
 simp only[Bool.not_true,cond_false,aa,Bool.true_and]
 rw[Bq _ _ _ _ _ _ _ _ _ _ hf,x9 _ _ _ _ _ _ _ _ _ _ hf]
 cases hfb:iH faces with
 | false=>rfl
 | true =>
 rw[if_pos rfl,if_pos rfl,if_pos rfl,aa]
 have hfi:=D8 hm hf hL hrm hfb hl ((iV he).2 hre) m.1 (unE m.2.2.2.1) m.2.2.2.2.2.1 (unL m.2.2.2.2.2.2.1) (unE m.2.2.2.2.2.2.2.1) (unE m.2.2.2.2.2.2.2.2)
 dsimp only
 rw[hfi,aa]
 dsimp only
 rw[bg]
 by_cases h0:(br (cxM m faces) 12 L 0 e).2.1 = 0
 ·rw[decide_eq_true h0,if_pos h0,Bool.not_true,cond_false]
  simp only[fu1,fu2,fx1]
  rw[vR (d:=4100) (by omega) _ _ (pw (wg hm hf ((iX hm).2 hrm) hfb) hl ((iV he).2 hre)),aa]; rfl
 ·rw[decide_eq_false h0,if_neg h0]; rfl
end Go.Proofs.YtaocfjifacnokaaGreat
namespace Go.Proofs.YtaocfjifacnokaaGreat
open Go.Lad
def cx0:Cx:=⟨[],[],[],fun _=>none⟩
theorem Lp:OkC cx0 where
 vars:=fun f hf=>by cases hf
 JQ:=by simp [cx0]
 funcs:=fun f hf=>by cases hf
 JR:=by simp [cx0]
 look:=fun x face h=>by cases h
def pL (L:List ab) (e:cN) (w:aK):Int :=
 if (br cx0 12 L 0 e).2.1 = 0 then (if (br cx0 12 L 0 e).2.2 = 0 then (if lO (br cx0 12 L 0 e).1 w = true then 0 else 13) else 14) else (br cx0 12 L 0 e).2.1
theorem D9 (nm:Bs) {L:List ab} {e:cN} {k:Int} {l:List ab} (hL:L.length ≤ 1000) (hl:gH L = true) (he:okE 12 e) (hw:okL 4 l):gh nm (unL L) e.op e.n e.s e.m e.names (unE e.args) k (unL l) = some (pL L e (k,l)):=by
 unfold gh pL az
 rw[oY Lp rfl nm false 12 jI.n 4 L 0 e (by omega) (fl (by omega)) (by omega) (by omega) he (lQ hl) (by omega),aa]
 dsimp only
 rw[bg,bg]
 by_cases h0:(br cx0 12 L 0 e).2.1 = 0
 rotate_left
 ·rw[decide_eq_false h0,if_neg h0]; rfl
 rw[decide_eq_true h0,if_pos h0,Bool.not_true,cond_false]
 by_cases h1:(br cx0 12 L 0 e).2.2 = 0
 rotate_left
 ·rw[decide_eq_false h1,if_neg h1]; rfl
 rw[decide_eq_true h1,if_pos h1,Bool.not_true,cond_false]
 simp only[fu1,fu2]
 rw[lM (d:=4) (by omega) _ _ _ _ hw,aa]
 unfold lO
 cases (decide ((br cx0 12 L 0 e).1.1 = k) && eK l (br cx0 12 L 0 e).1.2) <;> rfl
theorem rp {α β γ:Type} (g:Nat → α → Option β) (h:β → γ):∀ (l:List α) (k:Nat),scan (fun k x=>(g k x).map h) k l = (scan g k l).map h
 | [],_=>rfl
 | x :: r,k=>by
  unfold scan
  cases g k x with
  | some b=>rfl
  | none=>exact rp g h r (k + 1)
def Lq (vs:List ab) (es:List cN) (L:List ab) (k:Nat) (f:ab):Option (Bs × Int):=if pL L (eL es k) (f.kd,f.fs) = 0 then none else some (f.nm,pL L (eL es k) (f.kd,f.fs))
def sA (vs:List ab) (es:List cN) (L:List ab):Option (Bs × Int):=scan (Lq vs es L) 0 vs
def sB (m:df):Bs × Int :=
 match sA m.2.2.1 m.2.2.2.1 [] with
 | some b=>b
 | none=>if m.2.2.2.2.2.1 = true then (match sA m.2.2.1 m.2.2.2.2.2.2.2.1 m.2.2.2.2.2.2.1 with
   | some b=>b
   | none=>(sA m.2.2.2.2.2.2.1 m.2.2.2.2.2.2.2.2 m.2.2.1).getD ([],0))
  else ([],0)
theorem nM {β:Type} {body:Int → Option (Int ⊕ β)} (nm:Bs) (vs:List ab) (es:List cN) (L:List ab) (inj:Bs × Int → β) (e:β) (hv:vs.length ≤ 1000) (hes:es.length = vs.length) (hL:L.length ≤ 1000) (hl:gH L = true) (he:∀ a ∈ es,okE 12 a) (hw:∀ f ∈ vs,okL 4 f.fs)
  (h:∀ i (hi:i < vs.length) (hi2:i < es.length),body (i:Int) = (gh nm (unL L) es[i].op es[i].n es[i].s es[i].m es[i].names (unE es[i].args) vs[i].kd (unL vs[i].fs)).bind fun p=>bif (!eqZ p 0) then some (.inr (inj (vs[i].nm,p))) else ((z64 ((i:Int) + 1)).bind fun v=>some (.inl v)))
  (hd:body (vs.length:Int) = some (.inr e)):bO body 0 = some (((sA vs es L).map inj).getD e):=by
 unfold sA
 rw[← rp]
 refine fM vs _ e (fun i hi=>?_) hd (by omega)
 rw[h i hi (by omega),D9 nm hL hl (he _ (List.getElem_mem _)) (hw _ (List.getElem_mem hi)),aa,aB (by omega),bg]
 unfold Lq
 rw[kF (show i < es.length by omega)]
 by_cases h0:pL L es[i] (vs[i].kd,vs[i].fs) = 0
 ·rw[decide_eq_true h0,if_pos h0]; rfl
 ·rw[decide_eq_false h0,if_neg h0]; rfl
theorem ij {l:List ab} (h:∀ f ∈ l,dQ f.nm = true ∧ bG 4 f.kd f.fs = true):gH l = true:=by
 unfold gH
 rw[List.all_eq_true]
 exact fun f hf=>(h f hf).2
theorem H5 {m:df} (hm:ShM m) (ho:OkM m):cB m.1 m.2.1 (unL m.2.2.1) (unE m.2.2.2.1) m.2.2.2.2.1 m.2.2.2.2.2.1 (unL m.2.2.2.2.2.2.1) (unE m.2.2.2.2.2.2.2.1) (unE m.2.2.2.2.2.2.2.2) = some (sB m):=by
 have hv:=hm.vars
 have hol:=hm.old
 have okE_of:∀ {e:cN},shE 16 e → fh e = true → okE 12 e:=fun h1 h2=>(iV h1).2 h2
 have e1:∀ a ∈ m.2.2.2.1,okE 12 a:=fun a ha=>okE_of (hm.init.2 a ha) (ho.init.1 a ha)
 have e2:∀ a ∈ m.2.2.2.2.2.2.2.1,okE 12 a:=fun a ha=>okE_of (hm.fwd.2 a ha) (ho.fwd.1 a ha)
 have e3:∀ a ∈ m.2.2.2.2.2.2.2.2,okE 12 a:=fun a ha=>okE_of (hm.back.2 a ha) (ho.back.1 a ha)
 have w1:∀ f ∈ m.2.2.1,okL 4 f.fs:=fun f hf=>dp (ho.vars f hf).2
 have w2:∀ f ∈ m.2.2.2.2.2.2.1,okL 4 f.fs:=fun f hf=>dp (ho.old f hf).2
 unfold cB sB
 have l1:=nM (body:=fun x=>cB.b1 m.1 (unL m.2.2.1) (unE m.2.2.2.1) x) m.1 m.2.2.1 m.2.2.2.1 [] Sum.inr (Sum.inl ()) (by omega) ho.init.2 (by simp) rfl e1 w1 (fun i hi hi2=>by
  unfold cB.b1
  simp only[fu1,fu2,fe1,fe2]
  rw[bw,ao,decide_eq_true (by omega),cond_true,dy hi,aa,gl hi2,aa]; rfl) (by
  unfold cB.b1
  rw[bw,ao,decide_eq_false (by omega),cond_false])
 rw[l1,aa]
 cases sA m.2.2.1 m.2.2.2.1 [] with
 | some b=>rfl
 | none =>
 dsimp only[Option.map_none,Option.getD_none]
 unfold cB.j2
 cases hmv:m.2.2.2.2.2.1 with
 | false=>rfl
 | true =>
 rw[Bool.not_true,cond_false,if_pos rfl]
 have l2:=nM (body:=fun x=>cB.b2 m.1 (unL m.2.2.1) (unL m.2.2.2.2.2.2.1) (unE m.2.2.2.2.2.2.2.1) x) m.1 m.2.2.1 m.2.2.2.2.2.2.2.1 m.2.2.2.2.2.2.1 Sum.inr (Sum.inl ()) (by omega) (ho.fwd.2 hmv) (by omega) (ij ho.old) e2 w1 (fun i hi hi2=>by
  unfold cB.b2
  simp only[fu1,fu2,fe1,fe2]
  rw[bw,ao,decide_eq_true (by omega),cond_true,dy hi,aa,gl hi2,aa]; rfl) (by
  unfold cB.b2
  rw[bw,ao,decide_eq_false (by omega),cond_false])
 rw[l2,aa]
 cases sA m.2.2.1 m.2.2.2.2.2.2.2.1 m.2.2.2.2.2.2.1 with
 | some b=>rfl
 | none =>
 dsimp only[Option.map_none,Option.getD_none]
 unfold cB.j1
 have l3:=nM (body:=fun x=>cB.b3 m.1 (unL m.2.2.1) (unL m.2.2.2.2.2.2.1) (unE m.2.2.2.2.2.2.2.2) x) m.1 m.2.2.2.2.2.2.1 m.2.2.2.2.2.2.2.2 m.2.2.1 id ([],0) (by omega) ho.back.2 (by omega) (ij ho.vars) e3 w2 (fun i hi hi2=>by
  unfold cB.b3
  simp only[fu1,fu2,fe1,fe2]
  rw[bw,ao,decide_eq_true (by omega),cond_true,dy hi,aa,gl hi2,aa]; rfl) (by
  unfold cB.b3
  rw[bw,ao,decide_eq_false (by omega),cond_false])
 rw[l3]
 cases sA m.2.2.2.2.2.2.1 m.2.2.2.2.2.2.2.2 m.2.2.1 <;> rfl
def wh (m:df) (faces:List bH) (_:Nat) (u:Bs):Option Bs:=if (!(cD (eI faces) u).isSome || decide (u = m.1)) = true then some u else none
noncomputable def mQ (C:Cx) (_:Nat) (f:fW):Option (Bs × Int) :=
 if (br C 12 f.2.2.1 0 (fI f)).2.1 = 0 then
  (if lO (br C 12 f.2.2.1 0 (fI f)).1 f.2.2.2.1 = true then (if anI .i64 (br C 12 f.2.2.1 0 (fI f)).2.2 f.2.2.2.2.1 = 0 then none else some (f.1,14)) else some (f.1,13))
 else some (f.1,(br C 12 f.2.2.1 0 (fI f)).2.1)
noncomputable def wi (m:df) (faces:List bH):Bs × Int :=
 if iH faces = true then
  (if iI m = true then
   (match scan (wh m faces) 0 m.2.1 with
    | some u=>(u,12)
    | none=>if (sB m).2 = 0 then (scan (mQ (cxM m faces)) 0 m.2.2.2.2.1).getD ([],0) else sB m)
   else ([],1))
 else ([],1)
theorem wj {α σ β:Type} (f:Nat → σ → α → σ ⊕ β) (g:Nat → α → Option β) (e:β) (h:∀ k s x,match g k x with | some b=>f k s x = .inr b | none=>∃ s',f k s x = .inl s'):∀ (l:List α) (k:Nat) (s:σ),pZ f (fun _=>e) k s l = (scan g k l).getD e
 | [],_,_=>rfl
 | x :: r,k,s=>by
  unfold pZ scan
  have:=h k s x
  cases hg:g k x with
  | some b=>rw[hg] at this; rw[this]; rfl
  | none =>
   rw[hg] at this
   obtain⟨s',hs'⟩:=this
   rw[hs']
   exact wj f g e h r (k + 1) s'
noncomputable abbrev CheckM (m:df) (faces:List bH):Option (Bs × Int) :=
 b8 m.1 m.2.1 (unL m.2.2.1) (unE m.2.2.2.1) m.2.2.2.2.1 m.2.2.2.2.2.1 (unL m.2.2.2.2.2.2.1) (unE m.2.2.2.2.2.2.2.1) (unE m.2.2.2.2.2.2.2.2) faces
theorem H6 {m:df} {faces:List bH} (hm:ShM m) (hf:ShF faces):CheckM m faces = some (wi m faces):=by
 show b8 m.1 m.2.1 (unL m.2.2.1) (unE m.2.2.2.1) m.2.2.2.2.1 m.2.2.2.2.2.1 (unL m.2.2.2.2.2.2.1) (unE m.2.2.2.2.2.2.2.1) (unE m.2.2.2.2.2.2.2.2) faces = _
 unfold b8 wi
 rw[Bq _ _ _ _ _ _ _ _ _ _ hf,x9 _ _ _ _ _ _ _ _ _ _ hf]
 cases hfb:iH faces with
 | false=>rfl
 | true =>
 have h3:au m.1 m.2.1 (unL m.2.2.1) (unE m.2.2.2.1) m.2.2.2.2.1 m.2.2.2.2.2.1 (unL m.2.2.2.2.2.2.1) (unE m.2.2.2.2.2.2.2.1) (unE m.2.2.2.2.2.2.2.2) = some (iI m):=(iX hm).1
 rw[if_pos rfl,if_pos rfl,if_pos rfl,aa,h3,aa]
 cases hrm:iI m with
 | false=>rfl
 | true =>
 have ho:=(iX hm).2 hrm
 rw[Bool.not_true,cond_false,if_pos rfl]
 have hul:=hm.iz
 have hul2:=hm.funcs.1
 have l1:=fM (body:=fun x=>b8.b1 m.1 m.2.1 (m.1,m.2.1,unL m.2.2.1,unE m.2.2.2.1,m.2.2.2.2.1,m.2.2.2.2.2.1,unL m.2.2.2.2.2.2.1,unE m.2.2.2.2.2.2.2.1,unE m.2.2.2.2.2.2.2.2,0,eI faces) x) m.2.1 (fun k u=>(wh m faces k u).map fun u=>Sum.inr (u,(12:Int))) (Sum.inl ()) (fun i hi=>by
  unfold b8.b1 b8.j1 wh
  rw[ao,decide_eq_true (by omega),cond_true,cR hi,aa,aB (by omega)]
  dsimp only
  cases (cD (eI faces) m.2.1[i]).isSome with
  | false=>rfl
  | true=>by_cases h:m.2.1[i] = m.1 <;> simp [h]) (by
  unfold b8.b1
  rw[ao,decide_eq_false (by omega),cond_false]) (by omega)
 rw[l1,aa,rp]
 cases hsu:scan (wh m faces) 0 m.2.1 with
 | some u=>rfl
 | none =>
 dsimp only[Option.map_none,Option.getD_none]
 unfold b8.j2
 rw[H5 hm ho,aa,bg]
 by_cases h0:(sB m).2 = 0
 rotate_left
 ·rw[decide_eq_false h0,if_neg h0]; rfl
 rw[decide_eq_true h0,if_pos h0,Bool.not_true,cond_false]
 dsimp only
 have l2:=qX (body:=fun x:Int × Bs × List Bs × List b9 × List dS × List fW × Bool × List b9 × List dS × List dS × Int × List (Bs × bH)=>b8.b2 m.2.2.2.2.1 x.1 x.2.1 x.2.2.1 x.2.2.2.1 x.2.2.2.2.1 x.2.2.2.2.2.1 x.2.2.2.2.2.2.1 x.2.2.2.2.2.2.2.1 x.2.2.2.2.2.2.2.2.1 x.2.2.2.2.2.2.2.2.2.1 x.2.2.2.2.2.2.2.2.2.2.1 x.2.2.2.2.2.2.2.2.2.2.2)
  (mk:=fun k (s:Int)=>((k:Int),m.1,m.2.1,unL m.2.2.1,unE m.2.2.2.1,m.2.2.2.2.1,m.2.2.2.2.2.1,unL m.2.2.2.2.2.2.1,unE m.2.2.2.2.2.2.2.1,unE m.2.2.2.2.2.2.2.2,s,eI faces)) m.2.2.2.2.1
  (fun k s f=>match mQ (cxM m faces) k f with | some b=>.inr b | none=>.inl (br (cxM m faces) 12 f.2.2.1 0 (fI f)).2.2) (fun _=>(([]:Bs),(0:Int))) (fun _ _=>True) (fun _ _ _ _ _ _=>trivial)
  (fun k hk s _=>by
   obtain⟨hf1,hf2⟩:=hm.funcs.2 _ (List.getElem_mem hk)
   obtain⟨_,g2,g3,g4⟩:=ho.funcs _ (List.getElem_mem hk)
   have hfi:=D8 (L:=m.2.2.2.2.1[k].2.2.1) (e:=fI m.2.2.2.2.1[k]) hm hf (by omega) hrm hfb (ij g2) ((iV hf2).2 g4) m.1 (unE m.2.2.2.1) m.2.2.2.2.2.1 (unL m.2.2.2.2.2.2.1) (unE m.2.2.2.2.2.2.2.1) (unE m.2.2.2.2.2.2.2.2)
   have hfi:aw (unL m.2.2.2.2.1[k].2.2.1) m.2.2.2.2.1[k].2.2.2.2.2.1 m.2.2.2.2.1[k].2.2.2.2.2.2.1 m.2.2.2.2.1[k].2.2.2.2.2.2.2.1 m.2.2.2.2.1[k].2.2.2.2.2.2.2.2.1 m.2.2.2.2.1[k].2.2.2.2.2.2.2.2.2.1 (unE m.2.2.2.2.1[k].2.2.2.2.2.2.2.2.2.2) m.1 m.2.1 (unL m.2.2.1) (unE m.2.2.2.1) m.2.2.2.2.1 m.2.2.2.2.2.1 (unL m.2.2.2.2.2.2.1) (unE m.2.2.2.2.2.2.2.1) (unE m.2.2.2.2.2.2.2.2) 0 (eI faces) = _:=hfi
   unfold b8.b2 mQ
   simp only[fu1,fu2,fe1,fe2]
   rw[ao,decide_eq_true (by omega),cond_true,cR hk,aa,hfi,aa]
   dsimp only
   rw[bg,bg]
   by_cases c0:(br (cxM m faces) 12 m.2.2.2.2.1[k].2.2.1 0 (fI m.2.2.2.2.1[k])).2.1 = 0
   rotate_left
   ·rw[decide_eq_false c0,if_neg c0]; rfl
   rw[decide_eq_true c0,if_pos c0,Bool.not_true,cond_false,lM (d:=4) (by omega) _ _ _ _ (dp g3),aa,aB (by omega)]
   unfold lO
   by_cases c1:(decide ((br (cxM m faces) 12 m.2.2.2.2.1[k].2.2.1 0 (fI m.2.2.2.2.1[k])).1.1 = m.2.2.2.2.1[k].2.2.2.1.1) && eK m.2.2.2.2.1[k].2.2.2.1.2 (br (cxM m faces) 12 m.2.2.2.2.1[k].2.2.1 0 (fI m.2.2.2.2.1[k])).1.2) = true
   rotate_left
   ·rw[if_neg c1]
    rw[Bool.not_eq_true] at c1
    rw[c1]; rfl
   rw[if_pos c1,c1,Bool.not_true,cond_false]
   by_cases c2:anI .i64 (br (cxM m faces) 12 m.2.2.2.2.1[k].2.2.1 0 (fI m.2.2.2.2.1[k])).2.2 m.2.2.2.2.1[k].2.2.2.2.1 = 0
   ·rw[if_pos c2,decide_eq_true c2]; rfl
   ·rw[if_neg c2,decide_eq_false c2]; rfl)
  (fun s _=>by
   unfold b8.b2
   rw[ao,decide_eq_false (by omega),cond_false]) (by omega) (s0:=0) trivial
 refine Eq.trans (congrArg (fun x=>orT x _) (l2.trans (congrArg some (wj _ (mQ (cxM m faces)) ([],0) (fun k s f=>?_) _ _ _)))) rfl
 cases hg:mQ (cxM m faces) k f with
 | some b=>rfl
 | none=>exact⟨_,rfl⟩
end Go.Proofs.YtaocfjifacnokaaGreat
namespace Go.Proofs.YtaocfjifacnokaaGreat
open Go.Lad
theorem wk {vs:List ab} {es:List cN} {L:List ab} {b:Bs × Int} (h:sA vs es L = some b):(∃ f ∈ vs,b.1 = f.nm) ∧ b.2 ≠ 0:=by
 obtain⟨i,hi,h1,_⟩:=sn.1 h
 unfold Lq at h1
 split at h1
 ·cases h1
 ·rename_i h2
  injection h1 with h1
  subst h1
  exact⟨⟨_,List.getElem_mem hi,rfl⟩,h2⟩
structure Lr (m:df):Prop where
 init:∀ i (hi:i < m.2.2.1.length),pL [] (eL m.2.2.2.1 i) (m.2.2.1[i].kd,m.2.2.1[i].fs) = 0
 fwd:m.2.2.2.2.2.1 = true → ∀ i (hi:i < m.2.2.1.length),pL m.2.2.2.2.2.2.1 (eL m.2.2.2.2.2.2.2.1 i) (m.2.2.1[i].kd,m.2.2.1[i].fs) = 0
 back:m.2.2.2.2.2.1 = true → ∀ i (hi:i < m.2.2.2.2.2.2.1.length),pL m.2.2.1 (eL m.2.2.2.2.2.2.2.2 i) (m.2.2.2.2.2.2.1[i].kd,m.2.2.2.2.2.2.1[i].fs) = 0
theorem Fx {C:Cx} {k:Nat} {f:fW} {b:Bs × Int} (h:mQ C k f = some b):b.1 = f.1 ∧ b.2 ≠ 0:=by
 unfold mQ at h
 split at h
 ·split at h
  ·split at h
   ·cases h
   ·injection h with h; subst h; exact⟨rfl,by simp⟩
  ·injection h with h; subst h; exact⟨rfl,by simp⟩
 ·rename_i h0
  injection h with h; subst h; exact⟨rfl,h0⟩
structure MX (m:df) (faces:List bH):Prop where
 MH:iH faces = true
 right:iI m = true
 iz:∀ u ∈ m.2.1,(cD (eI faces) u).isSome = true ∧ u ≠ m.1
 M4:Lr m
 funcs:∀ f ∈ m.2.2.2.2.1,(br (cxM m faces) 12 f.2.2.1 0 (fI f)).2.1 = 0 ∧ lO (br (cxM m faces) 12 f.2.2.1 0 (fI f)).1 f.2.2.2.1 = true ∧ anI .i64 (br (cxM m faces) 12 f.2.2.1 0 (fI f)).2.2 f.2.2.2.2.1 = 0
end Go.Proofs.YtaocfjifacnokaaGreat
namespace Go.Proofs.YtaocfjifacnokaaGreat
open Go.Lad
theorem tP (x:BitVec 64):IntKind.i64.wrap ((x.toNat:Nat):Int) = x.toInt:=by
 unfold IntKind.wrap
 have hx:=x.isLt
 have h1:((x.toNat:Nat):Int) % (2 ^ 64:Int) = (x.toNat:Int):=Int.emod_eq_of_lt (by omega) (by omega)
 rw[BitVec.toInt_eq_toNat_cond]
 show (if (true && decide (((x.toNat:Nat):Int) % (2 ^ 64:Int) ≥ (2 ^ 63:Int))) = true then ((x.toNat:Nat):Int) % (2 ^ 64:Int) - (2 ^ 64:Int) else ((x.toNat:Nat):Int) % (2 ^ 64:Int)) = _
 rw[h1,Bool.true_and]
 by_cases h:2 * x.toNat < 2 ^ 64
 ·rw[if_pos h,if_neg (by rw[decide_eq_true_eq]; omega)]
 ·rw[if_neg h,if_pos (by rw[decide_eq_true_eq]; omega)]; rfl
theorem zq (a b:Int):BitVec.ofInt 64 (orI .i64 a b) = BitVec.ofInt 64 a ||| BitVec.ofInt 64 b:=by
 have h0:orI .i64 a b = (BitVec.ofInt 64 a ||| BitVec.ofInt 64 b).toInt:=tP _
 rw[h0,BitVec.ofInt_toInt]
theorem MY {a:Int} (h1 : -9223372036854775808 ≤ a) (h2:a ≤ 9223372036854775807):anI .i64 a 15 = 0 ↔ (0 ≤ a ∧ a ≤ 15):=by
 have h0:anI .i64 a 15 = (BitVec.ofInt 64 a &&& ~~~BitVec.ofInt 64 15).toInt:=tP _
 have ha:a = (BitVec.ofInt 64 a).toInt:=by
  have hb:Int.bmod a 18446744073709551616 = a:=by
   unfold Int.bmod
   dsimp only
   split <;> omega
  rw[BitVec.toInt_ofInt]
  exact hb.symm
 rw[h0]
 generalize BitVec.ofInt 64 a = x at ha
 subst ha
 have e15:BitVec.ofInt 64 15 = 15#64:=rfl
 rw[e15]
 constructor
 ·intro h
  have h3:x &&& ~~~15#64 = 0#64:=BitVec.eq_of_toInt_eq (by rw[h]; rfl)
  have h4:x &&& 15#64 = x:=BitVec.eq_of_getLsbD_eq fun i hi=>by
   have h5:=congrArg (fun y=>y.getLsbD i) h3
   simp only[BitVec.getLsbD_and,BitVec.getLsbD_not,BitVec.getLsbD_zero,hi,decide_true,Bool.true_and] at h5
   rw[BitVec.getLsbD_and]
   cases hx:x.getLsbD i with
   | false=>rfl
   | true =>
    rw[hx,Bool.true_and] at h5
    cases hq:(15#64).getLsbD i with
    | true=>rfl
    | false=>rw[hq] at h5; cases h5
  have h6:x.toNat ≤ 15:=by
   rw[← h4,BitVec.toNat_and]
   exact Nat.and_le_right
  rw[BitVec.toInt_eq_toNat_cond,if_pos (by omega)]
  omega
 ·rintro⟨h3,h4⟩
  rw[BitVec.toInt_eq_toNat_cond] at h3 h4
  have hx:=x.isLt
  have h6:x.toNat ≤ 15:=by
   split at h4 <;> split at h3 <;> omega
  have key:∀ k:Fin 16,BitVec.ofNat 64 k.1 &&& ~~~15#64 = 0#64:=by decide
  have h7:=key ⟨x.toNat,by omega⟩
  rw[BitVec.ofNat_toNat,BitVec.setWidth_eq] at h7
  rw[h7]; rfl
theorem rq {α β:Type} (T:Nat → α → Bool) (e:Option β) (b:β):∀ (l:List α) (k:Nat),goL (fun k x=>if T k x = true then some none else some (some b)) e k l = if allI T k l = true then e else some b
 | [],_=>rfl
 | x :: r,k=>by
  unfold goL allI
  cases T k x with
  | true=>rw[if_pos rfl,Bool.true_and]; exact rq T e b r (k + 1)
  | false=>rfl
def knB (l:List Bs):List (Bs × Bool):=l.foldl (fun m s=>fE m s true) []
theorem ru (l:List Bs) (x:Bs):knB (l ++ [x]) = fE (knB l) x true:=by
 unfold knB
 rw[List.foldl_append]; rfl
theorem wm (l:List Bs) (x:Bs):(cD (knB l) x).getD false = l.any fun s=>decide (s = x):=by
 refine y7 (p:=fun l=>(cD (knB l) x).getD false = l.any fun s=>decide (s = x)) rfl (fun l y ih=>?_) l
 rw[ru,A1,List.any_append,← ih]
 by_cases h:x = y
 ·subst h
  simp
 ·rw[if_neg h]
  simp [show ¬ y = x from fun e=>h e.symm]
noncomputable def qe (l:List Bs):Bool:=allI (fun k n=>!((l.take k).any fun s=>decide (s = n)) && dQ n) 0 l
noncomputable def stepT {α:Type} (nm:α → Bs) (p:α → Bool) (l:List α) (k:Nat) (x:α):Bool := !(((l.take k).map nm).any fun s=>decide (s = nm x)) && (dQ (nm x) && p x)
noncomputable def Mt (l:List Bs) (k:Nat) (n:Bs):Bool := !((l.take k).any fun s=>decide (s = n)) && dQ n
noncomputable def wo (f:ab):Bool:=bG 4 f.kd f.fs
theorem Ea {α:Type} (nm:α → Bs) (p:α → Bool) (l:List α):allI (stepT nm p l) 0 l = (qe (l.map nm) && l.all p):=by
 unfold qe stepT
 rw[Bool.eq_iff_iff,Bool.and_eq_true,mI,mI,List.all_eq_true]
 constructor
 ·intro h
  refine⟨fun i hi=>?_,fun x hx=>?_⟩
  ·rw[List.length_map] at hi
   have:=h i hi
   rw[← Bool.and_assoc,Bool.and_eq_true] at this
   rw[List.getElem_map,← List.map_take]
   exact this.1
  ·obtain⟨i,hi,rfl⟩:=List.mem_iff_getElem.1 hx
   have:=h i hi
   rw[← Bool.and_assoc,Bool.and_eq_true] at this
   exact this.2
 ·rintro⟨h1,h2⟩ i hi
  have:=h1 i (by rw[List.length_map]; exact hi)
  rw[List.getElem_map,← List.map_take] at this
  rw[← Bool.and_assoc,Bool.and_eq_true]
  exact⟨this,h2 _ (List.getElem_mem hi)⟩
theorem sC (l:List Bs) (h:l.length ≤ 1000000):bW l = some (qe l):=by
 unfold bW qe
 refine gQ (body:=fun x=>bW.b1 l x) l _ (fun i hi=>?_) ?_ (by omega)
 ·unfold bW.b1 bW.j1
  rw[ao,decide_eq_true (by omega),cond_true,cR hi,aa,oU,aa,aB (by omega)]
  cases hn:dQ l[i] with
  | false=>rw[Bool.and_false]; rfl
  | true =>
   rw[Bool.not_true,cond_false,Ld (by omega) (by omega) (by omega),aa,aa,xT _ _ (by simp; omega),aa,aa,dk,jK,Int.toNat_natCast,Int.toNat_zero,List.drop_zero,Bool.and_true]
   cases ((l.take i).any fun s=>decide (s = l[i])) <;> rfl
 ·unfold bW.b1
  rw[ao,decide_eq_false (by omega),cond_false]
noncomputable def pC (l:List ab) (n:Int):Bool:=qe (l.map ab.nm) && (l.all wo && leZ (l.length:Int) n)
theorem Eb (k:Int) (l:List ab):cL k (unL l) = some (bG 4 k l):=by
 have:=fH k l
 unfold bI at this
 cases hx:cL k (unL l) with
 | none=>rw[hx] at this; cases this
 | some b=>rw[hx] at this; exact this
theorem qf (l:List ab) (n:Int) (hl:l.length ≤ 1000):bA (unL l) n = some (pC l n):=by
 unfold bA
 have:=iW (body:=fun x:Int × List (Bs × Bool)=>bA.b1 (unL l) n x.1 x.2) (fun k=>((k:Int),knB ((l.take k).map ab.nm))) l (fun k f=>if stepT ab.nm wo l k f = true then some none else some (some false)) (some (leZ (l.length:Int) n)) (fun i hi=>by
  unfold bA.b1 bA.j1
  simp only[fu1,fu2]
  rw[bw,ao,decide_eq_true (by omega),cond_true,dy hi,aa,iv,Eb,aB (by omega),take_succ hi,List.map_append,List.map_singleton,ru]
  simp only[aa,wm]
  unfold stepT wo
  cases (((l.take i).map ab.nm).any fun s=>decide (s = l[i].nm)) with
  | true=>rfl
  | false =>
  cases dQ l[i].nm with
  | false=>rfl
  | true=>cases bG 4 l[i].kd l[i].fs <;> rfl) (by
  unfold bA.b1
  rw[bw,ao,decide_eq_false (by omega),cond_false]; rfl) (by omega)
 refine this.trans ?_
 rw[rq,Ea]
 unfold pC
 cases qe (l.map ab.nm) <;> cases l.all wo <;> rfl
theorem nN (l:List ab) (n:Int) (hl:l.length ≤ 1000):bB (unL l) n = some (pC l n):=by
 unfold bB
 have:=iW (body:=fun x=>bB.b1 (unL l) x) (fun k=>(k:Int)) l (fun _ f=>if wo f = true then some none else some (some (.inr false))) (some (.inl ())) (fun i hi=>by
  unfold bB.b1
  simp only[fu1,fu2]
  rw[bw,ao,decide_eq_true (by omega),cond_true,dy hi,aa,qc,aa,aB (by omega)]
  unfold wo
  dsimp only
  cases bG 4 l[i].kd l[i].fs <;> rfl) (by
  unfold bB.b1
  rw[bw,ao,decide_eq_false (by omega),cond_false]; rfl) (by omega)
 rw[show (0:Int) = ((0:Nat):Int) from rfl,this,k8]
 unfold pC
 cases l.all wo with
 | false=>rw[Bool.false_and,Bool.and_false]; rfl
 | true =>
  rw[if_pos rfl,aa]
  dsimp only
  unfold bB.j1
  rw[bw,xU l (by omega),aa,sC _ (by rw[List.length_map]; omega),aa,Bool.true_and]
  cases leZ (l.length:Int) n with
  | true=>rw[Bool.and_true]; rfl
  | false=>rw[Bool.and_false]; rfl
noncomputable def mR (l:List cN) (n:Int):Bool:=l.all fh && eqZ (l.length:Int) n
theorem wq (l:List cN) (n:Int) (hl:l.length ≤ 1000) (hs:∀ e ∈ l,shE 16 e):cC (unE l) n = some (mR l n):=by
 unfold cC
 have:=iW (body:=fun x=>cC.b1 (unE l) n x) (fun k=>(k:Int)) l (fun _ e=>if fh e = true then some none else some (some false)) (some (eqZ (l.length:Int) n)) (fun i hi=>by
  unfold cC.b1
  simp only[fe1,fe2]
  have hr:=(iV (hs _ (List.getElem_mem hi))).1
  rw[dR,ao,decide_eq_true (by omega),cond_true,gl hi,aa,aB (by omega)]
  unfold kf
  simp only[hr,aa]
  cases fh l[i] <;> rfl) (by
  unfold cC.b1
  rw[dR,ao,decide_eq_false (by omega),cond_false]; rfl) (by omega)
 rw[show (0:Int) = ((0:Nat):Int) from rfl,this,k8]
 unfold mR
 cases l.all fh <;> rfl
theorem wu (l:List cN) (hl:l.length ≤ 1000) (hs:∀ e ∈ l,shE 16 e):du (unE l) = some (l.all fh):=by
 unfold du
 rw[← oO fh l 0]
 refine gQ l _ (fun i hi=>?_) ?_ (by omega)
 ·unfold du.b1
  simp only[fe1,fe2]
  have hr:=sy (hs _ (List.getElem_mem hi))
  rw[dR,ao,decide_eq_true (by omega),cond_true,gl hi,aa,aB (by omega)]
  unfold kf
  simp only[hr,aa]
  exact jJ
 ·unfold du.b1
  rw[dR,ao,decide_eq_false (by omega),cond_false]
def ya (m:df):Prop := ∀ f ∈ m.2.2.2.2.1,-9223372036854775808 ≤ f.2.2.2.2.1 ∧ f.2.2.2.2.1 ≤ 9223372036854775807
noncomputable def fnB (f:fW):Bool:=pC f.2.2.1 6 && (bG 4 f.2.2.2.1.1 f.2.2.2.1.2 && (decide (0 ≤ f.2.2.2.2.1 ∧ f.2.2.2.2.1 ≤ 15) && fh (fI f)))
noncomputable def Ls (vs:List ab) (mv:Bool) (old:List ab) (fw bk:List cN):Bool :=
 bif mv then pC old 8 && (mR fw (vs.length:Int) && mR bk (old.length:Int)) else decide (old = [] ∧ fw = [] ∧ bk = [])
noncomputable def H7 (m:df):Bool:=qe m.2.1 && ((qe (m.2.2.2.2.1.map fun f=>f.1) && m.2.2.2.2.1.all fnB) && (dQ m.1 && (decide (m.2.1.length ≤ 12) && (decide (m.2.2.2.2.1.length ≤ 30) && (pC m.2.2.1 8 && (mR m.2.2.2.1 (m.2.2.1.length:Int) && Ls m.2.2.1 m.2.2.2.2.2.1 m.2.2.2.2.2.2.1 m.2.2.2.2.2.2.2.1 m.2.2.2.2.2.2.2.2))))))
theorem JP (n:Int) (h:0 ≤ n):pC [] n = true:=by
 unfold pC qe
 rw[dk,decide_eq_true (by simpa using h)]; rfl
theorem Br (l:List cN):mR l 0 = decide (l = []):=by
 unfold mR
 cases l with
 | nil=>rw[decide_eq_true rfl]; rfl
 | cons x r =>
  rw[decide_eq_false (by simp),bg,decide_eq_false (by rw[List.length_cons]; omega),Bool.and_false]
theorem Fy {m:df} (hs:ShM m) (hE:ya m):zo m = some (H7 m):=by
 obtain⟨nm,us,vs,ini,fu,mv,old,fw,bk⟩:=m
 have hsu:us.length ≤ 8:=hs.iz
 have hsv:vs.length ≤ 8:=hs.vars
 have hsi:=hs.init
 have hsf:=hs.funcs
 have hso:old.length ≤ 8:=hs.old
 have hsw:=hs.fwd
 have hsb:=hs.back
 dsimp only at hsi hsf hsw hsb
 have hE:∀ f ∈ fu,-9223372036854775808 ≤ f.2.2.2.2.1 ∧ f.2.2.2.2.1 ≤ 9223372036854775807:=hE
 show au nm us (unL vs) (unE ini) fu mv (unL old) (unE fw) (unE bk) = _
 unfold au H7
 dsimp only
 have l1:=iW (body:=fun x:Int × List (Bs × Bool)=>au.b1 us x.1 x.2) (fun k=>((k:Int),knB (us.take k))) us (fun k n=>if Mt us k n = true then some none else some (some (.inr false))) (some (.inl ())) (fun i hi=>by
  unfold au.b1 au.j1
  rw[ao,decide_eq_true (by omega),cond_true,cR hi,aa,iv,aB (by omega),take_succ hi,ru]
  simp only[aa,wm]
  unfold Mt
  cases ((us.take i).any fun s=>decide (s = us[i])) with
  | true=>rfl
  | false=>cases dQ us[i] <;> rfl) (by
  unfold au.b1
  rw[ao,decide_eq_false (by omega),cond_false]; rfl) (by omega)
 have l1:bO (fun x:Int × List (Bs × Bool)=>au.b1 us x.1 x.2) (0,[]) = if qe us = true then some (.inl ()) else some (.inr false):=by
  refine l1.trans ?_
  rw[rq]; rfl
 rw[l1]
 cases qe us with
 | false=>rfl
 | true =>
 rw[if_pos rfl,aa,Bool.true_and]
 dsimp only
 unfold au.j6
 have l2:=iW (body:=fun x:Int × List (Bs × Bool)=>au.b2 fu x.1 x.2) (fun k=>((k:Int),knB ((fu.take k).map fun f=>f.1))) fu (fun k f=>if stepT (fun f:fW=>f.1) fnB fu k f = true then some none else some (some (.inr false))) (some (.inl ())) (fun i hi=>by
  unfold au.b2 au.j2
  simp only[fu1,fu2,fe1,fe2]
  obtain⟨hf1,hf2⟩:=hsf.2 _ (List.getElem_mem hi)
  have he:cn fu[i].2.2.2.2.2.1 fu[i].2.2.2.2.2.2.1 fu[i].2.2.2.2.2.2.2.1 fu[i].2.2.2.2.2.2.2.2.1 fu[i].2.2.2.2.2.2.2.2.2.1 (unE fu[i].2.2.2.2.2.2.2.2.2.2) = some (fh (fI fu[i])):=(iV hf2).1
  obtain⟨q1,q2⟩:=hE _ (List.getElem_mem hi)
  have ha:eqZ (anI .i64 fu[i].2.2.2.2.1 15) 0 = decide (0 ≤ fu[i].2.2.2.2.1 ∧ fu[i].2.2.2.2.1 ≤ 15):=by rw[bg,decide_eq_decide]; exact MY q1 q2
  rw[ao,decide_eq_true (by omega),cond_true,cR hi,aa,iv,aB (by omega),qf _ 6 (by omega),Eb,he,ha,take_succ hi,List.map_append,List.map_singleton,ru]
  simp only[aa,wm]
  unfold stepT fnB
  dsimp only
  cases (((fu.take i).map fun f=>f.1).any fun s=>decide (s = fu[i].1)) with
  | true=>rfl
  | false =>
  cases dQ fu[i].1 with
  | false=>rfl
  | true =>
  cases pC fu[i].2.2.1 6 with
  | false=>rfl
  | true =>
  cases bG 4 fu[i].2.2.2.1.1 fu[i].2.2.2.1.2 with
  | false=>rfl
  | true=>cases fh (fI fu[i]) <;> cases decide (0 ≤ fu[i].2.2.2.2.1 ∧ fu[i].2.2.2.2.1 ≤ 15) <;> rfl) (by
  unfold au.b2
  rw[ao,decide_eq_false (by omega),cond_false]; rfl) (by omega)
 have l2:bO (fun x:Int × List (Bs × Bool)=>au.b2 fu x.1 x.2) (0,[]) = if (qe (fu.map fun f=>f.1) && fu.all fnB) = true then some (.inl ()) else some (.inr false):=by
  refine l2.trans ?_
  rw[rq,Ea]
 rw[l2]
 cases (qe (fu.map fun f=>f.1) && fu.all fnB) with
 | false=>rfl
 | true =>
 rw[if_pos rfl,aa,Bool.true_and]
 dsimp only
 unfold au.j5
 rw[iv,bw,qf vs 8 (by omega),wq ini _ (by omega) hsi.2]
 simp only[aa]
 rw[ao,ao,decide_eq_false (by omega),decide_eq_false (by omega),decide_eq_true (by omega),decide_eq_true (by omega)]
 cases dQ nm with
 | false=>rfl
 | true =>
 cases pC vs 8 with
 | false=>rfl
 | true =>
 cases mR ini (vs.length:Int) with
 | false=>rfl
 | true =>
 simp only[Bool.not_true,cond_false,aa,Bool.true_and]
 unfold au.j4 Ls
 rw[bw,bw,cond_false]
 have j3:∀ v:Int,au.j3 (unL old) (unE fw) (unE bk) v = some (pC old 8 && (mR fw v && mR bk (old.length:Int))):=fun v=>by
  unfold au.j3
  rw[bw,qf old 8 (by omega),wq fw v (by omega) hsw.2,wq bk _ (by omega) hsb.2]
  simp only[aa]
  cases pC old 8 with
  | false=>rfl
  | true=>cases mR fw v <;> rfl
 cases mv with
 | true =>
  rw[Bool.not_true,cond_false,aa]
  exact j3 _
 | false =>
  rw[Bool.not_false,cond_true,cond_false]
  by_cases ho:old = []
  ·subst ho
   rw[ao,decide_eq_false (by simp),cond_false,aa]
   dsimp only
   rw[j3,JP 8 (by omega),Br,show ((([]:List ab).length:Nat):Int) = 0 from rfl,Br,Bool.true_and]
   congr 1
   by_cases h1:fw = [] <;> by_cases h2:bk = [] <;> simp [h1,h2]
  ·have:0 < old.length:=List.length_pos_iff.2 ho
   rw[ao,decide_eq_true (by omega),cond_true,decide_eq_false (fun h=>ho h.1)]; rfl
theorem wv {m:df} (hs:ShM m) (hE:ya m):iI m = H7 m:=by
 unfold iI
 rw[Fy hs hE]; rfl
theorem sW {m:df} (hs:ShM m):bz m.1 m.2.1 (unL m.2.2.1) (unE m.2.2.2.1) m.2.2.2.2.1 m.2.2.2.2.2.1 (unL m.2.2.2.2.2.2.1) (unE m.2.2.2.2.2.2.2.1) (unE m.2.2.2.2.2.2.2.2) = some (H7 m):=by
 obtain⟨nm,us,vs,ini,fu,mv,old,fw,bk⟩:=m
 have hsu:us.length ≤ 8:=hs.iz
 have hsv:vs.length ≤ 8:=hs.vars
 have hsi:=hs.init
 have hsf:=hs.funcs
 have hso:old.length ≤ 8:=hs.old
 have hsw:=hs.fwd
 have hsb:=hs.back
 dsimp only at hsi hsf hsw hsb ⊢
 unfold bz H7
 dsimp only
 rw[oU,bw,dR,sC us (by omega),nN vs 8 (by omega),wu ini (by omega) hsi.2,ao,ao,decide_eq_false (by omega),decide_eq_false (by omega),decide_eq_true (by omega),decide_eq_true (by omega)]
 simp only[aa]
 cases qe us with
 | false=>cases dQ nm <;> rfl
 | true =>
 cases dQ nm with
 | false=>rw[Bool.false_and,Bool.and_false]; rfl
 | true =>
 cases pC vs 8 with
 | false=>simp only[Bool.false_and,Bool.and_false]; rfl
 | true =>
 unfold mR
 cases eqZ (ini.length:Int) (vs.length:Int) with
 | false=>simp only[Bool.false_and,Bool.and_false]; rfl
 | true =>
 cases ini.all fh with
 | false=>simp only[Bool.false_and,Bool.and_false]; rfl
 | true =>
 simp only[Bool.not_true,cond_false,aa,Bool.true_and,Bool.and_true]
 unfold bz.j3
 rw[cond_false]
 have l1:=iW (body:=fun x:Int × List Bs=>bz.b1 fu x.1 x.2) (fun k=>((k:Int),(fu.take k).map fun f=>f.1)) fu (fun _ f=>if fnB f = true then some none else some (some (.inr false))) (some (.inl (fu.map fun f=>f.1))) (fun i hi=>by
  unfold bz.b1 bz.j1 cO
  simp only[fu1,fu2,fe1,fe2]
  obtain⟨hf1,hf2⟩:=hsf.2 _ (List.getElem_mem hi)
  have he:cu fu[i].2.2.2.2.2.1 fu[i].2.2.2.2.2.2.1 fu[i].2.2.2.2.2.2.2.1 fu[i].2.2.2.2.2.2.2.2.1 fu[i].2.2.2.2.2.2.2.2.2.1 (unE fu[i].2.2.2.2.2.2.2.2.2.2) = some (fh (fI fu[i])):=sy hf2
  have ha:(bif leZ 0 fu[i].2.2.2.2.1 then some (leZ fu[i].2.2.2.2.1 15) else some false) = some (decide (0 ≤ fu[i].2.2.2.2.1 ∧ fu[i].2.2.2.2.1 ≤ 15)):=by
   rw[dk,dk]
   by_cases h1:0 ≤ fu[i].2.2.2.2.1 <;> by_cases h2:fu[i].2.2.2.2.1 ≤ 15 <;> simp [h1,h2]
  rw[ao,decide_eq_true (by omega),cond_true,cR hi,aa,gi (by simp; omega),aa,aB (by omega),nN _ 6 (by omega),qc,he,ha,take_succ hi,List.map_append,List.map_singleton]
  simp only[aa]
  unfold fnB
  cases pC fu[i].2.2.1 6 with
  | false=>rfl
  | true =>
  cases bG 4 fu[i].2.2.2.1.1 fu[i].2.2.2.1.2 with
  | false=>rfl
  | true=>cases fh (fI fu[i]) <;> cases decide (0 ≤ fu[i].2.2.2.2.1 ∧ fu[i].2.2.2.2.1 ≤ 15) <;> rfl) (by
  unfold bz.b1
  rw[ao,decide_eq_false (by omega),cond_false,List.take_length]; rfl) (by omega)
 have l1:bO (fun x:Int × List Bs=>bz.b1 fu x.1 x.2) (0,[]) = if fu.all fnB = true then some (.inl (fu.map fun f=>f.1)) else some (.inr false):=by
  refine l1.trans ?_
  rw[k8]
 rw[l1]
 cases fu.all fnB with
 | false=>rw[Bool.and_false,Bool.false_and]; rfl
 | true =>
 rw[if_pos rfl,aa,Bool.and_true]
 dsimp only
 unfold bz.j2
 rw[sC _ (by rw[List.length_map]; omega),aa]
 cases qe (fu.map fun f=>f.1) with
 | false=>rfl
 | true =>
 rw[Bool.not_true,cond_false,Bool.true_and]
 unfold Ls
 cases mv with
 | false =>
  rw[Bool.not_false,cond_true,cond_false,bw,dR,dR,ji (by omega),aa,ji (by omega),aa,bg]
  congr 1
  rw[decide_eq_decide]
  constructor
  ·intro h
   exact⟨List.length_eq_zero_iff.1 (by omega),List.length_eq_zero_iff.1 (by omega),List.length_eq_zero_iff.1 (by omega)⟩
  ·rintro⟨rfl,rfl,rfl⟩; rfl
 | true =>
  rw[Bool.not_true,cond_false,cond_true,bw,bw,dR,dR,nN old 8 (by omega),wu fw (by omega) hsw.2,wu bk (by omega) hsb.2]
  simp only[aa]
  unfold mR
  cases pC old 8 with
  | false=>rfl
  | true =>
  cases eqZ (fw.length:Int) (vs.length:Int) with
  | false=>rw[Bool.and_false,Bool.false_and]; rfl
  | true =>
  cases eqZ (bk.length:Int) (old.length:Int) with
  | false=>rw[Bool.and_false,Bool.and_false]; rfl
  | true=>cases fw.all fh <;> cases bk.all fh <;> rfl
end Go.Proofs.YtaocfjifacnokaaGreat
namespace Go.Proofs.YtaocfjifacnokaaGreat
open Go.Lad
def inR (x:Int):Prop:=(BitVec.ofInt 64 x).toInt = x
theorem or_eq (a b:Int):orI .i64 a b = (BitVec.ofInt 64 a ||| BitVec.ofInt 64 b).toInt:=tP _
theorem qg (a b:Int):inR (orI .i64 a b):=by
 unfold inR
 rw[zq,or_eq]
theorem Fz:inR 0:=rfl
theorem or_zero {x:Int} (h:inR x):orI .i64 x 0 = x:=by
 rw[or_eq]
 have:BitVec.ofInt 64 0 = 0#64:=rfl
 rw[this,BitVec.or_zero]; exact h
theorem zr (a b c:Int):orI .i64 (orI .i64 a b) c = orI .i64 a (orI .i64 b c):=by
 rw[or_eq (orI .i64 a b) c,zq,or_eq a (orI .i64 b c),zq,BitVec.or_assoc]
def Bas (F:Int → FR):Prop := ∀ eff,inR eff → (F eff).2.1 = (F 0).2.1 ∧ ((F 0).2.1 = 0 → (F eff).1 = (F 0).1 ∧ (F eff).2.2 = orI .i64 eff (F 0).2.2 ∧ inR (F 0).2.2)
def MZ (F:Int → cN → FR) (l:List cN):Prop := ∀ eff,inR eff → (bQ F eff l).2.1 = (bQ F 0 l).2.1 ∧ ((bQ F 0 l).2.1 = 0 → (bQ F eff l).1 = (bQ F 0 l).1 ∧ (bQ F eff l).2.2 = orI .i64 eff (bQ F 0 l).2.2 ∧ inR (bQ F 0 l).2.2)
theorem n12 (h:(12:Int) = 0):False:=by omega
theorem n13 (h:(13:Int) = 0):False:=by omega
theorem Bt {F:Int → cN → FR}:∀ (l:List cN),(∀ a ∈ l,Bas fun eff=>F eff a) → MZ F l
 | [],_=>fun eff h=>⟨rfl,fun _=>⟨rfl,(or_zero h).symm,Fz⟩⟩
 | a :: r,hF=>fun eff he=>by
  have ih:=Bt r fun b hb=>hF b (List.mem_cons_of_mem _ hb)
  obtain⟨h1,h2⟩:=hF a List.mem_cons_self eff he
  dsimp only at h1 h2
  unfold bQ
  rw[h1]
  by_cases h0:(F 0 a).2.1 = 0
  rotate_left
  ·rw[if_neg h0,if_neg h0]
   exact⟨rfl,fun h=>absurd h h0⟩
  ·obtain⟨q1,q2,q3⟩:=h2 h0
   rw[if_pos h0,if_pos h0,q1,q2]
   obtain⟨i1,i2⟩:=ih (orI .i64 eff (F 0 a).2.2) (qg _ _)
   obtain⟨j1,j2⟩:=ih (F 0 a).2.2 q3
   rw[i1,j1]
   by_cases h3:(bQ F 0 r).2.1 = 0
   rotate_left
   ·rw[if_neg h3,if_neg h3]
    exact⟨rfl,fun h=>absurd h h3⟩
   ·obtain⟨i3,i4,i5⟩:=i2 h3
    obtain⟨j3,j4,j5⟩:=j2 h3
    rw[if_pos h3,if_pos h3,i3,i4,j3,j4]
    exact⟨rfl,fun _=>⟨rfl,zr _ _ _,qg _ _⟩⟩
theorem mS (C:Cx):∀ (d:Nat) (L:List ab) (e:cN),okE d e → Bas fun eff=>br C d L eff e
 | 0,_,_,h=>h.elim
 | d + 1,L,e,he=>fun eff hr=>by
  obtain⟨a0,a1,a2,a3,a4,a5,a6⟩:=he
  have ih:∀ a ∈ e.args,Bas fun eff=>br C d L eff a:=fun a ha=>mS C d L a (a6 a ha)
  have hmem:∀ i,i < e.args.length → eL e.args i ∈ e.args:=fun i hi=>by rw[kF hi]; exact List.getElem_mem _
  dsimp only
  unfold br
  by_cases c1:e.op = 2
  ·rw[if_pos c1,if_pos c1]
   by_cases hl:(eP L e.s).2 = true
   ·rw[if_pos hl,if_pos hl]
    exact⟨rfl,fun _=>⟨rfl,(or_zero hr).symm,Fz⟩⟩
   ·rw[if_neg hl,if_neg hl]
    exact⟨rfl,fun h=>(n12 h).elim⟩
  rw[if_neg c1,if_neg c1]
  by_cases c2:e.op = 12
  ·have hl2:=a1 c2
   rw[if_pos c2,if_pos c2]
   unfold Fm
   obtain⟨h1,h2⟩:=ih _ (hmem 0 (by omega)) eff hr
   dsimp only at h1 h2
   rw[h1]
   by_cases h0:(br C d L 0 (eL e.args 0)).2.1 = 0
   rotate_left
   ·rw[if_neg h0,if_neg h0]
    exact⟨rfl,fun h=>absurd h h0⟩
   obtain⟨q1,q2,q3⟩:=h2 h0
   rw[if_pos h0,if_pos h0,q1,q2]
   have hb:=mS C d (L ++ [.mk e.s (br C d L 0 (eL e.args 0)).1.1 (br C d L 0 (eL e.args 0)).1.2]) (eL e.args 1) (a6 _ (hmem 1 (by omega)))
   obtain⟨i1,i2⟩:=hb (orI .i64 eff (br C d L 0 (eL e.args 0)).2.2) (qg _ _)
   obtain⟨j1,j2⟩:=hb (br C d L 0 (eL e.args 0)).2.2 q3
   dsimp only at i1 i2 j1 j2
   rw[i1,j1]
   refine⟨rfl,fun h3=>?_⟩
   obtain⟨i3,i4,i5⟩:=i2 h3
   obtain⟨j3,j4,j5⟩:=j2 h3
   rw[i3,i4,j3,j4]
   exact⟨rfl,zr _ _ _,qg _ _⟩
  rw[if_neg c2,if_neg c2]
  by_cases c3:e.op = 17 ∨ e.op = 18
  ·rw[if_pos c3,if_pos c3]
   unfold Fl
   by_cases hl:(eP C.vars e.s).2 = true
   rotate_left
   ·rw[if_neg hl,if_neg hl]
    exact⟨rfl,fun h=>(n12 h).elim⟩
   rw[if_pos hl,if_pos hl]
   by_cases c4:e.op = 18
   rotate_left
   ·rw[if_neg c4,if_neg c4]
    exact⟨rfl,fun _=>⟨rfl,(or_zero hr).symm,Fz⟩⟩
   rw[if_pos c4,if_pos c4]
   obtain⟨h1,h2⟩:=ih _ (hmem 0 (a2 c4)) eff hr
   dsimp only at h1 h2
   rw[h1]
   by_cases h0:(br C d L 0 (eL e.args 0)).2.1 = 0
   rotate_left
   ·rw[if_neg h0,if_neg h0]
    exact⟨rfl,fun h=>absurd h h0⟩
   obtain⟨q1,q2,q3⟩:=h2 h0
   rw[if_pos h0,if_pos h0,q1,q2]
   by_cases hs:lO (br C d L 0 (eL e.args 0)).1 (eP C.vars e.s).1 = true
   ·rw[if_pos hs,if_pos hs]
    exact⟨rfl,fun _=>⟨rfl,rfl,q3⟩⟩
   ·rw[if_neg hs,if_neg hs]
    exact⟨rfl,fun h=>(n13 h).elim⟩
  rw[if_neg c3,if_neg c3]
  obtain⟨h1,h2⟩:=Bt e.args ih eff hr
  by_cases c5:e.op = 15
  ·rw[if_pos c5,if_pos c5]
   unfold xZ
   cases iw C e.s e.m with
   | none=>exact⟨rfl,fun h=>(n12 h).elim⟩
   | some g =>
    dsimp only
    by_cases hp:g.2.1.length = e.args.length
    rotate_left
    ·rw[if_neg hp,if_neg hp]
     exact⟨rfl,fun h=>(n13 h).elim⟩
    rw[if_pos hp,if_pos hp,h1]
    by_cases h0:(bQ (br C d L) 0 e.args).2.1 = 0
    rotate_left
    ·rw[if_neg h0,if_neg h0]
     exact⟨rfl,fun h=>absurd h h0⟩
    obtain⟨q1,q2,q3⟩:=h2 h0
    rw[if_pos h0,if_pos h0,q1,q2]
    by_cases ha:HW (bQ (br C d L) 0 e.args).1 g.2.1 = true
    ·rw[if_pos ha,if_pos ha]
     exact⟨rfl,fun _=>⟨rfl,zr _ _ _,qg _ _⟩⟩
    ·rw[if_neg ha,if_neg ha]
     exact⟨rfl,fun h=>(n13 h).elim⟩
  rw[if_neg c5,if_neg c5]
  unfold x6
  rw[h1]
  by_cases h0:(bQ (br C d L) 0 e.args).2.1 = 0
  rotate_left
  ·rw[if_neg h0,if_neg h0]
   exact⟨rfl,fun h=>absurd h h0⟩
  obtain⟨q1,q2,q3⟩:=h2 h0
  rw[if_pos h0,if_pos h0,q1,q2]
  refine⟨rfl,fun _=>⟨rfl,?_⟩⟩
  by_cases c6:e.op = 16
  ·simp only[if_pos c6]
   exact⟨zr _ _ _,qg _ _⟩
  ·simp only[if_neg c6]
   exact⟨trivial,q3⟩
theorem lR (l:List aK) (k:Int) (h:l.length ≤ 1000000):cQ l k = some (qa l k):=by
 unfold cQ qa
 rw[← oO (fun t:aK=>decide (t.1 = k)) l 0]
 refine gQ (body:=fun x=>cQ.b1 l k x) l _ (fun i hi=>?_) ?_ (by omega)
 ·unfold cQ.b1
  rw[ao,decide_eq_true (by omega),cond_true,cR hi,aa,bg,aB (by omega)]
  exact jJ
 ·unfold cQ.b1
  rw[ao,decide_eq_false (by omega),cond_false]
theorem o6 (k:Int) (b:Bool):dD k b = some (if b = true then ((k,[]),0) else ((0,[]),13)):=by cases b <;> rfl
theorem CW (ns:List Bs) (l:List aK) (hn:ns.length = l.length) (hl:l.length ≤ 1000000):bO (fun x:Int × Int × List b9=>bP.b1 ns l x.1 x.2.1 x.2.2) (0,2,[]) = some ((2,k7 ns l),0):=by
 refine hU (x:=(0,2,[])) (b:=((2,k7 ns l),0)) (fun i=>((i:Int),2,unL (k7 (ns.take i) (l.take i)))) l.length (by rw[List.take_zero,List.take_zero,k7]; rfl; simp) (fun i hi=>?_) ?_ (by omega)
 ·have hi2:i < ns.length:=by omega
  unfold bP.b1
  simp only[fx1]
  rw[ao,decide_eq_true (by omega),cond_true,cR hi2,aa,cR hi,aa]
  have hlen:(unL (k7 (ns.take i) (l.take i))).length ≤ i:=by
   rw[bw]
   exact Nat.le_trans (rb _ _) (by rw[List.length_take]; omega)
  rw[gi (by simp; omega),aa,aB (by omega),aa,take_succ hi,take_succ hi2,su _ _ _ _ (by rw[List.length_take,List.length_take]; omega),iZ,ml]
 ·unfold bP.b1
  simp only[ao]
  rw[decide_eq_false (by omega),cond_false,List.take_length,← hn,List.take_length]
  simp only[fmu]
theorem CX {d:Nat} (hd:d ≤ 1000000) (o n:Int) (s m:Bs) (ns:List Bs) (ag:List dS) (l:List aK) (hl:l.length ≤ 1000000)
  (h3:o = 11 → l.length = 3) (h13:o = 13 → ns.length = l.length) (h14:o = 14 → 0 < l.length) (hok:∀ t ∈ l,okL d t.2):bP o n s m ns ag l = some (qb o s ns l):=by
 have g1:((bif (eqZ o 3) then some (eqZ o 3) else (bif (eqZ o 4) then some (eqZ o 4) else (bif (eqZ o 5) then some (eqZ o 5) else some (eqZ o 16)))):Option Bool) = some (decide (o = 3 ∨ o = 4 ∨ o = 5 ∨ o = 16)):=by
  simp only[bg]
  by_cases a:o = 3
  ·simp [a]
  by_cases b:o = 4
  ·simp [b]
  by_cases c:o = 5
  ·simp [c]
  simp [a,b,c]
 have g2:((bif (eqZ o 8) then some (eqZ o 8) else (bif (eqZ o 9) then some (eqZ o 9) else some (eqZ o 10))):Option Bool) = some (decide (o = 8 ∨ o = 9 ∨ o = 10)):=by
  simp only[bg]
  by_cases a:o = 8
  ·simp [a]
  by_cases b:o = 9
  ·simp [b]
  simp [a,b]
 have hg:∀ i,i < l.length → okL d (gT l i).2:=fun i hi=>by
  unfold gT
  rw[List.getD_eq_getElem?_getD,List.getElem?_eq_getElem hi]
  exact hok _ (List.getElem_mem _)
 unfold bP qb nJ
 rw[bg,g1,aa]
 unfold bP.j3
 by_cases c1:o = 3 ∨ o = 4 ∨ o = 5 ∨ o = 16
 ·rw[if_pos c1,decide_eq_true c1,decide_eq_false (by omega),cond_false,cond_true,lR l 0 hl,aa,o6,aa]
  cases qa l 0 <;> rfl
 rw[if_neg c1,decide_eq_false c1]
 by_cases c2:o = 1
 ·rw[if_pos c2,decide_eq_true c2]; rfl
 rw[if_neg c2,decide_eq_false c2,cond_false,cond_false,bg]
 by_cases c3:o = 6
 ·rw[if_pos c3,decide_eq_true c3,cond_true,lR l 0 hl,aa,o6,aa]
  cases qa l 0 <;> rfl
 rw[if_neg c3,decide_eq_false c3,cond_false,bg]
 by_cases c4:o = 7
 ·rw[if_pos c4,decide_eq_true c4,cond_true,lR l 0 hl,lR l 1 hl,aa,aa,o6,o6]
  cases qa l 0 <;> cases qa l 1 <;> rfl
 rw[if_neg c4,decide_eq_false c4,cond_false,g2,aa]
 unfold bP.j2
 by_cases c5:o = 8 ∨ o = 9 ∨ o = 10
 ·rw[if_pos c5,decide_eq_true c5,cond_true,lR l 1 hl,aa,o6,aa]
  cases qa l 1 <;> rfl
 rw[if_neg c5,decide_eq_false c5,cond_false,bg]
 by_cases c6:o = 11
 ·have hl3:=h3 c6
  rw[if_pos c6,decide_eq_true c6,cond_true,show (1:Int) = ((1:Nat):Int) from rfl,show (2:Int) = ((2:Nat):Int) from rfl,show (0:Int) = ((0:Nat):Int) from rfl]
  rw[oT (show 1 < l.length by omega),aa,oT (show 2 < l.length by omega),aa]
  simp only[fu1,fu2]
  rw[xX hd _ _ _ _ (hg 1 (by omega)) (hg 2 (by omega)),aa,oT (show 0 < l.length by omega),aa]
  simp only[bg]
  unfold bP.j1
  simp only[fx1]
  by_cases hk:(gT l 0).1 = 1
  ·have hk':(gT l 0).1 = ((1:Nat):Int):=hk
   rw[decide_eq_true hk',Bool.not_true,cond_false,Bool.and_true]
   cases (upR (gT l 1).1 (gT l 1).2 (gT l 2).1 (gT l 2).2).2 <;> rfl
  ·have hk':¬ (gT l 0).1 = ((1:Nat):Int):=hk
   rw[decide_eq_false hk',Bool.not_false,cond_true,Bool.and_false]; rfl
 rw[if_neg c6,decide_eq_false c6,cond_false,bg]
 by_cases c7:o = 13
 ·rw[if_pos c7,decide_eq_true c7,cond_true,CW ns l (h13 c7) hl]; rfl
 rw[if_neg c7,decide_eq_false c7,cond_false,bg]
 by_cases c8:o = 14
 ·rw[if_pos c8,decide_eq_true c8,cond_true,show (0:Int) = ((0:Nat):Int) from rfl,oT (h14 c8),aa]
  simp only[fu1,fu2,fx1]
  rw[lH _ _ (iU (hg 0 (h14 c8))),aa]
  cases (eP (gT l 0).2 s).2 <;> rfl
 ·rw[if_neg c8,decide_eq_false c8]; rfl
end Go.Proofs.YtaocfjifacnokaaGreat
namespace Go.Proofs.YtaocfjifacnokaaGreat
open Go.Lad
theorem Bu (l:List bH) (f:bH):eI (l ++ [f]) = Bp (eI l) f:=by
 unfold eI
 rw[List.foldl_append]; rfl
theorem Bv (l:List bH) (m:Bs):cD (eI l) m = l.find? fun f=>decide (f.1 = m):=by
 refine y7 (p:=fun l=>∀ m,cD (eI l) m = l.find? fun f=>decide (f.1 = m)) (fun m=>rfl) (fun l f ih m=>?_) l m
 rw[Bu,List.find?_append,← ih]
 unfold Bp
 by_cases h:(cD (eI l) f.1).isSome = true
 ·rw[if_pos h]
  by_cases hm:f.1 = m
  ·rw[← hm]
   cases hx:cD (eI l) f.1 with
   | none=>rw[hx] at h; cases h
   | some g=>rfl
  ·simp [hm]
 ·rw[if_neg h,A1]
  by_cases hm:m = f.1
  ·subst hm
   rw[if_pos rfl]
   cases hx:cD (eI l) f.1 with
   | some g=>rw[hx] at h; exact absurd rfl h
   | none=>simp
  ·rw[if_neg hm]
   simp [show ¬ f.1 = m from fun e=>hm e.symm]
def Ec (o:Option bH):bH × Bool:=match o with | some f=>(f,true) | none=>((([]:Bs),[]),false)
theorem yb (l:List bH) (m:Bs) (h:l.length ≤ 1000):de l m = some (Ec (cD (eI l) m)):=by
 unfold de
 have:=fM (body:=fun x=>de.b1 l m x) l (fun _ f=>if (fun f:bH=>decide (f.1 = m)) f = true then some ((f,true):bH × Bool) else none) ((([]:Bs),[]),false) (fun i hi=>by
  unfold de.b1
  rw[ao,decide_eq_true (by omega),cond_true,cR hi,aa,gz,aB (by omega)]
  by_cases h:l[i].1 = m
  ·rw[if_pos h]
   simp only[h,decide_true,if_true]
   rw[aa]
  ·rw[if_neg h]
   simp only[decide_eq_false h]
   rw[aa]; rfl) (by
  unfold de.b1
  rw[ao,decide_eq_false (by omega),cond_false]) (by omega)
 rw[this,Bv]
 have e:=mL (fun f:bH=>decide (f.1 = m)) (fun f=>((f,true):bH × Bool)) l 0
 rw[e]
 unfold Ec
 cases l.find? (fun f=>decide (f.1 = m)) <;> rfl
noncomputable def tyT (t:aK):Bool:=bG 4 t.1 t.2
theorem H8 (v:gD) (k:Nat) (h:v.2.1.length ≤ 8) (hk:k ≤ 1000):((bO (fun x=>aI.b1 v x) 0).bind fun x=>match x with
  | .inl x=>aI.j1 (k:Int) v
  | .inr r=>some r) = some (if tn v = true then .inl ((k + 1:Nat):Int) else .inr (.inr false)):=by
 have:=iW (body:=fun x=>aI.b1 v x) (fun k=>(k:Int)) v.2.1 (fun _ t=>if tyT t = true then some none else some (some (.inr (.inr (.inr false))))) (some (.inl ())) (fun i hi=>by
  unfold aI.b1
  simp only[fu1,fu2]
  rw[ao,decide_eq_true (by omega),cond_true,cR hi,aa,fv,aa,aB (by omega)]
  unfold tyT
  cases bG 4 v.2.1[i].1 v.2.1[i].2 <;> rfl) (by
  unfold aI.b1
  rw[ao,decide_eq_false (by omega),cond_false]; rfl) (by omega)
 rw[show (0:Int) = ((0:Nat):Int) from rfl,this,k8]
 unfold tn
 rw[show (v.2.1.all fun t=>bG 4 t.1 t.2) = v.2.1.all tyT from rfl]
 cases ha:v.2.1.all tyT with
 | false=>rw[Bool.and_false]; rfl
 | true =>
  rw[if_pos rfl,aa,Bool.and_true]
  dsimp only
  unfold aI.j1
  simp only[fu1,fu2]
  rw[fv,aa,aB (by omega)]
  cases bG 4 v.2.2.1.1 v.2.2.1.2 <;> rfl
theorem sX (l:List bH) (hs:ShF l):aI l = some (iH l):=by
 unfold aI iH
 have hl:=hs.1
 rw[← oO pK l 0]
 refine gQ (body:=fun x=>aI.b3 l x) l _ (fun i hi=>?_) ?_ (by omega)
 ·unfold aI.b3
  rw[ao,decide_eq_true (by omega),cond_true]
  obtain⟨hf1,hf2⟩:=hs.2 _ (List.getElem_mem hi)
  have:=iW (body:=fun x=>aI.b2 l (i:Int) x) (fun k=>(k:Int)) l[i].2 (fun _ s=>if tn s = true then some none else some (some (.inr false))) (some (.inl ((i + 1:Nat):Int))) (fun k hk=>by
   unfold aI.b2
   rw[cR hi,aa,ao,decide_eq_true (by omega),cond_true,aa,cR hk,aa]
   refine (H8 _ k (hf2 _ (List.getElem_mem hk)) (by omega)).trans ?_
   cases tn l[i].2[k] <;> rfl) (by
   unfold aI.b2
   rw[cR hi,aa,ao,decide_eq_false (by omega),cond_false,aB (by omega)]; rfl) (by omega)
  rw[show (0:Int) = ((0:Nat):Int) from rfl,this,k8]
  unfold pK
  cases l[i].2.all tn <;> rfl
 ·unfold aI.b3
  rw[ao,decide_eq_false (by omega),cond_false]
def M0 (o:Option gD) (r:gD × Bool):Prop:=match o with | some g=>r.2 = true ∧ r.1.2 = g.2 | none=>r.2 = false
theorem Bw (v:fW) (h:v.2.2.1.length ≤ 1000):bO (fun x:Int × Bs × Int × List b9 × Int × List aK=>ah.b1 v x.1 x.2.1 x.2.2.1 x.2.2.2.1 x.2.2.2.2.1 x.2.2.2.2.2) (0,v.1,v.2.2.2.1.1,unL v.2.2.2.1.2,v.2.2.2.2.1,[]) =
  some (.inr (.inr ((v.1,v.2.2.1.map (fun p=>(p.kd,p.fs)),(v.2.2.2.1.1,v.2.2.2.1.2),v.2.2.2.2.1),true))):=by
 refine hU (body:=fun x:Int × Bs × Int × List b9 × Int × List aK=>ah.b1 v x.1 x.2.1 x.2.2.1 x.2.2.2.1 x.2.2.2.2.1 x.2.2.2.2.2) (fun i=>((i:Int),v.1,v.2.2.2.1.1,unL v.2.2.2.1.2,v.2.2.2.2.1,(v.2.2.1.take i).map fun p=>(p.kd,p.fs))) v.2.2.1.length rfl (fun i hi=>?_) ?_ (by omega)
 ·unfold ah.b1
  simp only[fx1]
  rw[JG,ao,decide_eq_true (by omega),cond_true]
  refine (congrArg (fun o=>Option.bind o _) (Ms hi)).trans ?_
  show (app? ((v.2.2.1.take i).map (fun p=>(p.kd,p.fs))) [(v.2.2.1[i].kd,mkL (unL v.2.2.1[i].fs))]).bind _ = _
  rw[sV,gi (by simp; omega),aa,aB (by omega),aa,take_succ hi,List.map_append]; rfl
 ·unfold ah.b1
  rw[JG,ao,decide_eq_false (by omega),cond_false,List.take_length]
  simp only[fmu,HC]
def H9 (f:fW):Unit ⊕ (gD × Bool) := .inr ((f.1,f.2.2.1.map (fun p=>(p.kd,p.fs)),(f.2.2.2.1.1,f.2.2.2.1.2),f.2.2.2.2.1),true)
theorem FA {C:Cx} (hC:OkC C) (fa:List bH) (hfa:C.look = cD (eI fa)) (hfl:fa.length ≤ 1000) (nm:Bs) (vs:List b9) (ini:List dS) (mv:Bool) (old:List b9) (fw bk:List dS) (o n:Int) (s m:Bs) (ns:List Bs) (ag:List dS) :
  ∃ r,ah nm C.iz vs ini C.funcs mv old fw bk fa o n s m ns ag = some r ∧ M0 (iw C s m) r:=by
 unfold ah iw
 have hfn:=hC.JQ
 by_cases hm:m = []
 ·rw[if_pos hm,decide_eq_true hm,cond_true]
  have:=fM (body:=fun x=>ah.b2 C.funcs s x) C.funcs (fun _ f=>if (fun f:fW=>decide (f.1 = s)) f = true then some (H9 f) else none) (.inr ((([]:Bs),[],(0,[]),0),false)) (fun i hi=>by
   unfold ah.b2
   rw[ao,decide_eq_true (by omega),cond_true,cR hi,aa,gz,aB (by omega)]
   by_cases h:C.funcs[i].1 = s
   ·rw[if_pos h]
    simp only[h,decide_true,if_true,fu1,fu2]
    obtain⟨h1,_,_⟩:=hC.funcs _ (List.getElem_mem hi)
    have hp:=Bw C.funcs[i] h1
    rw[h] at hp
    refine hp.trans ?_
    unfold H9
    rw[h]
   ·rw[if_neg h]
    simp only[decide_eq_false h]
    rw[aa]; rfl) (by
   unfold ah.b2
   rw[ao,decide_eq_false (by omega),cond_false]) (by omega)
  rw[this,aa]
  have e:=mL (fun f:fW=>decide (f.1 = s)) H9 C.funcs 0
  rw[e]
  cases C.funcs.find? (fun f=>decide (f.1 = s)) with
  | none=>exact⟨_,rfl,rfl⟩
  | some f=>exact⟨_,rfl,rfl,rfl⟩
 ·rw[if_neg hm,decide_eq_false hm,cond_false,aa]
  dsimp only
  unfold ah.j3
  have hu:=hC.JR
  have hused:bO (fun x:Bool × Int=>ah.b3 C.iz m x.1 x.2) (false,0) = some (C.iz.any fun u=>decide (m = u)):=by
   refine hU (body:=fun x:Bool × Int=>ah.b3 C.iz m x.1 x.2) (fun i=>((C.iz.take i).any fun u=>decide (m = u),(i:Int))) C.iz.length rfl (fun i hi=>?_) ?_ (by omega)
   ·unfold ah.b3
    rw[ao,decide_eq_true (by omega),cond_true,take_succ hi,List.any_append]
    cases ((C.iz.take i).any fun u=>decide (m = u)) with
    | true=>rw[cond_true,aB (by omega),aa]; rfl
    | false =>
     rw[cond_false,cR hi,aa,aB (by omega),aa,List.any_cons,List.any_nil,Bool.or_false,Bool.false_or]
     congr 3
     rw[decide_eq_decide]
     exact eq_comm
   ·unfold ah.b3
    rw[ao,decide_eq_false (by omega),cond_false,List.take_length]
  rw[hused,aa]
  unfold ah.j2
  rw[yb fa m hfl,aa,← hfa]
  cases hl:C.look m with
  | none =>
   refine⟨((([]:Bs),[],(0,[]),0),false),?_,rfl⟩
   cases (C.iz.any fun u=>decide (m = u)) <;> rfl
  | some face =>
   obtain⟨h1,_⟩:=hC.look m face hl
   unfold Ec
   dsimp only
   have:=fM (body:=fun x=>ah.b4 s (face,true) x) face.2 (fun _ g=>if (fun g:gD=>decide (g.1 = s)) g = true then some ((g,true):gD × Bool) else none) ((([]:Bs),[],(0,[]),0),false) (fun i hi=>by
    unfold ah.b4
    dsimp only
    rw[ao,decide_eq_true (by omega),cond_true,cR hi,aa,gz,aB (by omega)]
    by_cases h:face.2[i].1 = s
    ·rw[if_pos h]
     simp only[h,decide_true,if_true,fx1]
     rw[aa]
    ·rw[if_neg h]
     simp only[decide_eq_false h]
     rw[aa]; rfl) (by
    unfold ah.b4
    dsimp only
    rw[ao,decide_eq_false (by omega),cond_false]) (by omega)
   have e:=mL (fun g:gD=>decide (g.1 = s)) (fun g=>((g,true):gD × Bool)) face.2 0
   rw[e] at this
   cases (C.iz.any fun u=>decide (m = u)) with
   | false =>
    refine⟨((([]:Bs),[],(0,[]),0),false),rfl,?_⟩
    cases face.2.find? (fun g=>decide (g.1 = s)) <;> rfl
   | true =>
    rw[Bool.not_true,cond_false,aa]
    unfold ah.j1
    rw[cond_false,this]
    cases face.2.find? (fun g=>decide (g.1 = s)) with
    | none=>exact⟨_,rfl,rfl⟩
    | some g=>exact⟨_,rfl,rfl,rfl⟩
abbrev OfT:Type:=Bs → List Bs → List b9 → List dS → List fW → Bool → List b9 → List dS → List dS → List bH → List b9 → Int → Int → Bs → Bs → List Bs → List dS → Option (aK × Int × Int)
section
variable {C:Cx} (nm:Bs) (ini:List dS) (mv:Bool) (old:List b9) (fw bk:List dS) (fa:List bH)
def OfP (F:FR) (r:aK × Int × Int):Prop:=r.2.2 = F.2.1 ∧ (r.2.2 = 0 → r.1 = F.1 ∧ r.2.1 = F.2.2)
theorem CY (F:Int → cN → FR) (eff:Int) (a:cN) (r:List cN):bQ F eff (a :: r) = if (F eff a).2.1 = 0 then (if (bQ F (F eff a).2.2 r).2.1 = 0 then ((F eff a).1 :: (bQ F (F eff a).2.2 r).1,0,(bQ F (F eff a).2.2 r).2.2) else ([],(bQ F (F eff a).2.2 r).2.1,(bQ F (F eff a).2.2 r).2.2)) else ([],(F eff a).2.1,(F eff a).2.2):=rfl
theorem Ia (Gr:OfT) (F:Int → cN → FR) (L:List ab) (l:List cN) (hl:l.length ≤ 1000) (hb:∀ a ∈ l,Bas fun eff=>F eff a)
  (h:∀ a ∈ l,∃ r,Gr nm C.iz (unL C.vars) ini C.funcs mv old fw bk fa (unL L) a.op a.n a.s a.m a.names (unE a.args) = some r ∧ OfP (F 0 a) r) :
  ∃ r,bM Gr nm C.iz (unL C.vars) ini C.funcs mv old fw bk fa (unL L) (unE l) = some r ∧ r.2.2 = (bQ F 0 l).2.1 ∧ (r.2.2 = 0 → r.1 = (bQ F 0 l).1 ∧ r.2.1 = (bQ F 0 l).2.2):=by
 unfold bM
 refine ew (body:=fun x:Int × Int × List aK=>bM.b1 Gr nm C.iz (unL C.vars) ini C.funcs mv old fw bk fa (unL L) (unE l) x.1 x.2.1 x.2.2)
  (fun i x=>∃ eff out,x = (eff,(i:Int),out) ∧ out.length = i ∧ inR eff ∧ (bQ F 0 l).2.1 = (bQ F eff (l.drop i)).2.1 ∧ ((bQ F eff (l.drop i)).2.1 = 0 → (bQ F 0 l).1 = out ++ (bQ F eff (l.drop i)).1 ∧ (bQ F 0 l).2.2 = (bQ F eff (l.drop i)).2.2))
  l.length (x:=(0,0,[])) ⟨0,[],rfl,rfl,Fz,rfl,fun _=>⟨rfl,rfl⟩⟩ (fun i hi x hx=>?_) (fun x hx=>?_) (by omega)
 ·obtain⟨eff,out,rfl,ho,hr,h1,h2⟩:=hx
  have hmem:=List.getElem_mem hi
  obtain⟨r,hr1,hr2,hr3⟩:=h _ hmem
  obtain⟨b1,b2⟩:=hb _ hmem eff hr
  dsimp only at b1 b2
  unfold bM.b1
  simp only[fe1,fe2]
  rw[dR,ao,decide_eq_true (by omega),cond_true,gl hi,aa]
  unfold kf
  dsimp only
  rw[hr1,aa,bg]
  rw[List.drop_eq_getElem_cons hi] at h1 h2
  rw[CY,b1] at h1 h2
  by_cases h0:(F 0 l[i]).2.1 = 0
  rotate_left
  ·rw[if_neg h0] at h1
   rw[decide_eq_false (by rw[hr2]; exact h0),Bool.not_false,cond_true]
   exact .inr ⟨_,rfl,by rw[h1]; exact hr2,fun h=>absurd (hr2.symm.trans h) h0⟩
  ·obtain⟨q1,q2,q3⟩:=b2 h0
   obtain⟨p1,p2⟩:=hr3 (hr2.trans h0)
   rw[if_pos h0,q1,q2] at h1 h2
   rw[decide_eq_true (hr2.trans h0),Bool.not_true,cond_false]
   simp only[fx1]
   rw[gi (by rw[ho]; simp; omega),aa,aB (by omega),aa]
   refine .inl ⟨_,rfl,_,_,rfl,by simp [ho],qg _ _,?_,?_⟩
   ·rw[h1,p2]
    split
    ·rename_i h3; exact h3.symm
    ·rfl
   ·intro h3
    rw[p2] at h3 ⊢
    rw[if_pos h3] at h2
    obtain⟨e1,e2⟩:=h2 rfl
    rw[p1]
    refine⟨?_,e2⟩
    rw[e1,List.append_assoc]; rfl
 ·obtain⟨eff,out,rfl,ho,hr,h1,h2⟩:=hx
  rw[List.drop_length] at h1 h2
  obtain⟨e1,e2⟩:=h2 rfl
  dsimp only
  unfold bM.b1
  rw[dR,ao,decide_eq_false (by omega),cond_false]
  refine⟨_,rfl,h1.symm,fun _=>⟨?_,e2.symm⟩⟩
  rw[e1]
  show out = out ++ []
  rw[List.append_nil]
theorem yc {d e:Nat} (hd:d ≤ 1000000) (t u:aK) (ht:okL e t.2) (hu:okL d u.2):aF t.1 (unL t.2) u.1 (unL u.2) = some (lO t u):=rj hd _ _ _ _ ht hu
theorem zt (hC:OkC C) (hfa:C.look = cD (eI fa)) (hfl:fa.length ≤ 1000) (hvl:C.vars.length ≤ 1000):∀ (d n:Nat) (q:Nat) (L:List ab) (e:cN),d ≤ 12 → d < n → 4 ≤ q → q + 2 ^ d ≤ 100000 → okE d e → (∀ f ∈ L,okL q f.fs) → L.length + d ≤ 1000000 →
  ∃ r,ai.rec n nm C.iz (unL C.vars) ini C.funcs mv old fw bk fa (unL L) e.op e.n e.s e.m e.names (unE e.args) = some r ∧ OfP (br C d L 0 e) r
 | 0,_,_,_,_,_,_,_,_,h,_,_=>h.elim
 | d + 1,0,_,_,_,_,h,_,_,_,_,_=>absurd h (by omega)
 | d + 1,n + 1,q,L,e,hd,hn,hq,hq2,he,hL,hlen=>by
  have he0:=he
  obtain⟨a0,a1,a2,a3,a4,a5,a6⟩:=he
  have h1:=rm d
  have hp:2 ^ (d + 1) = 2 ^ d + 2 ^ d:=by rw[Nat.pow_succ]; omega
  rw[hp] at hq2
  have ih:∀ a ∈ e.args,∃ r,ai.rec n nm C.iz (unL C.vars) ini C.funcs mv old fw bk fa (unL L) a.op a.n a.s a.m a.names (unE a.args) = some r ∧ OfP (br C d L 0 a) r:=fun a ha =>
   zt hC hfa hfl hvl d n q L a (by omega) (by omega) hq (by omega) (a6 a ha) hL (by omega)
  have hla:∀ eff,∀ a ∈ e.args,okL (q + 2 ^ d) (br C d L eff a).1.2:=fun eff a ha=>mN hC d q L eff a hq (a6 a ha) hL
  have hlist:=Ia nm ini mv old fw bk fa (ai.rec n) (br C d L) L e.args a0 (fun a ha=>mS C d L a (a6 a ha)) ih
  have hmem:∀ i,i < e.args.length → eL e.args i ∈ e.args:=fun i hi=>by rw[kF hi]; exact List.getElem_mem _
  show ∃ r,ai.body (ai.rec n) nm C.iz (unL C.vars) ini C.funcs mv old fw bk fa (unL L) e.op e.n e.s e.m e.names (unE e.args) = some r ∧ _
  unfold ai.body br
  rw[bg,bg]
  by_cases c1:e.op = 2
  ·rw[decide_eq_true c1,cond_true,if_pos c1,lH L e.s (by omega),aa]
   simp only[fx1]
   cases hv:(eP L e.s).2 with
   | false=>exact⟨_,rfl,rfl,fun h=>(n12 h).elim⟩
   | true=>exact⟨_,rfl,rfl,fun _=>⟨rfl,rfl⟩⟩
  rw[decide_eq_false c1,cond_false,if_neg c1]
  by_cases c2:e.op = 12
  ·have hl2:=a1 c2
   rw[decide_eq_true c2,cond_true,if_pos c2]
   unfold Fm
   rw[mM (show 0 < e.args.length by omega),aa]
   obtain⟨r0,i0,i1,i2⟩:=ih _ (hmem 0 (by omega))
   unfold kf
   simp only[fe1,fe2,fx1]
   rw[i0,aa,bg]
   by_cases h0:(br C d L 0 (eL e.args 0)).2.1 = 0
   rotate_left
   ·rw[decide_eq_false (by rw[i1]; exact h0),Bool.not_false,cond_true,if_neg h0]
    exact⟨_,rfl,i1,fun h=>absurd (i1.symm.trans h) h0⟩
   obtain⟨p1,p2⟩:=i2 (i1.trans h0)
   have hb:=mS C d (L ++ [.mk e.s (br C d L 0 (eL e.args 0)).1.1 (br C d L 0 (eL e.args 0)).1.2]) (eL e.args 1) (a6 _ (hmem 1 (by omega)))
   have q3:=((mS C d L (eL e.args 0) (a6 _ (hmem 0 (by omega))) 0 Fz).2 h0).2.2
   obtain⟨b1,b2⟩:=hb (br C d L 0 (eL e.args 0)).2.2 q3
   dsimp only at b1 b2
   obtain⟨r1,j0,j1,j2⟩:=zt hC hfa hfl hvl d n (q + 2 ^ d) (L ++ [.mk e.s (br C d L 0 (eL e.args 0)).1.1 (br C d L 0 (eL e.args 0)).1.2]) (eL e.args 1) (by omega) (by omega) (by omega) (by omega) (a6 _ (hmem 1 (by omega))) (fun f hf=>by
    rcases List.mem_append.1 hf with hf | hf
    ·exact lL (by omega) (hL f hf)
    ·rw[List.mem_singleton] at hf
     subst hf
     exact hla 0 _ (hmem 0 (by omega))) (by rw[List.length_append]; simp; omega)
   rw[decide_eq_true (i1.trans h0),Bool.not_true,cond_false,if_pos h0,gi (by rw[bw]; simp; omega),aa,gi (by rw[List.nil_append,bw]; simp; omega),aa,vY (show 1 < e.args.length by omega),aa,List.nil_append,p1]
   rw[iZ,ml] at j0
   unfold kf
   dsimp only
   rw[j0,aa]
   refine⟨_,rfl,j1.trans b1.symm,fun h=>?_⟩
   obtain⟨s1,s2⟩:=j2 h
   obtain⟨t1,t2,t3⟩:=b2 (j1.symm.trans h)
   exact⟨s1.trans t1.symm,by rw[t2,← s2,← p2]⟩
  rw[decide_eq_false c2,cond_false,if_neg c2,zm,aa]
  by_cases c3:e.op = 17 ∨ e.op = 18
  ·rw[decide_eq_true c3,if_pos c3]
   unfold ai.j1 dn Fl
   rw[cond_true,lH C.vars e.s ?_]
   rotate_left
   ·omega
   rw[aa]
   simp only[fe1,fe2,fx1,fu1,fu2]
   cases hv:(eP C.vars e.s).2 with
   | false=>exact⟨_,rfl,rfl,fun h=>(n12 h).elim⟩
   | true =>
    rw[Bool.not_true,cond_false,if_pos rfl,bg]
    by_cases c4:e.op = 18
    rotate_left
    ·rw[decide_eq_true (show e.op = 17 by omega),cond_true,if_neg c4,aa]
     exact⟨_,rfl,rfl,fun _=>⟨rfl,rfl⟩⟩
    ·have hl1:=a2 c4
     rw[decide_eq_false (show ¬ e.op = 17 by omega),cond_false,if_pos c4,mM hl1,aa]
     obtain⟨r0,i0,i1,i2⟩:=ih _ (hmem 0 hl1)
     unfold kf
     dsimp only
     rw[i0,aa,bg]
     by_cases h0:(br C d L 0 (eL e.args 0)).2.1 = 0
     rotate_left
     ·rw[decide_eq_false (by rw[i1]; exact h0),Bool.not_false,cond_true,if_neg h0]
      exact⟨_,rfl,i1,fun h=>absurd (i1.symm.trans h) h0⟩
     obtain⟨p1,p2⟩:=i2 (i1.trans h0)
     rw[decide_eq_true (i1.trans h0),Bool.not_true,cond_false,if_pos h0,p1,yc (d:=4) (e:=q + 2 ^ d) (by omega) _ _ (hla 0 _ (hmem 0 hl1)) (lP hC.vars _),aa]
     cases hs:lO (br C d L 0 (eL e.args 0)).1 (eP C.vars e.s).1 with
     | false=>exact⟨_,rfl,rfl,fun h=>(n13 h).elim⟩
     | true=>exact⟨_,rfl,rfl,fun _=>⟨rfl,p2⟩⟩
  rw[decide_eq_false c3,if_neg c3]
  unfold ai.j1
  rw[cond_false,bg]
  obtain⟨rl,l0,l1,l2⟩:=hlist
  by_cases c5:e.op = 15
  ·rw[decide_eq_true c5,cond_true,if_pos c5]
   unfold cH xZ
   obtain⟨rf,f0,f1⟩:=FA hC fa hfa hfl nm (unL C.vars) ini mv old fw bk e.op e.n e.s e.m e.names (unE e.args)
   rw[f0,aa]
   simp only[fx1]
   cases hg:iw C e.s e.m with
   | none =>
    rw[hg] at f1
    have f1:rf.2 = false:=f1
    rw[f1,Bool.not_false,cond_true]
    exact⟨_,rfl,rfl,fun h=>(n12 h).elim⟩
   | some g =>
    rw[hg] at f1
    obtain⟨f1,f2⟩:=f1
    have hgk:=nL hC hg
    rw[f1,f2,Bool.not_true,cond_false,bg,dR]
    dsimp only
    by_cases h3:g.2.1.length = e.args.length
    rotate_left
    ·rw[decide_eq_false (by omega),Bool.not_false,cond_true,if_neg h3]
     exact⟨_,rfl,rfl,fun h=>(n13 h).elim⟩
    rw[decide_eq_true (by omega),Bool.not_true,cond_false,if_pos h3,l0,aa,bg]
    by_cases h0:(bQ (br C d L) 0 e.args).2.1 = 0
    rotate_left
    ·rw[decide_eq_false (by rw[l1]; exact h0),Bool.not_false,cond_true,if_neg h0]
     exact⟨_,rfl,l1,fun h=>absurd (l1.symm.trans h) h0⟩
    obtain⟨p1,p2⟩:=l2 (l1.trans h0)
    rw[decide_eq_true (l1.trans h0),Bool.not_true,cond_false,if_pos h0]
    have hll:=jw _ _ h0
    have hloop:=fM (body:=fun x=>cH.b1 rf rl x) (bQ (br C d L) 0 e.args).1
     (fun k x=>if lO x (gT g.2.1 k) = true then none else some (((0,[]):aK),(0:Int),(13:Int))) (g.2.2.1,orI .i64 (bQ (br C d L) 0 e.args).2.2 g.2.2.2,0) (fun k hk=>by
      unfold cH.b1
      simp only[fu1,fu2]
      rw[p1,f2,ao,decide_eq_true (by omega),cond_true,cR hk,aa,oT (show k < g.2.1.length by omega),aa]
      have hgt:okL 4 (gT g.2.1 k).2:=by
       unfold gT
       rw[List.getD_eq_getElem?_getD,List.getElem?_eq_getElem (show k < g.2.1.length by omega)]
       exact hgk.1 _ (List.getElem_mem _)
      rw[yc (d:=4) (e:=q + 2 ^ d) (by omega) _ _ (ln (P:=fun t=>okL (q + 2 ^ d) t.2) _ _ hla _ (List.getElem_mem hk)) hgt,aa,aB (by omega)]
      cases lO (bQ (br C d L) 0 e.args).1[k] (gT g.2.1 k) <;> rfl) (by
      unfold cH.b1
      simp only[fx1]
      rw[p1,p2,f2,ao,decide_eq_false (by omega),cond_false]) (by omega)
    rw[hloop,aa,mO]
    unfold HW
    cases (allI (fun k x=>lO x (gT g.2.1 k)) 0 (bQ (br C d L) 0 e.args).1) with
    | true=>exact⟨_,rfl,rfl,fun _=>⟨rfl,rfl⟩⟩
    | false=>exact⟨_,rfl,rfl,fun h=>(n13 h).elim⟩
  ·rw[decide_eq_false c5,cond_false,if_neg c5,l0,aa]
   unfold x6
   rw[bg,bg]
   by_cases h0:(bQ (br C d L) 0 e.args).2.1 = 0
   rotate_left
   ·rw[decide_eq_false (by rw[l1]; exact h0),Bool.not_false,cond_true,if_neg h0]
    exact⟨_,rfl,l1,fun h=>absurd (l1.symm.trans h) h0⟩
   obtain⟨p1,p2⟩:=l2 (l1.trans h0)
   rw[decide_eq_true (l1.trans h0),Bool.not_true,cond_false,if_pos h0]
   have hll:=jw _ _ h0
   have hp:=CX (d:=q + 2 ^ d) (by omega) e.op e.n e.s e.m e.names (unE e.args) (bQ (br C d L) 0 e.args).1 (by omega) (fun h=>by rw[hll]; exact a3 h) (fun h=>by rw[hll]; exact a5 h) (fun h=>by rw[hll]; exact a4 h) (fun t ht=>ln (P:=fun t=>okL (q + 2 ^ d) t.2) _ _ hla t ht)
   rw[p1,p2,hp,aa]
   simp only[fx1]
   by_cases c6:e.op = 16
   ·rw[decide_eq_true c6,if_pos c6,cond_true]
    exact⟨_,rfl,rfl,fun _=>⟨rfl,rfl⟩⟩
   ·rw[decide_eq_false c6,if_neg c6,cond_false]
    exact⟨_,rfl,rfl,fun _=>⟨rfl,rfl⟩⟩
end
end Go.Proofs.YtaocfjifacnokaaGreat
namespace Go.Proofs.YtaocfjifacnokaaGreat
open Go.Lad
theorem Kk {m:df} {faces:List bH} {L:List ab} {e:cN} (hm:ShM m) (hf:ShF faces) (hL:L.length ≤ 1000) (hr:iI m = true) (hb:iH faces = true) (hl:gH L = true) (he:okE 12 e) :
  ∃ r,ai m.1 m.2.1 (unL m.2.2.1) (unE m.2.2.2.1) m.2.2.2.2.1 m.2.2.2.2.2.1 (unL m.2.2.2.2.2.2.1) (unE m.2.2.2.2.2.2.2.1) (unE m.2.2.2.2.2.2.2.2) faces (unL L) e.op e.n e.s e.m e.names (unE e.args) = some r ∧ OfP (br (cxM m faces) 12 L 0 e) r:=by
 have h1:=hf.1
 have h2:=hm.vars
 exact zt (C:=cxM m faces) m.1 (unE m.2.2.2.1) m.2.2.2.2.2.1 (unL m.2.2.2.2.2.2.1) (unE m.2.2.2.2.2.2.2.1) (unE m.2.2.2.2.2.2.2.2) faces (wg hm hf ((iX hm).2 hr) hb) rfl (by omega) (by show m.2.2.1.length ≤ 1000; omega) 12 jI.n 4 L e (by omega) (fl (by omega)) (by omega) (by omega) he (lQ hl) (by omega)
theorem C0 (L:List ab):gH L = L.all wo:=rfl
theorem Bx {m:df} {faces:List bH} {L:List ab} {e:cN} (hm:ShM m) (hE:ya m) (hf:ShF faces) (hL:L.length ≤ 1000) (he:shE 16 e) :
  cj m.1 m.2.1 (unL m.2.2.1) (unE m.2.2.2.1) m.2.2.2.2.1 m.2.2.2.2.2.1 (unL m.2.2.2.2.2.2.1) (unE m.2.2.2.2.2.2.2.1) (unE m.2.2.2.2.2.2.2.2) faces (unL L) e.op e.n e.s e.m e.names (unE e.args) = some (jL m faces L e):=by
 unfold cj jL JN
 have l1:=iW (body:=fun x=>cj.b1 (unL L) x) (fun k=>(k:Int)) L (fun _ f=>if wo f = true then some none else some (some (.inr ((0,[]),0,1)))) (some (.inl ())) (fun i hi=>by
  unfold cj.b1
  simp only[fu1,fu2]
  rw[bw,ao,decide_eq_true (by omega),cond_true,dy hi,aa,fv,aa,aB (by omega)]
  unfold wo
  dsimp only
  cases bG 4 L[i].kd L[i].fs <;> rfl) (by
  unfold cj.b1
  rw[bw,ao,decide_eq_false (by omega),cond_false]; rfl) (by omega)
 rw[show (0:Int) = ((0:Nat):Int) from rfl,l1,k8,C0]
 cases hl:L.all wo with
 | false=>rfl
 | true =>
 rw[if_pos rfl,aa]
 dsimp only
 unfold cj.j2
 rw[sy he,aa,sW hm,← wv hm hE,aa,sX faces hf]
 simp only[aa]
 cases hre:fh e with
 | false=>rfl
 | true =>
 cases hrm:iI m with
 | false=>rfl
 | true =>
 cases hfb:iH faces with
 | false=>rfl
 | true =>
 simp only[Bool.not_true,cond_false,aa,Bool.true_and,if_true]
 unfold cj.j1
 obtain⟨r,h1,h2,h3⟩:=Kk (e:=e) hm hf hL hrm hfb hl ((iV he).2 hre)
 rw[h1,aa,cond_false,bg]
 simp only[fx1]
 by_cases h0:(br (cxM m faces) 12 L 0 e).2.1 = 0
 ·have h0':(br (cxM m faces) 12 L ((0:Nat):Int) e).2.1 = ((0:Nat):Int):=h0
  obtain⟨p1,p2⟩:=h3 (h2.trans h0)
  rw[decide_eq_true (h2.trans h0),if_pos h0',Bool.not_true,cond_false,p1,p2]; rfl
 ·have h0':¬ (br (cxM m faces) 12 L ((0:Nat):Int) e).2.1 = ((0:Nat):Int):=h0
  rw[decide_eq_false (by rw[h2]; exact h0),if_neg h0',Bool.not_false,cond_true,h2]; rfl
theorem an0 {x:Int} (h:inR x):anI .i64 x 0 = x:=by
 have h0:anI .i64 x 0 = (BitVec.ofInt 64 x &&& ~~~BitVec.ofInt 64 0).toInt:=tP _
 have h1:(~~~BitVec.ofInt 64 0:BitVec 64) = BitVec.allOnes 64:=rfl
 rw[h0,h1,BitVec.and_allOnes]
 exact h
theorem FB (nm:Bs) {L:List ab} {e:cN} {k:Int} {l:List ab} (hL:L.length ≤ 1000) (hl:gH L = true) (he:okE 12 e) (hw:okL 4 l) :
  bY ((nm,[],[],[],[],false,[],[],[]),[]) (unL L) e.op e.n e.s e.m e.names (unE e.args) k (unL l) 0 false = some (pL L e (k,l)):=by
 obtain⟨r,h1,h2,h3⟩:=zt (C:=cx0) nm [] false [] [] [] [] Lp rfl (by simp) (by simp [cx0]) 12 jI.n 4 L e (by omega) (fl (by omega)) (by omega) (by omega) he (lQ hl) (by omega)
 have h1:ai nm [] [] [] [] false [] [] [] [] (unL L) e.op e.n e.s e.m e.names (unE e.args) = some r:=h1
 have hty:=pw (C:=cx0) (L:=L) (e:=e) Lp hl he
 unfold bY pL
 change (ai nm [] [] [] [] false [] [] [] [] (unL L) e.op e.n e.s e.m e.names (unE e.args)).bind _ = _
 rw[h1,aa,bg]
 by_cases h0:(br cx0 12 L 0 e).2.1 = 0
 rotate_left
 ·rw[decide_eq_false (by rw[h2]; exact h0),if_neg h0,Bool.not_false,cond_true,h2]
 obtain⟨p1,p2⟩:=h3 (h2.trans h0)
 have hin:=((mS cx0 12 L e he 0 Fz).2 h0).2.2
 rw[decide_eq_true (h2.trans h0),if_pos h0,Bool.not_true,cond_false,p2,an0 hin,bg]
 unfold bY.j1
 simp only[fu1,fu2]
 rw[p1,p2,an0 hin,rj (d:=4) (e:=4100) (by omega) _ _ _ _ hty hw,bg]
 by_cases h4:(br cx0 12 L 0 e).2.2 = 0
 rotate_left
 ·rw[decide_eq_false h4,if_neg h4]; rfl
 rw[decide_eq_true h4,if_pos h4,Bool.not_true,cond_false,aa,cond_false,aa]
 unfold lO
 cases (decide ((br cx0 12 L 0 e).1.1 = k) && eK l (br cx0 12 L 0 e).1.2) <;> rfl
theorem qh {β:Type} {body:Int → Option (Int ⊕ β)} (nm:Bs) (vs:List ab) (es:List cN) (L:List ab) (inj:Bs × Int → β) (e:β) (hv:vs.length ≤ 1000) (hes:es.length = vs.length) (hL:L.length ≤ 1000) (hl:gH L = true) (he:∀ a ∈ es,okE 12 a) (hw:∀ f ∈ vs,okL 4 f.fs)
  (h:∀ i (hi:i < vs.length) (hi2:i < es.length),body (i:Int) = (bY ((nm,[],[],[],[],false,[],[],[]),[]) (unL L) es[i].op es[i].n es[i].s es[i].m es[i].names (unE es[i].args) vs[i].kd (unL vs[i].fs) 0 false).bind fun p=>bif (!eqZ p 0) then some (.inr (inj (vs[i].nm,p))) else ((z64 ((i:Int) + 1)).bind fun v=>some (.inl v)))
  (hd:body (vs.length:Int) = some (.inr e)):bO body 0 = some (((sA vs es L).map inj).getD e):=by
 refine nM nm vs es L inj e hv hes hL hl he hw (fun i hi hi2=>?_) hd
 rw[h i hi hi2,FB nm hL hl (he _ (List.getElem_mem _)) (hw _ (List.getElem_mem hi)),D9 nm hL hl (he _ (List.getElem_mem _)) (hw _ (List.getElem_mem hi))]
theorem Ib {m:df} {faces:List bH} (hm:ShM m) (hf:ShF faces) (hrm:iI m = true) (hfb:iH faces = true) {f:fW} (h1:f.2.2.1.length ≤ 8) (h2:gH f.2.2.1 = true) (h3:okE 12 (fI f)) (h4:okL 4 f.2.2.2.1.2) :
  cy m.1 m.2.1 (unL m.2.2.1) (unE m.2.2.2.1) m.2.2.2.2.1 m.2.2.2.2.2.1 (unL m.2.2.2.2.2.2.1) (unE m.2.2.2.2.2.2.2.1) (unE m.2.2.2.2.2.2.2.2) faces (unL f.2.2.1) f.2.2.2.2.2.1 f.2.2.2.2.2.2.1 f.2.2.2.2.2.2.2.1 f.2.2.2.2.2.2.2.2.1 f.2.2.2.2.2.2.2.2.2.1 (unE f.2.2.2.2.2.2.2.2.2.2) f.2.2.2.1.1 (unL f.2.2.2.1.2) f.2.2.2.2.1 true =
  some (match mQ (cxM m faces) 0 f with | some b=>b.2 | none=>0):=by
 obtain⟨r,e1,e2,e3⟩:=Kk (e:=fI f) hm hf (by omega) hrm hfb h2 h3
 have e1:ai m.1 m.2.1 (unL m.2.2.1) (unE m.2.2.2.1) m.2.2.2.2.1 m.2.2.2.2.2.1 (unL m.2.2.2.2.2.2.1) (unE m.2.2.2.2.2.2.2.1) (unE m.2.2.2.2.2.2.2.2) faces (unL f.2.2.1) f.2.2.2.2.2.1 f.2.2.2.2.2.2.1 f.2.2.2.2.2.2.2.1 f.2.2.2.2.2.2.2.2.1 f.2.2.2.2.2.2.2.2.2.1 (unE f.2.2.2.2.2.2.2.2.2.2) = some r:=e1
 have hty:=pw (C:=cxM m faces) (L:=f.2.2.1) (e:=fI f) (wg hm hf ((iX hm).2 hrm) hfb) h2 h3
 unfold cy mQ
 rw[e1,aa,bg]
 by_cases h0:(br (cxM m faces) 12 f.2.2.1 0 (fI f)).2.1 = 0
 rotate_left
 ·rw[decide_eq_false (by rw[e2]; exact h0),if_neg h0,Bool.not_false,cond_true,e2]
 obtain⟨p1,p2⟩:=e3 (e2.trans h0)
 rw[decide_eq_true (e2.trans h0),if_pos h0,Bool.not_true,cond_false,p2,bg]
 unfold cy.j1
 simp only[fu1,fu2]
 rw[p1,p2,rj (d:=4) (e:=4100) (by omega) _ _ _ _ hty h4,bg]
 unfold lO
 have hov:∀ c:Bool,(bif c then some false else some false:Option Bool) = some false:=fun c=>by cases c <;> rfl
 rw[hov,aa,cond_false,aa]
 by_cases hs:(decide ((br (cxM m faces) 12 f.2.2.1 0 (fI f)).1.1 = f.2.2.2.1.1) && eK f.2.2.2.1.2 (br (cxM m faces) 12 f.2.2.1 0 (fI f)).1.2) = true
 rotate_left
 ·rw[if_neg hs]
  rw[Bool.not_eq_true] at hs
  rw[hs]; rfl
 rw[if_pos hs,hs,Bool.not_true,cond_false]
 by_cases ha:anI .i64 (br (cxM m faces) 12 f.2.2.1 0 (fI f)).2.2 f.2.2.2.2.1 = 0
 ·rw[if_pos ha,decide_eq_true ha]; rfl
 ·rw[if_neg ha,decide_eq_false ha]; rfl
theorem C1 {m:df} {faces:List bH} (hm:ShM m) (hE:ya m) (hf:ShF faces) :
  aj m.1 m.2.1 (unL m.2.2.1) (unE m.2.2.2.1) m.2.2.2.2.1 m.2.2.2.2.2.1 (unL m.2.2.2.2.2.2.1) (unE m.2.2.2.2.2.2.2.1) (unE m.2.2.2.2.2.2.2.2) faces = some (wi m faces):=by
 unfold aj wi
 rw[sW hm,← wv hm hE,aa,sX faces hf]
 simp only[aa]
 cases hrm:iI m with
 | false=>cases iH faces <;> rfl
 | true =>
 cases hfb:iH faces with
 | false=>rfl
 | true =>
 have ho:=(iX hm).2 hrm
 rw[if_pos rfl,if_pos rfl]
 simp only[Bool.not_true,cond_false,aa]
 unfold aj.j6
 rw[cond_false]
 have hul:=hm.iz
 have hul2:=hm.funcs.1
 have hfl:=hf.1
 have hv:=hm.vars
 have hol:=hm.old
 have okE_of:∀ {e:cN},shE 16 e → fh e = true → okE 12 e:=fun h1 h2=>(iV h1).2 h2
 have e1:∀ a ∈ m.2.2.2.1,okE 12 a:=fun a ha=>okE_of (hm.init.2 a ha) (ho.init.1 a ha)
 have e2:∀ a ∈ m.2.2.2.2.2.2.2.1,okE 12 a:=fun a ha=>okE_of (hm.fwd.2 a ha) (ho.fwd.1 a ha)
 have e3:∀ a ∈ m.2.2.2.2.2.2.2.2,okE 12 a:=fun a ha=>okE_of (hm.back.2 a ha) (ho.back.1 a ha)
 have w1:∀ f ∈ m.2.2.1,okL 4 f.fs:=fun f hf=>dp (ho.vars f hf).2
 have w2:∀ f ∈ m.2.2.2.2.2.2.1,okL 4 f.fs:=fun f hf=>dp (ho.old f hf).2
 have l1:=fM (body:=fun x=>aj.b1 m.1 m.2.1 faces x) m.2.1 (fun k u=>(wh m faces k u).map fun u=>Sum.inr (u,(12:Int))) (Sum.inl ()) (fun i hi=>by
  unfold aj.b1 aj.j1 wh
  rw[ao,decide_eq_true (by omega),cond_true,cR hi,aa,yb _ _ (by omega),aa,aB (by omega)]
  cases cD (eI faces) m.2.1[i] with
  | none=>rfl
  | some f=>by_cases h:m.2.1[i] = m.1 <;> simp [h,Ec]) (by
  unfold aj.b1
  rw[ao,decide_eq_false (by omega),cond_false]) (by omega)
 rw[l1,aa,rp]
 cases hsu:scan (wh m faces) 0 m.2.1 with
 | some u=>rfl
 | none =>
 dsimp only[Option.map_none,Option.getD_none]
 unfold aj.j5 sB
 have l2:=qh (body:=fun x=>aj.b2 m.1 (unL m.2.2.1) (unE m.2.2.2.1) x) m.1 m.2.2.1 m.2.2.2.1 [] Sum.inr (Sum.inl ()) (by omega) ho.init.2 (by simp) rfl e1 w1 (fun i hi hi2=>by
  unfold aj.b2
  simp only[fu1,fu2,fe1,fe2]
  rw[bw,ao,decide_eq_true (by omega),cond_true,dy hi,gl hi2,aa,aa]; rfl) (by
  unfold aj.b2
  rw[bw,ao,decide_eq_false (by omega),cond_false])
 rw[l2,aa]
 cases hb1:sA m.2.2.1 m.2.2.2.1 [] with
 | some b =>
  dsimp only[Option.map_some,Option.getD_some]
  rw[if_neg (wk hb1).2]
 | none =>
 dsimp only[Option.map_none,Option.getD_none]
 have fin:aj.j3 m.1 m.2.1 (unL m.2.2.1) (unE m.2.2.2.1) m.2.2.2.2.1 m.2.2.2.2.2.1 (unL m.2.2.2.2.2.2.1) (unE m.2.2.2.2.2.2.2.1) (unE m.2.2.2.2.2.2.2.2) faces = some ((scan (mQ (cxM m faces)) 0 m.2.2.2.2.1).getD ([],0)):=by
  unfold aj.j3
  refine fM (body:=fun x=>aj.b5 m.1 m.2.1 (unL m.2.2.1) (unE m.2.2.2.1) m.2.2.2.2.1 m.2.2.2.2.2.1 (unL m.2.2.2.2.2.2.1) (unE m.2.2.2.2.2.2.2.1) (unE m.2.2.2.2.2.2.2.2) faces x) m.2.2.2.2.1 _ _ (fun i hi=>?_) ?_ (by omega)
  ·obtain⟨hf1,hf2⟩:=hm.funcs.2 _ (List.getElem_mem hi)
   obtain⟨_,g2,g3,g4⟩:=ho.funcs _ (List.getElem_mem hi)
   unfold aj.b5
   simp only[fu1,fu2,fe1,fe2]
   rw[ao,decide_eq_true (by omega),cond_true,cR hi,aa,Ib hm hf hrm hfb hf1 (ij g2) ((iV hf2).2 g4) (dp g3),aa,bg,aB (by omega)]
   have e0:mQ (cxM m faces) i m.2.2.2.2.1[i] = mQ (cxM m faces) 0 m.2.2.2.2.1[i]:=rfl
   rw[e0]
   cases hg:mQ (cxM m faces) 0 m.2.2.2.2.1[i] with
   | none=>rfl
   | some b =>
    obtain⟨q1,q2⟩:=Fx hg
    dsimp only
    rw[decide_eq_false q2,Bool.not_false,cond_true,← q1]
  ·unfold aj.b5
   rw[ao,decide_eq_false (by omega),cond_false]
 unfold aj.j4
 cases hmv:m.2.2.2.2.2.1 with
 | false =>
  rw[hmv] at fin
  rw[cond_false,aa]
  exact fin
 | true =>
 rw[hmv] at fin
 rw[cond_true,if_pos rfl]
 have l3:=qh (body:=fun x=>aj.b3 m.1 (unL m.2.2.1) (unL m.2.2.2.2.2.2.1) (unE m.2.2.2.2.2.2.2.1) x) m.1 m.2.2.1 m.2.2.2.2.2.2.2.1 m.2.2.2.2.2.2.1 (fun b=>Sum.inr (Sum.inr b)) (Sum.inl ()) (by omega) (ho.fwd.2 hmv) (by omega) (ij ho.old) e2 w1 (fun i hi hi2=>by
  unfold aj.b3
  simp only[fu1,fu2,fe1,fe2]
  rw[bw,ao,decide_eq_true (by omega),cond_true,dy hi,gl hi2,aa,aa]; rfl) (by
  unfold aj.b3
  rw[bw,ao,decide_eq_false (by omega),cond_false])
 rw[l3,aa]
 cases hb2:sA m.2.2.1 m.2.2.2.2.2.2.2.1 m.2.2.2.2.2.2.1 with
 | some b =>
  dsimp only[Option.map_some,Option.getD_some]
  rw[aa,if_neg (wk hb2).2]
 | none =>
 dsimp only[Option.map_none,Option.getD_none]
 unfold aj.j2
 have l4:=qh (body:=fun x=>aj.b4 m.1 (unL m.2.2.1) (unL m.2.2.2.2.2.2.1) (unE m.2.2.2.2.2.2.2.2) x) m.1 m.2.2.2.2.2.2.1 m.2.2.2.2.2.2.2.2 m.2.2.1 Sum.inr (Sum.inl ()) (by omega) ho.back.2 (by omega) (ij ho.vars) e3 w2 (fun i hi hi2=>by
  unfold aj.b4
  simp only[fu1,fu2,fe1,fe2]
  rw[bw,ao,decide_eq_true (by omega),cond_true,dy hi,gl hi2,aa,aa]; rfl) (by
  unfold aj.b4
  rw[bw,ao,decide_eq_false (by omega),cond_false])
 rw[l4,aa]
 cases hb3:sA m.2.2.2.2.2.2.1 m.2.2.2.2.2.2.2.2 m.2.2.1 with
 | some b =>
  dsimp only[Option.map_some,Option.getD_some]
  rw[if_neg (wk hb3).2]
 | none=>exact fin
theorem C2 (a b:aK) (m:df) (faces:List bH) (loc:List b9) (x:dS) (hE:ya m):cz a b m faces loc x = some true:=by
 obtain⟨ka,la⟩:=a
 obtain⟨kb,lb⟩:=b
 obtain⟨L,rfl⟩:∃ L,loc = unL L:=⟨mkL loc,(Kh loc).symm⟩
 obtain⟨e,rfl⟩:∃ e,x = kf e:=⟨.mk x.1 x.2.1 x.2.2.1 x.2.2.2.1 x.2.2.2.2.1 x.2.2.2.2.2,rfl⟩
 unfold cz kf
 simp only[fu1,fu2,fe1,fe2,Mr,fme,MU,fx1,fx3]
 obtain⟨b0,e0⟩:=oR [(ka,la),(kb,lb)] (by simp)
 obtain⟨b1,e1,g1⟩:=Fu m
 obtain⟨b2,e2,g2⟩:=JK faces
 obtain⟨b3,e3,g3⟩:=pv L
 obtain⟨b5,e5,g5⟩:=rn [e]
 have e1:bq m.1 m.2.1 (unL m.2.2.1) (unE m.2.2.2.1) m.2.2.2.2.1 m.2.2.2.2.2.1 (unL m.2.2.2.2.2.2.1) (unE m.2.2.2.2.2.2.2.1) (unE m.2.2.2.2.2.2.2.2) = some b1:=e1
 have hone:unE [e] = ([(e.op,e.n,e.s,e.m,e.names,e.args)]:List dS):=by cases e; rfl
 rw[hone] at e5
 rw[Hw,aa,e0,aa,e1,e2,e3,e5]
 simp only[aa]
 cases b0 with
 | false=>rfl
 | true =>
 cases b1 with
 | false=>rfl
 | true =>
 cases b2 with
 | false=>rfl
 | true =>
 cases b3 with
 | false=>rfl
 | true =>
 cases b5 with
 | false=>rfl
 | true =>
 have hm:=g1 rfl
 have hf:=g2 rfl
 have hL:=g3 rfl
 have he:=(g5 rfl).2 e (List.mem_singleton.2 rfl)
 simp only[Bool.not_true,cond_false,aa]
 unfold cz.j2
 simp only[fu1,fu2,fe1,fe2,cond_false]
 have s1:cX (pI ka la kb lb).1.1 (unL (pI ka la kb lb).1.2) (pI ka la kb lb).1.1 (unL (pI ka la kb lb).1.2) = some true:=by
  have ho:okL 4 (pI ka la kb lb).1.2:=by
   unfold pI
   split
   ·split
    ·rename_i h; exact dp h.2
    ·exact ey _
   ·exact ey _
  rw[sq (d:=4) (by omega) _ _ _ _ ho,decide_eq_true rfl,qZ]; rfl
 have s2:cX (pJ ka la kb lb).1.1 (unL (pJ ka la kb lb).1.2) (pJ ka la kb lb).1.1 (unL (pJ ka la kb lb).1.2) = some true:=by
  have ho:okL 4 (pJ ka la kb lb).1.2:=by
   unfold pJ
   split
   ·rename_i h
    rw[Bool.and_eq_true] at h
    unfold upR
    split
    ·exact zd _ _ (dp h.1)
    ·exact ey _
   ·exact ey _
  rw[sq (d:=4) (by omega) _ _ _ _ ho,decide_eq_true rfl,qZ]; rfl
 have hb:∀ b:Bool,(b == b) = true:=fun b=>by cases b <;> rfl
 simp only[JC,HV,JD,HS,fH,fv,HB,Fk,Lh,JE,aa,hb,s1,s2,Bool.not_true,cond_false]
 unfold cz.j1
 simp only[fu1,fu2,fe1,fe2,cond_false]
 have t1:dA m.1 m.2.1 (unL m.2.2.1) (unE m.2.2.2.1) m.2.2.2.2.1 m.2.2.2.2.2.1 (unL m.2.2.2.2.2.2.1) (unE m.2.2.2.2.2.2.2.1) (unE m.2.2.2.2.2.2.2.2) faces (unL L) e.op e.n e.s e.m e.names (unE e.args) = some (jL m faces L e):=Fw hm hf (by omega) he
 have t2:=Bx (L:=L) (e:=e) hm hE hf (by omega) he
 have t3:b8 m.1 m.2.1 (unL m.2.2.1) (unE m.2.2.2.1) m.2.2.2.2.1 m.2.2.2.2.2.1 (unL m.2.2.2.2.2.2.1) (unE m.2.2.2.2.2.2.2.1) (unE m.2.2.2.2.2.2.2.2) faces = some (wi m faces):=H6 hm hf
 have t4:=C1 hm hE hf
 have hty:okL 4100 (jL m faces L e).1.2:=by
  unfold jL
  split
  ·rename_i h0
   unfold JN at h0
   simp only[Bool.and_eq_true] at h0
   split
   ·exact pw (wg hm hf ((iX hm).2 h0.2.2.1) h0.2.2.2) h0.1 ((iV he).2 h0.2.1)
   ·exact ey _
  ·exact ey _
 have s3:cX (jL m faces L e).1.1 (unL (jL m faces L e).1.2) (jL m faces L e).1.1 (unL (jL m faces L e).1.2) = some true:=by
  rw[sq (d:=4100) (by omega) _ _ _ _ hty,decide_eq_true rfl,qZ]; rfl
 have hz:∀ z:Int,eqZ z z = true:=fun z=>by rw[bg]; exact decide_eq_true rfl
 rw[t1,aa,t2,aa,t3,aa,t4,aa]
 simp only[hz,cond_true,fu1,fu2,s3,aa,decide_true]
end Go.Proofs.YtaocfjifacnokaaGreat
