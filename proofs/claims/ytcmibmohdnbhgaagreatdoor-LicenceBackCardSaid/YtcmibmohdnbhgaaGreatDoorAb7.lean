import Derived.Test.YtcmibmohdnbhgaaGreatDoorAb6
namespace Go.Lad
set_option linter.unusedVariables false
set_option linter.unusedSimpArgs false
open Go.RowKit
def Src (χ:Col) (w:World) (z:Nat) (v:Value) (m:List (List PV)):Prop :=
 ∃ A c,∃ news:List Value,v = .slice A m.length c ∧ news.length = m.length * z ∧ (∀ u ∈ news,u.oneCell' = true) ∧ (∀ i x,m[i]? = some x → GoRep.rd (α:=CZ z) (In χ 0) w (chunk z i news) x) ∧ (A = none → m = []) ∧
  (∀ ad,A = some ad → ∀ j u,news[j]? = some u → w.cell? (ad.add j) = some u)
theorem Src.sub {χ:Col} {w:World} {z n c a b:Nat} {A:Option Addr} {l:List (List PV)} (h:Src χ w z (.slice A n c) l) (hab:a ≤ b) (hb:b ≤ l.length) (hc:l.length ≤ c):Src χ w z (svV A c a b z) ((l.take b).drop a):=by
 obtain⟨A',c',news,hv,n1,n2,n3,n4,n5⟩:=h
 injection hv with hA hn hc'
 subst hA hc'
 have hl:((l.take b).drop a).length = b - a:=by simp; omega
 have h1:(b - a) * z ≤ l.length * z - a * z:=by
  rw[← Nat.sub_mul]; exact Nat.mul_le_mul_right _ (by omega)
 refine⟨if c = a then A else A.map (·.add (a * z)),c - a,(news.drop (a * z)).take ((b - a) * z),by rw[hl]; rfl,by rw[hl,List.length_take,List.length_drop,n1]; omega,fun u hu=>n2 u (List.mem_of_mem_drop (List.mem_of_mem_take hu)),fun i x hx=>?_,fun hn=>?_,fun ad had j u hu=>?_⟩
 ·have hi:i < b - a:=by rw[← hl]; exact (List.getElem?_eq_some_iff.1 hx).1
  have hx':((l.take b).drop a)[i]? = some (show List PV from x):=hx
  rw[List.getElem?_drop,List.getElem?_take,if_pos (by omega)] at hx'
  have:=n3 _ x hx'
  have e:chunk z i ((news.drop (a * z)).take ((b - a) * z)) = chunk z (a + i) news:=by
   unfold chunk
   apply List.ext_getElem?
   intro j
   rw[List.getElem?_take,List.getElem?_take]
   split
   ·rename_i hj
    rw[List.getElem?_drop,List.getElem?_take,List.getElem?_drop,List.getElem?_drop]
    have:i * z + j < (b - a) * z:=by
     have:(i + 1) * z ≤ (b - a) * z:=Nat.mul_le_mul_right _ hi
     rw[Nat.add_mul] at this; omega
    rw[if_pos this,Nat.add_mul,Nat.add_assoc]
   ·rfl
  rw[e]; exact this
 ·by_cases hca:c = a
  ·exact List.eq_nil_of_length_eq_zero (by rw[hl]; omega)
  ·rw[if_neg hca] at hn
   have:A = none:=by cases A <;> simp_all
   rw[n4 this]; simp
 ·have hj:j < (b - a) * z:=by
   have:=(List.getElem?_eq_some_iff.1 hu).1
   rw[List.length_take] at this; omega
  by_cases hca:c = a
  ·have:b - a = 0:=by omega
   rw[this] at hj; omega
  ·rw[if_neg hca,Option.map_eq_some_iff] at had
   obtain⟨ad0,h0,rfl⟩:=had
   rw[List.getElem?_take,if_pos hj,List.getElem?_drop] at hu
   have:=n5 ad0 h0 _ u hu
   rw[Addr.add_add]; exact this
theorem run_appS {P:Program} {t e ty:TypeId} {k kd z:Nat} {χ:Col} {w:World} {v y:Value} {l m:List (List PV)} (hE:ElemOf P t e z) (hown:Own (α:=CZ z) k χ e w v l) (hsrc:Src χ w z y m) (hk:k ≠ 0) (hkd:kd ≠ 0)
  (hlen:l.length + m.length ≤ 2147483647) (hnm:Norm χ w) :
  ∃ v' w' χ',(Builtin.append_ #[t,t] ty #[v,y]).run P w = .ok v' w' ∧ Own (α:=CZ z) kd χ' e w' v' (l ++ m) ∧ Chg [k] χ w χ' w' ∧ Norm χ' w' ∧ (∀ b,In χ 0 b → b < w.heap.size → In χ' 0 b ∧ w'.heap[b]? = w.heap[b]?):=by
 obtain⟨i,zv,hi,hz,hsize,hby,hzs⟩:=hE.ex
 obtain⟨⟨xs,ho,hx⟩,hcol⟩:=hown
 obtain⟨A,c,news,rfl,n1,n1c,n2,hA,n3⟩:=hsrc
 have hxl:xs.length = l.length * z:=ho.1
 have fin:∀ v' w',oRow w' e z v' (l.length + m.length) (xs ++ news) → w.grownBy w' v.ownBlock → (v'.ownBlock = v.ownBlock ∨ v'.ownBlock = some w.heap.size) →
   ∃ χ',Own (α:=CZ z) kd χ' e w' v' (l ++ m) ∧ Chg [k] χ w χ' w' ∧ Norm χ' w' ∧ (∀ b,In χ 0 b → b < w.heap.size → In χ' 0 b ∧ w'.heap[b]? = w.heap[b]?):=by
  intro v' w' h1 h2 h3
  have hold:∀ b,b < w.heap.size → v'.ownBlock = some b → χ b = k:=fun b hb hv=>by
   rcases h3 with h3 | h3
   ·exact hcol b (h3 ▸ hv)
   ·rw[h3] at hv; injection hv with hv; omega
  have hfr:∀ b,In χ 0 b → b < w.heap.size → In (fun b=>if v'.ownBlock = some b then kd else if b < w.heap.size then χ b else 0) 0 b ∧ w'.heap[b]? = w.heap[b]? := by
   intro b hb hl
   have hne:v'.ownBlock ≠ some b:=fun hv=>hk ((hold b hl hv).symm.trans hb)
   refine⟨?_,h2.block b hl fun he=>hk ((hcol b he.symm).symm.trans hb)⟩
   show (if v'.ownBlock = some b then kd else if b < w.heap.size then χ b else 0) = 0
   rw[if_neg hne,if_pos hl]; exact hb
  refine⟨fun b=>if v'.ownBlock = some b then kd else if b < w.heap.size then χ b else 0,?_,⟨h2.os,h2.tape,h2.output,h2.size,fun b hb hT=>?_,fun b hb hT=>h2.block b hb ?_⟩,fun b hb=>?_,hfr⟩
  ·refine⟨⟨xs ++ news,?_,fun j x hj=>?_⟩,fun g hg=>?_⟩
   ·exact (by rw[List.length_append]; exact h1:oRow w' e z v' (l ++ m).length (xs ++ news))
   ·refine GoRep.frame hfr ?_
    rcases Nat.lt_or_ge j l.length with hjl | hjl
    ·have hj':l[j]? = some x:=by rw[← List.getElem?_append_left (l₂:=m) hjl]; exact hj
     have e1:chunk z j (xs ++ news) = chunk z j xs:=by
      unfold chunk
      have:j * z + z ≤ xs.length:=by
       rw[hxl,← Nat.succ_mul]; exact Nat.mul_le_mul_right _ hjl
      rw[List.drop_append_of_le_length (by omega),List.take_append_of_le_length (by rw[List.length_drop]; omega)]
     rw[show GoRep.sz (CZ z) = z from rfl,e1]; exact hx j x hj'
    ·have hj':m[j - l.length]? = some x:=by rw[← List.getElem?_append_right (l₁:=l) hjl]; exact hj
     have e1:chunk z j (xs ++ news) = chunk z (j - l.length) news:=by
      unfold chunk
      have:j * z = xs.length + (j - l.length) * z:=by
       rw[hxl,← Nat.add_mul]; congr 1; omega
      rw[this,List.drop_append,Nat.add_sub_cancel_left,List.drop_of_length_le (Nat.le_add_right _ _),List.nil_append]
     rw[show GoRep.sz (CZ z) = z from rfl,e1]
     exact n2 _ x hj'
   ·show (if v'.ownBlock = some g then kd else _) = kd
    rw[if_pos hg]
  ·show (if v'.ownBlock = some b then kd else if b < w.heap.size then χ b else 0) = χ b
   rw[if_neg (fun hv=>hT (by rw[hold b hb hv]; simp)),if_pos hb]
  ·intro he
   exact hT (by rw[hcol b he.symm]; simp)
  ·show (if v'.ownBlock = some b then kd else if b < w.heap.size then χ b else 0) = 0
   have h5:=h2.size
   rw[if_neg (fun hv=>by have:=(h1.lt b hv).2; omega),if_neg (by omega)]
 have hsz0:GoRep.sz (CZ z) = z:=rfl
 rw[hsz0] at ho
 rcases A with _ | ad
 ·have hm0:=hA rfl
  subst hm0
  have hn:news = []:=List.eq_nil_of_length_eq_zero (by simpa using n1)
  subst hn
  obtain⟨χ',f1,f2⟩:=fin v w (by rw[List.length_nil,Nat.add_zero,List.append_nil]; exact ho) (World.grownBy.refl w _) (.inl rfl)
  exact⟨v,w,χ',run_append_of_nil w t ty e i _ hE.ty hi v _ xs ho c,f1,f2⟩
 ·obtain⟨v',w',hrun,h2,h3,h4,h5⟩:=run_append_o (P:=P) w t ty e i zv z i.bytes hE.ty hi hz hsize rfl hzs hE.pos v l.length xs ho ad m.length c news n1 (n3 ad rfl) n1c (by simp only[maxLen]; omega)
   (Nat.le_trans (Nat.mul_le_mul hlen hby) (by omega))
  obtain⟨χ',f1,f2⟩:=fin v' w' h2 h3 h5
  exact⟨v',w',χ',hrun,f1,f2⟩
section
variable {P:Program} {w0:World} {χ0:Col} {T0:Ctx} {s:St} {a:Act} {w:World} {G:Gh} {o:Oper} {Q:Exit → Act → World → Prop}
theorem own_src {k z:Nat} {χ:Col} {e:TypeId} {w:World} {v:Value} {l:List (List PV)} (hown:Own (α:=CZ z) k χ e w v l) (hz:∀ x ∈ l,x.length = z):Src χ w z v l:=by
 obtain⟨⟨xs,ho,hrd⟩,hcol⟩:=hown
 rcases ho.2 with⟨hv,hn⟩ | ⟨g,cap,cur,off,hv,hb,hgg,hc,hm,hr⟩
 ·have:l = []:=List.eq_nil_of_length_eq_zero hn
  subst this
  exact⟨none,0,[],hv,by simp,by simp,fun i x (hx:none = some x)=>(by cases hx),fun _=>rfl,by simp⟩
 ·refine⟨_,cap,xs,hv,ho.1,fun u hu=>?_,hrd,fun h=>(by cases h),fun ad had j u hu=>?_⟩
  ·obtain⟨j,hj⟩:=List.mem_iff_getElem?.1 hu
   have hjl:j < l.length * z:=by rw[← show xs.length = l.length * z from ho.1]; exact (List.getElem?_eq_some_iff.1 hj).1
   have hzp:0 < z:=by
    rcases Nat.eq_zero_or_pos z with h | h
    ·subst h; simp at hjl
    ·exact h
   have hi:j / z < l.length:=(Nat.div_lt_iff_lt_mul hzp).2 hjl
   have hone:=GoRep.one (hrd (j / z) _ (List.getElem?_eq_getElem hi)) u
   refine hone ?_
   refine List.mem_of_getElem? (i:=j % z) ?_
   show (chunk z (j / z) xs)[j % z]? = some u
   unfold chunk
   rw[List.getElem?_take,if_pos (Nat.mod_lt _ hzp),List.getElem?_drop,Nat.mul_comm,Nat.div_add_mod]
   exact hj
  ·injection had with had
   subst had
   have h9:=ho.cells (g:=g) (by rw[hv]; rfl) j u hu
   rw[show hOff v = off by rw[hv]; rfl] at h9
   exact h9
theorem rd_src {F:Nat → Prop} {z:Nat} {v:Value} {m:List (List PV)} {χ:Col} (h:Rd F w (.sl m) v) (hF:∀ b,F b → χ b = 0) (hz:∀ x ∈ m,x.length = z):Src χ w z v m:=by
 obtain⟨B,c,z',hv,hs,hz'⟩:=h.to_sl
 have hs:=hs.mono (F':=In χ 0) fun b hb _=>hF b hb
 obtain⟨news,n1,n2,n3,n4⟩:=hs.row
 by_cases h0:m = []
 ·subst h0
  have hn:news = []:=List.eq_nil_of_length_eq_zero (by simpa using n1)
  subst hn
  exact⟨B,c,[],hv,by simp,by simp,fun i x (hx:none = some x)=>(by cases hx),fun _=>rfl,by simp⟩
 ·obtain⟨y,hy⟩:∃ y,m[0]? = some y:=⟨_,List.getElem?_eq_getElem (List.length_pos_iff.2 h0)⟩
  have hzz:z' = z:=by rw[← hz' 0 y hy]; exact hz y (List.mem_of_getElem? hy)
  subst hzz
  obtain⟨b,off,hB,hcells⟩:=n4 (List.length_pos_iff.2 h0)
  refine⟨B,c,news,hv,n1,n2,n3,fun hB'=>(by rw[hB] at hB'; cases hB'),fun ad had j u hu=>?_⟩
  rw[hB] at had
  injection had with had
  subst had
  rw[add_none]; exact hcells j u hu
theorem asList_src {A:Arg} {x:Operand} {m:List (List PV)} {z:Nat} (r:RepG w0 χ0 T0 s a w G) (h:s.arg x = A) (hl:asList A = some m) (hz:∀ x ∈ m,x.length = z):Src G.χ w z (a.eval x) m:=by
 have hx:=r.ev x
 unfold asList at hl
 split at hl
 ·rw[(St.arg_eq h).1] at hx
  simp only[Option.some.injEq] at hl
  subst hl
  obtain⟨B,c,z',hv,hs,hz'⟩:=(rd_p hx).to_sl
  obtain⟨news,n1,n2,n3,n4⟩:=hs.row
  rename_i l _
  by_cases h0:l = []
  ·subst h0
   have hn:news = []:=List.eq_nil_of_length_eq_zero (by simpa using n1)
   subst hn
   exact⟨B,c,[],hv,by simp,by simp,fun i x (hx:none = some x)=>(by cases hx),fun _=>rfl,by simp⟩
  ·obtain⟨y,hy⟩:∃ y,l[0]? = some y:=⟨_,List.getElem?_eq_getElem (List.length_pos_iff.2 h0)⟩
   have hzz:z' = z:=by rw[← hz' 0 y hy]; exact hz y (List.mem_of_getElem? hy)
   subst hzz
   obtain⟨b,off,hB,hcells⟩:=n4 (List.length_pos_iff.2 h0)
   refine⟨B,c,news,hv,n1,n2,n3,fun hB'=>(by rw[hB] at hB'; cases hB'),fun ad had j u hu=>?_⟩
   rw[hB] at had
   injection had with had
   subst had
   rw[add_none]; exact hcells j u hu
 ·rw[(St.arg_eq h).1] at hx
  simp only[Option.some.injEq] at hl
  subst hl
  exact⟨none,0,[],rd_nil hx,by simp,by simp,fun i x (hx:none = some x)=>(by cases hx),fun _=>rfl,by simp⟩
 ·rw[(St.arg_eq h).1] at hx
  simp only[Option.some.injEq] at hl
  subst hl
  exact rd_src (LRd.val hx).1 (fun _ h=>h) hz
 ·rename_i ob e z' l'
  obtain⟨h1,h2⟩:=St.arg_eq h
  rw[h1] at hx
  simp only[Option.some.injEq] at hl
  subst hl
  have hob:s.hp ob = some (.arr e z' l'):=by simpa [Slot.ids,Cmp.ids,Cmp.leaves,Leaf.ids] using h2
  have hval:a.eval x = G.hv ob:=LRd.val hx
  obtain⟨⟨⟨xs,ho,hrd⟩,hcol⟩,hbl⟩:=r.objs ob _ hob
  have hz':∀ x ∈ l',x.length = z':=fun x hx=>by
   obtain⟨i,hi⟩:=List.mem_iff_getElem?.1 hx
   have:=hrd i x hi
   exact this.2.1.trans this.1
  have key:∀ z'',(l' = [] ∨ z'' = z') → Src G.χ w z'' (G.hv ob) l':=by
   intro z'' hzz
   rcases ho.2 with⟨hv,hn⟩ | ⟨g,cap,cur,off,hv,hb,hgg,hc,hm,hr⟩
   ·have:l' = []:=List.eq_nil_of_length_eq_zero hn
    subst this
    exact⟨none,0,[],hv,by simp,by simp,fun i x (hx:none = some x)=>(by cases hx),fun _=>rfl,by simp⟩
   ·rcases hzz with h0 | rfl
    ·subst h0
     exact⟨_,cap,[],hv,by simp,by simp,fun i x (hx:none = some x)=>(by cases hx),fun _=>rfl,by simp⟩
    ·refine⟨_,cap,xs,hv,ho.1,fun u hu=>?_,hrd,fun h=>(by cases h),fun ad had j u hu=>?_⟩
     ·obtain⟨j,hj⟩:=List.mem_iff_getElem?.1 hu
      have hjl:j < l'.length * z'':=by rw[← show xs.length = l'.length * z'' from ho.1]; exact (List.getElem?_eq_some_iff.1 hj).1
      have hzp:0 < z'':=by
       rcases Nat.eq_zero_or_pos z'' with h | h
       ·subst h; simp at hjl
       ·exact h
      have hi:j / z'' < l'.length:=(Nat.div_lt_iff_lt_mul hzp).2 hjl
      have hone:=GoRep.one (hrd (j / z'') _ (List.getElem?_eq_getElem hi)) u
      refine hone ?_
      refine List.mem_of_getElem? (i:=j % z'') ?_
      show (chunk z'' (j / z'') xs)[j % z'']? = some u
      unfold chunk
      rw[List.getElem?_take,if_pos (Nat.mod_lt _ hzp),List.getElem?_drop,Nat.mul_comm,Nat.div_add_mod]
      exact hj
     ·injection had with had
      subst had
      have h9:=ho.cells (g:=g) (by rw[hv]; rfl) j u hu
      rw[show hOff (G.hv ob) = off by rw[hv]; rfl] at h9
      exact h9
  rw[hval]
  refine key z ?_
  by_cases h0:l' = []
  ·exact .inl h0
  ·obtain⟨y,hy⟩:=List.exists_mem_of_ne_nil l' h0
   exact .inr ((hz y hy).symm.trans (hz' y hy))
 ·rename_i ob a' b' z2 e z' l'
  obtain⟨h1,h2⟩:=St.arg_eq h
  rw[h1] at hx
  split at hl
  ·rename_i hzb
   obtain⟨rfl,hbl⟩:=hzb
   simp only[Option.some.injEq] at hl
   subst hl
   have hob:s.hp ob = some (.arr e z2 l'):=by simpa [Slot.ids,Cmp.ids,Cmp.leaves,Leaf.ids] using h2
   obtain⟨A,m,c,hv0,hab,hbm,hmc,hval⟩:=LRd.val hx
   obtain⟨hown,_⟩:=r.objs ob _ hob
   have hrows:∀ x ∈ l',x.length = z2:=fun x hx=>by
    obtain⟨⟨xs,_,hrd⟩,_⟩:=hown
    obtain⟨i,hi⟩:=List.mem_iff_getElem?.1 hx
    have:=hrd i x hi
    exact this.2.1.trans this.1
   obtain⟨B,c',hv,hc,hm⟩:=hown.form
   rw[hv0] at hv
   injection hv with hA hm' hc'
   subst hA hm' hc'
   have hwhole:=own_src hown hrows
   rw[hv0] at hwhole
   rw[hval]
   have hsub:=hwhole.sub hab (by omega) hmc
   by_cases h0:(l'.take b').drop a' = []
   ·rw[h0]
    obtain⟨A2,c2,n2,q1,q2,q3,q4,q5,q6⟩:=hsub
    rw[h0] at q1
    exact⟨A2,c2,[],q1,by simp,by simp,fun i x (hx:none = some x)=>(by cases hx),fun _=>rfl,by simp⟩
   ·obtain⟨y,hy⟩:=List.exists_mem_of_ne_nil _ h0
    have:z = z2:=(hz y hy).symm.trans (hrows y (List.mem_of_mem_take (List.mem_of_mem_drop hy)))
    rw[this]; exact hsub
  ·cases hl
 ·cases hl
theorem does_app {t el:TypeId} {z ob d:Nat} {l m:List (List PV)} {x y:Operand} {c:Prop} {c':Call} {wr:List (Nat × HObj)} (r:RepG w0 χ0 T0 s a w G) (hd:∀ k,o.dst = some k → k < a.tmps.size) (ho:o.op = .call c') (hc':c' = { callee := .builtin .append,args := #[x,y],argTypes := #[t,t] })
  (hel:tyElem P t = some (el,z)) (hf0:s.hp d = none ∧ d < 1000000) (hown:Own (α:=CZ z) (ob + 2) G.χ el w (a.eval x) l) (hsrc:Src G.χ w z (a.eval y) m) (hlen:l.length + m.length ≤ 2147483647)
  (hwr:(wr = [(ob,.gone),(d,.arr el z (l ++ m))]) ∨ (wr = [(d,.arr el z (l ++ m))] ∧ s.hp ob = none)) :
  o.wp P a w (After w0 χ0 T0 a.tmps.size (s.app o.dst ⟨c,.x (.own d),wr⟩)) Q:=by
 have hf:=hf0.1
 have hlt:=hf0.2
 obtain⟨v',w',χ',hrun,h1,h2,h3,h4⟩:=run_appS (kd:=d + 2) (ty:=o.type) (tyElem_of hel) hown hsrc (by omega) (by omega) hlen r.norm
 subst hc'
 have hrun':(execOp a.eval o).run P w = .ok (.value v') w':=by
  simp only[execOp,ho,resolve,invoke,builtin,Sem.run_bind,Sem.run_pure,Result.andThen_ok,List.map_toArray,List.map_cons,List.map_nil,hrun]
 unfold Oper.wp
 rw[hrun']
 let bd:=(v'.ownBlock).getD 0
 let G':Gh:={ χ:=χ',bl:=Lad.upd G.bl d bd,hv:=Lad.upd G.hv d v' }
 have hext:Ext G s.hp w G' (updL s.hp wr) w':=by
  refine⟨h4,fun i hi=>upd_ne _ _ (fun e=>hi.elim (fun hi=>hi (by rw[e]; exact hf)) fun hi=>by omega),fun i hi=>upd_ne _ _ (fun e=>hi.elim (fun hi=>hi (by rw[e]; exact hf)) fun hi=>by omega),fun i hi=>?_⟩
  have hid:i ≠ d:=fun e=>hi (by rw[e]; exact hf)
  rcases hwr with rfl | ⟨rfl,_⟩
  ·show Lad.upd (Lad.upd s.hp ob _) d _ i ≠ none
   rw[upd_ne _ _ hid]
   by_cases hio:i = ob
   ·rw[hio,upd_same]; simp
   ·rw[upd_ne _ _ hio]; exact hi
  ·show Lad.upd s.hp d _ i ≠ none
   rw[upd_ne _ _ hid]; exact hi
 have hnew:(updL s.hp wr) d = some (.arr el z (l ++ m)):=by
  rcases hwr with rfl | ⟨rfl,_⟩ <;> exact upd_same _ _ _
 have hone:v'.oneCell' = true:=by
  obtain⟨B,cc,hv,_⟩:=h1.form
  rw[hv]; rfl
 refine⟨Act.put_size _ _ _,G',r.upd hd hext (T:=[ob + 2]) h2 (by simp) h3 (fun i h hi=>?_) ⟨hone,fun j hj=>?_,?_⟩⟩
 ·by_cases hid:i = d
  ·subst hid
   rw[show (⟨c,Slot.x (Leaf.own i),wr⟩:Eff).wr = wr from rfl,hnew] at hi
   injection hi with hi
   subst hi
   refine .inr ⟨?_,fun b hb=>?_⟩
   ·show Own (α:=CZ z) (i + 2) χ' el w' (Lad.upd G.hv i v' i) (l ++ m)
    rw[upd_same]; exact h1
   ·change (Lad.upd G.hv i v' i).ownBlock = some b at hb
    rw[upd_same] at hb
    show b = Lad.upd G.bl i bd i
    rw[upd_same]
    show b = (v'.ownBlock).getD 0
    rw[hb]; rfl
  ·rcases hwr with rfl | ⟨rfl,hob⟩
   ·change Lad.upd (Lad.upd s.hp ob _) d _ i = some h at hi
    rw[upd_ne _ _ hid] at hi
    by_cases hio:i = ob
    ·subst hio
     rw[upd_same] at hi
     injection hi with hi
     subst hi
     exact .inr trivial
    ·rw[upd_ne _ _ hio] at hi
     exact .inl ⟨hi,by simp; omega⟩
   ·change Lad.upd s.hp d _ i = some h at hi
    rw[upd_ne _ _ hid] at hi
    refine .inl ⟨hi,?_⟩
    have:i ≠ ob:=fun e=>by rw[e,hob] at hi; cases hi
    simp; omega
 ·simp [Leaf.ids] at hj
  subst hj
  rw[show (⟨c,Slot.x (Leaf.own j),wr⟩:Eff).wr = wr from rfl,hnew]; simp
 ·exact (upd_same G.hv d v').symm
theorem opAppend_ok {e:Eff} {t:TypeId} {x y:Operand} {c:Call} (r:RepG w0 χ0 T0 s a w G) (hd:∀ k,o.dst = some k → k < a.tmps.size) (ho:o.op = .call c) (hcc:c = { callee := .builtin .append,args := #[x,y],argTypes := #[t,t] })
  (h:opAppend P t o.dst (isFree s.hp o.dst) [s.arg x,s.arg y] = some e) (hc:e.cond):o.wp P a w (After w0 χ0 T0 a.tmps.size (s.app o.dst e)) Q:=by
 have hx:=r.ev x
 cases hdst:o.dst with
 | none=>unfold opAppend at h; split at h <;> (try split at h) <;> simp_all
 | some d =>
 rw[hdst] at h
 have hfr:isFree s.hp (some d) = true → s.hp d = none ∧ d < 1000000:=fun h=>by simpa [isFree] using h
 rw[← hdst]
 unfold opAppend at h
 split at h
 ·rename_i ob el z l y' heq
  simp only[List.cons.injEq,and_true] at heq
  obtain⟨h1,h2⟩:=St.arg_eq heq.1
  rw[h1] at hx
  have hob:s.hp ob = some (.arr el z l):=by simpa [Slot.ids,Cmp.ids,Cmp.leaves,Leaf.ids] using h2
  have hval:a.eval x = G.hv ob:=LRd.val hx
  split at h
  ·rename_i e' z' m d' hel hm hdd
   injection hdd with hdd
   subst hdd
   split at h
   ·rename_i hcond
    obtain⟨rfl,rfl,hfree⟩:=hcond
    simp only[Option.some.injEq] at h
    subst h
    obtain⟨c1,c2⟩:=hc
    exact does_app r hd ho hcc hel (hfr hfree) (by rw[hval]; exact (r.objs ob _ hob).1) (asList_src r heq.2 hm c2) c1 (.inl rfl)
   ·cases h
  ·cases h
 ·rename_i y' heq
  simp only[List.cons.injEq,and_true] at heq
  rw[(St.arg_eq heq.1).1] at hx
  split at h
  ·rename_i e' z' m d' hel hm hdd
   injection hdd with hdd
   subst hdd
   split at h
   ·rename_i hfree
    simp only[Option.some.injEq] at h
    subst h
    obtain⟨c1,c2⟩:=hc
    have:=does_app (l:=[]) (m:=m) (ob:=d) (c:=m.length ≤ 2147483647 ∧ ∀ x ∈ m,x.length = z') (Q:=Q) r hd ho hcc hel (hfr hfree) (by rw[rd_nil hx]; exact Own.nil _ _ _ _) (asList_src r heq.2 hm c2) (by simpa using c1) (.inr ⟨rfl,(hfr hfree).1⟩)
    exact this
   ·cases h
  ·cases h
 ·cases h
end
end Go.Lad
