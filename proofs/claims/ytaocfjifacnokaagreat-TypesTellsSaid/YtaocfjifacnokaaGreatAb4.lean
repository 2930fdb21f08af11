import Derived.Test.YtaocfjifacnokaaGreatAb3
namespace Go.Lad
set_option linter.unusedVariables false
set_option linter.unusedSimpArgs false
open Go.RowKit
section
variable {P:Program} {w0:World} {χ0:Col} {T0:Ctx} {s:St} {a:Act} {w:World} {G:Gh} {o:Oper} {Q:Exit → Act → World → Prop}
theorem sH {t:TypeId} {n:Nat} (h:fZ P t = some n):∃ i,P.info? t = some i ∧ i.size = n:=by
 unfold fZ at h
 split at h
 ·rw[Option.map_eq_some_iff] at h
  exact h
 ·cases h
theorem ub {t:TypeId} {n:Nat} (h:fZ P t = some n):P.underlying t ≠ none:=by
 unfold fZ at h
 split at h
 ·rename_i hc; intro h0; rw[h0] at hc; cases hc
 ·cases h
theorem BF {t:TypeId} (h:fJ P t = true):∃ d,P.underlying t = some d ∧ d.isRow = true:=by
 unfold fJ at h
 split at h
 ·exact⟨_,by assumption,rfl⟩
 ·exact⟨_,by assumption,rfl⟩
 ·cases h
theorem ic {t:TypeId} (hu:P.underlying t ≠ none):(isAgg t).run P w = .ok (fJ P t) w:=by
 unfold isAgg fJ
 cases h:P.underlying t with
 | none=>exact absurd h hu
 | some d =>
  rw[Sem.run_bind,run_underlying h w]
  cases d <;> rfl
def tr (w:World) (b off:Nat) (vs:List Value):Prop := ∀ j v,vs[j]? = some v → w.cell? ⟨b,off + j,none⟩ = some v
theorem Em {t:TypeId} {b off:Nat} {v:Value} (hu:P.underlying t ≠ none) (ha:fJ P t = false) (hc:w.cell? ⟨b,off,none⟩ = some v):(Instr.loadAt t (ptr b off)).run P w = .ok v w:=by
 simp [Instr.loadAt,Instr.sureAddr,ptr,loadVar,ic hu,ha,hc]
theorem En {t:TypeId} {n b off:Nat} {vs:List Value} (ha:fJ P t = true) (hn:fZ P t = some n) (hl:vs.length = n) (hc:tr w b off vs):(Instr.loadAt t (ptr b off)).run P w = .ok (.agg vs.toArray) w:=by
 obtain⟨d,hu,hd⟩:=BF ha
 obtain⟨i,hi,hs⟩:=sH hn
 exact run_loadAt_mid w b off t vs d hc hu hd (by rw[hl,hi,← hs]; rfl)
theorem dV.get {α β:Type} {R:α → β → Prop} {l:List α} {m:List β} (h:dV R l m) {i:Nat} {x:α} (hi:l[i]? = some x):∃ y,m[i]? = some y ∧ R x y:=by
 have hlt:i < m.length:=by rw[← h.1]; exact (List.getElem?_eq_some_iff.1 hi).1
 exact⟨_,List.getElem?_eq_getElem hlt,h.2 i x _ hi (List.getElem?_eq_getElem hlt)⟩
theorem dV.cut {α β:Type} {R:α → β → Prop} {l:List α} {m:List β} (h:dV R l m) (off n:Nat):dV R ((l.drop off).take n) ((m.drop off).take n):=by
 refine⟨by simp [h.1],fun i a b ha hb=>?_⟩
 rw[List.getElem?_take] at ha hb
 split at ha
 ·rename_i hi
  rw[if_pos hi,List.getElem?_drop] at hb
  rw[List.getElem?_drop] at ha
  exact h.2 _ a b ha hb
 ·cases ha
theorem pb {cs:List aJ} {vs:List Value} {off n:Nat} {t:TypeId} {c:Cmp} {b o2:Nat} (h:mV cs off n (fJ P t) = some c) (hcs:dV (LRd G s.hp w) cs vs) (hn:fZ P t = some n) (hu:P.underlying t ≠ none)
  (hc:tr w b o2 vs):∃ v,CRd G s.hp w c v ∧ (Instr.loadAt t (ptr b (o2 + off))).run P w = .ok v w:=by
 unfold mV at h
 split at h
 ·rename_i ha
  split at h
  ·rename_i hle
   simp only[Option.some.injEq] at h
   subst h
   refine⟨.agg ((vs.drop off).take n).toArray,⟨_,rfl,hcs.cut off n⟩,En ha hn (by have:=hcs.1; simp; omega) (fun j v hj=>?_)⟩
   rw[List.getElem?_take] at hj
   split at hj
   ·rw[List.getElem?_drop] at hj
    rw[Nat.add_assoc]; exact hc _ v hj
   ·cases hj
  ·cases h
 ·rename_i ha
  rw[Option.map_eq_some_iff] at h
  obtain⟨x,hx,rfl⟩:=h
  obtain⟨v,hv,hr⟩:=hcs.get hx
  exact⟨v,hr,Em hu (by simpa using ha) (hc off v hv)⟩
theorem FV {b off0:Nat} {cs:List PV} (h:∀ (j:Nat) (p:PV),cs[j]? = some p → ∃ u,w.cell? ⟨b,off0 + j,none⟩ = some u ∧ Rd (In G.χ 0) w p u) :
  ∃ vs:List Value,tr w b off0 vs ∧ dV (LRd G s.hp w) (cs.map aJ.p) vs:=by
 refine⟨(List.range cs.length).map fun j=>(w.cell? ⟨b,off0 + j,none⟩).getD undef,fun j v hj=>?_,by simp,fun i x v hx hv=>?_⟩
 ·rw[List.getElem?_map,Option.map_eq_some_iff] at hj
  obtain⟨j',hj',rfl⟩:=hj
  have hl:j < cs.length:=by have:=(List.getElem?_eq_some_iff.1 hj').1; simpa using this
  rw[List.getElem?_range hl] at hj'
  injection hj' with hj'
  subst hj'
  obtain⟨u,hu,_⟩:=h j _ (List.getElem?_eq_getElem hl)
  rw[hu]; rfl
 ·rw[List.getElem?_map,Option.map_eq_some_iff] at hx
  obtain⟨p,hp,rfl⟩:=hx
  have hl:=(List.getElem?_eq_some_iff.1 hp).1
  rw[List.getElem?_map,List.getElem?_range hl] at hv
  simp only[Option.map_some,Option.some.injEq] at hv
  subst hv
  obtain⟨u,hu,hr⟩:=h i p hp
  rw[hu]
  exact⟨hr.one,by simp [aJ.ids],hr⟩
theorem FW {n:Nat} (cs:List PV) (off:Nat) (h:off < cs.length):mV (cs.map aJ.p) off n false = some (.v (.p (cs.getD off (.bool false)))):=by
 simp [mV,List.getElem?_eq_getElem h]
theorem Own.block {α:Type} [aL α] {k:Nat} {χ:Col} {e:TypeId} {v:Value} {l:List α} (h:Own k χ e w v l) (hl:l ≠ []):∃ g c,v = .slice (some ⟨g,mq v,none⟩) l.length c ∧ v.ownBlock = some g ∧ g < w.heap.size:=by
 obtain⟨⟨xs,h1,h2⟩,h3⟩:=h
 rcases h1.2 with⟨rfl,hn⟩ | ⟨g,cap,cur,off,rfl,hb,hgg,hc,hm,hr⟩
 ·exact absurd (List.eq_nil_of_length_eq_zero hn) hl
 ·exact⟨g,cap,rfl,rfl,hgg.lt⟩
theorem wS {ob:Nat} {e:TypeId} {z:Nat} {l:List (List PV)} (h:HRd G s.hp w ob (.arr e z l)) {i:Nat} (hi:i < l.length) :
  ∃ vs:List Value,vs.length = z ∧ tr w (G.bl ob) (mq (G.hv ob) + i * z) vs ∧ dV (LRd G s.hp w) ((l.getD i []).map aJ.p) vs:=by
 obtain⟨ho,hb⟩:=h
 have hne:l ≠ []:=by intro h0; subst h0; simp at hi
 obtain⟨g,c,hv,hg,_⟩:=ho.block hne
 obtain⟨⟨xs,h1,h2⟩,h3⟩:=ho
 have hx:l[i]? = some (l.getD i []):=by simp [List.getD,List.getElem?_eq_getElem hi]
 obtain⟨hz,hrl,hrd⟩:=h2 i _ hx
 refine⟨chunk z i xs,hz,fun j u hj=>?_,by rw[List.length_map]; exact hrl,fun j x v hx hv'=>?_⟩
 ·obtain⟨hjz,hj'⟩:=rD hj
  rw[← hb g hg]
  have:=h1.cells hg _ u hj'
  rw[fQ,← Nat.add_assoc] at this
  exact this
 ·rw[List.getElem?_map,Option.map_eq_some_iff] at hx
  obtain⟨p,hp,rfl⟩:=hx
  have:=hrd j p v hp hv'
  exact⟨this.one,by simp [aJ.ids],this⟩
theorem Eo {e:Eff} {t:TypeId} {x:Operand} (r:cV w0 χ0 T0 s a w G) (hd:∀ k,o.dst = some k → k < a.tmps.size) (ho:o.op = .load t x) (h:jQ P t [s.arg x] = some e) (hc:e.cond) :
  o.wp P a w (bX w0 χ0 T0 a.tmps.size (s.app o.dst e)) Q:=by
 have hx:=r.ev x
 have hu:∀ {n},fZ P t = some n → P.underlying t ≠ none:=ub
 have fin:∀ (c:Cmp) (q:Prop) v,CRd G s.hp w c v → (Instr.loadAt t (a.eval x)).run P w = .ok v w → o.wp P a w (bX w0 χ0 T0 a.tmps.size (s.app o.dst ⟨q,.c c,[]⟩)) Q:=by
  intro c q v h1 h2
  exact cW r hd (by simp [execOp,ho,h2]) h1
 unfold jQ at h
 split at h
 ·rename_i ob off bt cs heq
  simp only[List.cons.injEq,and_true] at heq
  obtain⟨h1,h2⟩:=St.di heq
  rw[h1] at hx
  have hob:s.hp ob = some (.box bt cs):=by simpa [Slot.ids,Cmp.ids,Cmp.leaves,aJ.ids] using h2
  have hval:a.eval x = ptr (G.bl ob) off:=LRd.val hx
  obtain⟨vs,hb,_,hall⟩:=r.gn ob _ hob
  split at h
  ·rename_i n hn
   rw[Option.bind_eq_some_iff] at h
   obtain⟨c,hcut,h⟩:=h
   simp only[val,Option.some.injEq] at h
   subst h
   obtain⟨v,g1,g2⟩:=pb (b:=G.bl ob) (o2:=0) hcut hall hn (hu hn) (fun j v hj=>by rw[hb.cell]; simpa using hj)
   exact fin c _ v g1 (by rw[hval]; simpa using g2)
  ·cases h
 ·rename_i cs off _ heq
  simp only[List.cons.injEq,and_true] at heq
  rw[(St.di heq).1] at hx
  obtain⟨b,off0,hv,hb,hbl,hcells⟩:LVal G w (.ip cs off) (a.eval x):=by
   exact LRd.val hx
  obtain⟨vs,g1,g2⟩:=FV (s:=s) hcells
  split at h
  ·rename_i n hn
   split at h
   ·rename_i hagg
    simp only[dL,Option.some.injEq] at h
    subst h
    have hle:off + n ≤ cs.length:=hc
    have hcut:mV (cs.map aJ.p) off n (fJ P t) = some (.g (((cs.drop off).take n).map aJ.p)):=by
     unfold mV
     rw[if_pos hagg,if_pos (by simpa using hle),List.map_take,List.map_drop]
    obtain⟨v,k1,k2⟩:=pb hcut g2 hn (hu hn) g1
    exact fin _ _ v k1 (by rw[hv]; exact k2)
   ·rename_i hagg
    simp only[dL,Option.some.injEq] at h
    subst h
    have hle:off < cs.length:=hc
    have hcut:mV (cs.map aJ.p) off n (fJ P t) = some (.v (.p (cs.getD off (.bool false)))):=by
     unfold mV
     rw[if_neg hagg]
     simp [List.getElem?_eq_getElem hle]
    obtain⟨v,k1,k2⟩:=pb hcut g2 hn (hu hn) g1
    exact fin _ _ v k1 (by rw[hv]; exact k2)
  ·cases h
 ·rename_i ob i off z e' z' l heq
  simp only[List.cons.injEq,and_true] at heq
  obtain⟨h1,h2⟩:=St.di heq
  rw[h1] at hx
  have hob:s.hp ob = some (.arr e' z' l):=by simpa [Slot.ids,Cmp.ids,Cmp.leaves,aJ.ids] using h2
  have hval:a.eval x = ptr (G.bl ob) (mq (G.hv ob) + i * z + off):=by rw[Nat.add_assoc]; exact LRd.val hx
  split at h
  ·rename_i n hn
   split at h
   ·rename_i hzz
    subst hzz
    split at h
    ·rename_i hagg
     simp only[dL,Option.some.injEq] at h
     subst h
     obtain⟨hi,hle⟩:i < l.length ∧ off + n ≤ z:=hc
     obtain⟨vs,g0,g1,g2⟩:=wS (r.gn ob _ hob) hi
     have hcut:mV ((l.getD i []).map aJ.p) off n (fJ P t) = some (.g ((((l.getD i []).drop off).take n).map aJ.p)):=by
      unfold mV
      have:=g2.1
      rw[if_pos hagg,if_pos (by omega),List.map_take,List.map_drop]
     obtain⟨v,k1,k2⟩:=pb hcut g2 hn (hu hn) g1
     exact fin _ _ v k1 (by rw[hval]; exact k2)
    ·rename_i hagg
     simp only[dL,Option.some.injEq] at h
     subst h
     obtain⟨hi,hle⟩:i < l.length ∧ off < z:=hc
     obtain⟨vs,g0,g1,g2⟩:=wS (r.gn ob _ hob) hi
     have hcut:mV ((l.getD i []).map aJ.p) off n (fJ P t) = some (.v (.p ((l.getD i []).getD off (.bool false)))):=by
      have:=g2.1
      rw[List.length_map] at this
      rw[show fJ P t = false by simpa using hagg]
      exact FW _ _ (by omega)
     obtain⟨v,k1,k2⟩:=pb hcut g2 hn (hu hn) g1
     exact fin _ _ v k1 (by rw[hval]; exact k2)
   ·cases h
  ·cases h
 ·cases h
end
end Go.Lad
