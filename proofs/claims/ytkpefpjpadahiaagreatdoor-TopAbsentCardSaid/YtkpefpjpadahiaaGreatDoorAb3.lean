import Derived.Test.YtkpefpjpadahiaaGreatDoorAb2
namespace Go.Lad
set_option linter.unusedVariables false
set_option linter.unusedSimpArgs false
open Go.RowKit
def bG (w0:World) (χ0:Col) (T0:Ctx) (n:Nat) (s':St) (a':Act) (w':World):Prop:=a'.tmps.size=n/\∃ G',cI w0 χ0 T0 s' a' w' G'
section
variable {P:Program} {w0:World} {χ0:Col} {T0:Ctx} {s:St} {a:Act} {w:World} {G:Gh} {o:Oper} {Q:Exit->Act->World->Prop}
theorem cf {x:Slot} {v:Value} {c:Prop} (r:cI w0 χ0 T0 s a w G) (hd:∀ k,o.dst=some k->k<a.tmps.size)
  (hrun:(execOp a.eval o).run P w = .ok (.value v) w) (hx:SRd G s.hp w x v):o.wp P a w (bG w0 χ0 T0 a.tmps.size (s.app o.dst ⟨c,x,[]⟩)) Q:=by
 unfold Oper.wp;rw[hrun];have h:=r.val hd hx;refine⟨Act.ji _ _ _,G,?_⟩;have e:s.app o.dst ⟨c,x,[]⟩=s.put o.dst x:=by unfold St.app St.put; cases o.dst <;> rfl
 rw[e]; exact h
theorem xa {p:PV} {v:Value} (h:SRd G s.hp w (.p p) v):Rd (In G.χ 0) w p v:=by
 exact LRd.val h
theorem fU {k:IntKind} {n:Int} {v:Value} (h:SRd G s.hp w (.p (.int k n)) v):v = .int k n/\inK k n:=by
 cases xa h; exact⟨rfl,by assumption⟩
theorem kI {b:Bool} {v:Value} (h:SRd G s.hp w (.p (.bool b)) v):v = .bool b:=by
 cases xa h; rfl
theorem ka {t:ByteArray} {v:Value} (h:SRd G s.hp w (.p (.str t)) v):v = .string t/\t.size<=9223372036854775807:=by
 cases xa h; exact⟨rfl,by assumption⟩
theorem uN {u v:Value} (h:SRd G s.hp w (.p (.oth u)) v):v=u:=by
 cases xa h; rfl
theorem k9 {v:Value} (h:SRd G s.hp w (.x .nil) v):v = .slice none 0 0:=by
 exact LRd.val h
theorem Hj {p:PV} {v:Value} (h:Rd (In G.χ 0) w p v):SRd G s.hp w (.p p) v:=⟨h.one,by simp [aJ.ids],h⟩
theorem iZ (b:Bool):SRd G s.hp w (.p (.bool b)) (.bool b):=Hj .bool
theorem gZ {k:IntKind} {n:Int} (h:inK k n):SRd G s.hp w (.p (.int k n)) (.int k n):=Hj (.int h)
theorem yH {t:ByteArray} (h:t.size<=9223372036854775807):SRd G s.hp w (.p (.str t)) (.string t):=Hj (.str h)
theorem St.cE {x:Operand} {sl:Slot} {hs:List (Option df)} (h:s.arg x=(sl,hs)):s.ev x=sl/\sl.ids.map s.hp=hs:=by
 unfold St.arg at h;injection h with h1 h2
 subst h1;exact⟨rfl,h2⟩
theorem xv {e:Eff} {x:Operand} (r:cI w0 χ0 T0 s a w G) (hd:∀ k,o.dst=some k->k<a.tmps.size) (ho:o.op = .move x\/o.op = .assign x) (h:sA [s.ev x]=some e) :
  o.wp P a w (bG w0 χ0 T0 a.tmps.size (s.app o.dst e)) Q:=by
 simp only[sA,val,Option.some.injEq] at h;subst h;refine cf r hd ?_ (r.ev x);rcases ho with ho | ho <;> simp [execOp,ho]
theorem Fx {e:Eff} {x y z:Operand} (r:cI w0 χ0 T0 s a w G) (hd:∀ k,o.dst=some k->k<a.tmps.size) (ho:o.op = .pick x y z) (h:qE [s.ev x,s.ev y,s.ev z]=some e) :
  o.wp P a w (bG w0 χ0 T0 a.tmps.size (s.app o.dst e)) Q:=by
 have hx:=r.ev x;have hy:=r.ev y;have hz:=r.ev z;unfold qE at h;split at h
 ·rename_i c b1 b2 heq;simp only[List.cons.injEq,and_true] at heq;obtain⟨h1,h2,h3⟩:=heq;rw[h1] at hx;rw[h2] at hy;rw[h3] at hz;simp only[val,Option.some.injEq] at h;subst h;refine cf (v := .bool (bif c then b1 else b2)) r hd ?_ (iZ _);simp only[execOp,ho,kI hx,kI hy,kI hz,asBool,Sem.run_bind,Sem.run_pure,Result.andThen_ok];cases c <;> rfl
 ·rename_i c s1 s2 _ heq;simp only[List.cons.injEq,and_true] at heq;obtain⟨h1,h2,h3⟩:=heq;rw[h1] at hx;rw[h2] at hy;rw[h3] at hz;simp only[val,Option.some.injEq] at h;subst h;refine cf (v:=bif c then a.eval y else a.eval z) r hd ?_ (by cases c <;> assumption);simp only[execOp,ho,kI hx,asBool,Sem.run_bind,Sem.run_pure,Result.andThen_ok];cases c <;> rfl
 ·cases h
theorem Fy (n:Int):inK .u64 (IntKind.u64.wrap n):=by
 simp only[inK,IntKind.wrap,IntKind.min,IntKind.max,IntKind.signed,IntKind.bits]; simp <;> omega
theorem Kk {e:Eff} {u:UnOp} {t:TypeId} {x:Operand} (r:cI w0 χ0 T0 s a w G) (hd:∀ k,o.dst=some k->k<a.tmps.size) (ho:o.op = .unOp u t x) (h:Hi u [s.ev x]=some e) (hc:e.cond) :
  o.wp P a w (bG w0 χ0 T0 a.tmps.size (s.app o.dst e)) Q:=by
 have hx:=r.ev x;unfold Hi at h;split at h
 ·rename_i b heq;simp only[List.cons.injEq,and_true] at heq;rw[heq] at hx;split at h
  ·simp only[val,Option.some.injEq] at h;subst h;refine cf r hd ?_ (iZ _);simp [execOp,ho,kI hx,Op.unary]
  ·cases h
 ·rename_i b heq;simp only[List.cons.injEq,and_true] at heq;rw[heq] at hx;split at h
  ·simp only[dS,Option.some.injEq] at h;subst h;refine cf r hd ?_ (gZ hc);have h2:IntKind.i64.wrap (0-b) = -b:=by
    have:=hc;simp only[inK,IntKind.min,IntKind.max,IntKind.signed,IntKind.bits] at this;rw[IntKind.wrap_i64];simp at this;omega
   simp [execOp,ho,(fU hx).1,Op.unary,Op.intArith] at h2 ⊢;exact h2
  ·cases h
 ·rename_i b heq;simp only[List.cons.injEq,and_true] at heq;rw[heq] at hx;split at h
  ·simp only[val,Option.some.injEq] at h;subst h;refine cf r hd ?_ (gZ (Fy _));simp [execOp,ho,(fU hx).1,Op.unary,Op.intArith]
  ·cases h
 ·cases h
theorem uj {n:Int} (h:inK .i64 n):IntKind.i64.wrap n=n:=by
 simp [inK,IntKind.min,IntKind.max,IntKind.signed,IntKind.bits] at h;rw[IntKind.wrap_i64]; omega
theorem kg (k:IntKind) (n:Int):inK k (k.wrap n):=by
 cases k <;> simp only[inK,IntKind.wrap,IntKind.min,IntKind.max,IntKind.signed,IntKind.bits] <;> simp <;> (try split) <;> omega
theorem Aj {k:IntKind} {n:Int} (h:inK k n):k.wrap n=n:=by
 cases k <;> simp [inK,IntKind.min,IntKind.max,IntKind.signed,IntKind.bits] at h <;> simp [IntKind.wrap,IntKind.signed,IntKind.bits] <;> (try split) <;> omega
theorem Fz {e:Eff} {k:IntKind} {op:BinOp} {m n:Int} {ty:TypeId} (h:kE op k m n=some e) (hc:e.cond) :
  ∃ v,e.wr=[]/\SRd G s.hp w e.res v/\(binOp op ty (.int k m) (.int k n)).run P w = .ok v w:=by
 unfold kE at h;split at h <;> (try split at h) <;> simp only[val,dS,Option.some.injEq,reduceCtorEq] at h <;> (try subst h)
 ·subst_vars
  exact⟨_,rfl,gZ hc,by simp [binOp,Op.intArith,uj hc]⟩
 ·exact⟨_,rfl,gZ (kg _ _),by simp [binOp,Op.intArith]⟩
 ·subst_vars
  exact⟨_,rfl,gZ hc,by simp [binOp,Op.intArith,uj hc]⟩
 ·exact⟨_,rfl,gZ (kg _ _),by simp [binOp,Op.intArith]⟩
 ·subst_vars
  exact⟨_,rfl,gZ hc,by simp [binOp,Op.intArith,uj hc]⟩
 ·exact⟨_,rfl,gZ (kg _ _),by simp [binOp,Op.intArith]⟩
 ·exact⟨_,rfl,gZ hc.2,by simp [binOp,Op.intDiv,hc.1,Aj hc.2]⟩
 ·exact⟨_,rfl,gZ hc.2,by simp [binOp,Op.intDiv,hc.1]⟩
 ·exact⟨_,rfl,iZ _,by simp [binOp,Op.intCmp]; rfl⟩
 ·exact⟨_,rfl,iZ _,by simp [binOp,Op.intCmp]; rfl⟩
 ·exact⟨_,rfl,iZ _,by simp [binOp,Op.intCmp]⟩
 ·exact⟨_,rfl,iZ _,by simp [binOp,Op.intCmp]⟩
 ·exact⟨_,rfl,iZ _,by simp [binOp,Op.intCmp]⟩
 ·exact⟨_,rfl,iZ _,by simp [binOp,Op.intCmp]⟩
theorem FA {e:Eff} {op:BinOp} {m n:ByteArray} {ty:TypeId} (h:k8 op m n=some e) (hc:e.cond) :
  ∃ v,e.wr=[]/\SRd G s.hp w e.res v/\(binOp op ty (.string m) (.string n)).run P w = .ok v w:=by
 have hb:∀ x y:ByteArray,(x.toList == y.toList)=decide (x=y):=fun x y=>by rw[← beq_toListBytes,bytes_beq]
 unfold k8 at h;split at h <;> simp only[val,dS,Option.some.injEq,reduceCtorEq] at h <;> (try subst h)
 ·refine⟨.string (m++n),rfl,yH (by simpa using hc),?_⟩;have:¬ ((m.size+n.size:Nat):Int) > IntKind.i64.max:=by
   have:m.size+n.size<=9223372036854775807:=hc;simp [IntKind.max,IntKind.signed,IntKind.bits]; omega
  simp only[binOp,Op.stringOp];rw[if_neg this]; rfl
 all_goals exact⟨_,rfl,iZ _,by simp [binOp,Op.stringOp,hb]⟩
theorem Kl {t:TypeId} (hu:P.underlying t=some .bool) (x y:Bool):(Op.equal t (.bool x) (.bool y)).run P w = .ok (x == y) w:=by
 have key:∀ n,(Op.equalIn (n+1) t (.bool x) (.bool y)).run P w = .ok (x == y) w:=by
  intro n;simp only[Op.equalIn,Sem.run_bind,run_underlying hu,Result.andThen_ok];rfl
 exact key 9999
theorem uO {t el:TypeId} (hu:P.underlying t=some (.slice el)) (A:Option Addr) (n c:Nat):(Op.equal t (.slice A n c) (.slice none 0 0)).run P w = .ok A.isNone w:=by
 have key:∀ m,(Op.equalIn (m+1) t (.slice A n c) (.slice none 0 0)).run P w = .ok A.isNone w:=by
  intro m;cases A with
  | none=>simp only[Op.equalIn,Sem.run_bind,run_underlying hu,Result.andThen_ok]; rfl
  | some a=>simp only[Op.equalIn,Sem.run_bind,run_underlying hu,Result.andThen_ok]; rfl
 exact key 9999
theorem Hk {t el:TypeId} (hu:P.underlying t=some (.pointer el)) (A:Option Addr):(Op.equal t (.pointer A) (.pointer none)).run P w = .ok A.isNone w:=by
 have key:∀ m,(Op.equalIn (m+1) t (.pointer A) (.pointer none)).run P w = .ok A.isNone w:=by
  intro m;cases A with
  | none=>simp only[Op.equalIn,Sem.run_bind,run_underlying hu,Result.andThen_ok]; rfl
  | some a=>simp only[Op.equalIn,Sem.run_bind,run_underlying hu,Result.andThen_ok]; rfl
 exact key 9999
theorem Ak {t:TypeId} {ms:Array (String×TypeId)} (hu:P.underlying t=some (.interface ms)):(Op.equal t .nilIface .nilIface).run P w = .ok true w:=by
 have key:∀ m,(Op.equalIn (m+1) t .nilIface .nilIface).run P w = .ok true w:=by
  intro m;simp only[Op.equalIn,Sem.run_bind,run_underlying hu,Result.andThen_ok]; rfl
 exact key 9999
theorem Hl {e:Eff} {b:BinOp} {t t':TypeId} {x y:Operand} (r:cI w0 χ0 T0 s a w G) (hd:∀ k,o.dst=some k->k<a.tmps.size) (ho:o.op = .binOp b t x y t') (h:kY P b t [s.ev x,s.ev y]=some e) (hc:e.cond) :
  o.wp P a w (bG w0 χ0 T0 a.tmps.size (s.app o.dst e)) Q:=by
 have hx:=r.ev x;have hy:=r.ev y;unfold kY at h;have fin:∀ v,e.wr=[]->SRd G s.hp w e.res v->(eqGuard b t x y (a.eval x) (a.eval y)).run P w = .ok () w->(binOp b t (a.eval x) (a.eval y)).run P w = .ok v w->o.wp P a w (bG w0 χ0 T0 a.tmps.size (s.app o.dst e)) Q:=by
  intro v h1 h2 h3 h4;obtain⟨c,x',wr⟩:=e;subst h1;exact cf r hd (by simp [execOp,ho,h3,h4]) h2
 split at h
 ·rename_i k m k' n heq;simp only[List.cons.injEq,and_true] at heq;obtain⟨h1,h2⟩:=heq;rw[h1] at hx;rw[h2] at hy;split at h
  ·subst_vars
   obtain⟨v,g1,g2,g3⟩:=Fz (P:=P) (G:=G) (s:=s) (w:=w) (ty:=t) h hc;refine fin v g1 g2 ?_ ?_
   ·rw[(fU hx).1,(fU hy).1]; cases b <;> rfl
   ·rw[(fU hx).1,(fU hy).1]; exact g3
  ·cases h
 ·rename_i m n heq;simp only[List.cons.injEq,and_true] at heq;obtain⟨h1,h2⟩:=heq;rw[h1] at hx;rw[h2] at hy;obtain⟨v,g1,g2,g3⟩:=FA (P:=P) (G:=G) (s:=s) (w:=w) (ty:=t) h hc;refine fin v g1 g2 ?_ ?_
  ·rw[(ka hx).1,(ka hy).1]; cases b <;> rfl
  ·rw[(ka hx).1,(ka hy).1]; exact g3
 ·rename_i m n heq;simp only[List.cons.injEq,and_true] at heq;obtain⟨h1,h2⟩:=heq;rw[h1] at hx;rw[h2] at hy;split at h <;> simp only[val,Option.some.injEq,reduceCtorEq] at h
  all_goals
   rename_i hu;subst h;refine fin _ rfl (iZ _) ?_ ?_
   ·rw[kI hx,kI hy]; rfl
   ·rw[kI hx,kI hy];simp only[binOp,Sem.run_bind,Kl hu,Result.andThen_ok,Sem.run_pure]
 ·rename_i l heq;simp only[List.cons.injEq,and_true] at heq;obtain⟨h1,h2⟩:=heq;rw[h1] at hx;rw[h2] at hy;obtain⟨A,c,z,hv,hs,_⟩:=(xa hx).tA;have hnil:A.isNone=true->l=[]:=fun hA=>by
   have hA:A=none:=by simpa using hA
   have:=hs.nil hA;have:=hs.cap;exact List.eq_nil_of_length_eq_zero (by omega)
  split at h <;> simp only[val,Option.some.injEq,reduceCtorEq] at h
  ·rename_i hu;subst h;refine fin (.bool A.isNone) rfl ⟨rfl,by simp [aJ.ids],A.isNone,rfl,hnil⟩ (by rw[hv,k9 hy]; rfl) ?_;rw[hv,k9 hy];simp only[binOp,Sem.run_bind,uO hu,Result.andThen_ok,Sem.run_pure]
  ·rename_i hu;subst h;refine fin (.bool (!A.isNone)) rfl ⟨rfl,by simp [aJ.ids],!A.isNone,rfl,fun h=>hnil (by cases A <;> simp_all)⟩ (by rw[hv,k9 hy]; rfl) ?_;rw[hv,k9 hy];simp only[binOp,Sem.run_bind,uO hu,Result.andThen_ok,Sem.run_pure]
 ·rename_i heq;simp only[List.cons.injEq,and_true] at heq;obtain⟨h1,h2⟩:=heq;rw[h1] at hx;rw[h2] at hy;split at h <;> simp only[val,Option.some.injEq,reduceCtorEq] at h
  all_goals
   rename_i hu;subst h;refine fin _ rfl (iZ _) (by rw[k9 hx,k9 hy]; rfl) ?_;rw[k9 hx,k9 hy];simp only[binOp,Sem.run_bind,uO hu,Result.andThen_ok,Sem.run_pure];rfl
 ·rename_i ob off heq;simp only[List.cons.injEq,and_true] at heq;obtain⟨h1,h2⟩:=heq;rw[h1] at hx;rw[h2] at hy;have hv:a.eval x = .pointer (some ⟨G.bl ob,off,none⟩):=LRd.val hx;have hz:a.eval y = .pointer none:=uN hy;split at h <;> simp only[val,Option.some.injEq,reduceCtorEq] at h
  all_goals
   rename_i hu;subst h;refine fin _ rfl (iZ _) (by rw[hv,hz]; rfl) ?_;rw[hv,hz];simp only[binOp,Sem.run_bind,Hk hu,Result.andThen_ok,Sem.run_pure];rfl
 ·rename_i heq;simp only[List.cons.injEq,and_true] at heq;obtain⟨h1,h2⟩:=heq;rw[h1] at hx;rw[h2] at hy;have hv:a.eval x = .pointer none:=uN hx;have hz:a.eval y = .pointer none:=uN hy;split at h <;> simp only[val,Option.some.injEq,reduceCtorEq] at h
  all_goals
   rename_i hu;subst h;refine fin _ rfl (iZ _) (by rw[hv,hz]; rfl) ?_;rw[hv,hz];simp only[binOp,Sem.run_bind,Hk hu,Result.andThen_ok,Sem.run_pure];rfl
 ·cases h
theorem yI {e:Eff} {i:Nat} {x:Operand} (r:cI w0 χ0 T0 s a w G) (hd:∀ k,o.dst=some k->k<a.tmps.size) (ho:o.op = .extract x i) (h:ml i [s.ev x]=some e) :
  o.wp P a w (bG w0 χ0 T0 a.tmps.size (s.app o.dst e)) Q:=by
 have hx:=r.ev x;unfold ml at h;split at h
 ·rename_i l heq;simp only[List.cons.injEq,and_true] at heq;rw[heq] at hx;obtain⟨vs,hv,h1,h2⟩:=hx;split at h
  ·rename_i c hc;simp only[val,Option.some.injEq] at h;subst h;have hi:i<vs.length:=by rw[← h1]; exact (List.getElem?_eq_some_iff.1 hc).1
   refine cf (v:=vs[i]) r hd ?_ (h2 i c _ hc (List.getElem?_eq_getElem hi));simp [execOp,ho,hv,Instr.extract,hi]
  ·cases h
 ·cases h
end
end Go.Lad
