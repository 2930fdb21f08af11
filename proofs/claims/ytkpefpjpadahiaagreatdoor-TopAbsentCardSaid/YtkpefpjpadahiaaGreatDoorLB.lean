import Derived.Test.YtkpefpjpadahiaaGreatDoorEL
import Derived.Test.YtkpefpjpadahiaaGreatDoorSh
import Derived.Lib.AtoiErrMem
import Derived.Test.YtkpefpjpadahiaaGreatDoorProg
import Derived.KernelRfl
import Derived.Tactics
import Derived.Tactics2
import Derived.WalkKit
import Derived.RegionTactic
import Derived.Lib.Builder
import Derived.Lib.FrozenHead
import Derived.Shelf.Strings.Builder1
import Derived.RegionCalls
import Derived.Defers
import Derived.Laws.Pointers
import Derived.Laws.LoneSync
import Derived.ChangeAlike
import Derived.Laws.Tables
import Derived.Below
import Derived.Lib.SliceRun
import Derived.Deep.LoopGhost
import Derived.Laws.IdiomStrings
import Derived.Lib.SlBuf
import Derived.Shelf.Spec.SlicesInsert
import Derived.Lib.OthersKept
import Derived.Lib.TrimU
import Derived.Laws.RangeString
set_option linter.unusedVariables false
set_option linter.unusedSimpArgs false
set_option linter.unusedSectionVars false
namespace Go.Lad
open Go.RowKit Go.Proofs
theorem qh {w w':World} {G:Gh} {p:PV} {u:Value} (hnorm:Norm G.χ w) (bel:Below w.heap.size w w') (hr:Rd (In G.χ 0) w' p u) :
  ∃ (G':Gh) (v:Value) (us:List Value),Ending.returned u = .returned v/\(Rz.one (.v (.p p))).val v us/\w'.os=w.os/\w'.tape=w.tape/\w'.output=w.output/\w.heap.size<=w'.heap.size /\
   (∀ b,b<w.heap.size->G.χ b<=1->w'.heap[b]?=w.heap[b]?/\G'.χ b=G.χ b)/\(∀ b,2<=G'.χ b->2<=G.χ b\/w.heap.size<=b)/\(∀ o,1000000<=o->G'.bl o=G.bl o/\G'.hv o=G.hv o)/\Norm G'.χ w' /\
   eu (CRd G' (hpL []) w') (Rz.one (.v (.p p))).eH us/\(∀ o h,hpL [] o=some h->HRd G' (hpL []) w' o h):=by
 refine⟨G,_,[_],rfl,rfl,bel.os,bel.tape,bel.output,bel.size,fun b hb _=>⟨bel.block b hb,rfl⟩,fun b hb=>.inl hb,fun _ _=>⟨rfl,rfl⟩,fun b hb=>hnorm b (Nat.le_trans bel.size hb),⟨rfl,fun i x v hx hv=>?_⟩,(fun o h ho=>by cases ho)⟩;cases i with
 | succ i=>simp [Rz.eH] at hx
 | zero =>
  simp [Rz.eH] at hx hv;subst hx hv;exact⟨hr.one,by simp [aJ.ids],hr⟩
theorem Mp {G:Gh} {hp:Hp} {w:World} {p:PV} {vs:List Value} (h:eu (SRd G hp w) [.c (.v (.p p))] vs):∃ v,vs=[v]/\Rd (In G.χ 0) w p v:=by
 have:=h.1;match vs,this,h with
 | [a],_,h=>exact⟨a,rfl,(h.2 0 _ _ rfl rfl:SRd G _ w _ a).val⟩
theorem PY {G:Gh} {hp:Hp} {w:World} {p q:PV} {vs:List Value} (h:eu (SRd G hp w) [.c (.v (.p p)),.c (.v (.p q))] vs):∃ v u,vs=[v,u]/\Rd (In G.χ 0) w p v/\Rd (In G.χ 0) w q u:=by
 have:=h.1;match vs,this,h with
 | [a,b],_,h=>exact⟨a,b,rfl,(h.2 0 _ _ rfl rfl:SRd G _ w _ a).val,(h.2 1 _ _ rfl rfl:SRd G _ w _ b).val⟩
theorem zW {F:Nat->Prop} {w:World} {s:Bs} {v:Value} (h:Rd F w (.str (mkS s)) v):v = .string (mkS s)/\s.length<=9223372036854775807:=by
 cases h with | str h=>exact⟨rfl,by rwa [eI] at h⟩
theorem zX {F:Nat->Prop} {w:World} {k:IntKind} {n:Int} {v:Value} (h:Rd F w (.int k n) v):v = .int k n/\inK k n:=by
 cases h with | int h=>exact⟨rfl,h⟩
theorem Mq (c:UInt8) (l:Bs):∀ i:Nat,BG l c.toNat i=(if Lib.indexByte l c = -1 then -1 else Lib.indexByte l c+i)/\(-1<=Lib.indexByte l c/\Lib.indexByte l c<=l.length):=by
 induction l with
 | nil=>intro i; exact⟨rfl,Int.le_refl (-1),(by decide:(-1:Int)<=0)⟩
 | cons b l ih =>
  intro i;unfold BG Lib.indexByte;obtain⟨h1,h2,h3⟩:=ih (i+1);by_cases hb:b=c
  ·subst hb;have e1:Nat.beq b.toNat b.toNat=true:=Nat.beq_refl _;rw[e1];simp only[cond_true,beq_self_eq_true,if_true];refine⟨by rw[if_neg (by decide)]; omega,by decide,by simp; omega⟩
  ·have e1:Nat.beq b.toNat c.toNat=false:=by
    rw[Bool.eq_false_iff];intro h;exact hb (UInt8.toNat_inj.1 (Nat.eq_of_beq_eq_true h))
   have e2:(b == c)=false:=by simpa using hb
   rw[e1,e2];simp only[cond_false,Bool.false_eq_true,if_false,List.length_cons];by_cases hm:Lib.indexByte l c = -1
   ·have e3:(Lib.indexByte l c == -1)=true:=beq_iff_eq.2 hm;rw[h1,if_pos hm,if_pos e3,if_pos rfl];exact⟨rfl,by omega,by omega⟩
   ·have e3:¬ (Lib.indexByte l c == -1)=true:=fun h=>hm (beq_iff_eq.1 h);rw[h1,if_neg hm,if_neg e3,if_neg (by omega)];exact⟨by push_cast; omega,by omega,by push_cast; omega⟩
theorem xp:au Tryz.prog (rV 173):=by
 refine⟨by kernel_rfl,fun x r hr=>?_⟩;obtain⟨l,n⟩:=x;obtain⟨l,rfl⟩:∃ m:Bs,m=l:=⟨l,rfl⟩;obtain⟨n,rfl⟩:∃ m:Int,m=n:=⟨n,rfl⟩;obtain⟨r,rfl⟩:∃ m:Int,m=r:=⟨r,rfl⟩;have hr:some (BG l n.toNat 0)=some r:=hr;injection hr with hr
 show gP Tryz.prog 173 ⟨[.c (.v (.p (.str (mkS l)))),.c (.v (.p (.int .u8 n)))],[],.one (.v (.p (.int .i64 r))),[]⟩;intro w G vs hnorm hglob hargs _;obtain⟨v0,v1,rfl,r0,r1⟩:=PY hargs;obtain⟨rfl,hl⟩:=zW r0;obtain⟨rfl,hn⟩:=zX r1;have hn0:0<=n:=hn.1;have hn1:n<=255:=hn.2;have hc:(n.toNat.toUInt8).toNat=n.toNat:=by
  show (UInt8.ofNat n.toNat).toNat=n.toNat;rw[UInt8.toNat_ofNat'];omega
 refine (Tryz.strings_IndexByte (mkS l) n w).mono ?_;rintro e w' ⟨rfl,rfl⟩;obtain⟨e1,e2,e3⟩:=Mq n.toNat.toUInt8 l 0;rw[hc] at e1;have:r=Lib.indexByte l n.toNat.toUInt8:=by
  rw[← hr,e1];split
  ·rename_i h; exact h.symm
  ·simp
 rw[gw,← this];exact qh hnorm (Below.refl _ _) (Rd.int ⟨by show -9223372036854775808<=r; omega,by show r<=9223372036854775807; omega⟩)
theorem Mr:∀ u:Fin 256,Lw 8 u.val=Lib.bitLen u.val/\Lib.bitLen u.val<=8:=by decide +kernel
theorem Cn:au Tryz.prog (wH 179):=by
 refine⟨by kernel_rfl,fun x r hr=>?_⟩;obtain⟨n,rfl⟩:∃ m:Int,m=x:=⟨x,rfl⟩;obtain⟨r,rfl⟩:∃ m:Int,m=r:=⟨r,rfl⟩;have hr:rW n=some r:=hr;show gP Tryz.prog 179 ⟨[.c (.v (.p (.int .u64 n)))],[],.one (.v (.p (.int .i64 r))),[]⟩;intro w G vs hnorm hglob hargs _;obtain⟨v0,rfl,r0⟩:=Mp hargs;obtain⟨rfl,hn⟩:=zX r0;cases n with
 | negSucc _=>cases hr
 | ofNat u =>
  have hr:cond (Nat.ble u 255) (some ((Lw 8 u:Nat):Int)) none=some r:=hr;obtain⟨hb,hr⟩:=aG hr;rw[il,decide_eq_true_eq] at hb;injection hr with hr
  obtain⟨e1,e2⟩:=Mr ⟨u,by omega⟩;refine (Tryz.bits_Len (Int.ofNat u) w hn.1 hn.2).mono ?_;rintro e w' ⟨rfl,rfl⟩;have:r=((Lib.bitLen (Int.ofNat u).toNat:Nat):Int):=by rw[← hr,e1]; rfl
  rw[← this];have h8:r<=8:=by rw[← hr,e1]; exact_mod_cast e2
  have h0:0<=r:=by rw[← hr]; omega
  exact qh hnorm (Below.refl _ _) (Rd.int ⟨by show -9223372036854775808<=r; omega,by show r<=9223372036854775807; omega⟩)
theorem Fm:∀ (k u:Nat),u<10 ^ k->0<k->mh k u=Lib.decDigits u/\(Lib.decDigits u).length<=k
 | 0,u,_,h=>absurd h (by omega)
 | k+1,u,h,_=>by
  unfold mh;rw[Lib.decDigits];by_cases h10:u<10
  ·have:Nat.blt u 10=true:=by rw[Nat.blt_eq]; exact h10
   rw[this,dif_pos h10];exact⟨rfl,by simp⟩
  ·have:Nat.blt u 10=false:=by
    rw[Bool.eq_false_iff]; intro h; rw[Nat.blt_eq] at h; exact h10 h
   rw[this,dif_neg h10];have hk:0<k:=by
    rcases Nat.eq_zero_or_pos k with rfl | hk
    ·simp at h; omega
    ·exact hk
   have hlt:u / 10<10 ^ k:=by
    rw[Nat.div_lt_iff_lt_mul (by omega)];rw[Nat.pow_succ] at h;omega
   obtain⟨e1,e2⟩:=Fm k (u / 10) hlt hk;rw[e1];exact⟨rfl,by simp; omega⟩
theorem JX:au Tryz.prog (EX 90):=by
 refine⟨by kernel_rfl,fun x r hr=>?_⟩;obtain⟨n,rfl⟩:∃ m:Int,m=x:=⟨x,rfl⟩;obtain⟨r,rfl⟩:∃ m:Bs,m=r:=⟨r,rfl⟩;have hr:EW n=some r:=hr;show gP Tryz.prog 90 ⟨[.c (.v (.p (.int .i64 n)))],[],.one (.v (.p (.str (mkS r)))),[]⟩;intro w G vs hnorm hglob hargs _;obtain⟨v0,rfl,r0⟩:=Mp hargs;obtain⟨rfl,hn⟩:=zX r0;cases n with
 | negSucc _=>cases hr
 | ofNat u =>
  have hr:cond (Nat.ble u 9223372036854775807) (some (mh 20 u)) none=some r:=hr;obtain⟨hb,hr⟩:=aG hr;rw[il,decide_eq_true_eq] at hb;injection hr with hr
  obtain⟨e1,e2⟩:=Fm 20 u (by omega) (by omega);have htab:=oX (P:=Tryz.prog) (name := "internal/strconv.uint64pow10") (by kernel_rfl) ((hglob 1 (.inr (.inr rfl))).2.2.2.2 _ _ rfl)
  refine (Tryz.strconv_Itoa (Int.ofNat u) (Int.le_trans (by decide) (Int.natCast_nonneg u)) hn.2 w htab).mono ?_;rintro e w' ⟨rfl,k,os,rfl⟩;have h2:Lib.itoa (Int.ofNat u)=r:=by
   unfold Lib.itoa;rw[if_neg (by exact Int.not_lt.2 (Int.natCast_nonneg u)),← hr,e1];rfl
  rw[h2];have bel:Below w.heap.size w (Go.Sort.grow (w.drewN k) os):=⟨rfl,rfl,rfl,by simp [Go.Sort.grow,World.drewN],fun b hb=>by
   show (w.heap++os)[b]?=_;rw[Array.getElem?_append_left hb]⟩
  exact qh hnorm bel (Rd.str (s:=mkS r) (by rw[eI,← hr,e1]; omega))
theorem Ms (l:Bs):∀ a,qV a l=Lib.decFrom a l:=by
 induction l with
 | nil=>intro a; rfl
 | cons c l ih =>
  intro a;unfold qV Lib.decFrom Lib.digitVal;by_cases h:48<=c.toNat/\c.toNat<=57
  ·rw[if_pos h,ih,il,il];simp [h.1,h.2]
  ·rw[if_neg h,il,il];have:(decide (48<=c.toNat) && decide (c.toNat<=57))=false:=by
    rw[Bool.eq_false_iff]; intro h2; rw[Bool.and_eq_true,decide_eq_true_eq,decide_eq_true_eq] at h2; exact h h2
   rw[this];rfl
theorem Mt (l:Bs):∀ a n,qV a l=some n->n<(a+1) * 10 ^ l.length:=by
 induction l with
 | nil=>intro a n h; cases h; simp
 | cons c l ih =>
  intro a n h;unfold qV at h;obtain⟨hb,h⟩:=aG h;rw[Bool.and_eq_true,il,il,decide_eq_true_eq,decide_eq_true_eq] at hb;have:=ih _ _ h;refine Nat.lt_of_lt_of_le this ?_;rw[List.length_cons,Nat.pow_succ,Nat.mul_comm (10 ^ l.length) 10,← Nat.mul_assoc];exact Nat.mul_le_mul_right _ (by omega)
theorem Mu {w w':World} {G:Gh} {n:Int} (hnorm:Norm G.χ w) (bel:Below w.heap.size w w') (hn:inK .i64 n) :
  ∃ (G':Gh) (v:Value) (us:List Value),Ending.returned (.tuple #[.int .i64 n,.nilIface]) = .returned v/\(Rz.tup [.v (.p (.int .i64 n)),.v (.p (.oth .nilIface))]).val v us/\w'.os=w.os/\w'.tape=w.tape/\w'.output=w.output/\w.heap.size<=w'.heap.size /\
   (∀ b,b<w.heap.size->G.χ b<=1->w'.heap[b]?=w.heap[b]?/\G'.χ b=G.χ b)/\(∀ b,2<=G'.χ b->2<=G.χ b\/w.heap.size<=b)/\(∀ o,1000000<=o->G'.bl o=G.bl o/\G'.hv o=G.hv o)/\Norm G'.χ w' /\
   eu (CRd G' (hpL []) w') (Rz.tup [.v (.p (.int .i64 n)),.v (.p (.oth .nilIface))]).eH us/\(∀ o h,hpL [] o=some h->HRd G' (hpL []) w' o h):=by
 refine⟨G,_,[.int .i64 n,.nilIface],rfl,rfl,bel.os,bel.tape,bel.output,bel.size,fun b hb _=>⟨bel.block b hb,rfl⟩,fun b hb=>.inl hb,fun _ _=>⟨rfl,rfl⟩,fun b hb=>hnorm b (Nat.le_trans bel.size hb),⟨rfl,fun i x v hx hv=>?_⟩,(fun o h ho=>by cases ho)⟩;match i,hx,hv with
 | 0,hx,hv =>
  simp [Rz.eH] at hx hv;subst hx hv;exact⟨rfl,by simp [aJ.ids],Rd.int hn⟩
 | 1,hx,hv =>
  simp [Rz.eH] at hx hv;subst hx hv;exact⟨rfl,by simp [aJ.ids],Rd.oth rfl⟩
 | i+2,hx,hv=>simp [Rz.eH] at hx
theorem JY:au Tryz.prog (EY 174):=by
 refine⟨by kernel_rfl,fun x r hr=>?_⟩;obtain⟨l,rfl⟩:∃ m:Bs,m=x:=⟨x,rfl⟩;obtain⟨r,rfl⟩:∃ m:Int,m=r:=⟨r,rfl⟩;have hr:yk l=some r:=hr;show gP Tryz.prog 174 ⟨[.c (.v (.p (.str (mkS l))))],[],.tup [.v (.p (.int .i64 r)),.v (.p (.oth .nilIface))],[]⟩;intro w G vs hnorm hglob hargs _;obtain⟨v0,rfl,r0⟩:=Mp hargs;obtain⟨rfl,hl⟩:=zW r0;cases l with
 | nil=>cases hr
 | cons c l =>
  have hr:cond (Nat.ble (c::l).length 18) ((qV 0 (c::l)).map Int.ofNat) none=some r:=hr;obtain⟨hb,hr⟩:=aG hr;rw[il,decide_eq_true_eq] at hb;obtain⟨m,hm,hr⟩:=Option.map_eq_some_iff.1 hr;have hlt:=Mt _ _ _ hm;have h18:(10:Nat) ^ (c::l).length<=10 ^ 18:=Nat.pow_le_pow_right (by omega) hb;have hc:48<=c.toNat/\c.toNat<=57:=by
   unfold qV at hm;obtain⟨hb,_⟩:=aG hm
   rwa [Bool.and_eq_true,il,il,decide_eq_true_eq,decide_eq_true_eq] at hb
  have hat:Lib.atoi (mkS (c::l)).data.toList=some r:=by
   rw[gw];unfold Lib.atoi;have n1:(c == 45)=false:=by
    rw[Bool.eq_false_iff]; intro h; have h:=eq_of_beq h; subst h; exact absurd hc.1 (by decide)
   have n2:(c == 43)=false:=by
    rw[Bool.eq_false_iff]; intro h; have h:=eq_of_beq h; subst h; exact absurd hc.1 (by decide)
   simp only[n1,n2,Bool.false_eq_true,if_false];have:Lib.decNat (c::l)=some m:=by
    unfold Lib.decNat;rw[← Ms]
    simpa using hm
   rw[this];exact congrArg some hr
  refine (Tryz.strconv_Atoi (mkS (c::l)) r (by rw[eI]; exact hb) hat w).mono ?_;rintro e w' ⟨rfl,t,rfl⟩;have h0:r=(m:Int):=hr.symm;exact Mu hnorm (Lib.bytesWorld_below w _ t) ⟨by show -9223372036854775808<=r; omega,by show r<=9223372036854775807; omega⟩
theorem GZ:au Tryz.prog (rT 146 3) :=
 I7 (by kernel_rfl) (fun blk off cap zs w h1 h2 h3=>Tryz.slices_Compact_int blk off cap zs w h1 h2 h3) (fun a cap w=>Tryz.slices_Compact_int_empty a cap w)
theorem DY:au Tryz.prog (wF 82) :=
 Gs (g:=0) (t9:=9) (by kernel_rfl) rfl fun s sep m w h1 h2 h3=>Tryz.strings_Split s sep m w h1 h2 h3
theorem xq:au Tryz.prog (pB 125) :=
 zw (g:=0) (by kernel_rfl) rfl fun s sub m w h1 h2=>Tryz.strings_Contains s sub m w h1 h2
theorem zY (l:Bs):∀ cur x,x∈Lib.fieldsGo cur l->x.length<=cur.length+l.length:=by
 induction l with
 | nil =>
  intro cur x hx;unfold Lib.fieldsGo at hx;split at hx
  ·simp at hx
  ·simp at hx; subst hx; simp
 | cons b l ih =>
  intro cur x hx;unfold Lib.fieldsGo at hx;split at hx
  ·split at hx
   ·have:=ih _ _ hx; simp at this ⊢; omega
   ·rcases List.mem_cons.1 hx with rfl | hx
    ·simp
    ·have:=ih _ _ hx; simp at this ⊢; omega
  ·have:=ih _ _ hx; simp at this ⊢; omega
theorem Mv (l:Bs):∀ b,Lib.cntF b l<=l.length:=by
 induction l with
 | nil=>intro b; simp [Lib.cntF]
 | cons c l ih =>
  intro b;unfold Lib.cntF;have:=ih (Lib.isSp c);split <;> simp <;> omega
theorem DZ:au Tryz.prog (yl 196):=by
 refine⟨by kernel_rfl,fun x r hr=>?_⟩;obtain⟨l,rfl⟩:∃ m:Bs,m=x:=⟨x,rfl⟩;obtain⟨r,rfl⟩:∃ m:List Bs,m=r:=⟨r,rfl⟩;have hr:uA l=some r:=hr;unfold uA at hr;obtain⟨hb,hr⟩:=aG hr;rw[Bool.and_eq_true,il,decide_eq_true_eq,List.all_eq_true] at hb;obtain⟨hall,hlen⟩:=hb;injection hr with hr
 show gP Tryz.prog 196 ⟨[.c (.v (.p (.str (mkS l))))],[],.one (.v (.p (.sl (r.map fun x=>[PV.str (mkS x)])))),[]⟩;intro w G vs hnorm hglob hargs _;obtain⟨v0,rfl,r0⟩:=Mp hargs;obtain⟨rfl,hl⟩:=zW r0;have htab:=oX (P:=Tryz.prog) (name := "strings.asciiSpace") (by kernel_rfl) ((hglob 2 (.inr (.inr rfl))).2.2.2.2 _ _ rfl)
 refine (Tryz.strings_Fields (mkS l) w (by rw[eI]; omega) (fun j b hb=>?_) htab).mono ?_
 ·rw[gw] at hb;have:=hall _ (List.mem_of_getElem? hb);rw[Nat.blt_eq] at this;exact this
 rintro e w' ⟨rfl,rfl⟩;rw[gw,hr];have bel:Below w.heap.size w (w.alloc (.cells (r.map fun l=>Value.string ⟨l.toArray⟩).toArray 9)):=(Below.refl _ w).alloc (Nat.le_refl _) _;have hcnt:r.length<=l.length+1:=by
  rw[← hr];show (Lib.fieldsGo [] l).length<=_;rw[Lib.fieldsGo_length];have:=Mv l (([]:Bs).isEmpty);split <;> omega
 have hrl:(r.map fun x=>[PV.str (mkS x)]).length=r.length:=List.length_map _;refine qh hnorm bel ?_;by_cases hne:r=[]
 ·subst hne;exact Rd.sl0 (fun h=>by cases h) (by simp)
 ·suffices key:Rd (In G.χ 0) (w.alloc (.cells (r.map fun l=>Value.string ⟨l.toArray⟩).toArray 9)) (.sl (r.map fun x=>[PV.str (mkS x)])) (.slice (some ⟨w.heap.size,0,none⟩) (r.map fun x=>[PV.str (mkS x)]).length (r.map fun x=>[PV.str (mkS x)]).length) by rw[hrl] at key; exact key
  have hlt:w.heap.size<(w.alloc (.cells (r.map fun l=>Value.string ⟨l.toArray⟩).toArray 9)).heap.size:=by simp
  refine Rd.sl (z:=1) (fun i _=>.string (mkS (r.getD i []))) (b:=w.heap.size) (off:=0) (by simpa using hne) (hnorm _ (Nat.le_refl _)) hlt (Nat.le_refl _) (by rw[hrl]; omega) (fun i cs hi=>?_) (fun i j cs p hi hj=>?_) (fun i j cs p hi hj=>?_)
  ·rw[List.getElem?_map,Option.map_eq_some_iff] at hi;obtain⟨c,_,rfl⟩:=hi;rfl
  ·rw[List.getElem?_map,Option.map_eq_some_iff] at hi;obtain⟨c,hc,rfl⟩:=hi;cases j with
   | zero =>
    rw[Nat.zero_add,Nat.mul_one,Nat.add_zero,List.getD_eq_getElem?_getD,hc];have hh:(w.alloc (.cells (r.map fun l=>Value.string ⟨l.toArray⟩).toArray 9)).heap[w.heap.size]?=some (.cells (r.map fun l=>Value.string ⟨l.toArray⟩).toArray 9):=by simp [World.alloc,-World.alloc_eq]
    unfold World.cell?;rw[hh];simp [hc,mkS]
   | succ j=>simp at hj
  ·rw[List.getElem?_map,Option.map_eq_some_iff] at hi;obtain⟨c,hc,rfl⟩:=hi;cases j with
   | zero =>
    simp at hj;subst hj;rw[List.getD_eq_getElem?_getD,hc];refine .str ?_;have hm:=List.mem_of_getElem? hc;rw[← hr] at hm;have:=zY l [] c hm;show (mkS c).size<=_;rw[eI];simp at this;omega
   | succ j=>simp at hj
end Go.Lad
namespace Go.Proofs.YtkpefpjpadahiaaGreatDoor
open Go.Lad Go.Proofs Go.RowKit
set_option maxRecDepth 100000 in
theorem JZ (b:Nat) (w:World) (h0:w.cell? ⟨b,0,none⟩=some (.pointer (some ⟨b,0,none⟩))) :
  Calls Tryz.prog 134 #[.pointer (some ⟨b,0,none⟩)] w fun e w'=>e = .returned (.tuple #[])/\w'=w:=by
 obtain⟨j,hj,_⟩:=Option.map_eq_some_iff.1 (show (Tryz.prog.info? 167).map (·.size)=some 2 by kernel_rfl)
 go_enter Tryz.func134,Tryz.ntmps134
 go_wp2
 rw[Lib.run_neq_ptr_same w _ Tryz.underlying165 hj]
 go_wp2
 go_end0
 exact⟨rfl,rfl⟩
set_option maxRecDepth 100000 in
theorem G1 (b n:Nat) (T:TypeId) (w:World) (h0:w.cell? ⟨b,0,none⟩=some (.pointer none)) (hsh:w.shape? b=some (T,n)) (hn:0<n) (hl:liesAt Tryz.prog Tryz.prog.depth T (n / Tryz.prog.cellsOf T) 0 167 1=true) (hfz:w.frozen? ⟨b,0,none⟩=false) :
  Calls Tryz.prog 134 #[.pointer (some ⟨b,0,none⟩)] w fun e w'=>e = .returned (.tuple #[])/\w'=w.setCell ⟨b,0,none⟩ (.pointer (some ⟨b,0,none⟩)):=by
 obtain⟨j,hj,hjs⟩:=Option.map_eq_some_iff.1 (show (Tryz.prog.info? 167).map (·.size)=some 2 by kernel_rfl)
 go_enter Tryz.func134,Tryz.ntmps134
 go_wp2
 rw[Lib.run_to_unsafe w ⟨b,0,none⟩ Tryz.underlying165 Tryz.underlying264 hj (by rw[hjs]; decide) hsh hn];simp only[Result.andThen];rw[Oper.upon_value]
 go_wp2
 rw[run_callFunc_extern Tryz.func168 (by kernel_rfl) (by kernel_rfl) (by kernel_rfl) (e:=Extern.AbiNoEscape.same) (by kernel_rfl)];rw[Lib.run_noEscape];simp only[Result.andThen];rw[Oper.upon_value]
 go_wp2
 rw[Lib.run_from_unsafe w ⟨b,0,none⟩ Tryz.underlying264 Tryz.underlying165 hj hsh hl];simp only[Result.andThen];rw[Oper.upon_value]
 go_wp2
 go_end0
 exact⟨rfl,rfl⟩
theorem xr {P:Program} {e:TypeId} (hc:P.cellsOf e=1) (count off n:Nat) (hn:off+n<=count):liesAt P P.depth e count off e n=true:=by
 have hd:P.depth=(2 * (P.types.size+Made.depth)+1)+1:=rfl;rw[hd];simp only[liesAt,Bool.or_eq_true];left;rw[hd];unfold rowAt;simp only[hc,Nat.one_ne_zero,if_false,Bool.or_eq_true,Nat.div_one,Nat.mod_one];left;simp [hn,sameLayout]
theorem Mw {P:Program} (w:World) (pt it ty e:TypeId) (hp:P.underlying pt=some (.pointer e)) (hc:P.cellsOf e=1) (g off cells:Nat) (hsh:w.shape? g=some (e,cells)) (l:List UInt8) (h0:l≠[]) (hn:off+l.length<=cells) (h63:l.length<=9223372036854775807)
  (hcell:∀ j x,l[j]?=some x->w.cell? ((⟨g,off,none⟩:Addr).add j)=some (.int .u8 x.toNat)) :
  (Builtin.unsafeString_ #[pt,it] ty #[.pointer (some ⟨g,off,none⟩),.int .i64 l.length]).run P w = .ok (.string ⟨l.toArray⟩) (w.freeze ⟨g,off,none⟩ l.length):=by
 have hl:l.length≠0:=by simpa using h0
 have hlb:=Lib.run_loadBytes (P:=P) w l ⟨g,off,none⟩ .empty hcell;have hlies:=xr (P:=P) hc (cells / P.cellsOf e) off l.length (by rw[hc]; simpa using hn);have h63':¬ (9223372036854775807:Int)<(l.length:Int):=by omega
 obtain⟨m9,hdef⟩:∃ m9,Builtin.unsafeString_ #[pt,it] ty #[.pointer (some ⟨g,off,none⟩),.int .i64 l.length] =
   (do
    let n ← asInt (.int .i64 l.length)
    if n<0 then runtimePanic (.error m9)
    if n > IntKind.i64.max then unsupported (.unsafePointer "String: a length above the largest int")
    if n=0 then pure (.string .empty)
    else if ← variablesAt ⟨g,off,none⟩ (← elemOf pt) n.toNat then do
     let s ← loadBytes ⟨g,off,none⟩ .empty n.toNat
     freeze ⟨g,off,none⟩ n.toNat
     pure (.string s)
    else unsupported (.unsafePointer "String: not so many bytes at ptr")):=⟨_,rfl⟩
 rw[hdef];have hmax:IntKind.i64.max=9223372036854775807:=rfl;have hneg:¬ (l.length:Int)<0:=by omega
 simp [asInt,asIntOf,hmax,h63',hneg,hl,variablesAt,hsh,elemOf,run_underlying hp,hlies,hlb]
set_option maxHeartbeats 2000000 in
set_option maxRecDepth 100000 in
theorem J0 (b g off cells cap:Nat) (l:List UInt8) (w:World) (h0:l≠[]) (hb:w.cell? ⟨b,1,none⟩=some (.slice (some ⟨g,off,none⟩) l.length cap)) (hsh:w.shape? g=some (5,cells)) (hn:off+l.length<=cells) (hcap:l.length<=cap) (h63:l.length<=9223372036854775807)
  (hcell:∀ j x,l[j]?=some x->w.cell? ((⟨g,off,none⟩:Addr).add j)=some (.int .u8 x.toNat)) :
  Calls Tryz.prog 94 #[.pointer (some ⟨b,0,none⟩)] w fun e w'=>e = .returned (.string ⟨l.toArray⟩)/\w'=w.drew.freeze ⟨g,off,none⟩ l.length:=by
 have hl0:l.length≠0:=by simpa using h0
 have c1:w.drew.cell? ⟨b,1,none⟩=some (.slice (some ⟨g,off,none⟩) l.length cap):=hb;have hSD:(Builtin.unsafeSliceData_ #[156] 220 #[.slice (some ⟨g,off,none⟩) l.length cap]).run Tryz.prog w.drew = .ok (.pointer (some ⟨g,off,none⟩)) w.drew :=
  Lib.run_unsafeSliceData_row _ _ _ _ _ _ (by omega)
 have hUS:(Builtin.unsafeString_ #[220,3] 9 #[.pointer (some ⟨g,off,none⟩),.int .i64 l.length]).run Tryz.prog w.drew = .ok (.string ⟨l.toArray⟩) (w.drew.freeze ⟨g,off,none⟩ l.length) :=
  Mw w.drew 220 3 9 5 Tryz.underlying220 (by kernel_rfl) g off cells hsh l h0 hn h63 hcell
 clear hcell hsh
 go_enter Tryz.func94,Tryz.ntmps94
 go_wp2
 go_region
 all_goals (go_wp2; go_ret; exact⟨rfl,rfl⟩)
end Go.Proofs.YtkpefpjpadahiaaGreatDoor
namespace Go.Proofs.YtkpefpjpadahiaaGreatDoor
open Go.Lad Go.Proofs Go.RowKit
theorem tt (T:TypeId) (rest:List aJ) (os:List (Nat×df)) (ho:aq os 1000000=none)
  (hl:liesAt Tryz.prog Tryz.prog.depth T ((rest.length+1) / Tryz.prog.cellsOf T) 0 167 1=true) :
  gP Tryz.prog 134 ⟨[.c (.v (.loc 1000000 0))],(1000000,.box T (.ps 1000000::rest))::os,.tup [],(1000000,.box T (.ps 1000000::rest))::os⟩:=by
 intro w G vs hnorm hglob hargs hobjs;have hlook:hpL ((1000000,df.box T (.ps 1000000::rest))::os) 1000000=some (df.box T (.ps 1000000::rest)):=rfl;obtain⟨v0,rfl⟩:∃ v0,vs=[v0]:=by
  have:=hargs.1;match vs,this with
  | [a],_=>exact⟨a,rfl⟩
 have hv0:v0 = .pointer (some ⟨G.bl 1000000,0,none⟩):=(hargs.2 0 _ _ rfl rfl:SRd G _ w _ v0).val;subst hv0;obtain⟨us,hblk,hcol,hall⟩:=hobjs 1000000 _ hlook;obtain⟨x0,us,rfl⟩:∃ x0 us',us=x0::us':=by
  have:=hall.1;match us,this with
  | a::l,_=>exact⟨a,l,rfl⟩
 have hlen:us.length=rest.length:=by have:=hall.1; simpa using this.symm
 have h0:LRd G (hpL ((1000000,df.box T (.ps 1000000::rest))::os)) w (.ps 1000000) x0:=hall.2 0 _ _ rfl rfl;generalize hbl:G.bl 1000000=b at *
 have hc0:w.cell? ⟨b,0,none⟩=some x0:=by rw[hblk.cell]; rfl
 rcases (h0.val:x0 = .pointer none\/x0 = .pointer (some ⟨G.bl 1000000,0,none⟩)) with h1 | h1
 ·subst h1;have hsh:w.shape? b=some (T,rest.length+1):=by
   unfold Blk at hblk;simp [World.shape?,hblk,hlen]
  refine (G1 b (rest.length+1) T w hc0 hsh (by omega) hl (hblk.frozen 0)).mono ?_;rintro en w' ⟨rfl,rfl⟩;have hst:Step [1000002] G.χ w G.χ (w.setCell ⟨b,0,none⟩ (.pointer (some ⟨b,0,none⟩))):=(Step.refl _ _ _).setCell (.inl (by show G.χ b∈_; rw[hcol]; simp)) _;have hne:∀ k,G.χ k≠1000002->k≠b:=fun k hk e=>hk (by rw[e,hcol]);have hext:Ext G (hpL ((1000000,df.box T (.ps 1000000::rest))::os)) w G (hpL ((1000000,df.box T (.ps 1000000::rest))::os)) (w.setCell ⟨b,0,none⟩ (.pointer (some ⟨b,0,none⟩))) :=
   ⟨fun k hk hlt=>⟨hk,hst.block k hlt (by rw[show G.χ k=0 from hk]; simp)⟩,fun _ _=>rfl,fun _ _=>rfl,fun _ h=>h⟩
  refine⟨G,_,[],rfl,rfl,hst.os,hst.tape,hst.output,hst.size,fun k hk hχ=>⟨hst.block k hk (by simp; omega),rfl⟩,fun k hk=>.inl hk,fun _ _=>⟨rfl,rfl⟩,fun k hk=>hnorm k (Nat.le_trans hst.size hk),⟨rfl,fun i x v hx hv=>by simp at hv⟩,fun o h hh=>?_⟩;by_cases ho2:o=1000000
  ·subst ho2;rw[hlook] at hh;injection hh with hh
   subst hh;refine⟨.pointer (some ⟨b,0,none⟩)::us,?_,by rw[hbl]; exact hcol,by simpa using hall.1,fun i x v hx hv=>?_⟩
   ·have:=hblk.Hc 0 (.pointer (some ⟨b,0,none⟩));rw[hbl]
    simpa using this
   ·cases i with
    | zero =>
     simp at hx hv;subst hx hv;exact⟨rfl,h0.ids,.inr (by rw[hbl]; rfl)⟩
    | succ i=>exact (hall.2 (i+1) x v hx (by simpa using hv)).ext hext
  ·exact (hobjs o h hh).ext hext hst.chg (by simp; omega) (by simp) (by rw[hh]; simp)
 ·subst h1;rw[hbl] at hc0;refine (JZ b w hc0).mono ?_;rintro en w' ⟨rfl,rfl⟩;exact⟨G,_,[],rfl,rfl,rfl,rfl,rfl,Nat.le_refl _,fun k hk hχ=>⟨rfl,rfl⟩,fun k hk=>.inl hk,fun _ _=>⟨rfl,rfl⟩,hnorm,⟨rfl,fun i x v hx hv=>by simp at hv⟩,hobjs⟩
def u8s (l:List Int):List (List PV):=l.map fun x=>[PV.int .u8 x]
theorem Oq {k:Nat} {χ:Col} {e:TypeId} {w:World} {v:Value} {l:List Int} (h:Lad.Own (α:=CZ 1) k χ e w v (u8s l)) (h0:l≠[]) :
  ∃ g cap off,∃ cur:Array Value,v = .slice (some ⟨g,off,none⟩) l.length cap/\χ g=k/\iC w g cur e/\l.length<=cap/\cap<=maxLen/\off+cap<=cur.size/\∀ j (x:Int),l[j]?=some x->w.cell? ((⟨g,off,none⟩:Addr).add j)=some (.int .u8 x):=by
 obtain⟨xs,hor,hrd⟩:=h.ex;have hlen:List.length (α:=CZ 1) (u8s l)=l.length:=by show List.length (α:=List PV) (u8s l)=_; unfold u8s; simp
 have hxl:xs.length=l.length:=by
  have:=hor.1;rw[show aN.sz (CZ 1)=1 from rfl,Nat.mul_one] at this;exact this.trans hlen
 rcases hor.2 with⟨hv,hn⟩ | ⟨g,cap,cur,off,hv,_,hb,hnc,hm,hsz,hxs⟩
 ·exact absurd (List.eq_nil_of_length_eq_zero (by rw[← hlen]; exact hn)) h0
 ·refine⟨g,cap,off,cur,by rw[hv]; congr 1,h.col g (by rw[hv]; rfl),hb,by rw[← hlen]; exact hnc,hm,by rw[show aN.sz (CZ 1)=1 from rfl,Nat.mul_one] at hsz; exact hsz,?_⟩;intro j x hj;obtain⟨hjl,hje⟩:=List.getElem?_eq_some_iff.1 hj;have hrow:=hrd j [PV.int .u8 x] (by show (u8s l)[j]?=_; unfold u8s; rw[List.getElem?_map,hj]; rfl);obtain⟨_,hR⟩:=hrow;have hch:chunk (aN.sz (CZ 1)) j xs=[xs[j]'(by omega)]:=by
   show (xs.drop (j * 1)).take 1=_;rw[Nat.mul_one,List.drop_eq_getElem_cons (by omega)]; rfl
  rw[hch] at hR;have hv1:=hR.2 0 _ _ rfl rfl;have hxj:xs[j]'(by omega) = .int .u8 x:=(zx hv1).1;have hcell:=iQ.cells hor (g:=g) (by rw[hv]; rfl) j (xs[j]'(by omega)) (List.getElem?_eq_getElem (by omega));have ho:mu v=off:=by rw[hv]; rfl
  rw[hxj,ho] at hcell;rw[I6] at hcell ⊢;exact hcell
theorem zZ (w:World) (g off n k:Nat) (h:k≠g):(w.drew.freeze ⟨g,off,none⟩ n).heap[k]?=w.heap[k]? := by
 unfold World.freeze;split
 ·rfl
 ·simp only[Array.getElem?_modify];rw[if_neg (fun e=>h e.symm)];rfl
theorem tX (w:World) (g off n:Nat):(w.drew.freeze ⟨g,off,none⟩ n).heap.size=w.heap.size:=by
 unfold World.freeze;split
 ·rfl
 ·simp only[Array.size_modify]; rfl
theorem G2 (w:World) (p:Addr) (n:Nat):(w.drew.freeze p n).os=w.os/\(w.drew.freeze p n).tape=w.tape/\(w.drew.freeze p n).output=w.output:=by
 unfold World.freeze;split <;> exact⟨rfl,rfl,rfl⟩
theorem yB (T:TypeId) (rest:List aJ) (l:List Int) (s:Bs) (hs:qy l=some s) :
  gP Tryz.prog 94 ⟨[.c (.v (.loc 1000000 0))],[(1000000,.box T (.ps 1000000 :: .own 1000001::rest)),(1000001,.arr 5 1 (u8s l))],.one (.v (.p (.str (mkS s)))),[(1000000,.gone),(1000001,.gone)]⟩:=by
 intro w G vs hnorm hglob hargs hobjs;unfold qy at hs;obtain⟨hb,hs⟩:=aG hs;injection hs with hs
 rw[Bool.and_eq_true,Bool.and_eq_true,Nat.blt_eq,il,decide_eq_true_eq,List.all_eq_true] at hb;obtain⟨⟨hpos,hall8⟩,h31⟩:=hb;have hne:l≠[]:=fun e=>by rw[e] at hpos; simp at hpos
 obtain⟨v0,rfl⟩:∃ v0,vs=[v0]:=by
  have:=hargs.1;match vs,this with
  | [a],_=>exact⟨a,rfl⟩
 have hv0:v0 = .pointer (some ⟨G.bl 1000000,0,none⟩):=(hargs.2 0 _ _ rfl rfl:SRd G _ w _ v0).val;subst hv0;obtain⟨us,hblk,hcol,hall⟩:=hobjs 1000000 _ rfl;obtain⟨hown,_⟩:=hobjs 1000001 _ rfl;have hown:Lad.Own (α:=CZ 1) 1000003 G.χ 5 w (G.hv 1000001) (u8s l):=hown;obtain⟨x0,x1,us,rfl⟩:∃ x0 x1 us',us=x0::x1::us':=by
  have:=hall.1;match us,this with
  | a::b::l,_=>exact⟨a,b,l,rfl⟩
 have h1:x1=G.hv 1000001:=(hall.2 1 _ _ rfl rfl:LRd G _ w _ x1).val;subst h1;obtain⟨g,cap,off,cur,hv,hgc,hrow,hnc,hm,hsz,hcell⟩:=Oq hown hne;have hsl:s.length=l.length:=by rw[← hs,List.length_map]
 have hc1:w.cell? ⟨G.bl 1000000,1,none⟩=some (.slice (some ⟨g,off,none⟩) s.length cap):=by
  rw[hblk.cell,hsl,← hv]; rfl
 have hsh:w.shape? g=some (5,cur.size):=by
  obtain⟨fr,hr,_⟩:=hrow;simp [World.shape?,hr]
 refine (J0 (G.bl 1000000) g off cur.size cap s w (fun e=>by rw[e] at hsl; simp at hsl; omega) hc1 hsh (by omega) (by omega) (by omega) (fun j x hx=>?_)).mono ?_
 ·rw[← hs,List.getElem?_map,Option.map_eq_some_iff] at hx;obtain⟨n,hn,rfl⟩:=hx;rw[hcell j n hn];have:=hall8 n (List.mem_of_getElem? hn);cases n with
  | negSucc _=>cases this
  | ofNat u =>
   rw[Nat.ble_eq] at this;show some (Value.int .u8 (u:Int))=some (.int .u8 ((UInt8.ofNat u).toNat:Int));rw[UInt8.toNat_ofNat'];congr 2;omega
 ·rintro en w' ⟨rfl,rfl⟩;obtain⟨c1,c2,c3⟩:=G2 w ⟨g,off,none⟩ s.length;have hg2:∀ k,G.χ k<=1->k≠g:=fun k hk e=>by rw[e,hgc] at hk; omega
  refine⟨G,_,[_],rfl,rfl,c1,c2,c3,Nat.le_of_eq (tX _ _ _ _).symm,fun k hk hχ=>⟨zZ _ _ _ _ _ (hg2 k hχ),rfl⟩,fun k hk=>.inl hk,fun _ _=>⟨rfl,rfl⟩,fun k hk=>hnorm k (by rw[tX] at hk; exact hk),⟨rfl,fun i x v hx hv=>?_⟩,fun o h ho=>?_⟩
  ·cases i with
   | succ i=>simp [Rz.eH] at hx
   | zero =>
    simp [Rz.eH] at hx hv;subst hx hv;exact⟨rfl,by simp [aJ.ids],Rd.str (s:=mkS s) (by rw[eI]; omega)⟩
  ·simp only[hpL,aq] at ho;split at ho
   ·injection ho with ho; subst ho; trivial
   ·split at ho
    ·injection ho with ho; subst ho; trivial
    ·cases ho
theorem qi (l:List Int):jE (.int .u8) ⟨.sl (.int .u8),l⟩=l:=mK (t := .int .u8) l
theorem G3:au Tryz.prog (MY 134 167) :=
 ⟨by kernel_rfl,fun x r hr=>tt 167 [.nil] [] rfl (by kernel_rfl)⟩
theorem J1:au Tryz.prog (Lx 134 167 5):=by
 refine⟨by kernel_rfl,fun x r hr=>?_⟩;obtain⟨l,rfl⟩:∃ m:List Int,m=x:=⟨x,rfl⟩;have hr:some l=some r:=hr;injection hr with hr
 subst hr;have e1:(Lx 134 167 5).spec l l=⟨[.c (.v (.loc 1000000 0))],(1000000,.box 167 (.ps 1000000::[.own 1000001]))::[(1000001,.arr 5 1 (u8s l))],.tup [],(1000000,.box 167 (.ps 1000000::[.own 1000001]))::[(1000001,.arr 5 1 (u8s l))]⟩:=by
  show nw.mk _ [(1000000,_),(1000001,cV.un (.arr 5 (.int .u8) (jE (.int .u8) ⟨.sl (.int .u8),l⟩)))] _ [(1000000,_),(1000001,cV.un (.arr 5 (.int .u8) (jE (.int .u8) ⟨.sl (.int .u8),l⟩)))]=_;rw[qi];rfl
 show gP _ _ ((Lx 134 167 5).spec l l);rw[e1];exact tt 167 [.own 1000001] _ rfl (by kernel_rfl)
theorem J2:au Tryz.prog (Ly 94 167 5):=by
 refine⟨by kernel_rfl,fun x r hr=>?_⟩;obtain⟨l,rfl⟩:∃ m:List Int,m=x:=⟨x,rfl⟩;obtain⟨r,rfl⟩:∃ m:Bs,m=r:=⟨r,rfl⟩;have hr:qy l=some r:=hr;have e1:(Ly 94 167 5).spec l r=⟨[.c (.v (.loc 1000000 0))],[(1000000,.box 167 (.ps 1000000 :: .own 1000001::[])),(1000001,.arr 5 1 (u8s l))],.one (.v (.p (.str (mkS r)))),[(1000000,.gone),(1000001,.gone)]⟩:=by
  show nw.mk _ [(1000000,_),(1000001,cV.un (.arr 5 (.int .u8) (jE (.int .u8) ⟨.sl (.int .u8),l⟩)))] _ _=_;rw[qi];rfl
 show gP _ _ ((Ly 94 167 5).spec l r);rw[e1];exact yB 167 [] l r hr
theorem G4:au Tryz.prog (EZ 134 175 5):=by
 refine⟨by kernel_rfl,fun x r hr=>?_⟩;obtain⟨q,l⟩:=x;obtain⟨l,rfl⟩:∃ m:List Int,m=l:=⟨l,rfl⟩;obtain⟨q,rfl⟩:∃ m:Bool,m=q:=⟨q,rfl⟩;have hr:some (q,l)=some r:=hr;injection hr with hr
 subst hr;have e1:(EZ 134 175 5).spec (q,l) (q,l)=⟨[.c (.v (.loc 1000000 0))],(1000000,.box 175 (.ps 1000000::[.own 1000001,.p (.bool q)]))::[(1000001,.arr 5 1 (u8s l))],.tup [],(1000000,.box 175 (.ps 1000000::[.own 1000001,.p (.bool q)]))::[(1000001,.arr 5 1 (u8s l))]⟩:=by
  show nw.mk _ [(1000000,_),(1000001,cV.un (.arr 5 (.int .u8) (jE (.int .u8) ⟨.sl (.int .u8),l⟩)))] _ [(1000000,_),(1000001,cV.un (.arr 5 (.int .u8) (jE (.int .u8) ⟨.sl (.int .u8),l⟩)))]=_;rw[qi];rfl
 show gP _ _ ((EZ 134 175 5).spec (q,l) (q,l));rw[e1];exact tt 175 [.own 1000001,.p (.bool q)] _ rfl (by kernel_rfl)
theorem G5:au Tryz.prog (E0 94 175 5):=by
 refine⟨by kernel_rfl,fun x r hr=>?_⟩;obtain⟨q,l⟩:=x;obtain⟨l,rfl⟩:∃ m:List Int,m=l:=⟨l,rfl⟩;obtain⟨q,rfl⟩:∃ m:Bool,m=q:=⟨q,rfl⟩;obtain⟨r,rfl⟩:∃ m:Bs,m=r:=⟨r,rfl⟩;have hr:qy l=some r:=hr;have e1:(E0 94 175 5).spec (q,l) r=⟨[.c (.v (.loc 1000000 0))],[(1000000,.box 175 (.ps 1000000 :: .own 1000001::[.p (.bool q)])),(1000001,.arr 5 1 (u8s l))],.one (.v (.p (.str (mkS r)))),[(1000000,.gone),(1000001,.gone)]⟩:=by
  show nw.mk _ [(1000000,_),(1000001,cV.un (.arr 5 (.int .u8) (jE (.int .u8) ⟨.sl (.int .u8),l⟩)))] _ _=_;rw[qi];rfl
 show gP _ _ ((E0 94 175 5).spec (q,l) r);rw[e1];exact yB 175 [.p (.bool q)] l r hr
end Go.Proofs.YtkpefpjpadahiaaGreatDoor
namespace Go.Proofs.YtkpefpjpadahiaaGreatDoor
open Go.Lad Go.Proofs
theorem yC (w:World):(callFunc 282 #[]).run Tryz.prog w = .ok (.value (.tuple #[])) w:=run_call_mark0 Tryz.func282 (by kernel_rfl) (by kernel_rfl) (by kernel_rfl) .disable (by kernel_rfl) w
theorem Co (w:World):(callFunc 284 #[]).run Tryz.prog w = .ok (.value (.tuple #[])) w:=run_call_mark0 Tryz.func284 (by kernel_rfl) (by kernel_rfl) (by kernel_rfl) .enable (by kernel_rfl) w
theorem G6 (a:Addr) (w:World):(callFunc 285 #[.pointer (some a)]).run Tryz.prog w = .ok (.value (.tuple #[])) w:=run_call_marked Tryz.func285 (by kernel_rfl) (by kernel_rfl) (by kernel_rfl) .acquire (by kernel_rfl) a w
theorem G7 (a:Addr) (w:World):(callFunc 287 #[.pointer (some a)]).run Tryz.prog w = .ok (.value (.tuple #[])) w:=run_call_marked Tryz.func287 (by kernel_rfl) (by kernel_rfl) (by kernel_rfl) .releaseMerge (by kernel_rfl) a w
set_option maxRecDepth 100000 in
theorem Po (a:Addr) (w:World) (hc:w.cell? a=some (.int .i32 0)) (hz:w.frozen? a=false) :
  Calls Tryz.prog 256 #[.pointer (some a)] w fun e w'=>e = .returned (.tuple #[])/\w'=w.setCell a (.int .i32 1):=by
 have hd:=yC;have he:=Co;have ha:=G6;have hcas:=run_call_cas_hit (P:=Tryz.prog) Tryz.func283 (by kernel_rfl) (by kernel_rfl) (by kernel_rfl) .i32 (by kernel_rfl) (y:=1) hc hz;have hc':(w.setCell a (.int .i32 1)).cell? a=some (.int .i32 1):=World.cell?_setCell_same w a _ hc;have hcv:=run_convert_to_unsafe (P:=Tryz.prog) (src:=390) (dst:=264) Tryz.underlying390 Tryz.underlying264 (by kernel_rfl) hc'
 go_enter Tryz.func256,Tryz.ntmps256
 go_wp2
 first | go_end0 | (simp only[Exit.inBlock,Exit.then]; refine bodyPost_ret (results_none rfl _ _ _) rfl ?_) | refine bodyPost_ret (results_none rfl _ _ _) rfl ?_
 go_wp2
set_option maxRecDepth 100000 in
theorem My (a:Addr) (w:World) (hc:w.cell? a=some (.int .i32 1)) (hz:w.frozen? a=false) :
  Calls Tryz.prog 257 #[.pointer (some a)] w fun e w'=>e = .returned (.tuple #[])/\w'=w.setCell a (.int .i32 0):=by
 have hd:=yC;have he:=Co;have hr:=G7;have hadd:=run_call_add (P:=Tryz.prog) Tryz.func288 (by kernel_rfl) (by kernel_rfl) (by kernel_rfl) .i32 (by kernel_rfl) (y := -1) (s:=0) hc hz (by simp [go_sem]; rfl);have hcv:=run_convert_to_unsafe (P:=Tryz.prog) (src:=390) (dst:=264) Tryz.underlying390 Tryz.underlying264 (by kernel_rfl) hc
 go_enter Tryz.func257,Tryz.ntmps257
 go_wp2
 go_end0
 go_wp2
set_option maxRecDepth 100000 in
theorem Pp (b o:Nat) (w:World) (hc:w.cell? ⟨b,o,none⟩=some (.int .i32 0)) (hz:w.frozen? ⟨b,o,none⟩=false) :
  Calls Tryz.prog 216 #[.pointer (some ⟨b,o,none⟩)] w fun e w'=>e = .returned (.tuple #[])/\w'=w.setCell ⟨b,o,none⟩ (.int .i32 1):=by
 have hl:=Po ⟨b,o,none⟩ w hc hz
 go_enter Tryz.func216,Tryz.ntmps216
 go_wp2_with (go_at_call 256; refine hl.mono ?_; rintro e w' ⟨rfl,rfl⟩)
 go_end0
 exact⟨rfl,rfl⟩
set_option maxRecDepth 100000 in
theorem J3 (b o:Nat) (u:FrameMode) (w:World) (hc:w.cell? ⟨b,o,none⟩=some (.int .i32 1)) (hz:w.frozen? ⟨b,o,none⟩=false) :
  CallsD Tryz.prog 217 #[.pointer (some ⟨b,o,none⟩)] u w fun e u' w'=>u'=u/\(e = .returned (.tuple #[])/\w'=w.setCell ⟨b,o,none⟩ (.int .i32 0)):=by
 have hl:=My ⟨b,o,none⟩ w hc hz
 go_enter_d Tryz.func217,Tryz.ntmps217
 go_wp2_with (go_at_call 257; refine hl.mono ?_; rintro e w' ⟨rfl,rfl⟩)
 go_end0
 exact⟨rfl,rfl⟩
set_option maxRecDepth 100000 in
theorem ux (b o:Nat) (x:Int) (w:World) (hc:w.cell? ⟨b,o,none⟩=some (.int .u32 x)) :
  Calls Tryz.prog 180 #[.pointer (some ⟨b,o,none⟩)] w fun e w'=>e = .returned (.bool (x != 0))/\w'=w:=by
 have hl:=run_call_load (P:=Tryz.prog) Tryz.func215 (by kernel_rfl) (by kernel_rfl) (by kernel_rfl) .u32 (by kernel_rfl) hc
 go_enter Tryz.func180,Tryz.ntmps180
 go_wp2
 go_ret
 exact⟨rfl,rfl⟩
set_option maxRecDepth 100000 in
theorem Mz (b o:Nat) (x:Value) (u:FrameMode) (w:World) (hc:w.cell? ⟨b,o,none⟩=some x) (hz:w.frozen? ⟨b,o,none⟩=false) :
  CallsD Tryz.prog 218 #[.pointer (some ⟨b,o,none⟩),.bool true] u w fun e u' w'=>u'=u/\(e = .returned (.tuple #[])/\w'=w.drew.setCell ⟨b,o,none⟩ (.int .u32 1)):=by
 have hc':w.drew.cell? ⟨b,o,none⟩=some x:=by go_simp
 have hz':w.drew.frozen? ⟨b,o,none⟩=false:=by go_simp
 have hst:=run_call_store (P:=Tryz.prog) Tryz.func258 (by kernel_rfl) (by kernel_rfl) (by kernel_rfl) (by kernel_rfl) (k := .u32) (y:=1) hc' hz'
 go_enter_d Tryz.func218,Tryz.ntmps218
 go_wp2
 go_region_calls
 all_goals (go_end0; exact⟨rfl,rfl⟩)
end Go.Proofs.YtkpefpjpadahiaaGreatDoor
namespace Go.Proofs.YtkpefpjpadahiaaGreatDoor
open Go.Lad Go.Proofs Go.RowKit
def oT (v:Value):Array Value:=(Array.replicate 256 (.slice none 0 0)).push v
theorem PZ (w:World):(zeroValue 317).run Tryz.prog w = .ok (.agg (oT (.slice none 0 0))) w:=by
 obtain⟨ti,hti⟩:∃ ti,Tryz.prog.info? 317=some ti:=Option.isSome_iff_exists.1 (by kernel_rfl);have hz:((Tryz.prog.info? 317).bind (·.zero))=some (.agg (oT (.slice none 0 0))):=by kernel_rfl
 rw[hti] at hz;have hz:ti.zero=some (.agg (oT (.slice none 0 0))):=hz;simp [zeroValue,typeInfo,hti,hz]
theorem P0 (w:World):(Instr.makeSlice 27 (.int .i64 0) (.int .i64 2)).run Tryz.prog w = .ok (.slice (some ⟨w.heap.size,0,none⟩) 0 2) (w.alloc (.cells #[.string ⟨#[]⟩,.string ⟨#[]⟩] 9)):=by
 obtain⟨ti,hti⟩:∃ ti,Tryz.prog.info? 9=some ti:=Option.isSome_iff_exists.1 (by kernel_rfl);have hz:((Tryz.prog.info? 9).bind (·.zero))=some (.string ⟨#[]⟩):=by kernel_rfl
 have hs:(Tryz.prog.info? 9).map (·.size)=some 1:=by kernel_rfl
 have hb:(Tryz.prog.info? 9).map (·.bytes)=some 16:=by kernel_rfl
 rw[hti] at hz hs hb;have hz:ti.zero=some (.string ⟨#[]⟩):=hz;have hs:ti.size=1:=by simpa using hs
 have hb:ti.bytes=16:=by simpa using hb
 have:=run_makeSlice (P:=Tryz.prog) w 27 9 ti (.string ⟨#[]⟩) Tryz.underlying27 hti hz .i64 .i64 0 2 (by omega) (by omega) (by rw[hs]; decide) (by rw[hb]; decide) (by omega);rw[hs] at this;exact this.trans (by kernel_rfl)
theorem D0 (w:World) (a b:Array Value) (t:TypeId) {g:Nat} (hg:g=w.heap.size):(w.alloc (.cells a t)).setRow g b=w.alloc (.cells b t):=by
 subst hg;have hx:∀ k:Nat,((w.alloc (.cells a t)).setRow w.heap.size b).heap[k]?=(w.alloc (.cells b t)).heap[k]? := fun k=>by
  by_cases hk:k=w.heap.size
  ·subst hk;rw[setRow_heap _ _ a b t (0,0) (heap_alloc_new _ _),heap_alloc_new]
  ·rw[setRow_other _ _ _ _ hk];show (w.heap.push _)[k]?=(w.heap.push _)[k]?;rw[Array.getElem?_push,Array.getElem?_push,if_neg hk,if_neg hk]
 show ({ w with heap:=_ }:World) = { w with heap:=_ };congr 1;exact Array.ext_getElem? hx
set_option maxRecDepth 100000 in
theorem wV (v:Value):(oT v).size=257:=by kernel_rfl
theorem MA (v:Value):(oT (.slice none 0 0)).toList.set 256 v=(oT v).toList:=by kernel_rfl
theorem Ot (v:Value) {i:Nat} (h:i<256):(oT v)[i]?=some (.slice none 0 0):=by
 unfold oT;rw[Array.getElem?_push,if_neg (by rw[Array.size_replicate]; omega),Array.getElem?_replicate,if_pos h]
theorem J4 (v:Value):(oT v)[256]?=some v:=by
 unfold oT;rw[Array.getElem?_push,if_pos (by rw[Array.size_replicate])]
theorem Pq (w:World) (X:Obj) (A:Option Addr) (n c g:Nat) (hg:g=w.heap.size+1):(storeCells ⟨g,0,none⟩ ((oT (.slice none 0 0)).toList.set 256 (.slice A n c))).run Tryz.prog ((w.alloc X).alloc (.cells (oT (.slice none 0 0)) 317)) = .ok () ((w.alloc X).alloc (.cells (oT (.slice A n c)) 317)):=by
 have hs:g=(w.alloc X).heap.size:=by rw[hg,World.size_alloc]
 subst hs;rw[MA,run_storeCells_from (P:=Tryz.prog) (w.alloc X).heap.size 317 (oT (.slice A n c)).toList 0 (oT (.slice none 0 0)) _ (heap_alloc_new _ _) (by rw[Array.length_toList,wV,wV]) (fun v hv=>?_)]
 ·rw[D0 _ _ _ _ rfl,List.take_zero,List.nil_append,Array.toArray_toList]
 ·have hv:v∈oT (.slice A n c):=by simpa using hv
  unfold oT at hv;rcases Array.mem_push.1 hv with h | h
  ·rw[Array.mem_replicate] at h;rw[h.2]; rfl
  ·rw[h]; rfl
def lE (w:World) (p:Nat) (l:Bs):Prop:=p<w.heap.size/\∀ j x,l[j]?=some x->w.cell? ⟨p,j,none⟩=some (.int .u8 (x.toNat:Int))
theorem lE.frame {w w':World} {p:Nat} {l:Bs} (h:lE w p l) (hb:w'.heap[p]?=w.heap[p]?) (hs:w.heap.size<=w'.heap.size):lE w' p l:=by
 refine⟨Nat.lt_of_lt_of_le h.1 hs,fun j x hx=>?_⟩;rw[← h.2 j x hx];simp only[World.cell?,hb]
def tv (m p1 c1 p2 c2 i:Nat):Value:=if i=41/\1<=m then .slice (some ⟨p1,0,none⟩) 3 c1 else if i=40/\2<=m then .slice (some ⟨p2,0,none⟩) 3 c2 else .slice none 0 0
def lets (m:Nat):List Value:=[Value.string ⟨#[41]⟩,Value.string ⟨#[40]⟩].take m
structure RT (w0 w:World) (m:Nat) (v:Value) (T:Array Value) (p1 c1 p2 c2:Nat):Prop where
 below:Below w0.heap.size w0 w
 tab:w.heap[w0.heap.size+1]?=some (.cells T 317)
 size:T.size=257
 last:T[256]?=some v
 ent:∀ i,i<256->T[i]?=some (tv m p1 c1 p2 c2 i)
 own:iQ w 9 1 v m (lets m)
 ne:∀ g,v.ownBlock=some g->w0.heap.size<=g/\g≠w0.heap.size+1/\(1<=m->g≠p1)/\(2<=m->g≠p2)
 b1:1<=m->lE w p1 [32,41,32]/\w0.heap.size<=p1/\p1≠w0.heap.size+1
 b2:2<=m->lE w p2 [32,40,32]/\w0.heap.size<=p2/\p2≠w0.heap.size+1
theorem nil_eq (w:World):(binOp .eql 156 (.slice none 0 0) (.slice none 0 0)).run Tryz.prog w = .ok (.bool true) w:=Lib.run_eql_slice_nil w 156 5 none 0 0 0 0 Tryz.underlying156
theorem Pr:dy Tryz.prog 27=some (9,1):=by kernel_rfl
theorem M6:(Tryz.prog.info? 9).map (·.bytes)=some 16:=by kernel_rfl
theorem nh {w w':World} (h:Below w.heap.size w w') {b:Nat} (hb:b<w.heap.size) (o:Nat):w'.cell? ⟨b,o,none⟩=w.cell? ⟨b,o,none⟩:=by
 simp only[World.cell?,h.block b hb]
theorem heap_alloc_old (w:World) (o:Obj) {b:Nat} (hb:b<w.heap.size):(w.alloc o).heap[b]?=w.heap[b]? := Below.heap_alloc w o b hb
theorem uH {w:World} {g i:Nat} {cs:Array Value} {t:TypeId} {fr:Nat×Nat} (h:w.heap[g]?=some (.cells cs t fr)) (v:Value):(w.setCell ⟨g,i,none⟩ v).heap[g]?=some (.cells (cs.setIfInBounds i v) t fr):=by
 rw[setCell_eq_setRow w g i cs t fr v h];exact setRow_heap w g _ _ t _ h
theorem size_set (w:World) (a:Addr) (v:Value):(w.setCell a v).heap.size=w.heap.size:=by show (w.heap.modify _ _).size=_; rw[Array.size_modify]
theorem yD {w:World} {p:Nat} {o:UInt8} {C:Nat} {fr:Nat×Nat} (h:w.heap[p]?=some (.cells (bytesRow ⟨#[32,o,32]⟩ C) 5 fr)):lE w p [32,o,32]:=by
 refine⟨(Array.getElem?_eq_some_iff.1 h).1,fun j x hx=>?_⟩;rw[cell_of_row _ _ _ _ _ _ h];unfold bytesRow;match j,hx with
 | 0,hx=>simp at hx; subst hx; rw[Array.getElem?_append_left (by simp)]; simp
 | 1,hx=>simp at hx; subst hx; rw[Array.getElem?_append_left (by simp)]; simp
 | 2,hx=>simp at hx; subst hx; rw[Array.getElem?_append_left (by simp)]; simp
 | j+3,hx=>simp at hx
theorem Fo {w wr W4 W5 W6 W7 W8:World} {m p1 c1 p2 c2 C:Nat} {v v':Value} {T:Array Value} {o:UInt8} {fr:Nat×Nat} (hR:RT w wr m v T p1 c1 p2 c2) (hm:m=0/\o=41\/m=1/\o=40) (h4s:W4.heap.size=wr.heap.size+2) (h4:∀ b,b<wr.heap.size->W4.heap[b]?=wr.heap[b]?)
  (h4o:W4.os=wr.os/\W4.tape=wr.tape/\W4.output=wr.output) (h3:W4.grownBy W5 v.ownBlock) (h2:iQ W5 9 1 v' (m+1) (lets m++[.string ⟨#[o]⟩])) (h5:v'.ownBlock=v.ownBlock\/v'.ownBlock=some W4.heap.size)
  (hW6:W6=W5.setCell ⟨w.heap.size+1,256,none⟩ v') (hW7:W7=W6.drew.alloc (.cells (bytesRow ⟨#[32,o,32]⟩ C) 5 fr)) (hW8:W8=W7.setCell ⟨w.heap.size+1,o.toNat,none⟩ (.slice (some ⟨W6.heap.size,0,none⟩) 3 C)) :
  ∃ p1' c1' p2' c2' T',RT w W8 (m+1) v' T' p1' c1' p2' c2':=by
 have hn1:w.heap.size+1<wr.heap.size:=(Array.getElem?_eq_some_iff.1 hR.tab).1;have hnev:some (w.heap.size+1)≠v.ownBlock:=fun e=>(hR.ne _ e.symm).2.1 rfl;have hz5:wr.heap.size+2<=W5.heap.size:=by rw[← h4s]; exact h3.size
 have hz6:W6.heap.size=W5.heap.size:=by rw[hW6,size_set]
 have hz7:W7.heap.size=W5.heap.size+1:=by rw[hW7,World.size_alloc]; show W6.heap.size+1=_; rw[hz6]
 have hz8:W8.heap.size=W5.heap.size+1:=by rw[hW8,size_set,hz7]
 have ho56:∀ b,b≠w.heap.size+1->W6.heap[b]?=W5.heap[b]? := fun b hb=>by rw[hW6]; exact Below.heap_setCell W5 _ _ b hb
 have ho67:∀ b,b<W6.heap.size->W7.heap[b]?=W6.heap[b]? := fun b hb=>by rw[hW7]; exact heap_alloc_old W6.drew _ hb
 have ho78:∀ b,b≠w.heap.size+1->W8.heap[b]?=W7.heap[b]? := fun b hb=>by rw[hW8]; exact Below.heap_setCell W7 _ _ b hb
 have ho58:∀ b,b<W5.heap.size->b≠w.heap.size+1->W8.heap[b]?=W5.heap[b]? := fun b hb hne=>by rw[ho78 b hne,ho67 b (by rw[hz6]; exact hb),ho56 b hne]
 have hor8:∀ b,b<wr.heap.size->b≠w.heap.size+1->some b≠v.ownBlock->W8.heap[b]?=wr.heap[b]? := fun b hb hne hv=>by rw[ho58 b (by omega) hne,h3.block b (by omega) hv,h4 b hb]
 have htab5:W5.heap[w.heap.size+1]?=some (.cells T 317):=by rw[h3.block _ (by omega) hnev,h4 _ hn1,hR.tab]
 have htab6:W6.heap[w.heap.size+1]?=some (.cells (T.setIfInBounds 256 v') 317):=by rw[hW6]; exact uH htab5 v'
 have htab7:W7.heap[w.heap.size+1]?=some (.cells (T.setIfInBounds 256 v') 317):=by rw[ho67 _ (by omega),htab6]
 have htab8:W8.heap[w.heap.size+1]?=some (.cells ((T.setIfInBounds 256 v').setIfInBounds o.toNat (.slice (some ⟨W6.heap.size,0,none⟩) 3 C)) 317):=by rw[hW8]; exact uH htab7 _
 have hos8:W8.os=wr.os/\W8.tape=wr.tape/\W8.output=wr.output:=by
  rw[hW8,hW7,hW6];exact⟨h3.os.trans h4o.1,h3.tape.trans h4o.2.1,h3.output.trans h4o.2.2⟩
 have hbelow:Below w.heap.size w W8:=by
  refine⟨hos8.1.trans hR.below.os,hos8.2.1.trans hR.below.tape,hos8.2.2.trans hR.below.output,by have:=hR.below.size; omega,fun b hb=>?_⟩;rw[hor8 b (by omega) (by omega) (fun e=>by have:=(hR.ne b e.symm).1; omega)];exact hR.below.block b hb
 have hnew:W8.heap[W5.heap.size]?=some (.cells (bytesRow ⟨#[32,o,32]⟩ C) 5 fr):=by
  rw[ho78 _ (by omega),hW7,show W5.heap.size=W6.drew.heap.size from hz6.symm];exact heap_alloc_new _ _
 have hown8:iQ W8 9 1 v' (m+1) (lets (m+1)):=by
  have e:lets m++[.string ⟨#[o]⟩]=lets (m+1):=by rcases hm with⟨rfl,rfl⟩ | ⟨rfl,rfl⟩ <;> rfl
  rw[← e];refine iQ.kept (row:=some (w.heap.size+1)) h2 ⟨?_,?_,?_,by omega,fun k hk hne=>ho58 k hk (fun e=>hne (by rw[e]))⟩ (.inr ?_)
  ·rw[hW8,hW7,hW6]; rfl
  ·rw[hW8,hW7,hW6]; rfl
  ·rw[hW8,hW7,hW6]; rfl
  ·rcases h5 with h | h
   ·rw[h]; exact hnev.symm
   ·rw[h,h4s]; intro e; injection e with e; omega
 have hlt:∀ g,v'.ownBlock=some g->g<W5.heap.size:=fun g hg=>(h2.lt g hg).2;have hge:∀ g,v'.ownBlock=some g->w.heap.size<=g/\g≠w.heap.size+1:=fun g hg=>by
  rcases h5 with h | h
  ·have:=hR.ne g (h ▸ hg); exact⟨this.1,this.2.1⟩
  ·rw[h,h4s] at hg; injection hg with hg; subst hg; have:=hR.below.size; exact⟨by omega,by omega⟩
 have hlast:((T.setIfInBounds 256 v').setIfInBounds o.toNat (.slice (some ⟨W6.heap.size,0,none⟩) 3 C))[256]?=some v':=by
  rw[Array.getElem?_setIfInBounds_ne (by rcases hm with⟨_,rfl⟩ | ⟨_,rfl⟩ <;> decide),Array.getElem?_setIfInBounds_self_of_lt (by rw[hR.size]; decide)]
 have hent:∀ i,i<256->((T.setIfInBounds 256 v').setIfInBounds o.toNat (.slice (some ⟨W6.heap.size,0,none⟩) 3 C))[i]?=if i=o.toNat then some (.slice (some ⟨W6.heap.size,0,none⟩) 3 C) else some (tv m p1 c1 p2 c2 i):=fun i hi=>by
  by_cases h:i=o.toNat
  ·subst h;rw[if_pos rfl,Array.getElem?_setIfInBounds_self_of_lt (by rw[Array.size_setIfInBounds,hR.size]; omega)]
  ·rw[if_neg h,Array.getElem?_setIfInBounds_ne (Ne.symm h),Array.getElem?_setIfInBounds_ne (by omega),hR.ent i hi]
 rcases hm with⟨rfl,rfl⟩ | ⟨rfl,rfl⟩
 ·refine⟨W5.heap.size,C,0,0,_,hbelow,htab8,by rw[Array.size_setIfInBounds,Array.size_setIfInBounds,hR.size],hlast,fun i hi=>?_,hown8,fun g hg=>⟨(hge g hg).1,(hge g hg).2,fun _=>by have:=hlt g hg; omega,fun h=>absurd h (by omega)⟩,fun _=>⟨yD hnew,by have:=hR.below.size; omega,by omega⟩,fun h=>absurd h (by omega)⟩;rw[hent i hi,hz6,show (41:UInt8).toNat=41 from rfl];unfold tv;by_cases h:i=41
  ·rw[if_pos h,if_pos ⟨h,by omega⟩]
  ·rw[if_neg h,if_neg (fun e=>h e.1),if_neg (by omega),if_neg (by omega),if_neg (by omega)]
 ·obtain⟨hb1,hb2,hb3⟩:=hR.b1 (Nat.le_refl _);refine⟨p1,c1,W5.heap.size,C,_,hbelow,htab8,by rw[Array.size_setIfInBounds,Array.size_setIfInBounds,hR.size],hlast,fun i hi=>?_,hown8,fun g hg=>⟨(hge g hg).1,(hge g hg).2,fun _=>?_,fun _=>by have:=hlt g hg; omega⟩,fun _=>⟨?_,hb2,hb3⟩,fun _=>⟨yD hnew,by have:=hR.below.size; omega,by omega⟩⟩
  ·rw[hent i hi,hz6,show (40:UInt8).toNat=40 from rfl];unfold tv;by_cases h:i=40
   ·subst h;rw[if_pos rfl]; rfl
   ·rw[if_neg h];by_cases h2:i=41
    ·rw[if_pos ⟨h2,by omega⟩,if_pos ⟨h2,by omega⟩]
    ·rw[if_neg (fun e=>h2 e.1),if_neg (by omega),if_neg (fun e=>h2 e.1),if_neg (fun e=>h e.1)]
  ·rcases h5 with h | h
   ·exact (hR.ne g (h ▸ hg)).2.2.1 (by omega)
   ·rw[h,h4s] at hg; injection hg with hg; subst hg; have:=hb1.1; omega
  ·refine hb1.frame ?_ (by omega);exact hor8 p1 hb1.1 hb3 fun e=>(hR.ne p1 e.symm).2.2.1 (by omega) rfl
set_option maxHeartbeats 4000000 in
set_option maxRecDepth 100000 in
theorem wg (B RB RO c:Nat) (w:World) (h4:w.cell? ⟨B,4,none⟩=some (.slice (some ⟨RB,RO,none⟩) 4 c)) (hRB:RB<w.heap.size) (g0:w.cell? ⟨RB,RO,none⟩=some (.string ⟨#[40]⟩)) (g1:w.cell? ⟨RB,RO+1,none⟩=some (.string ⟨#[32,40,32]⟩)) (g2:w.cell? ⟨RB,RO+2,none⟩=some (.string ⟨#[41]⟩)) (g3:w.cell? ⟨RB,RO+3,none⟩=some (.string ⟨#[32,41,32]⟩)) :
  Calls Tryz.prog 182 #[.pointer (some ⟨B,0,none⟩)] w fun e w'=>e = .returned (.iface 318 (.pointer (some ⟨w.heap.size+1,0,none⟩)))/\∃ v T p1 c1 p2 c2,RT w w' 2 v T p1 c1 p2 c2:=by
 have hms:=P0;have hz:=PZ
 go_enter Tryz.func182,Tryz.ntmps182
 go_wp2
 go_loopg [4,5] 2 (fun g s4 s5 wr=>w=wr/\((s4 = .bool true/\s5 = .int .i64 0/\2<=g)\/(s4 = .bool false/\s5 = .int .i64 2/\1<=g)\/(s4 = .bool false/\s5 = .int .i64 4)))
 case atStart=>exact⟨rfl,.inl ⟨rfl,rfl,by omega⟩⟩
 case round =>
  obtain⟨rfl,⟨rfl,rfl,hg⟩ | ⟨rfl,rfl,hg⟩ | ⟨rfl,rfl⟩⟩:=hrel
  ·go_wp2
   go_roundg 1
   case measure=>omega
   case rel=>exact⟨rfl,.inr (.inl ⟨rfl,rfl,by omega⟩)⟩
  ·go_wp2
   go_roundg 0
   case measure=>omega
   case rel=>exact⟨rfl,.inr (.inr ⟨rfl,rfl⟩)⟩
  ·have hst:=Pq w (.cells #[.string ⟨#[]⟩,.string ⟨#[]⟩] 9) (some ⟨w.heap.size,0,none⟩) 0 2 (w.heap.size+1) rfl
   go_wp2
   go_loopg [12] 2 (fun g s12 wr=>∃ m v T p1 c1 p2 c2,m<=2/\2-m<=g/\s12 = .int .i64 (2-2 * (m:Int))/\RT w wr m v T p1 c1 p2 c2)
   case atStart =>
    refine⟨0,.slice (some ⟨w.heap.size,0,none⟩) 0 2,oT (.slice (some ⟨w.heap.size,0,none⟩) 0 2),0,0,0,0,by omega,by omega,rfl,⟨?_,?_,wV _,J4 _,fun i hi=>?_,?_,fun g hg=>?_,fun h=>absurd h (by omega),fun h=>absurd h (by omega)⟩⟩
    ·exact ((Below.refl _ w).alloc (Nat.le_refl _) _).alloc (by rw[World.size_alloc]; omega) _
    ·rw[show w.heap.size+1=(w.alloc (.cells #[.string ⟨#[]⟩,.string ⟨#[]⟩] 9)).heap.size by rw[World.size_alloc]];exact heap_alloc_new _ _
    ·rw[Ot _ hi]; unfold tv; rw[if_neg (by omega),if_neg (by omega)]
    ·refine⟨rfl,.inr ⟨w.heap.size,2,#[.string ⟨#[]⟩,.string ⟨#[]⟩],0,rfl,Nat.zero_le _,.of ?_,by omega,by unfold maxLen; omega,by decide,rfl⟩⟩;rw[heap_alloc_old _ _ (by rw[World.size_alloc]; omega)];exact heap_alloc_new _ _
    ·simp [Value.ownBlock] at hg;subst hg;exact⟨Nat.le_refl _,by omega,fun h=>absurd h (by omega),fun h=>absurd h (by omega)⟩
   case round =>
    obtain⟨m,v,T,p1,c1,p2,c2,hm,hgm,rfl,hR⟩:=hrel;rcases (show m=0\/m=1\/m=2 by omega) with rfl | rfl | rfl
    ·have gl:wr.cell? ⟨RB,RO+2,none⟩=some (.string ⟨#[41]⟩):=(nh hR.below hRB _).trans g2;have gn:wr.cell? ⟨RB,RO+3,none⟩=some (.string ⟨#[32,41,32]⟩):=(nh hR.below hRB _).trans g3;have ge:wr.cell? ⟨w.heap.size+1,41,none⟩=some (.slice none 0 0):=by rw[cell_of_row _ _ _ _ _ _ hR.tab,hR.ent 41 (by omega)]; rfl
     have gt:wr.cell? ⟨w.heap.size+1,256,none⟩=some v:=by rw[cell_of_row _ _ _ _ _ _ hR.tab,hR.last]
     have hn1:w.heap.size+1<wr.heap.size:=(Array.getElem?_eq_some_iff.1 hR.tab).1;have cv:(convert 156 9 (.slice (some ⟨wr.heap.size,0,none⟩) 1 1)).run Tryz.prog (wr.alloc (.cells #[.int .u8 41] 5)) = .ok (.string ⟨#[41]⟩) (wr.alloc (.cells #[.int .u8 41] 5)) :=
      run_convert_bytes_back (P:=Tryz.prog) _ 156 9 5 ⟨wr.heap.size,0,none⟩ 1 [41] Tryz.underlying156 Tryz.underlying5 Tryz.underlying9 (fun k hk=>by
       have:k=0:=by simpa using hk
       subst this;rw[World.cell?,show ((⟨wr.heap.size,0,none⟩:Addr).add 0).block=wr.heap.size from rfl,heap_alloc_new]; rfl)
     obtain⟨W4,hW4⟩:∃ W4,(wr.alloc (.cells #[.int .u8 41] 5)).alloc (.cells #[.string ⟨#[41]⟩] 9)=W4:=⟨_,rfl⟩;have hz4:W4.heap.size=wr.heap.size+2:=by rw[← hW4,World.size_alloc,World.size_alloc]
     have ho4:∀ b,b<wr.heap.size->W4.heap[b]?=wr.heap[b]? := fun b hb=>by
      rw[← hW4,heap_alloc_old _ _ (by rw[World.size_alloc]; omega),heap_alloc_old _ _ hb]
     obtain⟨ti,z,hti,hz9,hsize,hby,hzs⟩:=(eV Pr).ex;have hown4:iQ W4 9 1 v 0 (lets 0):=by rw[← hW4]; exact (hR.own.alloc _).alloc _
     obtain⟨v',W5,hr,h2,h3,_,h5⟩:=nR W4 27 27 9 ti z 1 ti.bytes Tryz.underlying27 hti hz9 hsize rfl hzs (by omega) v 0 (lets 0) hown4 ⟨wr.heap.size+1,0,none⟩ 1 1 [.string ⟨#[41]⟩] rfl (fun k u hk=>by
      cases k with
      | zero =>
       simp at hk;subst hk;rw[← hW4,World.cell?,show ((⟨wr.heap.size+1,0,none⟩:Addr).add 0).block=(wr.alloc (.cells #[.int .u8 41] 5)).heap.size by rw[World.size_alloc]; rfl,heap_alloc_new]; rfl
      | succ k=>simp at hk) (fun u hu=>by simp at hu; subst hu; rfl) (by unfold maxLen; omega) (by
      have:=M6;rw[hti] at this;have:ti.bytes=16:=by simpa using this
      rw[this]; omega)
     have hnev:some (w.heap.size+1)≠v.ownBlock:=fun e=>(hR.ne _ e.symm).2.1 rfl;have htab5:W5.heap[w.heap.size+1]?=some (.cells T 317):=by rw[h3.block _ (by omega) hnev,ho4 _ hn1,hR.tab]
     have ge5:(W5.cell? ⟨w.heap.size+1,256,none⟩)=some v:=by rw[cell_of_row _ _ _ _ _ _ htab5,hR.last]
     have gf5:W5.frozen? ⟨w.heap.size+1,256,none⟩=false:=by simp [World.frozen?,htab5]
     obtain⟨g',off',cap',hv'⟩:∃ g' off' cap',v' = .slice (some ⟨g',off',none⟩) 1 cap':=by
      rcases h2.2 with⟨_,hnil⟩ | ⟨g',cap',cur',off',hv',_⟩
      ·simp at hnil
      ·exact⟨g',off',cap',hv'⟩
     have hz5:wr.heap.size+2<=W5.heap.size:=by rw[← hz4]; exact h3.size
     have hz6:(W5.setCell ⟨w.heap.size+1,256,none⟩ v').heap.size=W5.heap.size:=size_set _ _ _;have htab6:(W5.setCell ⟨w.heap.size+1,256,none⟩ v').heap[w.heap.size+1]?=some (.cells (T.setIfInBounds 256 v') 317):=uH htab5 v';have cs0:=run_bytes_of_string (P:=Tryz.prog) (W5.setCell ⟨w.heap.size+1,256,none⟩ v') 9 156 5 ⟨#[32,41,32]⟩ Tryz.underlying9 Tryz.underlying156 Tryz.underlying5;obtain⟨C,hC⟩:∃ C,grownCap (W5.setCell ⟨w.heap.size+1,256,none⟩ v') (⟨#[32,41,32]⟩:ByteArray).size 0 5=C:=⟨_,rfl⟩;rw[hC,hz6] at cs0;obtain⟨fr,hfr⟩:∃ fr,((bytesRow ⟨#[32,41,32]⟩ C).size,(bytesRow ⟨#[32,41,32]⟩ C).size+1)=fr:=⟨_,rfl⟩;rw[hfr] at cs0;obtain⟨W7,hW7⟩:∃ W7,W7=(W5.setCell ⟨w.heap.size+1,256,none⟩ v').drew.alloc (.cells (bytesRow ⟨#[32,41,32]⟩ C) 5 fr):=⟨_,rfl⟩;rw[← hW7] at cs0;have cs:(convert 9 156 (.string ⟨#[32,41,32]⟩)).run Tryz.prog (W5.setCell ⟨w.heap.size+1,256,none⟩ v') = .ok (.slice (some ⟨W5.heap.size,0,none⟩) 3 C) W7:=cs0;have htab7:W7.heap[w.heap.size+1]?=some (.cells (T.setIfInBounds 256 v') 317):=by
      rw[hW7];exact (heap_alloc_old (W5.setCell ⟨w.heap.size+1,256,none⟩ v').drew _ (show w.heap.size+1<(W5.setCell ⟨w.heap.size+1,256,none⟩ v').heap.size by rw[hz6]; omega)).trans htab6
     have ge7:W7.cell? ⟨w.heap.size+1,41,none⟩=some (.slice none 0 0):=by
      rw[cell_of_row _ _ _ _ _ _ htab7,Array.getElem?_setIfInBounds_ne (by decide),hR.ent 41 (by omega)]; rfl
     have gf7:W7.frozen? ⟨w.heap.size+1,41,none⟩=false:=by simp [World.frozen?,htab7]
     have hfin:=Fo (o:=41) (C:=C) hR (by decide) hz4 ho4 (by rw[← hW4]; exact⟨rfl,rfl,rfl⟩) h3 h2 h5 rfl hW7 rfl;rw[hz6] at hfin;have HR:Aside (∃ p1' c1' p2' c2' T',RT w (W7.setCell ⟨w.heap.size+1,41,none⟩ (.slice (some ⟨W5.heap.size,0,none⟩) 3 C)) 1 v' T' p1' c1' p2' c2'):=hfin;rw[← hW4] at hr;have hnn:=nil_eq;have hi0:∀ h,(((⟨#[41]⟩:ByteArray)[0]'h).toNat:Int)=41:=fun _=>rfl;subst hv';clear hR hfin htab7 hW7 cs0 hC hfr htab6 htab5 h2 h3 h5 hown4 ho4 hW4 g0 g1 g2 g3 hz4 hz5 hz6 hnev hti hz9 hsize hby hzs h4
     go_wp2_with (at_builtin; refine Lib.wpList_append_run _ rfl _ _ _ _ rfl _ _ rfl rfl _ _ hr ?_)
     go_roundg 1
     case measure=>omega
     case rel =>
      obtain⟨p1',c1',p2',c2',T',hT⟩:=HR;exact⟨1,_,T',p1',c1',p2',c2',by omega,by omega,rfl,hT⟩
    ·have gl:wr.cell? ⟨RB,RO,none⟩=some (.string ⟨#[40]⟩):=(nh hR.below hRB _).trans g0;have gn:wr.cell? ⟨RB,RO+1,none⟩=some (.string ⟨#[32,40,32]⟩):=(nh hR.below hRB _).trans g1;have ge:wr.cell? ⟨w.heap.size+1,40,none⟩=some (.slice none 0 0):=by rw[cell_of_row _ _ _ _ _ _ hR.tab,hR.ent 40 (by omega)]; rfl
     have gt:wr.cell? ⟨w.heap.size+1,256,none⟩=some v:=by rw[cell_of_row _ _ _ _ _ _ hR.tab,hR.last]
     have hn1:w.heap.size+1<wr.heap.size:=(Array.getElem?_eq_some_iff.1 hR.tab).1;have cv:(convert 156 9 (.slice (some ⟨wr.heap.size,0,none⟩) 1 1)).run Tryz.prog (wr.alloc (.cells #[.int .u8 40] 5)) = .ok (.string ⟨#[40]⟩) (wr.alloc (.cells #[.int .u8 40] 5)) :=
      run_convert_bytes_back (P:=Tryz.prog) _ 156 9 5 ⟨wr.heap.size,0,none⟩ 1 [40] Tryz.underlying156 Tryz.underlying5 Tryz.underlying9 (fun k hk=>by
       have:k=0:=by simpa using hk
       subst this;rw[World.cell?,show ((⟨wr.heap.size,0,none⟩:Addr).add 0).block=wr.heap.size from rfl,heap_alloc_new]; rfl)
     obtain⟨W4,hW4⟩:∃ W4,(wr.alloc (.cells #[.int .u8 40] 5)).alloc (.cells #[.string ⟨#[40]⟩] 9)=W4:=⟨_,rfl⟩;have hz4:W4.heap.size=wr.heap.size+2:=by rw[← hW4,World.size_alloc,World.size_alloc]
     have ho4:∀ b,b<wr.heap.size->W4.heap[b]?=wr.heap[b]? := fun b hb=>by
      rw[← hW4,heap_alloc_old _ _ (by rw[World.size_alloc]; omega),heap_alloc_old _ _ hb]
     obtain⟨ti,z,hti,hz9,hsize,hby,hzs⟩:=(eV Pr).ex;have hown4:iQ W4 9 1 v 1 (lets 1):=by rw[← hW4]; exact (hR.own.alloc _).alloc _
     obtain⟨v',W5,hr,h2,h3,_,h5⟩:=nR W4 27 27 9 ti z 1 ti.bytes Tryz.underlying27 hti hz9 hsize rfl hzs (by omega) v 1 (lets 1) hown4 ⟨wr.heap.size+1,0,none⟩ 1 1 [.string ⟨#[40]⟩] rfl (fun k u hk=>by
      cases k with
      | zero =>
       simp at hk;subst hk;rw[← hW4,World.cell?,show ((⟨wr.heap.size+1,0,none⟩:Addr).add 0).block=(wr.alloc (.cells #[.int .u8 40] 5)).heap.size by rw[World.size_alloc]; rfl,heap_alloc_new]; rfl
      | succ k=>simp at hk) (fun u hu=>by simp at hu; subst hu; rfl) (by unfold maxLen; omega) (by
      have:=M6;rw[hti] at this;have:ti.bytes=16:=by simpa using this
      rw[this]; omega)
     have hnev:some (w.heap.size+1)≠v.ownBlock:=fun e=>(hR.ne _ e.symm).2.1 rfl;have htab5:W5.heap[w.heap.size+1]?=some (.cells T 317):=by rw[h3.block _ (by omega) hnev,ho4 _ hn1,hR.tab]
     have ge5:(W5.cell? ⟨w.heap.size+1,256,none⟩)=some v:=by rw[cell_of_row _ _ _ _ _ _ htab5,hR.last]
     have gf5:W5.frozen? ⟨w.heap.size+1,256,none⟩=false:=by simp [World.frozen?,htab5]
     obtain⟨g',off',cap',hv'⟩:∃ g' off' cap',v' = .slice (some ⟨g',off',none⟩) 2 cap':=by
      rcases h2.2 with⟨_,hnil⟩ | ⟨g',cap',cur',off',hv',_⟩
      ·simp at hnil
      ·exact⟨g',off',cap',hv'⟩
     have hz5:wr.heap.size+2<=W5.heap.size:=by rw[← hz4]; exact h3.size
     have hz6:(W5.setCell ⟨w.heap.size+1,256,none⟩ v').heap.size=W5.heap.size:=size_set _ _ _;have htab6:(W5.setCell ⟨w.heap.size+1,256,none⟩ v').heap[w.heap.size+1]?=some (.cells (T.setIfInBounds 256 v') 317):=uH htab5 v';have cs0:=run_bytes_of_string (P:=Tryz.prog) (W5.setCell ⟨w.heap.size+1,256,none⟩ v') 9 156 5 ⟨#[32,40,32]⟩ Tryz.underlying9 Tryz.underlying156 Tryz.underlying5;obtain⟨C,hC⟩:∃ C,grownCap (W5.setCell ⟨w.heap.size+1,256,none⟩ v') (⟨#[32,40,32]⟩:ByteArray).size 0 5=C:=⟨_,rfl⟩;rw[hC,hz6] at cs0;obtain⟨fr,hfr⟩:∃ fr,((bytesRow ⟨#[32,40,32]⟩ C).size,(bytesRow ⟨#[32,40,32]⟩ C).size+1)=fr:=⟨_,rfl⟩;rw[hfr] at cs0;obtain⟨W7,hW7⟩:∃ W7,W7=(W5.setCell ⟨w.heap.size+1,256,none⟩ v').drew.alloc (.cells (bytesRow ⟨#[32,40,32]⟩ C) 5 fr):=⟨_,rfl⟩;rw[← hW7] at cs0;have cs:(convert 9 156 (.string ⟨#[32,40,32]⟩)).run Tryz.prog (W5.setCell ⟨w.heap.size+1,256,none⟩ v') = .ok (.slice (some ⟨W5.heap.size,0,none⟩) 3 C) W7:=cs0;have htab7:W7.heap[w.heap.size+1]?=some (.cells (T.setIfInBounds 256 v') 317):=by
      rw[hW7];exact (heap_alloc_old (W5.setCell ⟨w.heap.size+1,256,none⟩ v').drew _ (show w.heap.size+1<(W5.setCell ⟨w.heap.size+1,256,none⟩ v').heap.size by rw[hz6]; omega)).trans htab6
     have ge7:W7.cell? ⟨w.heap.size+1,40,none⟩=some (.slice none 0 0):=by
      rw[cell_of_row _ _ _ _ _ _ htab7,Array.getElem?_setIfInBounds_ne (by decide),hR.ent 40 (by omega)]; rfl
     have gf7:W7.frozen? ⟨w.heap.size+1,40,none⟩=false:=by simp [World.frozen?,htab7]
     have hfin:=Fo (o:=40) (C:=C) hR (by decide) hz4 ho4 (by rw[← hW4]; exact⟨rfl,rfl,rfl⟩) h3 h2 h5 rfl hW7 rfl;rw[hz6] at hfin;have HR:Aside (∃ p1' c1' p2' c2' T',RT w (W7.setCell ⟨w.heap.size+1,40,none⟩ (.slice (some ⟨W5.heap.size,0,none⟩) 3 C)) 2 v' T' p1' c1' p2' c2'):=hfin;rw[← hW4] at hr;have hnn:=nil_eq;have hi0:∀ h,(((⟨#[40]⟩:ByteArray)[0]'h).toNat:Int)=40:=fun _=>rfl;subst hv';clear hR hfin htab7 hW7 cs0 hC hfr htab6 htab5 h2 h3 h5 hown4 ho4 hW4 g0 g1 g2 g3 hz4 hz5 hz6 hnev hti hz9 hsize hby hzs h4
     go_wp2_with (at_builtin; refine Lib.wpList_append_run _ rfl _ _ _ _ rfl _ _ rfl rfl _ _ hr ?_)
     go_roundg 0
     case measure=>omega
     case rel =>
      obtain⟨p1',c1',p2',c2',T',hT⟩:=HR;exact⟨2,_,T',p1',c1',p2',c2',by omega,by omega,rfl,hT⟩
    ·go_wp2
     go_ret
     exact⟨rfl,v,T,p1,c1,p2,c2,hR⟩
end Go.Proofs.YtkpefpjpadahiaaGreatDoor
namespace Go.Proofs.YtkpefpjpadahiaaGreatDoor
open Go.Lad Go.Proofs Go.RowKit
def TB (w:World) (N lo:Nat):Prop := ∃ g off cap p1 c1 p2 c2,N<w.heap.size/\w.cell? ⟨N,256,none⟩=some (.slice (some ⟨g,off,none⟩) 2 cap)/\w.cell? ⟨g,off,none⟩=some (.string ⟨#[41]⟩)/\w.cell? ⟨g,off+1,none⟩=some (.string ⟨#[40]⟩) /\
 (∀ i,i<256->w.cell? ⟨N,i,none⟩=some (tv 2 p1 c1 p2 c2 i))/\lE w p1 [32,41,32]/\lE w p2 [32,40,32]/\lo<=N/\lo<=g/\g<w.heap.size/\lo<=p1/\lo<=p2
theorem TB.frame {w w':World} {N lo:Nat} (h:TB w N lo) (hb:∀ b,lo<=b->b<w.heap.size->w'.heap[b]?=w.heap[b]?) (hs:w.heap.size<=w'.heap.size):TB w' N lo:=by
 obtain⟨g,off,cap,p1,c1,p2,c2,h1,h2,h3,h4,h5,h6,h7,h8,h9,h10,h11,h12⟩:=h;have cl:∀ b o,lo<=b->b<w.heap.size->w'.cell? ⟨b,o,none⟩=w.cell? ⟨b,o,none⟩:=fun b o h1 h2=>by simp only[World.cell?,hb b h1 h2]
 exact⟨g,off,cap,p1,c1,p2,c2,by omega,(cl _ _ h8 h1).trans h2,(cl _ _ h9 h10).trans h3,(cl _ _ h9 h10).trans h4,fun i hi=>(cl _ _ h8 h1).trans (h5 i hi),h6.frame (hb _ h11 h6.1) hs,h7.frame (hb _ h12 h7.1) hs,h8,h9,by omega,h11,h12⟩
theorem RT.tb {w w':World} {v:Value} {T:Array Value} {p1 c1 p2 c2:Nat} (h:RT w w' 2 v T p1 c1 p2 c2):TB w' (w.heap.size+1) w.heap.size:=by
 obtain⟨g,cap,cur,off,hv,hgc⟩:∃ g cap cur off,v = .slice (some ⟨g,off,none⟩) 2 cap/\True:=by
  rcases h.own.2 with⟨_,hn⟩ | ⟨g,cap,cur,off,hv,_⟩
  ·simp [lets] at hn
  ·exact⟨g,cap,cur,off,hv,trivial⟩
 subst hv;obtain⟨b1,b2,_⟩:=h.b1 (by omega);obtain⟨d1,d2,_⟩:=h.b2 (by omega);have hc:=h.own.cells (g:=g) rfl;have ho:mu (.slice (some ⟨g,off,none⟩) 2 cap)=off:=rfl;rw[ho] at hc;have c0:=hc 0 (.string ⟨#[41]⟩) rfl;have c1':=hc 1 (.string ⟨#[40]⟩) rfl;have hne:=h.ne g rfl;have hgl:=(h.own.lt g rfl).2;refine⟨g,off,cap,p1,c1,p2,c2,(Array.getElem?_eq_some_iff.1 h.tab).1,by rw[cell_of_row _ _ _ _ _ _ h.tab]; exact h.last,?_,?_,fun i hi=>by rw[cell_of_row _ _ _ _ _ _ h.tab]; exact h.ent i hi,b1,d1,by omega,hne.1,hgl,b2,d2⟩
 ·have e:(⟨g,off,none⟩:Addr).add 0=⟨g,off,none⟩:=by rw[Addr.add_lit]; rfl
  rwa [e] at c0
 ·rw[Addr.add_lit] at c1'; exact c1'
structure RD (w w':World) (B:Nat) (x0 x1 x2:Value):Prop where
 box:Blk w' B 249 #[x0,x1,x2,.iface 318 (.pointer (some ⟨w.heap.size+1,0,none⟩)),.slice none 0 0]
 old:∀ b,b<w.heap.size->b≠B->w'.heap[b]?=w.heap[b]?
 os:w'.os=w.os/\w'.tape=w.tape/\w'.output=w.output
 size:w.heap.size<=w'.heap.size
 tb:TB w' (w.heap.size+1) w.heap.size
set_option maxHeartbeats 4000000 in
set_option maxRecDepth 100000 in
theorem MB (B RB RO c:Nat) (x0 x1 x2 x3:Value) (w:World) (hB:Blk w B 249 #[x0,x1,x2,x3,.slice (some ⟨RB,RO,none⟩) 4 c]) (hRB:RB<w.heap.size) (g0:w.cell? ⟨RB,RO,none⟩=some (.string ⟨#[40]⟩)) (g1:w.cell? ⟨RB,RO+1,none⟩=some (.string ⟨#[32,40,32]⟩)) (g2:w.cell? ⟨RB,RO+2,none⟩=some (.string ⟨#[41]⟩)) (g3:w.cell? ⟨RB,RO+3,none⟩=some (.string ⟨#[32,41,32]⟩)) :
  Calls Tryz.prog 149 #[.pointer (some ⟨B,0,none⟩)] w fun e w'=>e = .returned (.tuple #[])/\RD w w' B x0 x1 x2:=by
 have hb:=wg B RB RO c w (by rw[hB.cell]; rfl) hRB g0 g1 g2 g3;clear g0 g1 g2 g3;have fin:∀ W v T p1 c1 p2 c2,RT w W 2 v T p1 c1 p2 c2->W.cell? ⟨B,3,none⟩=some x3/\W.frozen? ⟨B,3,none⟩=false/\W.cell? ⟨B,4,none⟩=some (.slice (some ⟨RB,RO,none⟩) 4 c)/\W.frozen? ⟨B,4,none⟩=false /\
   RD w ((W.setCell ⟨B,3,none⟩ (.iface 318 (.pointer (some ⟨w.heap.size+1,0,none⟩)))).setCell ⟨B,4,none⟩ (.slice none 0 0)) B x0 x1 x2:=fun W v T p1 c1 p2 c2 h=>by
  have hB':Blk W B 249 #[x0,x1,x2,x3,.slice (some ⟨RB,RO,none⟩) 4 c]:=hB.below h.below hB.lt;have hlt:=hB.lt;refine⟨by rw[hB'.cell]; rfl,hB'.frozen _,by rw[hB'.cell]; rfl,hB'.frozen _,?_,fun b hb hne=>?_,?_,?_,?_⟩
  ·exact (hB'.Hc 3 _).Hc 4 _
  ·rw[Below.heap_setCell _ _ _ b hne,Below.heap_setCell _ _ _ b hne]; exact h.below.block b hb
  ·exact⟨h.below.os,h.below.tape,h.below.output⟩
  ·rw[size_set,size_set]; exact h.below.size
  ·refine h.tb.frame (fun b h1 _=>?_) (by rw[size_set,size_set]; exact Nat.le_refl _);rw[Below.heap_setCell _ _ _ b (by show b≠B; omega),Below.heap_setCell _ _ _ b (by show b≠B; omega)]
 clear hB hRB
 go_enter Tryz.func149,Tryz.ntmps149
 go_wp2_with (go_at_call 182; refine hb.mono ?_; rintro e w' ⟨rfl,v,T,p1,c1,p2,c2,hT⟩; obtain⟨e1,e2,e3,e4,hD⟩:=fin _ _ _ _ _ _ _ hT; clear fin hb hT)
 go_end0
 exact⟨rfl,hD⟩
end Go.Proofs.YtkpefpjpadahiaaGreatDoor
namespace Go.Proofs.YtkpefpjpadahiaaGreatDoor
open Go.Lad Go.Proofs Go.RowKit
theorem RD.J5 {w w1 w2:World} {B:Nat} {x0 x1 x2:Value} {i:Nat} {u:Value} (h:RD w1 w2 B x0 x1 x2) (h1:w1=w.setCell ⟨B,i,none⟩ u):RD w w2 B x0 x1 x2:=by
 have hs:w1.heap.size=w.heap.size:=by rw[h1,size_set]
 refine⟨by rw[← hs]; exact h.box,fun b hb hne=>?_,?_,by rw[← hs]; exact h.size,by rw[← hs]; exact h.tb⟩
 ·rw[h.old b (by omega) hne,h1,Below.heap_setCell _ _ _ b hne]
 ·have:=h.os; rw[h1] at this; exact this
theorem RD.yE {w w2 w3:World} {B:Nat} {x0 x1 x2 y0 y1 y2:Value} {i:Nat} {u:Value} (h:RD w w2 B x0 x1 x2) (hB:B<w.heap.size) (h3:w3=w2.setCell ⟨B,i,none⟩ u)
  (hc : #[x0,x1,x2,.iface 318 (.pointer (some ⟨w.heap.size+1,0,none⟩)),.slice none 0 0].setIfInBounds i u = #[y0,y1,y2,.iface 318 (.pointer (some ⟨w.heap.size+1,0,none⟩)),.slice none 0 0]):RD w w3 B y0 y1 y2:=by
 subst h3;refine⟨by rw[← hc]; exact h.box.Hc i u,fun b hb hne=>?_,h.os,by rw[size_set]; exact h.size,h.tb.frame (fun b hb _=>?_) (by rw[size_set]; exact Nat.le_refl _)⟩
 ·rw[Below.heap_setCell _ _ _ b hne]; exact h.old b hb hne
 ·rw[Below.heap_setCell _ _ _ b (by show b≠B; omega)]
theorem RD.drew {w w2:World} {B:Nat} {x0 x1 x2:Value} (h:RD w w2 B x0 x1 x2):RD w w2.drew B x0 x1 x2:=⟨h.box,h.old,h.os,h.size,h.tb.frame (fun _ _ _=>rfl) (Nat.le_refl _)⟩
set_option maxHeartbeats 4000000 in
set_option maxRecDepth 100000 in
theorem MC (B RB RO c:Nat) (x2 x3:Value) (w:World) (hB:Blk w B 249 #[.int .u32 0,.int .i32 0,x2,x3,.slice (some ⟨RB,RO,none⟩) 4 c]) (hRB:RB<w.heap.size) (hne:RB≠B) (g0:w.cell? ⟨RB,RO,none⟩=some (.string ⟨#[40]⟩)) (g1:w.cell? ⟨RB,RO+1,none⟩=some (.string ⟨#[32,40,32]⟩)) (g2:w.cell? ⟨RB,RO+2,none⟩=some (.string ⟨#[41]⟩)) (g3:w.cell? ⟨RB,RO+3,none⟩=some (.string ⟨#[32,41,32]⟩)) :
  Calls Tryz.prog 181 #[.pointer (some ⟨B,0,none⟩),.func (.func 149) #[.pointer (some ⟨B,0,none⟩)] #[]] w fun e w'=>e = .returned (.tuple #[])/\RD w w' B (.int .u32 1) (.int .i32 0) x2:=by
 have hlt:=hB.lt;have hB1:Blk (w.setCell ⟨B,1,none⟩ (.int .i32 1)) B 249 #[.int .u32 0,.int .i32 1,x2,x3,.slice (some ⟨RB,RO,none⟩) 4 c]:=hB.Hc 1 _;have gc:∀ o,(w.setCell ⟨B,1,none⟩ (.int .i32 1)).cell? ⟨RB,o,none⟩=w.cell? ⟨RB,o,none⟩:=fun o=>by simp only[World.cell?,Below.heap_setCell w ⟨B,1,none⟩ _ RB hne]
 have hl:=Pp B 1 w (by rw[hB.cell]; rfl) (hB.frozen _);have hd:=ux B 0 0 (w.setCell ⟨B,1,none⟩ (.int .i32 1)) (by rw[hB1.cell]; rfl);have ho:=MB B RB RO c _ _ _ _ _ hB1 (by rw[size_set]; exact hRB) ((gc _).trans g0) ((gc _).trans g1) ((gc _).trans g2) ((gc _).trans g3);have hnot:∀ (x:Bool) (w:World),(Op.unary .not (.bool x)).run Tryz.prog w = .ok (.bool (!x)) w:=fun _ _=>rfl;have fin:∀ w2,RD (w.setCell ⟨B,1,none⟩ (.int .i32 1)) w2 B (.int .u32 0) (.int .i32 1) x2->w2.cell? ⟨B,0,none⟩=some (.int .u32 0)/\w2.frozen? ⟨B,0,none⟩=false/\(w2.drew.setCell ⟨B,0,none⟩ (.int .u32 1)).cell? ⟨B,1,none⟩=some (.int .i32 1)/\(w2.drew.setCell ⟨B,0,none⟩ (.int .u32 1)).frozen? ⟨B,1,none⟩=false /\
   RD w ((w2.drew.setCell ⟨B,0,none⟩ (.int .u32 1)).setCell ⟨B,1,none⟩ (.int .i32 0)) B (.int .u32 1) (.int .i32 0) x2:=fun w2 h=>by
  have h':=h.J5 rfl;have h3:RD w (w2.drew.setCell ⟨B,0,none⟩ (.int .u32 1)) B (.int .u32 1) (.int .i32 1) x2:=h'.drew.yE hlt rfl rfl;exact⟨by rw[h.box.cell]; rfl,h.box.frozen _,by rw[h3.box.cell]; rfl,h3.box.frozen _,h3.yE hlt rfl rfl⟩
 clear hB hB1 gc g0 g1 g2 g3 hRB hne
 go_enter_defers Tryz.func181,Tryz.ntmps181
 go_wp2_with (first | (go_at_call 216; refine hl.mono ?_; rintro e w' ⟨rfl,rfl⟩) | (go_at_call 180; refine hd.mono ?_; rintro e w' ⟨rfl,rfl⟩) | (go_at_call 149; refine ho.mono ?_; rintro e w' ⟨rfl,hD⟩; clear ho))
 obtain⟨e1,e2,e3,e4,hE⟩:=fin _ hD;clear fin hD
 go_wp2
 refine leaves_cons (f:=218) (args := #[.pointer (some ⟨B,0,none⟩),.bool true]) (by simp) (by simp [go_sem]) ?_;refine (Mz B 0 (.int .u32 0) .returning _ e1 e2).mono ?_;rintro e u' w'' ⟨rfl,rfl,rfl⟩;refine leaves_cons (f:=217) (args := #[.pointer (some ⟨B,1,none⟩)]) (by simp [settle]) (by simp [go_sem]) ?_;refine (J3 B 1 _ _ e3 e4).mono ?_;rintro e u' w'' ⟨rfl,rfl,rfl⟩;simp [Leaves,settle,results,Tryz.results181];exact hE
set_option maxHeartbeats 4000000 in
set_option maxRecDepth 100000 in
theorem Ps (B RB RO c:Nat) (x2 x3:Value) (w:World) (hB:Blk w B 249 #[.int .u32 0,.int .i32 0,x2,x3,.slice (some ⟨RB,RO,none⟩) 4 c]) (hRB:RB<w.heap.size) (hne:RB≠B) (g0:w.cell? ⟨RB,RO,none⟩=some (.string ⟨#[40]⟩)) (g1:w.cell? ⟨RB,RO+1,none⟩=some (.string ⟨#[32,40,32]⟩)) (g2:w.cell? ⟨RB,RO+2,none⟩=some (.string ⟨#[41]⟩)) (g3:w.cell? ⟨RB,RO+3,none⟩=some (.string ⟨#[32,41,32]⟩)) :
  Calls Tryz.prog 148 #[.pointer (some ⟨B,0,none⟩),.func (.func 149) #[.pointer (some ⟨B,0,none⟩)] #[]] w fun e w'=>e = .returned (.tuple #[])/\RD w w' B (.int .u32 1) (.int .i32 0) x2:=by
 have hs:=MC B RB RO c x2 x3 w hB hRB hne g0 g1 g2 g3;have hd:=ux B 0 0 w (by rw[hB.cell]; rfl);have hnot:∀ (x:Bool) (w:World),(Op.unary .not (.bool x)).run Tryz.prog w = .ok (.bool (!x)) w:=fun _ _=>rfl;clear hB g0 g1 g2 g3 hRB hne
 go_enter Tryz.func148,Tryz.ntmps148
 go_wp2_with (first | (go_at_call 180; refine hd.mono ?_; rintro e w' ⟨rfl,rfl⟩) | (go_at_call 181; refine hs.mono ?_; rintro e w' ⟨rfl,hD⟩; clear hs))
 go_end0
 exact⟨rfl,hD⟩
end Go.Proofs.YtkpefpjpadahiaaGreatDoor
namespace Go.Proofs.YtkpefpjpadahiaaGreatDoor
open Go.Lad Go.Proofs Go.RowKit
def mT (c:UInt8):Bool:=Nat.beq c.toNat 40 || Nat.beq c.toNat 41
theorem Fp (c:UInt8):(rp1 c).length=if mT c=true then 3 else 1:=by
 unfold rp1 mT;cases Nat.beq c.toNat 40 <;> cases Nat.beq c.toNat 41 <;> rfl
theorem z6 {c:UInt8} (h:mT c=false):rp1 c=[c]:=by
 unfold mT at h;rw[Bool.or_eq_false_iff] at h;unfold rp1;rw[h.1,h.2]; rfl
def kX (l:Bs) (k:Nat):Nat:=(l.take k).countP mT
theorem tu (l:Bs) {k:Nat} (h:k<l.length):kX l (k+1)=kX l k+if mT l[k]=true then 1 else 0:=by
 unfold kX;rw[List.take_succ_eq_append_getElem h,List.countP_append,List.countP_singleton]
theorem z7 (l:Bs) (k:Nat):kX l k<=k:=Nat.le_trans List.countP_le_length (by rw[List.length_take]; omega)
theorem tw (l:Bs):∀ (d k:Nat),k+d<=l.length->kX l k<=kX l (k+d)
 | 0,_,_=>Nat.le_refl _
 | d+1,k,h=>by
  refine Nat.le_trans (tw l d k (by omega)) ?_;rw[show k+(d+1)=k+d+1 by omega,tu l (by omega)];omega
theorem sk (l:Bs):∀ k,k<=l.length->((l.take k).flatMap rp1).length=k+2 * kX l k
 | 0,_=>by simp [kX]
 | k+1,h=>by
  rw[tu l (by omega),List.take_succ_eq_append_getElem (by omega),List.flatMap_append,List.length_append,sk l k (by omega),List.flatMap_singleton,Fp];split <;> omega
theorem Cp (l:Bs) (h:kX l l.length=0):l.flatMap rp1=l:=by
 unfold kX at h;rw[List.take_length,List.countP_eq_zero] at h;have:∀ m:Bs,(∀ c∈m,¬ mT c=true)->m.flatMap rp1=m:=by
  intro m;induction m with
  | nil=>intro _; rfl
  | cons c m ih =>
   intro hm;rw[List.flatMap_cons,z6 (by simpa using hm c List.mem_cons_self),ih fun d hd=>hm d (List.mem_cons_of_mem _ hd)];rfl
 exact this l h
theorem G8 (l:Bs):kX l l.length=l.count 41+l.count 40:=by
 unfold kX;rw[List.take_length];induction l with
 | nil=>rfl
 | cons c l ih =>
  rw[List.countP_cons,List.count_cons,List.count_cons,ih];have e:mT c=true↔c=41\/c=40:=by
   unfold mT;rw[Bool.or_eq_true];constructor
   ·rintro (h | h)
    ·exact .inr (UInt8.toNat_inj.1 (Nat.eq_of_beq_eq_true h))
    ·exact .inl (UInt8.toNat_inj.1 (Nat.eq_of_beq_eq_true h))
   ·rintro (rfl | rfl)
    ·exact .inr rfl
    ·exact .inl rfl
  by_cases h1:c=41
  ·subst h1; simp [e]; omega
  ·by_cases h2:c=40
   ·subst h2; simp [e]; omega
   ·rw[if_neg (by rw[e]; simp [h1,h2])];simp [h1,h2]
structure RW (w wr:World) (N p1 c1 p2 c2:Nat):Prop where
 below:Below w.heap.size w wr
 e40:wr.cell? ⟨N,40,none⟩=some (.slice (some ⟨p2,0,none⟩) 3 c2)
 e41:wr.cell? ⟨N,41,none⟩=some (.slice (some ⟨p1,0,none⟩) 3 c1)
 e0:∀ R,R<256->R≠40->R≠41->wr.cell? ⟨N,R,none⟩=some (.slice none 0 0)
 b1:lE wr p1 [32,41,32]
 b2:lE wr p2 [32,40,32]
 lt:N<wr.heap.size
theorem RW.drewN {w wr:World} {N p1 c1 p2 c2:Nat} (h:RW w wr N p1 c1 p2 c2) (q:Nat):RW w (wr.drewN q) N p1 c1 p2 c2:=⟨⟨h.below.os,h.below.tape,h.below.output,h.below.size,h.below.block⟩,h.e40,h.e41,h.e0,h.b1,h.b2,h.lt⟩
theorem sn {w wr:World} {h N:Nat} {acc:List UInt8} (b:Lib.Buf w wr h N acc):Lib.Buf w wr.drew h N acc:=⟨⟨b.below.os,b.below.tape,b.below.output,b.below.size,b.below.block⟩,b.there,b.free,b.holds,b.fits⟩
theorem Fq {w wr:World} {h N:Nat} {acc:List UInt8} {x:UInt8} (b:Lib.Buf w wr h N acc) (hh:w.heap.size<=h) (hl:acc.length<N):Lib.Buf w (wr.setCell ⟨h,acc.length,none⟩ (.int .u8 (x.toNat:Int))) h N (acc++[x]):=by
 have hs:=b.there acc.length hl;refine⟨b.below.setCell (p:=⟨h,acc.length,none⟩) (Nat.le_refl _) _,fun j hj=>?_,fun j hj=>?_,fun j y hy=>?_,by rw[List.length_append]; exact hl⟩
 ·by_cases e:j=acc.length
  ·subst e;rw[World.cell?_setCell_same' _ _ _ hs]; rfl
  ·rw[World.cell?_setCell_other _ _ _ _ (by intro h; injection h with _ h _; exact e h.symm)]; exact b.there j hj
 ·rw[World.frozen?_setCell]; exact b.free j hj
 ·by_cases e:j=acc.length
  ·subst e;rw[World.cell?_setCell_same' _ _ _ hs];rw[List.getElem?_append_right (Nat.le_refl _),Nat.sub_self] at hy;simp at hy;rw[hy]
  ·rw[World.cell?_setCell_other _ _ _ _ (by intro h; injection h with _ h _; exact e h.symm)];have:j<acc.length:=by
    have:=(List.getElem?_eq_some_iff.1 hy).1;rw[List.length_append] at this;simp at this; omega
   rw[List.getElem?_append_left this] at hy;exact b.holds j y hy
theorem M7 (w:World) (m:Nat) (hm:m<=10000000) (x:Int) (hx:x=m):∃ Z:Array Value,Z.size=m/\(Instr.makeSlice 156 (.int .i64 x) (.int .i64 x)).run Tryz.prog w = .ok (.slice (some ⟨w.heap.size,0,none⟩) m m) (w.alloc (.cells Z 5)):=by
 subst hx;obtain⟨ti,hti⟩:∃ ti,Tryz.prog.info? 5=some ti:=Option.isSome_iff_exists.1 (by kernel_rfl);have hz:((Tryz.prog.info? 5).bind (·.zero))=some (.int .u8 0):=by kernel_rfl
 have hs:(Tryz.prog.info? 5).map (·.size)=some 1:=by kernel_rfl
 have hb:(Tryz.prog.info? 5).map (·.bytes)=some 1:=by kernel_rfl
 rw[hti] at hz hs hb;have hz:ti.zero=some (.int .u8 0):=hz;have hs:ti.size=1:=by simpa using hs
 have hb:ti.bytes=1:=by simpa using hb
 have:=run_makeSlice (P:=Tryz.prog) w 156 5 ti (.int .u8 0) Tryz.underlying156 hti hz .i64 .i64 m m (by omega) (by omega) (by rw[hs]; simp; omega) (by rw[hb]; omega) (by omega);rw[hs] at this;exact⟨_,by rw[size_madeCells]; simp,this⟩
theorem Fs (w:World):(Go.sizeOf 5).run Tryz.prog w = .ok 1 w:=Tryz.sizeOf5 w
theorem Ft:(Tryz.prog.info? 5).map (·.size)=some 1:=by kernel_rfl
set_option maxHeartbeats 4000000 in
set_option maxRecDepth 100000 in
theorem J6 (N lo:Nat) (s:ByteArray) (w:World) (hT:TB w N lo) (hs:s.size<=1000000) (h16:s.size<16) :
  Calls Tryz.prog 339 #[.pointer (some ⟨N,0,none⟩),.string s] w fun e w'=>e = .returned (.string (mkS (s.data.toList.flatMap rp1)))/\Below w.heap.size w w':=by
 have mixed:Tryz.prog.follows .mixedOrders=true:=by kernel_rfl
 obtain⟨g,off,cap,p1,c1,p2,c2,hN,t256,tg0,tg1,tent,tb1,tb2,_,_,_,_,_⟩:=hT;obtain⟨n,hn⟩:∃ n,s.size=n:=⟨_,rfl⟩;have hsl:s.data.toList.length=n:=by rw[← hn]; rfl
 have H:Aside (s.size=n/\s.data.toList.length=n):=⟨hn,hsl⟩;have h16':¬ ((16:Int)<=(n:Int)):=by omega
 have hW0:RW w w N p1 c1 p2 c2:=⟨Below.refl _ _,tent 40 (by omega),tent 41 (by omega),fun R h h1 h2=>by rw[tent R h]; unfold tv; rw[if_neg (by omega),if_neg (by omega)],tb1,tb2,hN⟩;have HW0:Aside (RW w w N p1 c1 p2 c2):=hW0;clear tent hW0;have hs:n<=1000000:=by omega
 obtain⟨L,hL⟩:∃ L,s.data.toList=L:=⟨_,rfl⟩;have HL:Aside (s.data.toList=L):=hL;rw[hL] at hsl H ⊢;clear hL;clear hsl
 go_enter Tryz.func339,Tryz.ntmps339
 go_wp2
 go_loopg [5,6,10] n (fun g s5 s6 s10 wr=>∃ k:Nat,k<=n/\n-k<=g/\s5 = .int .i64 ((n:Int)+2 * (kX L k:Int))/\s6 = .bool (decide (kX L k≠0))/\s10 = .int .i64 (k:Int)/\RW w wr N p1 c1 p2 c2)
 case atStart=>exact⟨0,by omega,by omega,by simp [kX],by simp [kX],rfl,HW0⟩
 case round =>
  obtain⟨k,hk,hg,rfl,rfl,rfl,hW⟩:=hrel;by_cases hlt:k<n
  ·have hkL:k<L.length:=by rw[H.2]; exact hlt
   obtain⟨b,hb⟩:∃ b,L[k]=b:=⟨_,rfl⟩;have hix:∀ h,(s[k]'h)=b:=fun h=>by
    rw[← hb];have:=HL;unfold Aside at this;subst this;rfl
   have hpar:=tu L hkL;rw[hb] at hpar;have hcl:=z7 L k;obtain⟨R,hR⟩:∃ R,b.toNat=R:=⟨_,rfl⟩;have hR256:R<256:=by rw[← hR]; exact b.toNat_lt
   have HW:Aside (RW w wr N p1 c1 p2 c2):=hW;have e40:=hW.e40;have e41:=hW.e41;have e0:R≠40->R≠41->wr.cell? ⟨N,R,none⟩=some (.slice none 0 0):=hW.e0 R hR256;clear hW;have hisp:mT b=(Nat.beq R 40 || Nat.beq R 41):=by unfold mT; rw[hR]
   obtain⟨q,hq⟩:∃ q,kX L k=q:=⟨_,rfl⟩;rw[hq] at hpar hcl ⊢;have hqk:q<=1000000:=by omega
   clear hq;by_cases h40:R=40
   ·subst h40;rw[hisp] at hpar;have HP:Aside (kX L (k+1)=q+1):=hpar;clear hpar hb hisp
    go_wp2
    go_roundg (n-(k+1))
    case measure=>omega
    case rel =>
     have HP:kX L (k+1)=q+1:=HP;exact⟨k+1,by omega,by omega,by rw[HP]; congr 1,by rw[HP]; simp,by go_num,HW⟩
   ·by_cases h41:R=41
    ·subst h41;rw[hisp] at hpar;have HP:Aside (kX L (k+1)=q+1):=hpar;clear hpar hb hisp
     go_wp2
     go_roundg (n-(k+1))
     case measure=>omega
     case rel =>
      have HP:kX L (k+1)=q+1:=HP;exact⟨k+1,by omega,by omega,by rw[HP]; congr 1,by rw[HP]; simp,by go_num,HW⟩
    ·have e0:=e0 h40 h41;have hnp:(Nat.beq R 40 || Nat.beq R 41)=false:=by
      rw[Bool.or_eq_false_iff,← Bool.not_eq_true,← Bool.not_eq_true];exact⟨fun e=>h40 (Nat.eq_of_beq_eq_true e),fun e=>h41 (Nat.eq_of_beq_eq_true e)⟩
     rw[hisp,hnp] at hpar;have HP:Aside (kX L (k+1)=q):=hpar;clear hpar hb hisp hnp e40 e41
     go_wp2
     go_roundg (n-(k+1))
     case measure=>omega
     case rel =>
      have HP:kX L (k+1)=q:=HP;exact⟨k+1,by omega,by omega,by rw[HP],by rw[HP],by go_num,HW⟩
  ·have hkn:k=n:=by omega
   subst hkn;obtain⟨q,hq⟩:∃ q,kX L k=q:=⟨_,rfl⟩;have hqn:=z7 L k;rw[hq] at hqn ⊢
   rename World=>W
   have HQ:Aside (kX L k=q):=hq;have HW:Aside (RW w W N p1 c1 p2 c2):=hW;clear hq hW;by_cases hq0:q=0
   ·subst hq0
    go_wp2
    go_ret
    refine⟨?_,HW.below⟩;rw[Cp L (by rw[H.2]; exact HQ),← HL];exact congrArg Ending.returned (congrArg Value.string (y6 s).symm)
   ·obtain⟨Z,hZ,hms⟩:=M7 W (k+2 * q) (by omega) ((k:Int)+2 * (q:Int)) (by omega);have hneg:¬ ((k:Int)+2 * (q:Int)<0):=by omega
    have HZ:Aside (Z.size=k+2 * q):=hZ;clear hZ;obtain⟨M,hM⟩:∃ M,k+2 * q=M:=⟨_,rfl⟩;rw[hM] at hms;have HM:Aside (k+2 * q=M):=hM;clear hM
    go_wp2
    go_loopg [13,14] k (fun g s13 s14 wr=>∃ (i:Nat) (acc:List UInt8),i<=k/\k-i<=g/\acc=(L.take i).flatMap rp1/\s13 = .int .i64 (acc.length:Int)/\s14 = .int .i64 (i:Int)/\Lib.Buf W wr W.heap.size M acc)
    case atStart=>exact⟨0,[],by omega,by omega,rfl,rfl,rfl,Lib.Buf.start W Z 5 M 0 (by have:=HZ; unfold Aside at this HM; omega)⟩
    case round =>
     obtain⟨i,acc,hi,hgi,hacc,rfl,rfl,hB⟩:=hrel;by_cases hik:i<k
     ·have hkL:i<L.length:=by rw[H.2]; exact hik
      obtain⟨b,hb⟩:∃ b,L[i]=b:=⟨_,rfl⟩;have hix:∀ h,(s[i]'h)=b:=fun h=>by
       rw[← hb];have:=HL;unfold Aside at this;subst this;rfl
      have hnext:(L.take (i+1)).flatMap rp1=acc++rp1 b:=by
       rw[List.take_succ_eq_append_getElem hkL,List.flatMap_append,← hacc,List.flatMap_singleton,hb]
      have hlen:acc.length+(rp1 b).length<=M:=by
       have h1:=sk L (i+1) (by omega);rw[hnext,List.length_append] at h1;have h2:=tw L (k-(i+1)) (i+1) (by rw[H.2]; omega);rw[show i+1+(k-(i+1))=k by omega] at h2;unfold Aside at HQ HM;omega
      obtain⟨R,hR⟩:∃ R,b.toNat=R:=⟨_,rfl⟩;have hR256:R<256:=by rw[← hR]; exact b.toNat_lt
      have hcell:∀ o,wr.cell? ⟨N,o,none⟩=W.cell? ⟨N,o,none⟩:=fun o=>by simp only[World.cell?,hB.below.block N HW.lt]
      have e40:=(hcell 40).trans HW.e40;have e41:=(hcell 41).trans HW.e41;have e0:R≠40->R≠41->wr.cell? ⟨N,R,none⟩=some (.slice none 0 0):=fun h1 h2=>(hcell R).trans (HW.e0 R hR256 h1 h2);by_cases h40:R=40
      ·subst h40;have hrp:rp1 b=[32,40,32]:=by unfold rp1; rw[hR]; rfl
       rw[hrp] at hnext hlen;have hv:Lib.HoldsBytes W (.slice (some ⟨p2,0,none⟩) 3 c2) [32,40,32]:=⟨_,c2,rfl,fun h=>(by cases h),fun a ha j x hx=>by
        injection ha with ha
        subst ha;rw[Addr.add_lit,Nat.zero_add];exact HW.b2.2 j x hx⟩
       obtain⟨W2,hcp,hB2⟩:=Lib.copy_part (P:=Tryz.prog) W wr.drew W.heap.size M acc [32,40,32] (.slice (some ⟨p2,0,none⟩) 3 c2) 156 3 5 Tryz.underlying156 Ft (Nat.le_refl _) (sn hB) hv hlen;have hsl:=fun W'=>Lib.run_slice_tailV (P:=Tryz.prog) W' 156 5 Tryz.underlying156 Fs W.heap.size M acc.length (by omega);have HB:Aside (Lib.Buf W W2 W.heap.size M (acc++[32,40,32])):=hB2;have HN:Aside ((L.take (i+1)).flatMap rp1=acc++[32,40,32]):=hnext;obtain⟨j,hj⟩:∃ j,acc.length=j:=⟨_,rfl⟩;rw[hj] at hcp hsl hlen ⊢;have HJ:Aside (acc.length=j):=hj;have hjb:j<=10000000:=by have:=HM; unfold Aside at this; simp at hlen; omega
       clear hB hB2 hnext hj hv hcell hacc hrp hb
       go_wp2
       go_region_law_o (refine Go.Proofs.step_copy_runI rfl _ _ 156 156 rfl _ _ (by simp [Act.eval,Act.put]) (by simp [Act.eval,Act.put]) hcp ?_)
       go_wp2
       go_roundg (k-(i+1))
       case measure=>omega
       case rel =>
        have HJ:acc.length=j:=HJ;exact⟨i+1,acc++[32,40,32],by omega,by omega,(by have:=HN; unfold Aside at this; exact this.symm),by rw[List.length_append,HJ]; congr 1,by go_num,HB⟩
      ·by_cases h41:R=41
       ·subst h41;have hrp:rp1 b=[32,41,32]:=by unfold rp1; rw[hR]; rfl
        rw[hrp] at hnext hlen;have hv:Lib.HoldsBytes W (.slice (some ⟨p1,0,none⟩) 3 c1) [32,41,32]:=⟨_,c1,rfl,fun h=>(by cases h),fun a ha j x hx=>by
         injection ha with ha
         subst ha;rw[Addr.add_lit,Nat.zero_add];exact HW.b1.2 j x hx⟩
        obtain⟨W2,hcp,hB2⟩:=Lib.copy_part (P:=Tryz.prog) W wr.drew W.heap.size M acc [32,41,32] (.slice (some ⟨p1,0,none⟩) 3 c1) 156 3 5 Tryz.underlying156 Ft (Nat.le_refl _) (sn hB) hv hlen;have hsl:=fun W'=>Lib.run_slice_tailV (P:=Tryz.prog) W' 156 5 Tryz.underlying156 Fs W.heap.size M acc.length (by omega);have HB:Aside (Lib.Buf W W2 W.heap.size M (acc++[32,41,32])):=hB2;have HN:Aside ((L.take (i+1)).flatMap rp1=acc++[32,41,32]):=hnext;obtain⟨j,hj⟩:∃ j,acc.length=j:=⟨_,rfl⟩;rw[hj] at hcp hsl hlen ⊢;have HJ:Aside (acc.length=j):=hj;have hjb:j<=10000000:=by have:=HM; unfold Aside at this; simp at hlen; omega
        clear hB hB2 hnext hj hv hcell hacc hrp hb
        go_wp2
        go_region_law_o (refine Go.Proofs.step_copy_runI rfl _ _ 156 156 rfl _ _ (by simp [Act.eval,Act.put]) (by simp [Act.eval,Act.put]) hcp ?_)
        go_wp2
        go_roundg (k-(i+1))
        case measure=>omega
        case rel =>
         have HJ:acc.length=j:=HJ;exact⟨i+1,acc++[32,41,32],by omega,by omega,(by have:=HN; unfold Aside at this; exact this.symm),by rw[List.length_append,HJ]; congr 1,by go_num,HB⟩
       ·have e0:=e0 h40 h41;have hnp:mT b=false:=by
         unfold mT;rw[hR,Bool.or_eq_false_iff,← Bool.not_eq_true,← Bool.not_eq_true];exact⟨fun e=>h40 (Nat.eq_of_beq_eq_true e),fun e=>h41 (Nat.eq_of_beq_eq_true e)⟩
        rw[z6 hnp] at hnext hlen;have hlen:acc.length<M:=by simp at hlen; omega
        have HB:Aside (Lib.Buf W (wr.setCell ⟨W.heap.size,acc.length,none⟩ (.int .u8 (b.toNat:Int))) W.heap.size M (acc++[b])):=Fq hB (Nat.le_refl _) hlen;rw[hR] at HB;have HN:Aside ((L.take (i+1)).flatMap rp1=acc++[b]):=hnext;have hth:=hB.there acc.length hlen;have hfr:=hB.free acc.length hlen;obtain⟨old,hold⟩:=Option.isSome_iff_exists.1 hth;obtain⟨j,hj⟩:∃ j,acc.length=j:=⟨_,rfl⟩;rw[hj] at hlen hold hfr HB ⊢;have HJ:Aside (acc.length=j):=hj;have hjb:j<=10000000:=by have:=HM; unfold Aside at this; omega
        clear hB hnext hj hcell hacc hb hnp hth e40 e41
        go_wp2
        go_roundg (k-(i+1))
        case measure=>omega
        case rel =>
         have HJ:acc.length=j:=HJ;exact⟨i+1,acc++[b],by omega,by omega,(by have:=HN; unfold Aside at this; exact this.symm),by rw[List.length_append,HJ]; congr 1,by go_num,HB⟩
     ·have hik:i=k:=by omega
      subst hik;have hfull:acc=L.flatMap rp1:=by rw[hacc,List.take_of_length_le (by rw[H.2]; exact Nat.le_refl _)]
      have hlen:acc.length=M:=by
       rw[hacc,sk L i (by rw[H.2]; exact Nat.le_refl _)];unfold Aside at HQ HM;omega
      have hcv:=run_convert_bytes_back (P:=Tryz.prog) wr 156 9 5 ⟨W.heap.size,0,none⟩ M acc Tryz.underlying156 Tryz.underlying5 Tryz.underlying9 (fun j hj=>by
       rw[Addr.add_lit,Nat.zero_add];exact hB.holds j _ (List.getElem?_eq_getElem hj))
      rw[hlen] at hcv;have HF:Aside (acc=L.flatMap rp1):=hfull;have HBW:Aside (Below W.heap.size W wr):=hB.below;clear hB hacc hfull hlen
      go_wp2
      go_ret
      refine⟨?_,?_⟩
      ·have HF:acc=L.flatMap rp1:=HF;rw[← HF]; rfl
      ·have h1:Below w.heap.size w W:=HW.below;exact h1.trans ((show Below W.heap.size W wr from HBW).mono h1.size)
end Go.Proofs.YtkpefpjpadahiaaGreatDoor
namespace Go.Proofs.YtkpefpjpadahiaaGreatDoor
open Go.Lad Go.Proofs Go.RowKit
set_option maxHeartbeats 4000000 in
set_option maxRecDepth 100000 in
theorem J7 (N lo:Nat) (s:ByteArray) (w:World) (hT:TB w N lo) (hs:s.size<=1000000) (h16:16<=s.size) :
  Calls Tryz.prog 339 #[.pointer (some ⟨N,0,none⟩),.string s] w fun e w'=>e = .returned (.string (mkS (s.data.toList.flatMap rp1)))/\Below w.heap.size w w':=by
 have mixed:Tryz.prog.follows .mixedOrders=true:=by kernel_rfl
 obtain⟨g,off,cap,p1,c1,p2,c2,hN,t256,tg0,tg1,tent,tb1,tb2,_,_,_,_,_⟩:=hT;obtain⟨k,hn⟩:∃ k,s.size=k:=⟨_,rfl⟩;have hsl:s.data.toList.length=k:=by rw[← hn]; rfl
 have H:Aside (s.size=k/\s.data.toList.length=k):=⟨hn,hsl⟩;have h16':((16:Int)<=(k:Int)):=by omega
 have hW0:RW w w N p1 c1 p2 c2:=⟨Below.refl _ _,tent 40 (by omega),tent 41 (by omega),fun R h h1 h2=>by rw[tent R h]; unfold tv; rw[if_neg (by omega),if_neg (by omega)],tb1,tb2,hN⟩;have HW0:Aside (RW w w N p1 c1 p2 c2):=hW0;clear tent hW0;have hs:k<=1000000:=by omega
 have n41:=fun W=>Tryz.strings_Count_one s 41 W;have n40:=fun W=>Tryz.strings_Count_one s 40 W;obtain⟨L,hL⟩:∃ L,s.data.toList=L:=⟨_,rfl⟩;have HL:Aside (s.data.toList=L):=hL;rw[hL] at hsl H n41 n40 ⊢;have hpc:=G8 L;rw[hsl] at hpc;obtain⟨a,ha⟩:∃ a,L.count 41=a:=⟨_,rfl⟩;obtain⟨b,hb⟩:∃ b,L.count 40=b:=⟨_,rfl⟩;have hab:=z7 L k;rw[ha,hb] at hpc;rw[hpc] at hab;have HPC:Aside (kX L k=a+b):=hpc;unfold Lib.countByte at n41 n40;rw[ha] at n41;rw[hb] at n40;clear hL ha hb hpc;clear hsl
 go_enter Tryz.func339,Tryz.ntmps339
 go_wp2
 go_loopg [5,6,32] 2 (fun g' s5 s6 s32 wr=>∃ i q:Nat,(i=0/\q=0\/i=1/\q=a\/i=2/\q=a+b)/\2-i<=g'/\s5 = .int .i64 ((k:Int)+2 * (q:Int))/\s6 = .bool (decide (q≠0))/\s32 = .int .i64 (i:Int)/\wr.cell? ⟨g,off,none⟩=some (.string ⟨#[41]⟩)/\wr.cell? ⟨g,off+1,none⟩=some (.string ⟨#[40]⟩)/\RW w wr N p1 c1 p2 c2)
 case atStart=>exact⟨0,0,.inl ⟨rfl,rfl⟩,by omega,by simp,by simp,rfl,tg0,tg1,HW0⟩
 case round =>
  obtain⟨i,q,hiq,hg,rfl,rfl,rfl,tg0,tg1,hW⟩:=hrel;rcases hiq with⟨rfl,rfl⟩ | ⟨rfl,rfl⟩ | ⟨rfl,rfl⟩
  ·have HW:Aside (RW w wr N p1 c1 p2 c2):=hW;have e41:=hW.e41;have cn:=n41 wr;have hi0:∀ h,(((⟨#[41]⟩:ByteArray)[0]'h).toNat:Int)=41:=fun _=>rfl;have hT0:Aside (wr.cell? ⟨g,off,none⟩=some (.string ⟨#[41]⟩)):=tg0;have hT1:Aside (wr.cell? ⟨g,off+1,none⟩=some (.string ⟨#[40]⟩)):=tg1;clear hW n41 n40;by_cases h0:a=0
   ·subst h0
    go_wp2_with (go_at_call 154; refine cn.mono ?_; rintro e w' ⟨rfl,rfl⟩)
    go_roundg 1
    case measure=>omega
    case rel=>exact⟨1,_,.inr (.inl ⟨rfl,rfl⟩),by omega,by congr 1,by simp,rfl,hT0,hT1,HW⟩
   ·have hab1:a<=1000000:=by omega
    go_wp2_with (go_at_call 154; refine cn.mono ?_; rintro e w' ⟨rfl,rfl⟩)
    go_region_o
    go_wp2
    have hne:a≠0:=by omega
    go_roundg 1
    case measure=>omega
    case rel=>exact⟨1,_,.inr (.inl ⟨rfl,rfl⟩),by omega,by congr 1; omega,by rw[decide_eq_true hne],rfl,hT0,hT1,RW.drewN HW 1⟩
  ·have HW:Aside (RW w wr N p1 c1 p2 c2):=hW;have e40:=hW.e40;have cn:=n40 wr;have hi0:∀ h,(((⟨#[40]⟩:ByteArray)[0]'h).toNat:Int)=40:=fun _=>rfl;have hT0:Aside (wr.cell? ⟨g,off,none⟩=some (.string ⟨#[41]⟩)):=tg0;have hT1:Aside (wr.cell? ⟨g,off+1,none⟩=some (.string ⟨#[40]⟩)):=tg1;clear hW n41 n40;by_cases h0:b=0
   ·subst h0
    go_wp2_with (go_at_call 154; refine cn.mono ?_; rintro e w' ⟨rfl,rfl⟩)
    go_roundg 0
    case measure=>omega
    case rel=>exact⟨2,_,.inr (.inr ⟨rfl,rfl⟩),by omega,by congr 1,by simp,rfl,hT0,hT1,HW⟩
   ·have hab1:b<=1000000:=by omega
    go_wp2_with (go_at_call 154; refine cn.mono ?_; rintro e w' ⟨rfl,rfl⟩)
    go_region_o
    go_wp2
    have hne:q+b≠0:=by omega
    go_roundg 0
    case measure=>omega
    case rel=>exact⟨2,_,.inr (.inr ⟨rfl,rfl⟩),by omega,by congr 1; omega,by rw[decide_eq_true hne],rfl,hT0,hT1,RW.drewN HW 1⟩
  ·have hq:kX L k=a+b:=HPC;have hqn:a+b<=k:=hab;generalize a+b=q at hq hqn ⊢
   rename World=>W
   have HQ:Aside (kX L k=q):=hq;have HW:Aside (RW w W N p1 c1 p2 c2):=hW;clear hq hW;by_cases hq0:q=0
   ·subst hq0
    go_wp2
    go_ret
    refine⟨?_,HW.below⟩;rw[Cp L (by rw[H.2]; exact HQ),← HL];exact congrArg Ending.returned (congrArg Value.string (y6 s).symm)
   ·obtain⟨Z,hZ,hms⟩:=M7 W (k+2 * q) (by omega) ((k:Int)+2 * (q:Int)) (by omega);have hneg:¬ ((k:Int)+2 * (q:Int)<0):=by omega
    have HZ:Aside (Z.size=k+2 * q):=hZ;clear hZ;obtain⟨M,hM⟩:∃ M,k+2 * q=M:=⟨_,rfl⟩;rw[hM] at hms;have HM:Aside (k+2 * q=M):=hM;clear hM
    go_wp2
    go_loopg [13,14] k (fun g s13 s14 wr=>∃ (i:Nat) (acc:List UInt8),i<=k/\k-i<=g/\acc=(L.take i).flatMap rp1/\s13 = .int .i64 (acc.length:Int)/\s14 = .int .i64 (i:Int)/\Lib.Buf W wr W.heap.size M acc)
    case atStart=>exact⟨0,[],by omega,by omega,rfl,rfl,rfl,Lib.Buf.start W Z 5 M 0 (by have:=HZ; unfold Aside at this HM; omega)⟩
    case round =>
     obtain⟨i,acc,hi,hgi,hacc,rfl,rfl,hB⟩:=hrel;by_cases hik:i<k
     ·have hkL:i<L.length:=by rw[H.2]; exact hik
      obtain⟨b,hb⟩:∃ b,L[i]=b:=⟨_,rfl⟩;have hix:∀ h,(s[i]'h)=b:=fun h=>by
       rw[← hb];have:=HL;unfold Aside at this;subst this;rfl
      have hnext:(L.take (i+1)).flatMap rp1=acc++rp1 b:=by
       rw[List.take_succ_eq_append_getElem hkL,List.flatMap_append,← hacc,List.flatMap_singleton,hb]
      have hlen:acc.length+(rp1 b).length<=M:=by
       have h1:=sk L (i+1) (by omega);rw[hnext,List.length_append] at h1;have h2:=tw L (k-(i+1)) (i+1) (by rw[H.2]; omega);rw[show i+1+(k-(i+1))=k by omega] at h2;unfold Aside at HQ HM;omega
      obtain⟨R,hR⟩:∃ R,b.toNat=R:=⟨_,rfl⟩;have hR256:R<256:=by rw[← hR]; exact b.toNat_lt
      have hcell:∀ o,wr.cell? ⟨N,o,none⟩=W.cell? ⟨N,o,none⟩:=fun o=>by simp only[World.cell?,hB.below.block N HW.lt]
      have e40:=(hcell 40).trans HW.e40;have e41:=(hcell 41).trans HW.e41;have e0:R≠40->R≠41->wr.cell? ⟨N,R,none⟩=some (.slice none 0 0):=fun h1 h2=>(hcell R).trans (HW.e0 R hR256 h1 h2);by_cases h40:R=40
      ·subst h40;have hrp:rp1 b=[32,40,32]:=by unfold rp1; rw[hR]; rfl
       rw[hrp] at hnext hlen;have hv:Lib.HoldsBytes W (.slice (some ⟨p2,0,none⟩) 3 c2) [32,40,32]:=⟨_,c2,rfl,fun h=>(by cases h),fun a ha j x hx=>by
        injection ha with ha
        subst ha;rw[Addr.add_lit,Nat.zero_add];exact HW.b2.2 j x hx⟩
       obtain⟨W2,hcp,hB2⟩:=Lib.copy_part (P:=Tryz.prog) W wr.drew W.heap.size M acc [32,40,32] (.slice (some ⟨p2,0,none⟩) 3 c2) 156 3 5 Tryz.underlying156 Ft (Nat.le_refl _) (sn hB) hv hlen;have hsl:=fun W'=>Lib.run_slice_tailV (P:=Tryz.prog) W' 156 5 Tryz.underlying156 Fs W.heap.size M acc.length (by omega);have HB:Aside (Lib.Buf W W2 W.heap.size M (acc++[32,40,32])):=hB2;have HN:Aside ((L.take (i+1)).flatMap rp1=acc++[32,40,32]):=hnext;obtain⟨j,hj⟩:∃ j,acc.length=j:=⟨_,rfl⟩;rw[hj] at hcp hsl hlen ⊢;have HJ:Aside (acc.length=j):=hj;have hjb:j<=10000000:=by have:=HM; unfold Aside at this; simp at hlen; omega
       clear hB hB2 hnext hj hv hcell hacc hrp hb
       go_wp2
       go_region_law_o (refine Go.Proofs.step_copy_runI rfl _ _ 156 156 rfl _ _ (by simp [Act.eval,Act.put]) (by simp [Act.eval,Act.put]) hcp ?_)
       go_wp2
       go_roundg (k-(i+1))
       case measure=>omega
       case rel =>
        have HJ:acc.length=j:=HJ;exact⟨i+1,acc++[32,40,32],by omega,by omega,(by have:=HN; unfold Aside at this; exact this.symm),by rw[List.length_append,HJ]; congr 1,by go_num,HB⟩
      ·by_cases h41:R=41
       ·subst h41;have hrp:rp1 b=[32,41,32]:=by unfold rp1; rw[hR]; rfl
        rw[hrp] at hnext hlen;have hv:Lib.HoldsBytes W (.slice (some ⟨p1,0,none⟩) 3 c1) [32,41,32]:=⟨_,c1,rfl,fun h=>(by cases h),fun a ha j x hx=>by
         injection ha with ha
         subst ha;rw[Addr.add_lit,Nat.zero_add];exact HW.b1.2 j x hx⟩
        obtain⟨W2,hcp,hB2⟩:=Lib.copy_part (P:=Tryz.prog) W wr.drew W.heap.size M acc [32,41,32] (.slice (some ⟨p1,0,none⟩) 3 c1) 156 3 5 Tryz.underlying156 Ft (Nat.le_refl _) (sn hB) hv hlen;have hsl:=fun W'=>Lib.run_slice_tailV (P:=Tryz.prog) W' 156 5 Tryz.underlying156 Fs W.heap.size M acc.length (by omega);have HB:Aside (Lib.Buf W W2 W.heap.size M (acc++[32,41,32])):=hB2;have HN:Aside ((L.take (i+1)).flatMap rp1=acc++[32,41,32]):=hnext;obtain⟨j,hj⟩:∃ j,acc.length=j:=⟨_,rfl⟩;rw[hj] at hcp hsl hlen ⊢;have HJ:Aside (acc.length=j):=hj;have hjb:j<=10000000:=by have:=HM; unfold Aside at this; simp at hlen; omega
        clear hB hB2 hnext hj hv hcell hacc hrp hb
        go_wp2
        go_region_law_o (refine Go.Proofs.step_copy_runI rfl _ _ 156 156 rfl _ _ (by simp [Act.eval,Act.put]) (by simp [Act.eval,Act.put]) hcp ?_)
        go_wp2
        go_roundg (k-(i+1))
        case measure=>omega
        case rel =>
         have HJ:acc.length=j:=HJ;exact⟨i+1,acc++[32,41,32],by omega,by omega,(by have:=HN; unfold Aside at this; exact this.symm),by rw[List.length_append,HJ]; congr 1,by go_num,HB⟩
       ·have e0:=e0 h40 h41;have hnp:mT b=false:=by
         unfold mT;rw[hR,Bool.or_eq_false_iff,← Bool.not_eq_true,← Bool.not_eq_true];exact⟨fun e=>h40 (Nat.eq_of_beq_eq_true e),fun e=>h41 (Nat.eq_of_beq_eq_true e)⟩
        rw[z6 hnp] at hnext hlen;have hlen:acc.length<M:=by simp at hlen; omega
        have HB:Aside (Lib.Buf W (wr.setCell ⟨W.heap.size,acc.length,none⟩ (.int .u8 (b.toNat:Int))) W.heap.size M (acc++[b])):=Fq hB (Nat.le_refl _) hlen;rw[hR] at HB;have HN:Aside ((L.take (i+1)).flatMap rp1=acc++[b]):=hnext;have hth:=hB.there acc.length hlen;have hfr:=hB.free acc.length hlen;obtain⟨old,hold⟩:=Option.isSome_iff_exists.1 hth;obtain⟨j,hj⟩:∃ j,acc.length=j:=⟨_,rfl⟩;rw[hj] at hlen hold hfr HB ⊢;have HJ:Aside (acc.length=j):=hj;have hjb:j<=10000000:=by have:=HM; unfold Aside at this; omega
        clear hB hnext hj hcell hacc hb hnp hth e40 e41
        go_wp2
        go_roundg (k-(i+1))
        case measure=>omega
        case rel =>
         have HJ:acc.length=j:=HJ;exact⟨i+1,acc++[b],by omega,by omega,(by have:=HN; unfold Aside at this; exact this.symm),by rw[List.length_append,HJ]; congr 1,by go_num,HB⟩
     ·have hik:i=k:=by omega
      subst hik;have hfull:acc=L.flatMap rp1:=by rw[hacc,List.take_of_length_le (by rw[H.2]; exact Nat.le_refl _)]
      have hlen:acc.length=M:=by
       rw[hacc,sk L i (by rw[H.2]; exact Nat.le_refl _)];unfold Aside at HQ HM;omega
      have hcv:=run_convert_bytes_back (P:=Tryz.prog) wr 156 9 5 ⟨W.heap.size,0,none⟩ M acc Tryz.underlying156 Tryz.underlying5 Tryz.underlying9 (fun j hj=>by
       rw[Addr.add_lit,Nat.zero_add];exact hB.holds j _ (List.getElem?_eq_getElem hj))
      rw[hlen] at hcv;have HF:Aside (acc=L.flatMap rp1):=hfull;have HBW:Aside (Below W.heap.size W wr):=hB.below;clear hB hacc hfull hlen
      go_wp2
      go_ret
      refine⟨?_,?_⟩
      ·have HF:acc=L.flatMap rp1:=HF;rw[← HF]; rfl
      ·have h1:Below w.heap.size w W:=HW.below;exact h1.trans ((show Below W.heap.size W wr from HBW).mono h1.size)
end Go.Proofs.YtkpefpjpadahiaaGreatDoor
namespace Go.Proofs.YtkpefpjpadahiaaGreatDoor
open Go.Lad Go.Proofs Go.RowKit
theorem Cq (N lo:Nat) (s:ByteArray) (w:World) (hT:TB w N lo) (hs:s.size<=1000000) :
  Calls Tryz.prog 339 #[.pointer (some ⟨N,0,none⟩),.string s] w fun e w'=>e = .returned (.string (mkS (s.data.toList.flatMap rp1)))/\Below w.heap.size w w':=by
 rcases Nat.lt_or_ge s.size 16 with h | h
 ·exact J6 N lo s w hT hs h
 ·exact J7 N lo s w hT hs h
theorem MD (a:Addr) (w:World):(method 551 318 (.pointer (some a)) "Replace").run Tryz.prog w = .ok (339,.pointer (some a)) w:=by kernel_rfl
set_option maxHeartbeats 4000000 in
set_option maxRecDepth 100000 in
theorem D1 (B RB RO c:Nat) (x2 x3:Value) (s:ByteArray) (w:World) (hB:Blk w B 249 #[.int .u32 0,.int .i32 0,x2,x3,.slice (some ⟨RB,RO,none⟩) 4 c]) (hRB:RB<w.heap.size) (hne:RB≠B) (g0:w.cell? ⟨RB,RO,none⟩=some (.string ⟨#[40]⟩)) (g1:w.cell? ⟨RB,RO+1,none⟩=some (.string ⟨#[32,40,32]⟩)) (g2:w.cell? ⟨RB,RO+2,none⟩=some (.string ⟨#[41]⟩)) (g3:w.cell? ⟨RB,RO+3,none⟩=some (.string ⟨#[32,41,32]⟩)) (hs:s.size<=1000000) :
  Calls Tryz.prog 119 #[.pointer (some ⟨B,0,none⟩),.string s] w fun e w'=>e = .returned (.string (mkS (s.data.toList.flatMap rp1)))/\∃ w1,RD w w1 B (.int .u32 1) (.int .i32 0) x2/\Below w1.heap.size w1 w':=by
 have hd:=Ps B RB RO c x2 x3 w hB hRB hne g0 g1 g2 g3;have hr:∀ w1,RD w w1 B (.int .u32 1) (.int .i32 0) x2->w1.cell? ⟨B,3,none⟩=some (.iface 318 (.pointer (some ⟨w.heap.size+1,0,none⟩)))/\Calls Tryz.prog 339 #[.pointer (some ⟨w.heap.size+1,0,none⟩),.string s] w1 fun e w'=>e = .returned (.string (mkS (s.data.toList.flatMap rp1)))/\Below w1.heap.size w1 w':=fun w1 h =>
  ⟨by rw[h.box.cell]; rfl,Cq _ _ s w1 h.tb hs⟩
 have hme:=MD;have hmf:∀ (fn:Fn) (first cap:Array Value) (w:World),(Instr.makeFunc fn first cap).run Tryz.prog w = .ok (.func fn first cap) w:=fun _ _ _ _=>rfl;clear hB g0 g1 g2 g3 hRB hne
 go_enter Tryz.func119,Tryz.ntmps119
 go_wp2_with (first | (go_at_call 148; refine hd.mono ?_; rintro e w' ⟨rfl,hD⟩; obtain⟨hc,hcall⟩:=hr _ hD; have HD:Aside (RD w w' B (.int .u32 1) (.int .i32 0) x2):=hD; clear hd hr hD) | (go_at_fn 339; refine hcall.mono ?_; rintro e w'' ⟨rfl,hb⟩))
 refine hcall.mono ?_;rintro e w'' ⟨rfl,hb⟩;have HB:Aside (Below w'.heap.size w' w''):=hb;clear hb hcall
 go_wp2
 go_ret
 exact⟨rfl,w',HD,HB⟩
theorem J8 (l:Bs):(l.flatMap rp1).length<=3 * l.length:=by
 induction l with
 | nil=>simp
 | cons c l ih =>
  rw[List.flatMap_cons,List.length_append,Fp,List.length_cons];split <;> omega
theorem J9:au Tryz.prog (EV 119 249):=by
 refine⟨by kernel_rfl,fun x r hr=>?_⟩;obtain⟨l,a,b,c,os⟩:=x;obtain⟨l,rfl⟩:∃ m:Bs,m=l:=⟨l,rfl⟩;obtain⟨a,rfl⟩:∃ m:Int,m=a:=⟨a,rfl⟩;obtain⟨b,rfl⟩:∃ m:Int,m=b:=⟨b,rfl⟩;obtain⟨c,rfl⟩:∃ m:Int,m=c:=⟨c,rfl⟩;obtain⟨os,rfl⟩:∃ m:List Bs,m=os:=⟨os,rfl⟩;obtain⟨r,rfl⟩:∃ m:Bs,m=r:=⟨r,rfl⟩;have hr:BF a b os l=some r:=hr;unfold BF at hr;obtain⟨hb,hr2⟩:=aG hr;clear hr;rw[Bool.and_eq_true,il,decide_eq_true_eq,decide_eq_true_eq] at hb;obtain⟨⟨rfl,rfl,rfl⟩,hb⟩:=hb;injection hr2 with hr
 show gP Tryz.prog 119 ⟨[.c (.v (.loc 1000000 0)),.c (.v (.p (.str (mkS l))))],[(1000000,.box 249 [.p (.int .u32 0),.p (.int .i32 0),.p (.int .u32 c),.dead,.p (.sl (rpl.map fun x=>[PV.str (mkS x)]))])],.one (.v (.p (.str (mkS r)))),[(1000000,.gone)]⟩;intro w G vs hnorm hglob hargs hobjs;obtain⟨v0,v1,rfl⟩:∃ v0 v1,vs=[v0,v1]:=by
  have:=hargs.1;match vs,this with
  | [a,b],_=>exact⟨a,b,rfl⟩
 have hv0:v0 = .pointer (some ⟨G.bl 1000000,0,none⟩):=(hargs.2 0 _ _ rfl rfl:SRd G _ w _ v0).val;have r1:Rd (In G.χ 0) w (.str (mkS l)) v1:=(hargs.2 1 _ _ rfl rfl:SRd G _ w _ v1).val;have hv1:v1 = .string (mkS l):=by cases r1; rfl
 subst hv0 hv1;obtain⟨us,hblk,hcol,hall⟩:=hobjs 1000000 _ rfl;obtain⟨x0,x1,x2,x3,x4,rfl⟩:∃ x0 x1 x2 x3 x4,us=[x0,x1,x2,x3,x4]:=by
  have:=hall.1;match us,this with
  | [a,b,c,d,e],_=>exact⟨a,b,c,d,e,rfl⟩
 have k0:Rd (In G.χ 0) w (.int .u32 0) x0:=(hall.2 0 _ _ rfl rfl:LRd G _ w _ x0).val;have k1:Rd (In G.χ 0) w (.int .i32 0) x1:=(hall.2 1 _ _ rfl rfl:LRd G _ w _ x1).val;have k4:Rd (In G.χ 0) w (.sl (rpl.map fun x=>[PV.str (mkS x)])) x4:=(hall.2 4 _ _ rfl rfl:LRd G _ w _ x4).val;have e0:x0 = .int .u32 0:=by cases k0; rfl
 have e1:x1 = .int .i32 0:=by cases k1; rfl
 subst e0 e1;obtain⟨bk,off,cap,hx4,hbk,hF,hcells⟩:∃ bk off cap,x4 = .slice (some ⟨bk,off,none⟩) 4 cap/\bk<w.heap.size/\G.χ bk=0/\∀ j x,rpl[j]?=some x->w.cell? ⟨bk,off+j,none⟩=some (.string (mkS x)):=by
  generalize hrows:(rpl.map fun x=>[PV.str (mkS x)])=rows at k4;cases k4 with
  | sl0 h hm=>exact absurd hrows (by unfold rpl; simp)
  | @sl _ bk off c z us hn0 hF hbb hcc hmm hz hcell hrd =>
   refine⟨bk,off,c,by rw[← hrows]; rfl,hbb,hF,fun j x hx=>?_⟩;have hi:rows[j]?=some [PV.str (mkS x)]:=by rw[← hrows,List.getElem?_map,hx]; rfl
   have h3:=hcell j 0 _ _ hi rfl;have h4:=hrd j 0 _ _ hi rfl;have h5:us j 0 = .string (mkS x):=by
    generalize us j 0=u at h4;cases h4; rfl
   have hz1:z=1:=(hz j _ hi).symm;subst hz1;rw[h5,Nat.mul_one,Nat.add_zero] at h3;exact h3
 subst hx4;have hne:bk≠G.bl 1000000:=fun e=>by rw[e,hcol] at hF; cases hF
 refine (D1 (G.bl 1000000) bk off cap x2 x3 (mkS l) w hblk hbk hne (hcells 0 _ rfl) (hcells 1 _ rfl) (hcells 2 _ rfl) (hcells 3 _ rfl) (by rw[eI]; exact hb)).mono ?_;rintro en w' ⟨rfl,w1,hD,hB⟩;rw[gw,hr];have hsz:w.heap.size<=w'.heap.size:=Nat.le_trans hD.size hB.size;refine⟨G,_,[.string (mkS r)],rfl,rfl,hB.os.trans hD.os.1,hB.tape.trans hD.os.2.1,hB.output.trans hD.os.2.2,hsz,fun b hb hχ=>⟨?_,rfl⟩,fun b hb=>.inl hb,fun _ _=>⟨rfl,rfl⟩,fun b hb=>hnorm b (Nat.le_trans hsz hb),⟨rfl,fun i x v hx hv=>?_⟩,fun o h ho=>?_⟩
 ·rw[hB.block b (Nat.lt_of_lt_of_le hb hD.size),hD.old b hb (fun e=>by rw[e,hcol] at hχ; omega)]
 ·cases i with
  | zero =>
   simp [Rz.eH] at hx hv;subst hx hv;refine⟨rfl,by simp [aJ.ids],Rd.str ?_⟩;rw[eI,← hr];have:=J8 l;omega
  | succ i=>simp [Rz.eH] at hx
 ·simp only[hpL,aq] at ho;split at ho
  ·injection ho with ho
   subst ho;trivial
  ·cases ho
end Go.Proofs.YtkpefpjpadahiaaGreatDoor
namespace Go.Proofs.YtkpefpjpadahiaaGreatDoor
open Go.Lad Go.Proofs Go.Lib Go.RowKit Go.Shelf
def Pt:Bs:=[97,98,99,100,101,102,103,104,105,106,107,108,109,110,111,112,113,114,115,116,117,118,119,120,121,122,48,49,50,51,52,53,54,55,56,57,45,46]
def Cr (c:Nat):Bool:=decide (0<=Lib.indexByte Pt c.toUInt8)
theorem Ou (c:Nat) (hc:c<128) (w:World):Calls Tryz.prog 224 #[.int .i32 (c:Int)] w fun e w'=>e = .returned (.bool (!Cr c))/\w'=w:=by
 have h:Calls Tryz.prog 225 #[.string ⟨#[97,98,99,100,101,102,103,104,105,106,107,108,109,110,111,112,113,114,115,116,117,118,119,120,121,122,48,49,50,51,52,53,54,55,56,57,45,46]⟩,.int .i32 (c:Int)] w fun e w'=>e = .returned (.bool (Cr c))/\w'=w:=Tryz.strings_ContainsRune_ascii (mkS Pt) c w (by omega) (by omega);have hnot:∀ (x:Bool) (w:World),(Op.unary .not (.bool x)).run Tryz.prog w = .ok (.bool (!x)) w:=fun _ _=>rfl;generalize hq:Cr c=q at h ⊢
 go_enter Tryz.func224,Tryz.ntmps224
 go_wp2_with (go_at_call 225; refine h.mono ?_; rintro e w' ⟨rfl,rfl⟩)
 go_ret
 exact⟨rfl,rfl⟩
set_option maxHeartbeats 2000000 in
set_option maxRecDepth 1000000 in
theorem Ov (s:ByteArray) (hs:∀ (j:Nat) (h:j<s.size),(s[j]'h).toNat<128/\Cr (s[j]'h).toNat=true) (w:World):Calls Tryz.prog 294 #[.string s,.func (.func 224) #[] #[],.bool true] w fun e w'=>e = .returned (.int .i64 (-1))/\Below w.heap.size w w':=by
 have eg:∀ args w,(callFunc 224 args).run Tryz.prog w = .ok (.enter 224 args) w:=enters_of Tryz.func224 (by kernel_rfl) rfl
 go_enter Tryz.func294,Tryz.ntmps294
 go_wp2
 go_loopg [] s.size (fun gf wx=>∃ pos:Nat,wx.heap[w.heap.size]?=some (.stringIter s pos)/\Below w.heap.size w wx/\s.size<=pos+gf)
 case atStart=>exact⟨0,World.iter_heap w s 0,(Below.refl _ w).alloc (Nat.le_refl _) _,by omega⟩
 case round =>
  obtain⟨pos,hit,hbw,hfu⟩:=hrel;by_cases hps:pos<s.size
  ·obtain⟨g',rfl⟩:∃ g',gk=g'+1:=⟨gk-1,by omega⟩;have hnx:∀ ty,(Instr.next (.pointer (some ⟨w.heap.size,0,none⟩)) true ty).run Tryz.prog wr=_:=fun ty=>Lib.run_next_any_at wr w.heap.size s pos ty hit hps;obtain⟨ha,hin⟩:=hs pos hps;obtain⟨R,hR⟩:∃ R,(s[pos]'hps).toNat=R:=⟨_,rfl⟩;rw[hR] at ha hin;rw[decode_ascii s pos hps (by rw[hR]; exact ha),hR] at hnx;have hit2:=Lib.iterAt_heap wr w.heap.size s pos (pos+1) hit;have hbw2:=Lib.below_iterAt hbw (k:=w.heap.size) (Nat.le_refl _) s (pos+1);obtain⟨W,hWd⟩:∃ W,wr.iterAt w.heap.size s (pos+1)=W:=⟨_,rfl⟩;dsimp only at hnx;rw[hWd] at hnx hit2 hbw2;have cS:=Ou R ha W;rw[hin] at cS
   go_wp2_with (go_at_fn 224; refine cS.mono ?_; rintro e W' ⟨rfl,rfl⟩)
   go_roundg g'
   case measure=>omega
   case rel=>exact⟨pos+1,hit2,hbw2,by omega⟩
  ·have hnx:∀ ty,(Instr.next (.pointer (some ⟨w.heap.size,0,none⟩)) true ty).run Tryz.prog wr=_:=fun ty=>Lib.run_next_end_at wr w.heap.size s pos ty hit hps
   go_wp2
   go_ret
   exact⟨rfl,hbw⟩
theorem ME (s:ByteArray) (hs:∀ (j:Nat) (h:j<s.size),(s[j]'h).toNat<128/\Cr (s[j]'h).toNat=true) (w:World):Calls Tryz.prog 269 #[.string s,.func (.func 224) #[] #[]] w fun e w'=>e = .returned (.int .i64 (-1))/\Below w.heap.size w w':=by
 have c:=Ov s hs w;clear hs
 go_enter Tryz.func269,Tryz.ntmps269
 go_wp2_with (go_at_call 294; refine c.mono ?_; rintro e w' ⟨rfl,hb⟩)
 go_ret
 exact⟨rfl,hb⟩
theorem MF (s:ByteArray) (hs:∀ (j:Nat) (h:j<s.size),(s[j]'h).toNat<128/\Cr (s[j]'h).toNat=true) (w:World):Calls Tryz.prog 223 #[.string s,.func (.func 224) #[] #[]] w fun e w'=>e = .returned (.bool false)/\Below w.heap.size w w':=by
 have c:=ME s hs w;clear hs
 go_enter Tryz.func223,Tryz.ntmps223
 go_wp2_with (go_at_call 269; refine c.mono ?_; rintro e w' ⟨rfl,hb⟩)
 go_ret
 exact⟨rfl,hb⟩
theorem quiet {w w':World} {G:Gh} {p:PV} {v:Value} (hnorm:Norm G.χ w) (hw:Below w.heap.size w w') (hp:Rd (In G.χ 0) w' p v):∃ (G':Gh) (v':Value) (us:List Value),Ending.returned v = .returned v'/\(Rz.one (.v (.p p))).val v' us/\w'.os=w.os/\w'.tape=w.tape/\w'.output=w.output/\w.heap.size<=w'.heap.size /\
   (∀ b,b<w.heap.size->G.χ b<=1->w'.heap[b]?=w.heap[b]?/\G'.χ b=G.χ b)/\(∀ b,2<=G'.χ b->2<=G.χ b\/w.heap.size<=b)/\(∀ o,1000000<=o->G'.bl o=G.bl o/\G'.hv o=G.hv o)/\Norm G'.χ w' /\
   eu (CRd G' (hpL []) w') (Rz.one (.v (.p p))).eH us/\(∀ o h,hpL [] o=some h->HRd G' (hpL []) w' o h):=by
 refine⟨G,_,[v],rfl,rfl,hw.os,hw.tape,hw.output,hw.size,fun b hb _=>⟨hw.block b hb,rfl⟩,fun b hb=>.inl hb,fun _ _=>⟨rfl,rfl⟩,fun b hb=>hnorm b (Nat.le_trans hw.size hb),⟨rfl,fun i x v hx hv=>?_⟩,(fun o h ho=>by cases ho)⟩;cases i with
 | zero =>
  simp [Rz.eH] at hx hv;subst hx hv;exact⟨hp.one,by simp [aJ.ids],hp⟩
 | succ i=>simp [Rz.eH] at hx
theorem Ka:au Tryz.prog (EU 222):=by
 refine⟨by kernel_rfl,fun x r hr=>?_⟩;obtain⟨l,cs⟩:=x;obtain⟨l,rfl⟩:∃ m:Bs,m=l:=⟨l,rfl⟩;obtain⟨cs,rfl⟩:∃ m:Bs,m=cs:=⟨cs,rfl⟩;obtain⟨r,rfl⟩:∃ m:Bs,m=r:=⟨r,rfl⟩;have hr:BD l cs=some r:=hr;unfold BD at hr;obtain⟨hb,hr⟩:=aG hr;rw[Bool.and_eq_true,il,decide_eq_true_eq] at hb;injection hr with hr
 show gP Tryz.prog 222 ⟨[.c (.v (.p (.str (mkS l)))),.c (.v (.p (.str (mkS cs))))],[],.one (.v (.p (.str (mkS r)))),[]⟩;intro w G vs hnorm hglob hargs _;obtain⟨v0,v1,rfl⟩:∃ v0 v1,vs=[v0,v1]:=by
  have:=hargs.1;match vs,this with
  | [a,b],_=>exact⟨a,b,rfl⟩
 have r0:Rd (In G.χ 0) w (.str (mkS l)) v0:=(hargs.2 0 _ _ rfl rfl:SRd G _ w _ v0).val;have r1:Rd (In G.χ 0) w (.str (mkS cs)) v1:=(hargs.2 1 _ _ rfl rfl:SRd G _ w _ v1).val;have hv1:v1 = .string (mkS cs):=by cases r1; rfl
 obtain⟨hv0,hsz⟩:v0 = .string (mkS l)/\(mkS l).size<=9223372036854775807:=by cases r0; exact⟨rfl,by assumption⟩
 subst hv0;subst hv1;refine (Any.strings_Trim_laid Tryz.Mm (by kernel_rfl) (mkS l) (mkS cs) w hsz (by rw[eI]; omega) (fun j b hj=>?_)).mono ?_
 ·rw[gw] at hj;have:=List.all_eq_true.1 hb.1 b (List.mem_of_getElem? hj);simp [Nat.blt] at this;omega
 ·rintro e w' ⟨rfl,hw⟩;rw[gw,gw,hr];refine quiet hnorm hw (.str ?_);rw[eI] at hsz ⊢;have h1:∀ (q:Bs),(Lib.trimLeftS q cs).length<=q.length:=fun q=>by unfold Lib.trimLeftS; exact (List.dropWhile_sublist _).length_le
  have h2:(Lib.trimRightS l cs).length<=l.length:=by unfold Lib.trimRightS; rw[List.length_reverse]; exact Nat.le_trans (List.dropWhile_sublist _).length_le (by simp)
  have h3:r.length<=l.length:=by rw[← hr]; exact Nat.le_trans (h1 _) h2
  omega
theorem Kb:(List.range 256).all (fun n=>!rU (UInt8.ofNat n) || (Nat.blt n 128 && Cr n))=true:=by kernel_rfl
theorem MG (c:UInt8) (h:rU c=true):c.toNat<128/\Cr c.toNat=true:=by
 have:=List.all_eq_true.1 Kb c.toNat (List.mem_range.2 c.toNat_lt);rw[show UInt8.ofNat c.toNat=c by simp,h,Bool.not_true,Bool.false_or,Bool.and_eq_true] at this;refine⟨?_,this.2⟩;have h1:=this.1;simp [Nat.blt] at h1;omega
theorem G9:au Tryz.prog (BE 223 224):=by
 refine⟨by kernel_rfl,fun x r hr=>?_⟩;obtain⟨l,rfl⟩:∃ m:Bs,m=x:=⟨x,rfl⟩;obtain⟨r,rfl⟩:∃ m:Bool,m=r:=⟨r,rfl⟩;have hr:wG l=some r:=hr;unfold wG at hr;obtain⟨hb,hr⟩:=aG hr;injection hr with hr
 show gP Tryz.prog 223 ⟨[.c (.v (.p (.str (mkS l)))),.c (.v (.fn 448 []))],[],.one (.v (.p (.bool r))),[]⟩;intro w G vs hnorm hglob hargs _;obtain⟨v0,v1,rfl⟩:∃ v0 v1,vs=[v0,v1]:=by
  have:=hargs.1;match vs,this with
  | [a,b],_=>exact⟨a,b,rfl⟩
 have r0:Rd (In G.χ 0) w (.str (mkS l)) v0:=(hargs.2 0 _ _ rfl rfl:SRd G _ w _ v0).val;have h1:=(hargs.2 1 _ _ rfl rfl:SRd G _ w _ v1);have hv1:v1 = .func (.func 224) #[] #[]:=(h1:LRd G _ w (.fn 448 []) v1).val;have hv0:v0 = .string (mkS l):=by cases r0; rfl
 subst hv0;subst hv1;refine (MF (mkS l) (fun j h=>?_) w).mono ?_
 ·have hj:(mkS l)[j]'h∈l:=by
   have:(mkS l)[j]'h=l[j]'(by rw[eI] at h; exact h):=by simp [mkS,ByteArray.getElem_eq_getElem_data]
   rw[this]; exact List.getElem_mem _
  exact MG _ (List.all_eq_true.1 hb _ hj)
 ·rintro e w' ⟨rfl,hw⟩;rw[← hr];exact quiet hnorm hw .bool
end Go.Proofs.YtkpefpjpadahiaaGreatDoor
