import Derived.Test.YtcppfkflcigjcaaGreatDoorBModel
import Derived.Test.YtcppfkflcigjcaaGreatDoorLs
import Derived.KernelRfl
set_option linter.unusedVariables false
set_option linter.unusedSimpArgs false
set_option linter.unusedSectionVars false
namespace Go.Lad
def Has {α:Type} (x:Option α) (Q:α->Prop):Prop := ∃ b,x=some b/\Q b
section
variable {α β:Type} {Q:α->Prop} {R:β->Prop}
theorem ah {a:α} (h:Q a):Has (some a) Q:=⟨a,rfl,h⟩
theorem NX {x:Option α} {b:α} (h:x=some b) (hq:Q b):Has x Q:=⟨b,h,hq⟩
theorem Has.mono {x:Option α} {Q':α->Prop} (h:Has x Q) (hq:∀ a,Q a->Q' a):Has x Q':=by
 obtain⟨b,h1,h2⟩:=h;exact⟨b,h1,hq b h2⟩
theorem ay {x:Option α} {f:α->Option β} (h:Has x Q) (hf:∀ a,Q a->Has (f a) R):Has (x.bind f) R:=by
 obtain⟨a,rfl,ha⟩:=h;exact hf a ha
theorem aM {b:Bool} {x y:Option α} (hx:b=true->Has x Q) (hy:b=false->Has y Q):Has (bif b then x else y) Q:=by
 cases b
 ·exact hy rfl
 ·exact hx rfl
theorem jm {l:List α} {i:Int} (h0:0<=i) (h1:i<l.length):Has (idx l i) (fun x=>x∈l/\l[i.toNat]?=some x):=by
 have hi:i.toNat<l.length:=by omega
 exact⟨l[i.toNat],vD h0 (List.getElem?_eq_getElem hi),List.getElem_mem hi,List.getElem?_eq_getElem hi⟩
theorem n0 {σ:Type} {body:σ->Option (σ⊕β)} (I:σ->Prop) (μ:σ->Nat) {x:σ} (h0:I x) (hN:μ x<=100000000)
  (h:∀ x,I x->μ x<=100000000->Has (body x) fun r=>match r with | .inl y=>I y/\μ y<μ x | .inr b=>R b):Has (aw body x) R:=by
 have key:∀ n x,I x->μ x<=n->n<=100000000->∃ b,iterM body (n+1) x=some b/\R b:=by
  intro n;induction n with
  | zero =>
   intro x hx hm hn;obtain⟨r,hr,hq⟩:=h x hx (by omega);cases r with
   | inl y=>exact absurd hq.2 (by omega)
   | inr b=>exact⟨b,by unfold iterM; rw[hr],hq⟩
  | succ n ih =>
   intro x hx hm hn;obtain⟨r,hr,hq⟩:=h x hx (by omega);cases r with
   | inl y =>
    obtain⟨b,hb,hq2⟩:=ih y hq.1 (by omega) (by omega);exact⟨b,by rw[iterM,hr]; exact hb,hq2⟩
   | inr b=>exact⟨b,by rw[iterM,hr],hq⟩
 obtain⟨b,hb,hq⟩:=key (μ x) x h0 (Nat.le_refl _) hN;exact⟨b,uI hb (by omega),hq⟩
theorem l8 {a b:Int} (h:ltZ a b=true):a<b:=by rw[bw] at h; simpa using h
theorem pE {a b:Int} (h:ltZ a b=false):b<=a:=by rw[bw] at h; simpa using h
theorem DK {a b:Int} (h:leZ a b=true):a<=b:=by rw[gC] at h; simpa using h
theorem QX {a b:Int} (h:leZ a b=false):b<a:=by rw[gC] at h; simpa using h
theorem Pc {a b:Int} (h:eqZ a b=true):a=b:=by rw[km] at h; simpa using h
theorem G4 {a b:Int} (h:eqZ a b=false):a≠b:=by rw[km] at h; simpa using h
theorem pF {l m:List α} (h:l.length+m.length<=1000000):Has (app? l m) (· = l++m):=⟨l++m,by unfold app?; rw[if_pos (by omega)],rfl⟩
theorem NY {l:List α} {i j:Int} (h0:0<=i) (h1:i<=j) (h2:j<=l.length):Has (cut l i j) (fun m=>m=(l.take j.toNat).drop i.toNat/\(m.length:Int)=j-i):=by
 refine⟨_,by unfold cut; rw[if_pos ⟨h0,h1,h2⟩],rfl,?_⟩;rw[List.length_drop,List.length_take]; omega
theorem Lg {p:Prop} [Decidable p] (h:p):Has (p6 p) (fun _=>True):=⟨(),by unfold p6; rw[if_pos h],trivial⟩
end
end Go.Lad
namespace Go.Proofs.YtcppfkflcigjcaaGreatDoor
open Go.Lad
theorem sN {a b:Bs} (h:a.length+b.length<=1000000000):Has (cat? a b) (fun s=>s=a++b):=⟨a++b,by unfold cat?; rw[if_pos (by omega)],rfl⟩
theorem DL:∀ k u,(oE k u).length<=k
 | 0,u=>Nat.le_refl _
 | k+1,u=>by
  unfold oE;cases Nat.blt u 10
  ·show (oE k (u / 10)++[UInt8.ofNat (48+u % 10)]).length<=k+1;have:=DL k (u / 10);simp; omega
  ·show (1:Nat)<=k+1;omega
def jn (n:Int):Bs:=oE 20 n.toNat
theorem yL {n:Int} (h0:0<=n) (h1:n<=9223372036854775807):Has (strconv_Itoa n) (fun s=>s=jn n):=by
 obtain⟨u,rfl⟩:∃ u:Nat,n=(u:Int):=⟨n.toNat,by omega⟩;refine⟨oE 20 u,?_,rfl⟩;show GW (Int.ofNat u)=_;show cond (Nat.ble u 9223372036854775807) (some (oE 20 u)) none=_;rw[show Nat.ble u 9223372036854775807=true by rw[Nat.ble_eq]; omega];rfl
theorem sb (n:Int):(jn n).length<=20:=DL _ _
def pe (s:Bs):Bs:=jn (s.length:Int)++[58]++s++[44]
def nuB (n:Int):Bs:=if n<0 then [] else jn n++[59]
theorem qf (s:Bs):(pe s).length<=s.length+22:=by
 have:=sb (s.length:Int);unfold pe;simp only[List.length_append,List.length_cons,List.length_nil];omega
theorem wP (n:Int):(nuB n).length<=21:=by
 have:=sb n;unfold nuB;split
 ·simp
 ·simp only[List.length_append,List.length_cons,List.length_nil]; omega
theorem Az (s:Bs) (h:s.length<=1000000):Has (ny s) (fun t=>t=pe s):=by
 have l1:=sb (s.length:Int);unfold ny;refine ay (yL (by omega) (by omega)) fun a ha=>?_;subst ha;refine ay (sN (by simp only[List.length_cons,List.length_nil]; omega)) fun a ha=>?_;subst ha;refine ay (sN (by simp only[List.length_append,List.length_cons,List.length_nil]; omega)) fun a ha=>?_;subst ha;exact ay (sN (by simp only[List.length_append,List.length_cons,List.length_nil]; omega)) fun a ha=>ah ha
theorem DM (n:Int) (h:n<=9223372036854775807):Has (mN n) (fun t=>t=nuB n):=by
 have l1:=sb n;unfold mN;refine aM (fun e=>ah ?_) fun e=>?_
 ·unfold nuB;rw[if_pos (l8 e)]
 ·have e:=pE e;unfold mM;refine ay (Q:=fun t=>t=nuB n) (ay (yL e h) fun a ha=>?_) fun a ha=>ah ha;subst ha;refine ay (sN (by simp only[List.length_cons,List.length_nil]; omega)) fun a ha=>ah ?_;rw[ha];unfold nuB;rw[if_neg (by omega)]
theorem wQ {d:Nat} (h:d<10):(UInt8.ofNat (48+d)).toNat=48+d:=by
 rw[UInt8.toNat_ofNat'];omega
theorem BS {k u:Nat} (h:u<10):oE (k+1) u=[UInt8.ofNat (48+u)]:=by
 have hb:Nat.blt u 10=true:=by rw[Nat.blt_eq]; exact h
 unfold oE;rw[hb]; rfl
theorem BT {k u:Nat} (h:10<=u):oE (k+1) u=oE k (u / 10)++[UInt8.ofNat (48+u % 10)]:=by
 have hb:Nat.blt u 10=false:=by
  cases hb:Nat.blt u 10
  ·rfl
  ·rw[Nat.blt_eq] at hb; omega
 rw[oE,hb]; rfl
theorem DN:∀ k u,∀ c∈oE k u,48<=c.toNat/\c.toNat<=57
 | 0,u,c,h=>by cases h
 | k+1,u,c,h=>by
  rcases Nat.lt_or_ge u 10 with hu | hu
  ·rw[BS hu] at h;rw[List.mem_singleton.1 h,wQ hu]; omega
  ·rw[BT hu] at h;rcases List.mem_append.1 h with h | h
   ·exact DN k _ c h
   ·rw[List.mem_singleton.1 h,wQ (Nat.mod_lt _ (by omega))]; have:=Nat.mod_lt u (show 10 > 0 by omega); omega
theorem AA (c:UInt8):∀ (s:Bs) (a:Nat),tD a (s++[c])=(tD a s).bind fun v=>cond (Nat.ble 48 c.toNat && Nat.ble c.toNat 57) (some (v * 10+(c.toNat-48))) none
 | [],a=>rfl
 | x::r,a=>by
  show cond _ (tD _ (r++[c])) none=(cond _ (tD _ r) none).bind _;cases (Nat.ble 48 x.toNat && Nat.ble x.toNat 57)
  ·rfl
  ·exact AA c r _
theorem QY {c:UInt8} (h:48<=c.toNat/\c.toNat<=57):(Nat.ble 48 c.toNat && Nat.ble c.toNat 57)=true:=by
 rw[Bool.and_eq_true,Nat.ble_eq,Nat.ble_eq]; exact h
theorem Pd {k u:Nat} (h:u<10 ^ (k+1)):u / 10<10 ^ k:=by
 rw[Nat.pow_succ] at h;exact Nat.div_lt_of_lt_mul (by omega)
theorem Lh {k u:Nat} (h:u<10 ^ (k+1)) (hu:10<=u):1<=k:=by
 rcases k with _ | k
 ·simp at h; omega
 ·omega
theorem DO:∀ k u,1<=k->u<10 ^ k->tD 0 (oE k u)=some u
 | 0,u,h,_=>absurd h (by omega)
 | k+1,u,_,h=>by
  rcases Nat.lt_or_ge u 10 with hu | hu
  ·rw[BS hu];have h1:=wQ hu;show cond _ (some (0 * 10+((UInt8.ofNat (48+u)).toNat-48))) none=some u;rw[QY (by rw[h1]; omega),h1];show some (0 * 10+(48+u-48))=some u;congr 1; omega
  ·have hm:=Nat.mod_lt u (show 10 > 0 by omega);have h1:=wQ hm;rw[BT hu,AA,DO k _ (Lh h hu) (Pd h),QY (by rw[h1]; omega),h1];show some (u / 10 * 10+(48+u % 10-48))=some u;congr 1; omega
theorem AB:∀ k m u,1<=m->u<10 ^ m->(oE k u).length<=m
 | 0,m,u,_,_=>Nat.zero_le _
 | k+1,0,u,h,_=>absurd h (by omega)
 | k+1,m+1,u,_,h=>by
  rcases Nat.lt_or_ge u 10 with hu | hu
  ·rw[BS hu]; show 1<=m+1; omega
  ·rw[BT hu,List.length_append];have:=AB k m (u / 10) (Lh h hu) (Pd h);show _+1<=_; omega
theorem NZ {k u:Nat} (h:1<=k):oE k u≠[]:=by
 obtain⟨k,rfl⟩:∃ j,k=j+1:=⟨k-1,by omega⟩;rcases Nat.lt_or_ge u 10 with hu | hu
 ·rw[BS hu]; exact List.cons_ne_nil _ _
 ·rw[BT hu]; simp
theorem Li {n:Int} (h0:0<=n) (h1:n<1000000000000000000):Au (jn n)=some n:=by
 obtain⟨u,rfl⟩:∃ u:Nat,n=(u:Int):=⟨n.toNat,by omega⟩;have hu:u<10 ^ 18:=by show u<1000000000000000000; omega
 have hv:tD 0 (oE 20 u)=some u:=DO 20 u (by omega) (Nat.lt_of_lt_of_le hu (Nat.pow_le_pow_right (by omega) (by omega)));have hl:=AB 20 18 u (by omega) hu;have hn:oE 20 u≠[]:=NZ (by omega);show Au (oE 20 u)=_;cases hd:oE 20 u with
 | nil=>exact absurd hd hn
 | cons c r =>
  rw[hd] at hv hl;unfold Au;show cond (Nat.ble (c::r).length 18) ((tD 0 (c::r)).map Int.ofNat) none=_;rw[show Nat.ble (c::r).length 18=true by rw[Nat.ble_eq]; exact hl,hv]; rfl
theorem G6 (c:UInt8) (r:Bs):∀ (d:Bs) (i:Nat),(∀ x∈d,x≠c)->DG (d++c::r) c.toNat i=((i+d.length:Nat):Int)
 | [],i,_=>by
  show cond (Nat.beq c.toNat c.toNat) (i:Int) _=_;rw[show Nat.beq c.toNat c.toNat=true by rw[Nat.beq_eq]]; rfl
 | x::d,i,h=>by
  show cond (Nat.beq x.toNat c.toNat) (i:Int) (DG (d++c::r) c.toNat (i+1))=_;have hb:Nat.beq x.toNat c.toNat=false:=by
   cases hb:Nat.beq x.toNat c.toNat
   ·rfl
   ·exact absurd (UInt8.toNat_inj.1 (by rw[Nat.beq_eq] at hb; exact hb)) (h x List.mem_cons_self)
  rw[hb];show DG (d++c::r) c.toNat (i+1)=_;rw[G6 c r d (i+1) fun y hy=>h y (List.mem_cons_of_mem _ hy),List.length_cons];congr 1; omega
theorem Lj (n:Int):∀ c∈jn n,48<=c.toNat/\c.toNat<=57:=DN _ _
theorem FD {l m:Bs} {n:Int} (h:n=(l.length:Int)):cut (l++m) 0 n=some l:=by
 unfold cut;rw[h,if_pos ⟨by omega,by omega,by rw[List.length_append]; omega⟩,Int.toNat_natCast,List.take_left]; rfl
theorem yM {l m:Bs} {n k:Int} (h:n=(l.length:Int)) (hk:k=((l++m).length:Int)):cut (l++m) n k=some m:=by
 unfold cut;rw[h,hk,if_pos ⟨by omega,by rw[List.length_append]; omega,by omega⟩,Int.toNat_natCast,Int.toNat_natCast,List.take_length,List.drop_left]
theorem yN (c:UInt8) (hc:c.toNat<48\/57<c.toNat) (lo n:Int) (hlo:lo<=n) (h0:0<=n) (h1:n<1000000000000000000) (t:Bs) (b:Bool) :
  bK (c.toNat:Int) lo (jn n++[c]++t) b=some (n,t,b):=by
 have hl:=sb n;have hd:=Lj n;have hne:∀ x∈jn n,x≠c:=fun x hx e=>by
  have:=hd x hx;rw[e] at this;omega
 have hlen:(jn n++[c]++t).length=(jn n).length+1+t.length:=by
  rw[List.length_append,List.length_append]; rfl
 obtain⟨u,hu⟩:∃ u,(jn n++[c]++t).take (min ((jn n++[c]++t).length:Int) 21).toNat=jn n++c::u:=by
  have hK:(jn n).length+1<=(min ((jn n++[c]++t).length:Int) 21).toNat:=by rw[hlen]; omega
  generalize (min ((jn n++[c]++t).length:Int) 21).toNat=K at hK ⊢;obtain⟨j,rfl⟩:∃ j,K=(jn n).length+1+j:=⟨K-((jn n).length+1),by omega⟩;refine⟨t.take j,?_⟩;rw[List.append_assoc,List.take_append,List.take_of_length_le (by omega),show (jn n).length+1+j-(jn n).length=j+1 by omega];rfl
 have hcut:cut (jn n++[c]++t) 0 (min ((jn n++[c]++t).length:Int) 21)=some (jn n++c::u):=by
  unfold cut;rw[if_pos ⟨by omega,by omega,by omega⟩,hu]; rfl
 unfold bK;rw[hcut];rw[aj];have hidx:strings_IndexByte (jn n++c::u) (c.toNat:Int)=some ((jn n).length:Int):=by
  show qU _ _=_;unfold qU;rw[Int.toNat_natCast,G6 c u (jn n) 0 hne,Nat.zero_add]
 rw[hidx,aj];rw[bw,decide_eq_false (by omega)];show ((cut (jn n++c::u) 0 ((jn n).length:Int)).bind _)=_;rw[FD rfl];show ((strconv_Atoi (jn n)).bind _)=_;rw[show strconv_Atoi (jn n)=some n from Li h0 h1];show (((strconv_Itoa n).bind _).bind _)=_;obtain⟨s,hs,hs2⟩:=yL h0 (by omega:n<=9223372036854775807);subst hs2;rw[hs,aj,aj];show ((bif !decide (jn n=jn n) then some true else some (ltZ n lo)).bind _)=_;rw[decide_eq_true rfl];show bK.j1 (jn n++[c]++t) b ((jn n).length:Int) n (ltZ n lo)=_;rw[bw,decide_eq_false (by omega)];unfold bK.j1;show (z64 ((jn n).length+1:Int)).bind _=_;rw[BR (by omega) (by omega)];show ((cut (jn n++[c]++t) ((jn n).length+1:Int) ((jn n++[c]++t).length:Int)).bind _)=_;rw[yM (by rw[List.length_append]; rfl) rfl];rfl
theorem AD {n:Int} (h0:0<=n) (h1:n<1000000000000000000) (t:Bs) (b:Bool):fK (nuB n++t) b=some (n,t,b):=by
 unfold fK nuB;rw[if_neg (by omega)];rw[show bK 59 0 (jn n++[59]++t) b=some (n,t,b) from yN 59 (by decide) 0 n h0 h0 h1 t b];rfl
theorem FE (t:Bs) (b:Bool):gi [44] ([44]++t) b=some (t,b):=by
 unfold gi strings_CutPrefix eh cC;rw[show leZ (([44]:Bs).length:Int) ((([44]:Bs)++t).length:Int)=true by rw[gC,decide_eq_true]; rw[List.length_append]; omega];show ((((((cut ([44]++t) 0 (([44]:Bs).length:Int)).bind _).bind _).bind _).bind _))=_;rw[FD rfl];show (((((cut ([44]++t) (([44]:Bs).length:Int) ((([44]:Bs)++t).length:Int)).bind _).bind _).bind _))=_;rw[yM rfl rfl];rfl
theorem yO (s t:Bs) (hs:s.length<=1000000):eM (pe s++t) false=some (s,t,false):=by
 unfold eM pe;rw[show jn (s.length:Int)++[58]++s++[44]++t=jn (s.length:Int)++[58]++(s++([44]++t)) by simp only[List.append_assoc]];rw[show bK 58 0 (jn (s.length:Int)++[58]++(s++([44]++t))) false=some ((s.length:Int),s++([44]++t),false) from yN 58 (by decide) 0 _ (by omega) (by omega) (by omega) _ _];show (bif ltZ ((s++([44]++t)).length:Int) (s.length:Int) then _ else _)=_;rw[bw,decide_eq_false (by rw[List.length_append]; omega)];show ((cut (s++([44]++t)) 0 (s.length:Int)).bind _)=_;rw[FD rfl];show ((cut (s++([44]++t)) (s.length:Int) ((s++([44]++t)).length:Int)).bind _)=_;rw[yM rfl rfl];show ((gi [44] ([44]++t) false).bind _)=_;rw[FE];rfl
theorem has_fold {α β σ:Type} {body:Int×σ->Option ((Int×σ)⊕β)} {R:β->Prop} (l:List α) (I:Nat->σ->Prop) (hl:l.length<=1000) {s0:σ} (h0:I 0 s0)
  (h:∀ i (hi:i<l.length) s,I i s->Has (body ((i:Int),s)) fun r=>match r with | .inl y=>y.1=((i+1:Nat):Int)/\I (i+1) y.2 | .inr b=>R b)
  (he:∀ s,I l.length s->Has (body ((l.length:Int),s)) fun r=>match r with | .inl _=>False | .inr b=>R b):Has (aw body (0,s0)) R:=by
 refine n0 (fun x=>∃ i:Nat,x.1=(i:Int)/\i<=l.length/\I i x.2) (fun x=>l.length-x.1.toNat) ⟨0,rfl,Nat.zero_le _,h0⟩ (by show l.length-_<=_; omega) (fun x hx _=>?_);obtain⟨v,s⟩:=x;obtain⟨i,x1,x2,x3⟩:=hx;simp only at x1 x3;subst x1;rcases Nat.lt_or_ge i l.length with hi | hi
 ·refine (h i hi s x3).mono fun r hr=>?_;cases r with
  | inl y =>
   obtain⟨y1,y2⟩:=hr;exact⟨⟨i+1,y1,hi,y2⟩,by show l.length-y.1.toNat<l.length-((i:Int)).toNat; rw[y1]; omega⟩
  | inr b=>exact hr
 ·have:i=l.length:=by omega
  subst this;refine (he s x3).mono fun r hr=>?_;cases r with
  | inl y=>exact hr.elim
  | inr b=>exact hr
theorem FF (a b:Bs):eQ a++eQ b=eQ (a++b):=by unfold eQ; rw[List.map_append]
theorem DP {a s:Bs} (h:a.length+s.length<=1000000):Has (app? (eQ a) (eQ s)) (fun r=>r=eQ (a++s)):=by
 refine (pF (by rw[qM,qM]; exact h)).mono fun r hr=>?_;rw[hr,FF]
theorem N0 (s:Bs) (h:s.length<=1000000):Has (eV s) (fun r=>r.2=eQ s):=by
 show Has ((app? [] (eQ s)).bind _) _;exact ay (DP (a:=[]) (s:=s) (by simpa using h)) fun r hr=>ah hr
theorem N1 (s a:Bs) (h:a.length+s.length<=1000000):Has (ef s (eQ a)) (fun r=>r.2=eQ (a++s)):=by
 show Has ((app? (eQ a) (eQ s)).bind _) _;exact ay (DP h) fun r hr=>ah hr
theorem DQ {t:Bs} (h0:t≠[]) (h:t.length<=2147483647):yH (eQ t)=some t:=by
 have h1:Nat.blt 0 (eQ t).length=true:=by
  rw[qM,Nat.blt_eq];exact List.length_pos_iff.2 h0
 have h3:Nat.ble (eQ t).length 2147483647=true:=by rw[qM,Nat.ble_eq]; exact h
 unfold yH;rw[h1,h3,Bool.true_and,Bool.and_true];refine (congrArg (fun b:Bool=>cond b (some (List.map (fun n:Int=>UInt8.ofNat n.toNat) (eQ t))) none) (List.all_eq_true.2 fun x hx=>?_)).trans ?_
 ·obtain⟨c,hc,rfl⟩:=List.mem_map.1 hx;show Nat.ble c.toNat 255=true;rw[Nat.ble_eq];have:=c.toNat_lt;omega
 show some _=some t;congr 1;unfold eQ;rw[List.map_map,show ((fun n:Int=>UInt8.ofNat n.toNat) ∘ fun b:UInt8=>(b.toNat:Int))=id from funext fun c=>by
  show UInt8.ofNat (Int.toNat (c.toNat:Int))=c;rw[Int.toNat_natCast];exact UInt8.ofNat_toNat]
 exact List.map_id t
theorem N2 {a:Bs} (h0:a≠[]) (h:a.length<=1000000):Has (ij (eQ a)) (fun r=>r=a):=NX (DQ h0 (by omega)) rfl
end Go.Proofs.YtcppfkflcigjcaaGreatDoor
namespace Go.Proofs.YtcppfkflcigjcaaGreatDoor
open Go.Lad
end Go.Proofs.YtcppfkflcigjcaaGreatDoor
namespace Go.Lad
def ba.nm:ba->Bs
 | .mk n _ _=>n
def ba.kd:ba->Int
 | .mk _ k _=>k
def ba.fs:ba->List ba
 | .mk _ _ l=>l
end Go.Lad
namespace Go.Proofs.YtcppfkflcigjcaaGreatDoor
open Go.Lad
def unL (l:List ba):List iM:=List.map (α:=ba) (β:=iM) (Uun 0) l
def mkL (l:List iM):List ba:=List.map (α:=iM) (β:=ba) (Umk 0) l
theorem fu1 (l:List ba):@List.map (UD 0) iM (Uun 0) l=unL l:=rfl
theorem fu2 (l:List ba):@List.map ba iM (Uun 0) l=unL l:=rfl
theorem fu3 (l:List ba):@List.map (UD 0) (jI 0).den (Uun 0) l=unL l:=rfl
theorem fu4 (l:List ba):@List.map ba (jI 0).den (Uun 0) l=unL l:=rfl
theorem Pe:∀ (l:List ba),mkL (unL l)=l
 | []=>rfl
 | x::r=>congr (congrArg List.cons (J9 0 x)) (Pe r)
theorem fx2 (l:List ba):@List.map (jI 0).den (UD 0) (Umk 0) (@List.map (UD 0) (jI 0).den (Uun 0) l)=l:=Pe l
theorem Rv (f:ba):(Uun 0 f:iM)=(f.nm,f.kd,f.fs):=by cases f; rfl
theorem oh (l:List ba):(unL l).length=l.length:=List.length_map _
theorem Qe (l:List ba) {k:Nat} (h:k<l.length):(unL l)[k]'(by rw[oh]; exact h)=(l[k].nm,l[k].kd,l[k].fs) :=
 (List.getElem_map (α:=ba) (β:=iM) (Uun 0)).trans (Rv _)
theorem vE {l:List ba} {k:Nat} (h:k<l.length):idx (unL l) (k:Int)=some (l[k].nm,l[k].kd,l[k].fs):=by
 rw[dV (by rw[oh]; exact h),Qe l h]
def allI {α:Type} (t:Nat->α->Bool):Nat->List α->Bool
 | _,[]=>true
 | k,x::r=>t k x && allI t (k+1) r
theorem DR {α:Type} (t:Nat->α->Bool):∀ (l:List α) (k:Nat),allI t k l=true↔∀ i (h:i<l.length),t (k+i) l[i]=true
 | [],k=>by simp [allI]
 | x::r,k=>by
  unfold allI;rw[Bool.and_eq_true,DR t r (k+1)];constructor
  ·rintro⟨h1,h2⟩ i hi;cases i with
   | zero=>exact h1
   | succ i=>rw[List.getElem_cons_succ,show k+(i+1)=k+1+i by omega]; exact h2 i (by simpa using hi)
  ·intro h;exact⟨h 0 (by simp),fun i hi=>by have:=h (i+1) (by simpa using hi); rw[List.getElem_cons_succ,show k+(i+1)=k+1+i by omega] at this; exact this⟩
theorem Lk {α:Type} {body:Int->Option (Int⊕Bool)} (l:List α) (t:Nat->α->Bool)
  (h:∀ k (hk:k<l.length),body (k:Int)=some (if t k l[k]=true then .inl ((k+1:Nat):Int) else .inr false))
  (hd:body (l.length:Int)=some (.inr true)) (hn:l.length<1606938044258990275541962092341162602522202993782792835301376) :
  aw body 0=some (allI t 0 l):=by
 have e:allI t 0 l=(scan (fun k x=>if t k x=true then none else some false) 0 l).getD true:=by
  have:∀ (r:List α) (k:Nat),allI t k r=(scan (fun k x=>if t k x=true then none else some false) k r).getD true:=by
   intro r;induction r with
   | nil=>intro k; rfl
   | cons x r ih =>
    intro k;unfold allI scan;cases t k x with
    | true=>simp [ih (k+1)]
    | false=>simp
  exact this l 0
 rw[e];refine IB l _ true (fun k hk=>?_) hd hn;rw[h k hk];cases t k l[k] <;> simp
theorem vF (c:Int):gV c=some (leZ 97 c && leZ c 122):=by unfold gV; cases leZ 97 c <;> rfl
theorem Ll (c:Int):iR c=some (leZ 48 c && leZ c 57):=by unfold iR; cases leZ 48 c <;> rfl
theorem Lm (c:Int):nv c=some ((leZ 97 c && leZ c 122) || (leZ 48 c && leZ c 57)):=by
 unfold nv;rw[vF,Ll];simp only[aj];cases (leZ 97 c && leZ c 122) <;> rfl
theorem FG {s:Bs} {k:Nat} (h:k<s.length):bAt s (k:Int)=some (s[k].toNat:Int):=by unfold bAt; rw[dV h]; rfl
theorem N3 (s:Bs) (h:s.length<=20):∃ n,eY s=some n:=by
 unfold eY;obtain⟨b,hb,_⟩:=IA (body:=fun x=>eY.b1 s x) (fun k x=>x=(k:Int)/\k<=s.length) (Q:=fun _=>True) s.length (x:=0) ⟨rfl,Nat.zero_le _⟩ (fun k hk x hx=>by
  obtain⟨rfl,_⟩:=hx;unfold eY.b1 eY.j1;simp only[bw];rw[decide_eq_true (show (k:Int)<(s.length:Int) by omega),cond_true,FG hk,aj,Lm];simp only[aj];cases ((leZ 97 (s[k].toNat:Int) && leZ (s[k].toNat:Int) 122) || (leZ 48 (s[k].toNat:Int) && leZ (s[k].toNat:Int) 57)) with
  | true =>
   simp only[cond_true];rw[ek (by omega),aj];exact .inl ⟨_,rfl,rfl,by omega⟩
  | false=>exact .inr ⟨_,rfl,trivial⟩) (fun x hx=>by
  obtain⟨rfl,_⟩:=hx;unfold eY.b1 eY.j1;simp only[bw];rw[decide_eq_false (by omega),cond_false];simp only[aj];exact⟨_,rfl,trivial⟩) (by omega)
 exact⟨b,hb⟩
theorem G7 (s:Bs):∃ b,ja s=some b:=by
 unfold ja ja.j1;by_cases h0:s=[]
 ·rw[decide_eq_true h0]; exact⟨false,by subst h0; rfl⟩
 ·have hl:0<s.length:=List.length_pos_iff.2 h0;rw[decide_eq_false h0,cond_false,show (0:Int)=((0:Nat):Int) from rfl,FG hl,aj,vF];simp only[aj];cases (leZ 97 (s[0].toNat:Int) && leZ (s[0].toNat:Int) 122) with
  | false=>exact⟨_,rfl⟩
  | true =>
   simp only[Bool.not_true,cond_false,aj,bw];by_cases h20:(20:Int)<(s.length:Int)
   ·rw[decide_eq_true h20]; exact⟨_,rfl⟩
   ·rw[decide_eq_false h20,cond_false];obtain⟨n,hn⟩:=N3 s (by omega);rw[hn]; exact⟨_,rfl⟩
noncomputable def uE (s:Bs):Bool:=(dA s).getD false
theorem DS {s:Bs} (h:ja s=some true):s.length<=20:=by
 refine Classical.byContradiction fun hl=>?_;unfold ja ja.j1 at h;have h0:s≠[]:=fun e=>hl (by subst e; simp);have hp:0<s.length:=List.length_pos_iff.2 h0;rw[decide_eq_false h0,cond_false,show (0:Int)=((0:Nat):Int) from rfl,FG hp,aj,vF] at h;simp only[aj] at h;cases hc:(leZ 97 (s[0].toNat:Int) && leZ (s[0].toNat:Int) 122) with
 | false=>rw[hc] at h; cases h
 | true =>
  rw[hc] at h;simp only[Bool.not_true,cond_false,aj,bw] at h;rw[decide_eq_true (show (20:Int)<(s.length:Int) by omega)] at h;cases h
theorem BU (w v:Bs) (h:Nat.ble w.length 1000000000=true):strings_Contains w v=some (Lib.contains w v):=by
 unfold strings_Contains qd;rw[h]; rfl
theorem G8 (s:Bs):dA s=some (uE s):=by
 have:∃ b,dA s=some b:=by
  unfold dA;obtain⟨b,hb⟩:=G7 s;rw[hb,aj];cases b with
  | false=>exact⟨_,rfl⟩
  | true =>
   have hl:=DS hb;rw[cond_true];unfold cat?;rw[if_pos (by simp; omega),aj,if_pos (by simp; omega),aj];rw[BU _ _ (by kernel_rfl),aj];exact⟨_,rfl⟩
 obtain⟨b,hb⟩:=this;unfold uE;rw[hb]; rfl
def upN (a b:Bs):Bool := !(Op.bytesLess b a || decide (b=a))
noncomputable def iF:Nat->Int->List ba->Bool
 | 0,_,_=>false
 | d+1,k,l=>(decide (0<=k/\k<3/\l.length<=8/\(k=2\/l=[]))) && allI (fun i f=>uE f.nm && ((decide (i=0) || upN ((l.map ba.nm).getD (i-1) []) f.nm) && iF d f.kd f.fs)) 0 l
theorem N4 {α:Type} {l:List α}:l=[]↔l.length=0:=List.length_eq_zero_iff.symm
theorem FH (k:Int) (l:List ba) (d:Nat):(bif (eqZ ((d+1:Nat):Int) 0) then some true else (bif (ltZ k 0) then some true else (bif (leZ 3 k) then some true else (bif (ltZ 8 (l.length:Int)) then some true else
   (bif (!eqZ k 2) then some (ltZ 0 (l.length:Int)) else some false)))))=some (!decide (0<=k/\k<3/\l.length<=8/\(k=2\/l=[]))):=by
 simp only[bw,gC,km,NU,NV,N4];split
 ·omega
 split
 ·rw[decide_eq_false (by omega)]; rfl
 split
 ·rw[decide_eq_false (by omega)]; rfl
 split
 ·rw[decide_eq_false (by omega)]; rfl
 split
 ·rw[decide_eq_true (by omega)]; rfl
 ·by_cases h:(0:Int)<(l.length:Int)
  ·rw[decide_eq_true h,decide_eq_false (by omega)]; rfl
  ·rw[decide_eq_false h,decide_eq_true (by omega)]; rfl
theorem AE:∀ (d n:Nat) (k:Int) (l:List ba),d<=4->d<n->ar.rec n k (unL l) (d:Int)=some (iF d k l)
 | d,0,_,_,_,h=>absurd h (by omega)
 | 0,n+1,k,l,_,_=>rfl
 | d+1,n+1,k,l,hd,hn=>by
  show ar.body (ar.rec n) k (unL l) ((d+1:Nat):Int)=_;unfold ar.body ar.j2;rw[oh,FH,aj];unfold iF;by_cases hok:0<=k/\k<3/\l.length<=8/\(k=2\/l=[])
  rotate_left
  ·rw[decide_eq_false hok]; rfl
  ·rw[decide_eq_true hok,Bool.not_true,cond_false,Bool.true_and];refine Lk l _ (fun i hi=>?_) ?_ (by omega)
   ·unfold ar.b1 ar.j1;simp only[fu1,fu2,fu3,fu4];rw[oh,bw,decide_eq_true (by omega),cond_true,vE hi,aj,G8,aj];rw[ek (by omega)];cases hnm:uE l[i].nm with
    | false=>rfl
    | true =>
     rw[Bool.not_true,cond_false];have hd1:z64 (((d+1:Nat):Int)-1)=some (d:Int):=by rw[mT (by omega)]; congr 1; omega
     have hrec:=AE d n l[i].kd l[i].fs (by omega) (by omega);simp only[hd1,aj,hrec,Bool.true_and];by_cases h0:i=0
     ·subst h0;rw[bw,decide_eq_false (by omega),cond_false,decide_eq_true rfl,Bool.true_or,Bool.true_and];simp only[aj];cases iF d (l[0]'hi).kd (l[0]'hi).fs <;> rfl
     ·obtain⟨j,rfl⟩:∃ j,i=j+1:=⟨i-1,by omega⟩;have hj:z64 (((j+1:Nat):Int)-1)=some (j:Int):=by rw[mT (by omega)]; congr 1; omega
      rw[bw,decide_eq_true (by omega),cond_true,hj,aj,vE (show j<l.length by omega),aj,decide_eq_false (show ¬ (j+1=0) by omega),Bool.false_or];have hg:(l.map ba.nm).getD (j+1-1) []=(l[j]'(by omega)).nm:=by
       rw[Nat.add_sub_cancel,List.getD_eq_getElem?_getD,List.getElem?_map,List.getElem?_eq_getElem (by omega)]; rfl
      rw[hg];unfold upN;simp only[aj];cases (Op.bytesLess (l[j+1]'hi).nm (l[j]'(by omega)).nm || decide ((l[j+1]'hi).nm=(l[j]'(by omega)).nm)) <;> cases iF d (l[j+1]'hi).kd (l[j+1]'hi).fs <;> rfl
   ·unfold ar.b1;rw[oh,bw,decide_eq_false (by omega),cond_false]
theorem l9 {d:Nat} {k:Int} {l:List ba}:iF (d+1) k l=true↔(0<=k/\k<3/\l.length<=8/\(k=2\/l=[])) /\
  ∀ i (h:i<l.length),uE l[i].nm=true/\(i=0\/upN (l[i-1]'(by omega)).nm l[i].nm=true)/\iF d l[i].kd l[i].fs=true:=by
 show (decide (0<=k/\k<3/\l.length<=8/\(k=2\/l=[])) && allI (fun i f=>uE f.nm && ((decide (i=0) || upN ((l.map ba.nm).getD (i-1) []) f.nm) && iF d f.kd f.fs)) 0 l)=true↔_;rw[Bool.and_eq_true,decide_eq_true_eq,DR];refine and_congr_right fun _=>forall_congr' fun i=>forall_congr' fun h=>?_;have hg:(l.map ba.nm).getD (i-1) []=(l[i-1]'(by omega)).nm:=by
  rw[List.getD_eq_getElem?_getD,List.getElem?_map,List.getElem?_eq_getElem (by omega)]; rfl
 simp only[Nat.zero_add,Bool.and_eq_true,Bool.or_eq_true,decide_eq_true_eq,hg]
theorem qg:∀ a:Bs,Op.bytesLess a a=false
 | []=>rfl
 | x::a=>by
  unfold Op.bytesLess;rw[qg a,Bool.and_false,Bool.or_false,decide_eq_false (by rw[UInt8.lt_iff_toNat_lt]; omega)]
theorem yP:∀ {a b c:Bs},Op.bytesLess a b=true->Op.bytesLess b c=true->Op.bytesLess a c=true
 | _,[],_,h,_=>by unfold Op.bytesLess at h; cases h
 | _,_::_,[],_,h=>by unfold Op.bytesLess at h; cases h
 | [],y::b,z::c,_,_=>rfl
 | x::a,y::b,z::c,h1,h2=>by
  unfold Op.bytesLess at h1 h2 ⊢;simp only[Bool.or_eq_true,Bool.and_eq_true,decide_eq_true_eq,beq_iff_eq,UInt8.lt_iff_toNat_lt] at h1 h2 ⊢;rcases h1 with h1 | ⟨rfl,h1⟩
  ·rcases h2 with h2 | ⟨rfl,h2⟩
   ·exact .inl (by omega)
   ·exact .inl h1
  ·rcases h2 with h2 | ⟨rfl,h2⟩
   ·exact .inl h2
   ·exact .inr ⟨rfl,yP h1 h2⟩
theorem Ln:∀ {a b:Bs},a≠b->Op.bytesLess a b=true\/Op.bytesLess b a=true
 | [],[],h=>absurd rfl h
 | [],y::b,_=>.inl rfl
 | x::a,[],_=>.inr rfl
 | x::a,y::b,h=>by
  unfold Op.bytesLess;simp only[Bool.or_eq_true,Bool.and_eq_true,decide_eq_true_eq,beq_iff_eq,UInt8.lt_iff_toNat_lt];by_cases hxy:x=y
  ·subst hxy;have:a≠b:=fun e=>h (by rw[e]);rcases Ln this with h1 | h1
   ·exact .inl (.inr ⟨rfl,h1⟩)
   ·exact .inr (.inr ⟨rfl,h1⟩)
  ·have:x.toNat≠y.toNat:=fun e=>hxy (UInt8.toNat_inj.1 e);rcases Nat.lt_or_gt_of_ne this with h1 | h1
   ·exact .inl (.inl h1)
   ·exact .inr (.inl h1)
theorem FI {a b:Bs}:upN a b=true↔Op.bytesLess a b=true:=by
 unfold upN;rw[Bool.not_eq_true',Bool.or_eq_false_iff,decide_eq_false_iff_not];constructor
 ·rintro⟨h1,h2⟩;rcases Ln (Ne.symm h2) with h | h
  ·exact h
  ·rw[h1] at h; cases h
 ·intro h;refine⟨?_,fun e=>by subst e; rw[qg] at h; cases h⟩;cases hb:Op.bytesLess b a with
  | false=>rfl
  | true=>have:=yP h hb; rw[qg] at this; cases this
def srt (l:List ba):Prop := ∀ i j (hi:i<j) (hj:j<l.length),Op.bytesLess (l[i]'(by omega)).nm l[j].nm=true
theorem AF {d:Nat} {k:Int} {l:List ba} (h:iF d k l=true):srt l:=by
 cases d with
 | zero=>cases h
 | succ d =>
  obtain⟨_,h2⟩:=l9.1 h;have key:∀ (m i:Nat) (hj:i+1+m<l.length),Op.bytesLess (l[i]'(by omega)).nm l[i+1+m].nm=true:=by
   intro m;induction m with
   | zero =>
    intro i hj;rcases (h2 (i+1) hj).2.1 with h | h
    ·omega
    ·exact FI.1 h
   | succ m ih =>
    intro i hj;have h1:=ih i (by omega);rcases (h2 (i+1+(m+1)) hj).2.1 with h | h
    ·omega
    ·exact yP h1 (FI.1 h)
  intro i j hi hj;obtain⟨m,rfl⟩:∃ m,j=i+1+m:=⟨j-(i+1),by omega⟩;exact key m i hj
theorem N5 {l:List ba} (h:srt l) {i j:Nat} (hi:i<l.length) (hj:j<l.length) (e:l[i].nm=l[j].nm):i=j:=by
 rcases Nat.lt_trichotomy i j with h1 | h1 | h1
 ·have:=h i j h1 hj; rw[e,qg] at this; cases this
 ·exact h1
 ·have:=h j i h1 hi; rw[e,qg] at this; cases this
theorem yQ:∀ {d:Nat} {k:Int} {l:List ba},iF d k l=true->iF (d+1) k l=true
 | 0,_,_,h=>by cases h
 | d+1,k,l,h=>by
  obtain⟨h1,h2⟩:=l9.1 h;exact l9.2 ⟨h1,fun i hi=>⟨(h2 i hi).1,(h2 i hi).2.1,yQ (h2 i hi).2.2⟩⟩
theorem FJ {d:Nat} {k:Int} {l:List ba} (hd:d<=4) (h:iF d k l=true):iF 4 k l=true:=by
 have:∀ m,iF (d+m) k l=true:=fun m=>by
  induction m with
  | zero=>exact h
  | succ m ih=>exact yQ ih
 have e:d+(4-d)=4:=by omega
 have h5:=this (4-d);rw[e] at h5; exact h5
theorem qh (k:Int) (l:List ba):gL k (unL l)=some (iF 4 k l):=by
 show (fk k (unL l)).bind _=_;have h:ar k (unL l) 4=some (iF 4 k l):=AE 4 _ k l (by omega) (by decide);show ((ar k (unL l) 4).bind fun r3=>some r3).bind _=_;rw[h]; rfl
theorem uJ {s:Bs} (h:uE s=true):s.length<=20:=by
 unfold uE at h;refine Classical.byContradiction fun hl=>?_;obtain⟨b,hb⟩:=G7 s;cases b with
 | true=>exact hl (DS hb)
 | false =>
  unfold dA at h;rw[hb] at h;cases h
end Go.Proofs.YtcppfkflcigjcaaGreatDoor
namespace Go.Proofs.YtcppfkflcigjcaaGreatDoor
open Go.Lad
def unV (l:List lE):List ed:=List.map (α:=lE) (β:=ed) (Uun 3) l
def mkV (l:List ed):List lE:=List.map (α:=ed) (β:=lE) (Umk 3) l
theorem vu1 (l:List lE):@List.map (UD 3) ed (Uun 3) l=unV l:=rfl
theorem vu2 (l:List lE):@List.map lE ed (Uun 3) l=unV l:=rfl
theorem vu3 (l:List lE):@List.map (UD 3) (jI 3).den (Uun 3) l=unV l:=rfl
theorem Lo:∀ (l:List ed),unV (mkV l)=l
 | []=>rfl
 | x::r=>congr (congrArg List.cons (Ka 3 x)) (Lo r)
theorem Lp:∀ (l:List lE),mkV (unV l)=l
 | []=>rfl
 | x::r=>congr (congrArg List.cons (J9 3 x)) (Lp r)
def zeroV:Nat->Int->List ba->ed
 | 0,k,_=>(k,0,[],[])
 | d+1,k,l=>(k,0,l.map ba.nm,mkV (l.map fun f=>zeroV d f.kd f.fs))
def nA:Nat->Int->List ba->Bs
 | 0,_,_=>[]
 | d+1,k,l=>if k=2 then nuB k++(l.map fun f=>pe f.nm++pe (nA d f.kd f.fs)).flatten else nuB k++nuB 0
def yR:Nat->Nat
 | 0=>0
 | d+1=>533+8 * yR d
theorem vG {α β:Type} (f:α->List β) (n:Nat):∀ (l:List α),(∀ x∈l,(f x).length<=n)->(l.map f).flatten.length<=l.length * n
 | [],_=>by simp
 | x::r,h=>by
  have h1:=h x (List.mem_cons_self ..);have h2:=vG f n r fun y hy=>h y (List.mem_cons_of_mem _ hy);rw[List.map_cons,List.flatten_cons,List.length_append,List.length_cons,Nat.succ_mul];omega
theorem qi:∀ {d:Nat} {k:Int} {l:List ba},iF d k l=true->(nA d k l).length<=yR d
 | 0,_,_,_=>Nat.le_refl _
 | d+1,k,l,h=>by
  obtain⟨h1,h2⟩:=l9.1 h;have n1:=wP k;have n2:=wP 0;unfold nA yR;split
  ·rw[List.length_append];have:=vG (fun f:ba=>pe f.nm++pe (nA d f.kd f.fs)) (64+yR d) l fun f hf=>by
    obtain⟨i,hi,rfl⟩:=List.mem_iff_getElem.1 hf;have a1:=uJ (h2 i hi).1;have a2:=qi (h2 i hi).2.2;have a3:=qf l[i].nm;have a4:=qf (nA d l[i].kd l[i].fs);rw[List.length_append]; omega
   have h8:l.length * (64+yR d)<=8 * (64+yR d):=Nat.mul_le_mul_right _ h1.2.2.1;omega
  ·rw[List.length_append]; omega
theorem BV:∀ {d:Nat},d<=4->yR d<=311805
 | 0,_=>by decide
 | 1,_=>by decide
 | 2,_=>by decide
 | 3,_=>by decide
 | 4,_=>by decide
 | _+5,h=>absurd h (by omega)
theorem Qf (l:List ba) {i:Nat} (hi:i<l.length) (hs:srt l) (hl:l.length<=8):bA (l.map ba.nm) l[i].nm=some (i:Int):=by
 unfold bA;refine Ld (fun k=>(k:Int)) i rfl (fun k hk=>?_) ?_ (by omega)
 ·unfold bA.b1;rw[List.length_map,bw,decide_eq_true (by omega),cond_true,dV (by rw[List.length_map]; omega),aj,List.getElem_map];have:l[i].nm≠(l[k]'(by omega)).nm:=fun e=>by
   have:=N5 hs hi (show k<l.length by omega) e;omega
  rw[decide_eq_false this,cond_false,ek (by omega)]; rfl
 ·unfold bA.b1;rw[List.length_map,bw,decide_eq_true (by omega),cond_true,dV (by rw[List.length_map]; omega),aj,List.getElem_map,decide_eq_true rfl]; rfl
theorem DT:∀ (d n:Nat) (k:Int) (l:List ba),d<=4->d<=n->iF d k l=true->bh.rec n k (unL l)=some (zeroV d k l)
 | 0,_,_,_,_,_,h=>by cases h
 | d+1,0,_,_,_,hn,_=>absurd hn (by omega)
 | d+1,n+1,k,l,hd,hn,h=>by
  obtain⟨h1,h2⟩:=l9.1 h;show bh.body (bh.rec n) k (unL l)=_;unfold bh.body;rw[qh,FJ hd h,aj,Bool.not_true,cond_false];obtain⟨b,hb,rfl⟩:Has (aw (fun x=>bh.b1 (bh.rec n) (unL l) x.1 x.2.1 x.2.2.1 x.2.2.2.1 x.2.2.2.2) (0,k,0,[],[])) (fun b=>b=zeroV (d+1) k l):=by
   refine has_fold (body:=fun x:Int×(Int×Int×List Bs×List ed)=>bh.b1 (bh.rec n) (unL l) x.1 x.2.1 x.2.2.1 x.2.2.2.1 x.2.2.2.2) l
    (fun i s=>s=(k,0,(l.take i).map ba.nm,(l.take i).map fun f=>zeroV d f.kd f.fs)) (by omega) (by simp) (fun i hi s hs=>?_) (fun s hs=>?_)
   ·subst hs;unfold bh.b1;dsimp only;rw[oh,bw,decide_eq_true (by omega),cond_true,vE hi,aj];simp only[fu1,fu2,fu3,fu4];have ht:(l.take i).length<=8:=by rw[List.length_take]; omega
    refine ay (pF (by rw[List.length_map]; simp; omega)) fun a ha=>?_;subst ha;rw[DT d n l[i].kd l[i].fs (by omega) (by omega) (h2 i hi).2.2,aj];refine ay (pF (by rw[List.length_map]; simp; omega)) fun a ha=>?_;subst ha;rw[ek (by omega),aj];refine ah ⟨rfl,?_⟩;have e:l.take (i+1)=l.take i++[l[i]]:=List.take_succ_eq_append_getElem hi;rw[e,List.map_append,List.map_append];have e2:((zeroV d l[i].kd l[i].fs).1,(zeroV d l[i].kd l[i].fs).2.1,(zeroV d l[i].kd l[i].fs).2.2.1,mkV (unV (zeroV d l[i].kd l[i].fs).2.2.2))=zeroV d l[i].kd l[i].fs:=by rw[Lp]
    exact congrArg (fun v:ed=>((k,0,(l.take i).map ba.nm++[l[i].nm],((l.take i).map fun f=>zeroV d f.kd f.fs)++[v]):Int×Int×List Bs×List ed)) e2
   ·subst hs;unfold bh.b1;dsimp only;rw[oh,bw,decide_eq_false (by omega),cond_false,List.take_length];exact ah rfl
  exact hb
theorem AG:∀ (d n:Nat) (k:Int) (l:List ba) (p:Int),d<=4->d<=n->iF d k l=true ->
  aO.rec n k (unL l) p (zeroV d k l).2.1 (zeroV d k l).2.2.1 (unV (zeroV d k l).2.2.2)=some (nA d k l)
 | 0,_,_,_,_,_,_,h=>by cases h
 | d+1,0,_,_,_,_,hn,_=>absurd hn (by omega)
 | d+1,n+1,k,l,p,hd,hn,h=>by
  obtain⟨h1,h2⟩:=l9.1 h;have hE:=BV (show d<=4 by omega);have n1:=wP k;show aO.body (aO.rec n) k (unL l) p 0 (l.map ba.nm) (unV (mkV (l.map fun f=>zeroV d f.kd f.fs)))=_;rw[Lo];unfold aO.body;obtain⟨a,ha,e⟩:=DM k (by omega);subst e;rw[ha,aj,km,km];have hw:mN 0=some (nuB 0):=by
   obtain⟨a,ha,e⟩:=DM 0 (by omega);rw[ha,e]
  have hcat:cat? (nuB k) (nuB 0)=some (nuB k++nuB 0):=by
   have:=wP 0;obtain⟨a,ha,e⟩:=sN (a:=nuB k) (b:=nuB 0) (by omega);rw[ha,e]
  unfold nA;by_cases hk0:k=0
  ·subst hk0;have hi:mM 0=some (nuB 0):=by
    unfold mN at hw;rw[bw,decide_eq_false (by omega),cond_false] at hw;cases h5:mM 0 with
    | none=>rw[h5] at hw; cases hw
    | some s=>rw[h5] at hw; exact hw
   rw[decide_eq_true rfl,cond_true,hi,aj,hcat]; rfl
  ·rw[decide_eq_false hk0,cond_false];by_cases hk1:k=1
   ·subst hk1;rw[decide_eq_true rfl,cond_true,hw,aj,hcat]; rfl
   ·rw[decide_eq_false hk1,cond_false];have hk2:k=2:=by omega
    rw[if_pos hk2];obtain⟨w,hw1,hw2⟩:=N0 (nuB k) (by omega);rw[hw1,aj,hw2];have hne:nuB k≠[]:=by
     unfold nuB;rw[if_neg (by omega)];simp
    have fl:∀ i,i<=l.length->((l.take i).map fun f=>pe f.nm++pe (nA d f.kd f.fs)).flatten.length<=8 * (64+yR d):=fun i hi=>by
     refine Nat.le_trans (vG _ (64+yR d) (l.take i) fun f hf=>?_) (Nat.mul_le_mul_right _ (by rw[List.length_take]; omega));obtain⟨j,hj,rfl⟩:=List.mem_iff_getElem.1 (List.mem_of_mem_take hf);have a1:=uJ (h2 j hj).1;have a2:=qi (h2 j hj).2.2;have a3:=qf l[j].nm;have a4:=qf (nA d l[j].kd l[j].fs);rw[List.length_append]; omega
    have hE3:8 * (64+yR d)<=400000:=by
     have:∀ d,d<=3->yR d<=38909:=fun d hd=>by
      match d,hd with
      | 0,_=>decide
      | 1,_=>decide
      | 2,_=>decide
      | 3,_=>decide
     have:=this d (by omega);omega
    obtain⟨b,hb,hb2⟩:Has (aw (fun x=>aO.b1 (aO.rec n) (unL l) (l.map ba.nm) (l.map fun f=>zeroV d f.kd f.fs) x.1 x.2) (0,eQ (nuB k)))
      (fun b=>b=eQ (nuB k++(l.map fun f=>pe f.nm++pe (nA d f.kd f.fs)).flatten)):=by
     refine has_fold l (fun i s=>s=eQ (nuB k++((l.take i).map fun f=>pe f.nm++pe (nA d f.kd f.fs)).flatten)) (by omega) (by simp) (fun i hi s hs=>?_) (fun s hs=>?_)
     ·subst hs;have a1:=uJ (h2 i hi).1;have a2:=qi (h2 i hi).2.2;have a3:=qf l[i].nm;have a4:=qf (nA d l[i].kd l[i].fs);unfold aO.b1;dsimp only;rw[oh,bw,decide_eq_true (by omega),cond_true,vE hi,aj];simp only[fu1,fu2,fu3,fu4,vu1,vu2,vu3];rw[Qf l hi (AF h) h1.2.2.1,aj];refine ay (Az _ (by omega)) fun t ht=>?_;subst ht;rw[dV (by rw[List.length_map]; exact hi),aj,List.getElem_map,AG d n l[i].kd l[i].fs _ (by omega) (by omega) (h2 i hi).2.2,aj];refine ay (Az _ (by omega)) fun t ht=>?_;subst ht;refine ay (sN (by omega)) fun t ht=>?_;subst ht;have f1:=fl i (by omega);refine ay (N1 _ _ (by rw[List.length_append,List.length_append]; omega)) fun t ht=>?_;rw[ek (by omega),aj];refine ah ⟨rfl,?_⟩;dsimp only;rw[ht];have e:l.take (i+1)=l.take i++[l[i]]:=List.take_succ_eq_append_getElem hi;rw[e,List.map_append,List.flatten_append,List.append_assoc];simp
     ·subst hs;unfold aO.b1;dsimp only;rw[oh,bw,decide_eq_false (by omega),cond_false,List.take_length];exact ah rfl
    rw[hb,aj,hb2];unfold aO.j1;have f2:=fl l.length (Nat.le_refl _);rw[List.take_length] at f2;obtain⟨s,hs,hs2⟩:=N2 (a:=nuB k++(l.map fun f=>pe f.nm++pe (nA d f.kd f.fs)).flatten) (by simp [hne]) (by rw[List.length_append]; omega);rw[hs,aj,hs2]
end Go.Proofs.YtcppfkflcigjcaaGreatDoor
namespace Go.Proofs.YtcppfkflcigjcaaGreatDoor
open Go.Lad
theorem IC {α β:Type} [DecidableEq α] {m:List (α×β)} {x:α} {y:β} (h:bG m x=some y):∃ p∈m,p.2=y:=by
 unfold bG at h;rw[Option.bind_eq_some_iff] at h;obtain⟨i,_,h⟩:=h;rw[Option.map_eq_some_iff] at h;obtain⟨p,hp,h⟩:=h;exact⟨p,List.mem_of_getElem? hp,h⟩
theorem Lq {α β:Type} [DecidableEq α] {m:List (α×β)} {x:α} {y:β} {p:α×β} (h:p∈fa m x y):p∈m\/p=(x,y):=by
 unfold fa at h;split at h
 ·exact (List.mem_or_eq_of_mem_set h)
 ·rcases List.mem_append.1 h with h | h
  ·exact .inl h
  ·exact .inr (List.mem_singleton.1 h)
theorem Lr {α β:Type} [DecidableEq α] (m:List (α×β)) (x:α) (y:β):(fa m x y).length<=m.length+1:=by
 unfold fa;split
 ·rw[List.length_set]; omega
 ·simp
theorem AH (r:Bs):fX r false=some false:=by
 unfold fX eL;rw[aj];refine (congrArg (fun b:Bool=>(bif b then ((dw r false).bind fun d4=>some (!d4)) else some false:Option Bool)) (km ..)).trans ?_;by_cases h:r=[]
 ·subst h; rfl
 ·rw[decide_eq_false (fun e=>h (List.length_eq_zero_iff.1 (by omega)))]; rfl
theorem N6:fK [] false=some (0,[],true):=by kernel_rfl
theorem Ls (n:Nat) (k:Int) (l:List iM):aC.rec (n+1) k l []=some ((k,0,[],[]),false):=by
 show aC.body (aC.rec n) k l []=_;unfold aC.body oO;rw[aj];dsimp only;rw[N6,aj];rfl
def BW (d:Nat) (f:ba):Bs:=pe f.nm++pe (nA d f.kd f.fs)
theorem FK (d:Nat) (l:List ba) (hl:l.length<=8) (hs:srt l) (hn:∀ f∈l,f.nm.length<=20) (hE:∀ f∈l,(nA d f.kd f.fs).length<=1000000) (hT:(l.map (BW d)).flatten.length<=1000000) :
  Has (df (l.map (BW d)).flatten false) (fun e=>e.1=true/\∀ p∈e.2.2.2,∃ f∈l,p.2=nA d f.kd f.fs):=by
 unfold df;refine ay (Q:=fun b=>∃ out,b = .inl ([],false,out)/\∀ p∈out,∃ f∈l,p.2=nA d f.kd f.fs) ?_ fun b hb=>?_
 ·refine n0 (fun x:Bs×Bs×Bool×List (Bs×Bs)=>∃ i,i<=l.length/\x.2.1=((l.drop i).map (BW d)).flatten/\x.2.2.1=false/\x.2.2.2.length<=i/\(∀ (h0:0<i) (h1:i-1<l.length),x.1=l[i-1].nm)/\∀ p∈x.2.2.2,∃ f∈l,p.2=nA d f.kd f.fs)
   (fun x=>x.2.1.length) ⟨0,Nat.zero_le _,by simp,rfl,Nat.le_refl _,fun h=>absurd h (by omega),fun p hp=>by cases hp⟩ (Nat.le_trans hT (by omega)) ?_
  rintro⟨last,r,r2,out⟩ ⟨i,hi,h1,h2,h3,h4,h5⟩ _;dsimp only at h1 h2 h3 h4 h5;subst h1 h2;unfold df.b1 eL;dsimp only;rw[aj];refine aM (fun hc=>?_) fun hc=>?_
  ·have hc:=l8 hc;have hil:i<l.length:=by
    refine Classical.byContradiction fun hx=>?_;rw[List.drop_eq_nil_of_le (by omega)] at hc;simp at hc
   have hd:l.drop i=l[i]::l.drop (i+1):=List.drop_eq_getElem_cons hil;have hm:l[i]∈l:=List.getElem_mem hil;rw[hd,List.map_cons,List.flatten_cons];have e1:BW d l[i]++((l.drop (i+1)).map (BW d)).flatten=pe l[i].nm++(pe (nA d l[i].kd l[i].fs)++((l.drop (i+1)).map (BW d)).flatten):=by unfold BW; rw[List.append_assoc]
   rw[e1,yO _ _ (by have:=hn _ hm; omega),aj];dsimp only;rw[yO _ _ (hE _ hm),aj];dsimp only;rw[AH,aj,cond_false];refine ay (Q:=fun b=>b=false) (ay (Lg (by omega)) fun _ _=>aM (fun hc2=>?_) fun _=>ah rfl) fun b hb=>?_
   ·have hc2:=l8 hc2;have h0:0<i:=by omega
    have e:=h4 h0 (by omega);rw[e];have hlt:Op.bytesLess (l[i-1]'(by omega)).nm l[i].nm=true:=hs (i-1) i (by omega) hil;have hu:=FI.2 hlt;unfold upN at hu;rw[Bool.not_eq_true'] at hu;exact ah hu
   ·subst hb;unfold df.j1;rw[cond_false];refine ah ⟨⟨i+1,hil,rfl,rfl,?_,fun _ _=>rfl,fun p hp=>?_⟩,?_⟩
    ·have:=Lr out l[i].nm (nA d l[i].kd l[i].fs);dsimp only;omega
    ·rcases Lq hp with hp | rfl
     ·exact h5 p hp
     ·exact⟨_,hm,rfl⟩
    ·dsimp only;rw[List.length_append,List.length_append];have:1<=(pe l[i].nm).length:=by unfold pe; simp only[List.length_append,List.length_cons,List.length_nil]; omega
     omega
  ·have hc:=pE hc;have e:((l.drop i).map (BW d)).flatten=[]:=List.length_eq_zero_iff.1 (by omega);rw[e];exact ah ⟨out,rfl,h5⟩
 ·obtain⟨out,rfl,h5⟩:=hb;dsimp only;unfold df.j2;exact ah ⟨rfl,h5⟩
theorem DU:∀ (d n:Nat) (k:Int) (l:List ba) (d':Nat) (k':Int) (l':List ba),d<=n->d'<=4->iF d k l=true->iF d' k' l'=true ->
  Has (aC.rec n k (unL l) (nA d' k' l')) (fun _=>True)
 | 0,_,_,_,_,_,_,_,_,h,_=>by cases h
 | d+1,0,_,_,_,_,_,hn,_,_,_=>absurd hn (by omega)
 | _+1,_+1,_,_,0,_,_,_,_,_,h=>by cases h
 | d+1,n+1,k,l,e+1,k',l',hn,hd,h,h'=>by
  obtain⟨h1,h2⟩:=l9.1 h;obtain⟨g1,g2⟩:=l9.1 h';show Has (aC.body (aC.rec n) k (unL l) (nA (e+1) k' l')) _;obtain⟨rest,hr⟩:∃ rest,nA (e+1) k' l'=nuB k'++rest:=by
   unfold nA;split
   ·exact⟨_,rfl⟩
   ·exact⟨_,rfl⟩
  unfold aC.body oO;rw[aj,hr];dsimp only;rw[AD (by omega) (by omega),aj];dsimp only;rw[AH,aj,cond_false,aj];unfold aC.j3;refine aM (fun _=>ah trivial) fun hc=>?_;have hk:k'=k:=by simpa [km] using hc
  subst hk;dsimp only;refine aM (fun h3=>?_) fun h3=>?_
  ·have hk2:k'≠2:=by simpa [km] using h3
   have hr2:rest=nuB 0++[]:=by
    unfold nA at hr;rw[if_neg hk2] at hr;rw[List.append_nil];exact (List.append_cancel_left hr).symm
   subst hr2;have hI:iU (nuB 0++[]) false=some (0,[],false):=by
    unfold iU;have:nuB 0=jn 0++[59]:=by unfold nuB; rw[if_neg (by omega)]
    rw[this,show bK 59 (-9223372036854775808) (jn 0++[59]++[]) false=some (0,[],false) from yN 59 (by decide) (-9223372036854775808) 0 (by omega) (by omega) (by omega) [] false];rfl
   have hN:fK (nuB 0++[]) false=some (0,[],false):=AD (by omega) (by omega) [] false;have hj:∀ a b,Has (aC.j1 k' [] false a b) (fun _=>True):=fun a b=>by
    unfold aC.j1 dw;exact aM (fun _=>ah trivial) fun _=>ah trivial
   refine ay (Q:=fun x=>x.1=[]/\x.2.1=false) (aM (fun _=>?_) fun _=>?_) fun x hx=>?_
   ·rw[hI,aj]; exact ah ⟨rfl,rfl⟩
   ·rw[hN,aj]; exact ah ⟨rfl,rfl⟩
   ·obtain⟨x1,x2,x3,x4⟩:=x;obtain⟨rfl,rfl⟩:=hx;exact hj x3 x4
  ·have hk2:k'=2:=by simpa [km] using h3
   subst hk2;have hr2:rest=(l'.map (BW e)).flatten:=by
    unfold nA at hr;rw[if_pos rfl] at hr;exact (List.append_cancel_left hr).symm
   subst hr2;have hsh:=qi h';have hE4:=BV hd;have hE3:=BV (show e<=4 by omega);obtain⟨m,hm,hm1,hm2⟩:=FK e l' g1.2.2.1 (AF h') (fun f hf=>by obtain⟨i,hi,rfl⟩:=List.mem_iff_getElem.1 hf; exact uJ (g2 i hi).1)
    (fun f hf=>by obtain⟨i,hi,rfl⟩:=List.mem_iff_getElem.1 hf; have:=qi (g2 i hi).2.2; omega)
    (by rw[hr,List.length_append] at hsh; omega)
   have key:Has (aw (fun x=>aC.b1 (aC.rec n) (unL l) m x.1 x.2.1 x.2.2.1 x.2.2.2.1 x.2.2.2.2) (0,2,0,[],[])) (fun _=>True):=by
    refine has_fold (body:=fun x:Int×(Int×Int×List Bs×List ed)=>aC.b1 (aC.rec n) (unL l) m x.1 x.2.1 x.2.2.1 x.2.2.2.1 x.2.2.2.2) l
     (fun i s=>s.2.2.1.length<=i/\s.2.2.2.length<=i) (by omega) ⟨Nat.le_refl _,Nat.le_refl _⟩ (fun i hi s hs=>?_) (fun s hs=>?_)
    ·obtain⟨s1,s2⟩:=hs;unfold aC.b1;dsimp only;rw[oh,bw,decide_eq_true (by omega),cond_true,vE hi,aj];simp only[fu1,fu2,fu3,fu4];refine ay (Q:=fun _=>True) ?_ fun r _=>?_
     ·cases hL:bG m.2.2.2 l[i].nm with
      | none =>
       have hn1:1<=n:=by
        have:=(h2 i hi).2.2;cases d with
        | zero=>cases this
        | succ d=>omega
       obtain⟨n',rfl⟩:∃ n',n=n'+1:=⟨n-1,by omega⟩;exact⟨_,Ls n' _ _,trivial⟩
      | some v =>
       obtain⟨p,hp,rfl⟩:=IC hL;obtain⟨f,hf,he⟩:=hm2 p hp;obtain⟨j,hj,rfl⟩:=List.mem_iff_getElem.1 hf;show Has (aC.rec n l[i].kd (unL l[i].fs) p.2) _;rw[he];exact DU d n l[i].kd l[i].fs e l'[j].kd l'[j].fs (by omega) (by omega) (h2 i hi).2.2 (g2 j hj).2.2
     ·refine ay (Q:=fun _=>True) (aM (fun _=>ah trivial) fun _=>ah trivial) fun b _=>?_;unfold aC.j2;refine aM (fun _=>ah trivial) fun _=>?_;refine ay (pF (by simp; omega)) fun a ha=>ay (pF (by simp; omega)) fun c hc=>?_;subst ha hc;rw[ek (by omega),aj];refine ah ⟨rfl,?_,?_⟩
      ·dsimp only; rw[List.length_append]; simp; omega
      ·dsimp only; rw[List.length_append]; simp; omega
    ·unfold aC.b1;dsimp only;rw[oh,bw,decide_eq_false (by omega),cond_false];exact ah trivial
   obtain⟨x,hx,_⟩:=key;refine⟨x,?_,trivial⟩;rw[hm,aj,hm1,Bool.not_true,cond_false,hx];rfl
theorem ID (k:Int) (l:List ba) (k':Int) (l':List ba):Has (gH k (unL l) k' (unL l')) (fun _=>True):=by
 unfold gH;rw[qh,aj];refine ay (Q:=fun b=>b=false->iF 4 k l=true/\iF 4 k' l'=true) (aM (fun _=>ah fun h=>by cases h) fun e1=>?_) fun b hb=>?_
 ·rw[qh,aj];exact ah fun e2=>⟨by simpa using e1,by simpa using e2⟩
 ·unfold gH.j1;refine aM (fun _=>ah trivial) fun e=>?_;obtain⟨h1,h2⟩:=hb e;have hz:bh k (unL l)=some (zeroV 4 k l):=DT 4 _ k l (by omega) (by decide) h1;have hw:aO k (unL l) (zeroV 4 k l).1 (zeroV 4 k l).2.1 (zeroV 4 k l).2.2.1 (unV (zeroV 4 k l).2.2.2)=some (nA 4 k l):=AG 4 _ k l _ (by omega) (by decide) h1;rw[hz,aj];simp only[vu1,vu2,vu3];rw[hw,aj];exact ay (DU 4 _ k' l' 4 k l (by decide) (by omega) h2 h1) fun _ _=>ah trivial
end Go.Proofs.YtcppfkflcigjcaaGreatDoor
namespace Go.Proofs.YtcppfkflcigjcaaGreatDoor
open Go.Lad
theorem ma {α β:Type} {body:Int->Option (Int⊕β)} {R:β->Prop} (l:List α) (I:Nat->Prop) (hl:l.length<=1000) (h0:I 0)
  (h:∀ i (hi:i<l.length),I i->Has (body (i:Int)) fun r=>match r with | .inl y=>y=((i+1:Nat):Int)/\I (i+1) | .inr b=>R b)
  (he:I l.length->Has (body (l.length:Int)) fun r=>match r with | .inl _=>False | .inr b=>R b):Has (aw body 0) R:=by
 refine n0 (fun x=>∃ i:Nat,x=(i:Int)/\i<=l.length/\I i) (fun x=>l.length-x.toNat) ⟨0,rfl,Nat.zero_le _,h0⟩ (by show l.length-_<=_; omega) (fun x hx _=>?_);obtain⟨i,rfl,hi,x3⟩:=hx;rcases Nat.lt_or_ge i l.length with hi | hi
 ·refine (h i hi x3).mono fun r hr=>?_;cases r with
  | inl y =>
   obtain⟨y1,y2⟩:=hr;exact⟨⟨i+1,y1,hi,y2⟩,by show l.length-y.toNat<l.length-((i:Int)).toNat; rw[y1]; omega⟩
  | inr b=>exact hr
 ·have:i=l.length:=by omega
  subst this;refine (he x3).mono fun r hr=>?_;cases r with
  | inl y=>exact hr.elim
  | inr b=>exact hr
theorem DV:∀ (d n:Nat) (k:Int) (l:List ba) (m:Int),d<=6->d<n->0<=m->m<=40->Has (au.rec n k (unL l) m (d:Int)) (fun r=>1<=r/\r<=m+1)
 | d,0,_,_,_,_,h,_,_=>absurd h (by omega)
 | 0,n+1,k,l,m,_,_,h0,h1=>by
  show Has (au.body (au.rec n) k (unL l) m ((0:Nat):Int)) _;unfold au.body;rw[bw,decide_eq_true (by omega),cond_true,mT (by omega),aj];exact ah ⟨by omega,by omega⟩
 | d+1,n+1,k,l,m,hd6,hn,h0,h1=>by
  show Has (au.body (au.rec n) k (unL l) m ((d+1:Nat):Int)) _;unfold au.body;rw[bw,decide_eq_false (by omega),cond_false];refine n0 (fun x:Int×Int=>1<=x.1/\x.1<=m+1/\0<=x.2/\x.2+1<=x.1) (fun x=>(m+2-x.1).toNat) ⟨by omega,by omega,by omega,by omega⟩ (by show (m+2-1:Int).toNat<=_; omega) ?_;rintro⟨a,i⟩ ⟨a1,a2,a3,a4⟩ _;dsimp only at a1 a2 a3 a4;unfold au.b1;dsimp only;refine ay (Q:=fun b=>b=true->i<(l.length:Int)/\a<=m) (aM (fun e=>ah fun e2=>?_) fun _=>ah fun e=>by cases e) fun b hb=>?_
  ·rw[oh] at e;exact⟨l8 e,DK e2⟩
  ·unfold au.j1;refine aM (fun e=>?_) fun _=>ah ⟨a1,a2⟩;obtain⟨b1,b2⟩:=hb e;obtain⟨j,rfl⟩:∃ j:Nat,i=(j:Int):=⟨i.toNat,by omega⟩;have hj:j<l.length:=by omega
   rw[vE hj,aj,mT (by omega),aj,mT (by omega),aj];simp only[fu1,fu2,fu3,fu4];have hd:((d+1:Nat):Int)-1=(d:Int):=by omega
   rw[hd];refine ay (DV d n l[j].kd l[j].fs (m-a) (by omega) (by omega) (by omega) (by omega)) fun r hr=>?_;rw[mT (by omega),aj,mT (by omega),aj];exact ah ⟨⟨by show 1<=a+r; omega,by show a+r<=m+1; omega,by show 0<=(j:Int)+1; omega,by show (j:Int)+1+1<=a+r; omega⟩,by show (m+2-(a+r)).toNat<(m+2-a).toNat; omega⟩
theorem wj (k:Int) (l:List ba):Has (fC k (unL l)) (fun _=>True):=by
 unfold fC;exact ay (show Has (au k (unL l) 40 6) _ from DV 6 _ k l 40 (by omega) (by decide) (by omega) (by omega)) fun _ _=>ah trivial
def pO (l:List gK):Prop:=l.length<=4/\∀ s∈l,s.2.1.length<=10
theorem uK (l:List gK):Has (bE l) (fun b=>b=true->pO l):=by
 unfold bE;refine n0 (fun i:Int=>0<=i/\i<=5/\i<=l.length/\∀ j (hj:j<l.length),(j:Int)<i->l[j].2.1.length<=10) (fun i=>(5-i).toNat) ⟨by omega,by omega,by omega,fun j _ h=>absurd h (by omega)⟩ (by show (5-0:Int).toNat<=_; omega) ?_;rintro i ⟨h0,h1,h2,h3⟩ _;unfold bE.b1;refine ay (Q:=fun b=>b=true↔i<(l.length:Int)/\i<5) (aM (fun e=>ah ⟨fun e2=>⟨l8 e,l8 e2⟩,fun e2=>by rw[bw]; exact decide_eq_true e2.2⟩) fun e=>ah ⟨fun e3=>absurd e3 (by decide),fun e2=>absurd (pE e) (by omega)⟩) fun b hb=>?_
 ·unfold bE.j2;refine aM (fun e=>?_) fun e=>?_
  ·obtain⟨a1,a2⟩:=hb.1 e;obtain⟨j,rfl⟩:∃ j:Nat,i=(j:Int):=⟨i.toNat,by omega⟩;have hj:j<l.length:=by omega
   rw[dV hj];refine ay (Q:=fun b=>b=false->l[j].2.1.length<=10) ?_ fun b hb=>?_
   ·rw[aj];refine aM (fun _=>ah fun e=>by cases e) fun _=>?_;rw[aj];refine aM (fun _=>ah fun e=>by cases e) fun e5=>?_;have e5:=pE e5;rw[aj];simp only[fu1,fu2,fu3,fu4];refine ay (wj _ _) fun _ _=>aM (fun _=>ah fun e=>by cases e) fun _=>?_;rw[aj];exact ay (wj _ _) fun _ _=>ah fun _=>by omega
   ·unfold bE.j1;refine aM (fun _=>ah fun e=>by cases e) fun e=>?_;have hb:=hb e;rw[mT (by omega),aj];refine ah ⟨⟨by omega,by omega,by omega,fun j2 hj2 h=>?_⟩,by omega⟩;by_cases h4:j2=j
    ·subst h4; exact hb
    ·exact h3 j2 hj2 (by omega)
  ·refine ah fun e2=>?_;have e2:=DK e2;have hh:¬ (i<(l.length:Int)/\i<5):=fun hh=>by rw[hb.2 hh] at e; cases e
   refine⟨by omega,fun s hs=>?_⟩;obtain⟨j,hj,rfl⟩:=List.mem_iff_getElem.1 hs;exact h3 j hj (by omega)
theorem N7 (f:bZ):Has (iS f) (fun b=>b=true->pO f.1/\pO f.2.1/\f.2.2.length<=8):=by
 unfold iS;refine ay (uK _) fun a ha=>aM (fun e1=>ay (uK _) fun b hb=>aM (fun e2=>ah fun e3=>?_) fun _=>ah fun e=>by cases e) fun _=>ah fun e=>by cases e
 have e3:=DK e3;exact⟨ha e1,hb e2,by omega⟩
theorem BX (l:List gO):Has (cw l) (fun b=>b=true->l.length<=10/\∀ w∈l,w.1.length<=10):=by
 unfold cw;refine n0 (fun i:Int=>0<=i/\i<=11/\i<=l.length/\∀ j (hj:j<l.length),(j:Int)<i->l[j].1.length<=10) (fun i=>(11-i).toNat) ⟨by omega,by omega,by omega,fun j _ h=>absurd h (by omega)⟩ (by show (11-0:Int).toNat<=_; omega) ?_;rintro i ⟨h0,h1,h2,h3⟩ _;unfold cw.b1;refine ay (Q:=fun b=>b=true↔i<(l.length:Int)/\i<11) (aM (fun e=>ah ⟨fun e2=>⟨l8 e,l8 e2⟩,fun e2=>by rw[bw]; exact decide_eq_true e2.2⟩) fun e=>ah ⟨fun e3=>absurd e3 (by decide),fun e2=>absurd (pE e) (by omega)⟩) fun b hb=>?_
 ·unfold cw.j1;refine aM (fun e=>?_) fun e=>?_
  ·obtain⟨a1,a2⟩:=hb.1 e;obtain⟨j,rfl⟩:∃ j:Nat,i=(j:Int):=⟨i.toNat,by omega⟩;have hj:j<l.length:=by omega
   rw[dV hj,aj];refine aM (fun _=>ah fun e=>by cases e) fun e5=>?_;have e5:=pE e5;rw[mT (by omega),aj];refine ah ⟨⟨by omega,by omega,by omega,fun j2 hj2 h=>?_⟩,by omega⟩;by_cases h4:j2=j
   ·subst h4; omega
   ·exact h3 j2 hj2 (by omega)
  ·refine ah fun e2=>?_;have e2:=DK e2;have hh:¬ (i<(l.length:Int)/\i<11):=fun hh=>by rw[hb.2 hh] at e; cases e
   refine⟨by omega,fun s hs=>?_⟩;obtain⟨j,hj,rfl⟩:=List.mem_iff_getElem.1 hs;exact h3 j hj (by omega)
end Go.Proofs.YtcppfkflcigjcaaGreatDoor
namespace Go.Proofs.YtcppfkflcigjcaaGreatDoor
open Go.Lad
theorem IE (a b:List gK) (ha:a.length<=4) (hb:b.length<=4):Has (al a b) (fun r=>r=true↔a.map (·.1)=b.map (·.1)):=by
 unfold al;refine aM (fun e=>?_) fun e=>?_
 ·have hn:a.length≠b.length:=fun h=>by rw[km,h,decide_eq_true rfl] at e; cases e
  refine ah ⟨fun e=>absurd e (by decide),fun e=>absurd (by have:=congrArg List.length e; simpa using this) hn⟩
 ·have hn:a.length=b.length:=by
   have:(a.length:Int)=b.length:=by simpa [km] using e
   omega
  refine ma a (fun i=>∀ j (h1:j<i) (h2:j<a.length),a[j].1=(b[j]'(by omega)).1) (by omega) (fun j h=>absurd h (by omega)) (fun i hi hI=>?_) (fun hI=>?_)
  ·unfold al.b1;rw[bw,decide_eq_true (by omega),cond_true,dV hi,aj,dV (show i<b.length by omega),aj];unfold mJ;rw[aj];refine aM (fun e=>ah ⟨fun e=>absurd e (by decide),fun e2=>?_⟩) fun e=>?_
   ·have h2:a[i].1=(b[i]'(by omega)).1:=by
     have:=congrArg (fun l:List Bs=>l[i]?) e2
     simpa [List.getElem?_eq_getElem,hi,show i<b.length by omega] using this
    rw[h2,decide_eq_true rfl] at e; cases e
   ·have h2:a[i].1=(b[i]'(by omega)).1:=by simpa using e
    rw[ek (by omega),aj];refine ah ⟨rfl,fun j h1 h3=>?_⟩;by_cases h4:j=i
    ·subst h4; exact h2
    ·exact hI j (by omega) h3
  ·unfold al.b1;rw[bw,decide_eq_false (by omega),cond_false];refine ah ⟨fun _=>?_,fun _=>rfl⟩;refine List.ext_getElem (by simpa using hn) fun i h1 h2=>?_;rw[List.getElem_map,List.getElem_map];have h1:i<a.length:=by simpa using h1
   exact hI i h1 h1
theorem IG (s:List Int) (p q:List gK) (r:List Int) (hs:s.length<=8):Has (dc s p q r) (fun b=>b=false↔∀ x∈s,0<=x/\x<p.length):=by
 unfold dc ca;refine ay (Q:=fun n=>(n<0↔∀ x∈s,0<=x/\x<p.length)) ?_ fun n hn=>ah ?_
 ·refine ma s (fun i=>∀ j (h1:j<i) (h2:j<s.length),0<=s[j]/\s[j]<p.length) (by omega) (fun j h=>absurd h (by omega)) (fun i hi hI=>?_) (fun hI=>?_)
  ·unfold ca.b1 mL;rw[bw,decide_eq_true (by omega),cond_true,dV hi,aj];refine ay (Q:=fun b=>b=true ↔ ¬ (0<=s[i]/\s[i]<p.length)) (aM (fun e=>ah ⟨fun _ h=>absurd (l8 e) (by omega),fun _=>rfl⟩) fun e=>ah ?_) fun b hb=>?_
   ·have e:=pE e;rw[gC,decide_eq_true_eq];omega
   ·refine aM (fun e=>ah ⟨fun h=>absurd h (by omega),fun h=>absurd (h _ (List.getElem_mem hi)) (hb.1 e)⟩) fun e=>?_;have hh:0<=s[i]/\s[i]<p.length:=Classical.byContradiction fun h=>by rw[hb.2 h] at e; cases e
    rw[ek (by omega),aj];refine ah ⟨rfl,fun j h1 h3=>?_⟩;by_cases h4:j=i
    ·subst h4; exact hh
    ·exact hI j (by omega) h3
  ·unfold ca.b1;rw[bw,decide_eq_false (by omega),cond_false];refine ah ⟨fun _ x hx=>?_,fun _=>by decide⟩;obtain⟨j,hj,rfl⟩:=List.mem_iff_getElem.1 hx;exact hI j hj hj
 ·rw[gC,decide_eq_false_iff_not];exact⟨fun h=>hn.1 (by omega),fun h=>by have:=hn.2 h; omega⟩
theorem Lt (l:List gK) (x:gK) (k:Nat) (hl:l.length<=8):Has (bL l x.1 x.2.1 x.2.2.1.1 (x.2.2.1.2.map (Uun 0)) x.2.2.2.1 (x.2.2.2.2.map (Uun 0))) (fun _=>True):=by
 unfold bL aU;refine ay (Q:=fun _=>True) (ma l (fun _=>True) (by omega) trivial (fun i hi _=>?_) fun _=>?_) fun _ _=>ah trivial
 ·unfold aU.b1 lK;rw[bw,decide_eq_true (by omega),cond_true,dV hi,aj,aj];refine aM (fun _=>ah trivial) fun _=>?_;rw[ek (by omega),aj];exact ah ⟨rfl,trivial⟩
 ·unfold aU.b1;rw[bw,decide_eq_false (by omega),cond_false];exact ah trivial
theorem yS (l:List gK) (h:pO l):Has (cK l) (fun _=>True):=by
 obtain⟨hl,hc⟩:=h;unfold cK;refine ma l (fun _=>True) (by omega) trivial (fun i hi _=>?_) fun _=>?_
 ·unfold cK.b2;rw[bw,decide_eq_true (by omega),cond_true,dV hi,aj];refine ay (Q:=fun _=>True) ?_ fun b _=>?_
  ·rw[G8,aj];refine aM (fun _=>ah trivial) fun _=>?_;refine ay (NY (by omega) (by omega) (by omega)) fun l5 h5=>?_;refine ay (Lt l5 l[i] 0 (by have:=h5.2; omega)) fun _ _=>aM (fun _=>ah trivial) fun _=>?_;simp only[fu1,fu2,fu3,fu4];rw[qh,aj];refine aM (fun _=>ah trivial) fun _=>?_;rw[qh,aj];exact ah trivial
  ·unfold cK.j2;refine aM (fun _=>ah trivial) fun _=>?_;refine ma l[i].2.1 (fun _=>True) (by have:=hc _ (List.getElem_mem hi); omega) trivial (fun j hj _=>?_) fun _=>?_
   ·unfold cK.b1;rw[bw,decide_eq_true (by omega),cond_true,dV hj,aj];refine ay (Q:=fun _=>True) (aM (fun _=>ah trivial) fun _=>aM (fun _=>ah trivial) fun _=>aM (fun h0=>?_) fun _=>ah trivial) fun b _=>?_
    ·have h0:=l8 h0;obtain⟨m,rfl⟩:∃ m,j=m+1:=⟨j-1,by omega⟩;have:=hc _ (List.getElem_mem hi);rw[mT (by omega),aj,show (((m+1:Nat):Int)-1)=(m:Int) by omega,dV (show m<l[i].2.1.length by omega),aj];exact ah trivial
    ·unfold cK.j1;refine aM (fun _=>ah trivial) fun _=>?_;have:=hc _ (List.getElem_mem hi);rw[ek (by omega),aj];exact ah ⟨rfl,trivial⟩
   ·unfold cK.b1;rw[bw,decide_eq_false (by omega),cond_false,ek (by omega),aj];exact ah ⟨rfl,trivial⟩
 ·unfold cK.b2;rw[bw,decide_eq_false (by omega),cond_false];exact ah trivial
def lq (f:bZ):Prop:=f.1.map (·.1)=f.2.1.map (·.1)/\(∀ x∈f.2.2,0<=x/\x<f.1.length)/\cK f.1=some true/\cK f.2.1=some true
theorem AI (f:bZ) (h1:pO f.1) (h2:pO f.2.1) (h3:f.2.2.length<=8):Has (kW f) (fun b=>b=true↔lq f):=by
 unfold kW;obtain⟨a,ha,_⟩:=yS f.1 h1;obtain⟨b,hb,_⟩:=yS f.2.1 h2;refine ay (IE _ _ h1.1 h2.1) fun x hx=>ay (IG _ _ _ _ h3) fun y hy=>?_;refine aM (fun e1=>?_) fun e1=>ah ⟨fun e=>absurd e (by decide),fun h=>by rw[hx.2 h.1] at e1; cases e1⟩;refine aM (fun e2=>?_) fun e2=>ah ⟨fun e=>absurd e (by decide),fun h=>by rw[hy.2 h.2.1] at e2; cases e2⟩;have e2:y=false:=by simpa using e2
 rw[gC,decide_eq_true (by omega),cond_true,ha,aj];refine aM (fun e3=>?_) fun e3=>ah ⟨fun e=>absurd e (by decide),fun h=>by have:=h.2.2.1; rw[ha,e3] at this; cases this⟩;rw[hb,aj];refine ah ⟨fun e4=>⟨hx.1 e1,hy.1 e2,by rw[ha,e3],by rw[hb,e4]⟩,fun h=>by have:=h.2.2.2; rw[hb] at this; exact Option.some.inj this⟩
theorem FL {f:bZ} (h:lq f):lq (f.2.1,f.1,f.2.2):=by
 obtain⟨h1,h2,h3,h4⟩:=h;have hl:f.1.length=f.2.1.length:=by have:=congrArg List.length h1; simpa using this
 exact⟨h1.symm,fun x hx=>by have:=h2 x hx; show 0<=x/\x<f.2.1.length; omega,h4,h3⟩
end Go.Proofs.YtcppfkflcigjcaaGreatDoor
namespace Go.Proofs.YtcppfkflcigjcaaGreatDoor
open Go.Lad
def FM (n:Nat) (w:gO):Prop:=w.1≠[]/\0<=w.2/\w.2<=1073741824/\(∀ x∈w.1,0<=x/\x<n)/\∀ i (h:i+1<w.1.length),w.1[i]<w.1[i+1]
def jB (n:Nat) (l:List gO):Prop:=(∀ w∈l,FM n w)/\(l.flatMap (·.1)).Nodup
def yT (m:List (Int×Bool)) (l:List Int):Prop := ∀ x,(bG m x).getD false=decide (x∈l)
theorem Lu {m:List (Int×Bool)} {l:List Int} (h:yT m l) (x:Int):yT (fa m x true) (l++[x]):=fun z=>by
 rw[J8];by_cases hz:z=x
 ·rw[if_pos hz,hz]; simp
 ·rw[if_neg hz,h z]; simp [hz]
theorem uL {l:List gO} {i:Nat} (hi:i<l.length):(l.take (i+1)).flatMap (·.1)=(l.take i).flatMap (·.1)++l[i].1:=by
 rw[List.take_succ_eq_append_getElem hi,List.flatMap_append]; simp
theorem Qg {l:List gO} {i:Nat}:((l.take i).flatMap (·.1)).Sublist (l.flatMap (·.1)):=by
 have:l.flatMap (·.1)=(l.take i).flatMap (·.1)++(l.drop i).flatMap (·.1):=by rw[← List.flatMap_append,List.take_append_drop]
 rw[this]; exact List.sublist_append_left ..
theorem AJ (f:bZ) (l:List gO) (hl:l.length<=10) (hw:∀ w∈l,w.1.length<=10):Has (bg f l) (fun b=>b=true↔jB f.2.2.length l):=by
 unfold bg;refine has_fold l (fun i m=>(∀ j (h:j<i) (h2:j<l.length),FM f.2.2.length l[j])/\((l.take i).flatMap (·.1)).Nodup/\yT m ((l.take i).flatMap (·.1))) (by omega)
  ⟨fun j h=>absurd h (by omega),by simp,fun x=>by rfl⟩ (fun i hi m hI=>?_) (fun m hI=>?_)
 ·obtain⟨I1,I2,I3⟩:=hI;have hm:l[i]∈l:=List.getElem_mem hi;have hw1:=hw _ hm;unfold bg.b2;dsimp only;rw[bw,decide_eq_true (by omega),cond_true,dV hi,aj];refine ay (Q:=fun b=>b=true ↔ ¬ (l[i].1≠[]/\0<=l[i].2/\l[i].2<=1073741824)) (aM (fun e=>ah ⟨fun _ h=>h.1 (List.length_eq_zero_iff.1 (by have:=Pc e; omega)),fun _=>rfl⟩) fun e1=>aM (fun e=>ah ⟨fun _ h=>absurd (l8 e) (by omega),fun _=>rfl⟩) fun e2=>ah ?_) fun b hb=>?_
  ·have e1:=G4 e1;have e2:=pE e2;rw[bw,decide_eq_true_eq];refine⟨fun h h2=>absurd h2.2.2 (by omega),fun h=>Classical.byContradiction fun h3=>h ⟨fun e=>e1 (by rw[e]; rfl),e2,by omega⟩⟩
  ·unfold bg.j2;refine aM (fun e=>ah ⟨fun e=>absurd e (by decide),fun h=>absurd (hb.1 e) (fun h2=>h2 ⟨(h.1 _ hm).1,(h.1 _ hm).2.1,(h.1 _ hm).2.2.1⟩)⟩) fun e=>?_;have hh:l[i].1≠[]/\0<=l[i].2/\l[i].2<=1073741824:=Classical.byContradiction fun h=>by rw[hb.2 h] at e; cases e
   have key:Has (aw (fun x:Int×List (Int×Bool)=>bg.b1 f (i:Int) l[i] x.1 x.2) (0,m)) (fun r=>match r with
     | .inl y=>y.1=((i+1:Nat):Int)/\FM f.2.2.length l[i]/\((l.take (i+1)).flatMap (·.1)).Nodup/\yT y.2 ((l.take (i+1)).flatMap (·.1))
     | .inr b=>b=false /\ ¬ jB f.2.2.length l):=by
    refine has_fold l[i].1 (fun k m=>(∀ j (h:j<k) (h2:j<l[i].1.length),0<=l[i].1[j]/\l[i].1[j]<f.2.2.length)/\(∀ j (h:j+1<k) (h2:j+1<l[i].1.length),l[i].1[j]<l[i].1[j+1])/\((l.take i).flatMap (·.1)++l[i].1.take k).Nodup/\yT m ((l.take i).flatMap (·.1)++l[i].1.take k)) (by omega)
     ⟨fun j h=>absurd h (by omega),fun j h=>absurd h (by omega),by simpa using I2,by simpa using I3⟩ (fun k hk m hK=>?_) (fun m hK=>?_)
    ·obtain⟨K1,K2,K3,K4⟩:=hK;unfold bg.b1;dsimp only;rw[bw,decide_eq_true (by omega),cond_true,dV hk,aj];have hkm:l[i].1[k]∈l[i].1:=List.getElem_mem hk;refine ay (Q:=fun b=>(b=true /\ ¬ jB f.2.2.length l)\/(b=false/\0<=l[i].1[k]/\l[i].1[k]<f.2.2.length/\l[i].1[k]∉(l.take i).flatMap (·.1)++l[i].1.take k/\∀ j (h:j+1=k),l[i].1[j]<l[i].1[k])) ?_ fun b hb2=>?_
     ·refine aM (fun e=>ah (.inl ⟨rfl,fun h=>absurd ((h.1 _ hm).2.2.2.1 _ hkm) (by have:=l8 e; omega)⟩)) fun e1=>?_;have e1:=pE e1;refine aM (fun e=>ah (.inl ⟨rfl,fun h=>absurd ((h.1 _ hm).2.2.2.1 _ hkm) (by have:=DK e; omega)⟩)) fun e2=>?_;have e2:=QX e2;rw[K4];refine aM (fun e=>ah (.inl ⟨rfl,fun h=>?_⟩)) fun e3=>?_
      ·have e:l[i].1[k]∈(l.take i).flatMap (·.1)++l[i].1.take k:=of_decide_eq_true e;have hnd:((l.take (i+1)).flatMap (·.1)).Nodup:=h.2.sublist Qg;rw[uL hi] at hnd;have hnd2:((l.take i).flatMap (·.1)++l[i].1.take (k+1)).Nodup:=hnd.sublist (List.Sublist.append_left (List.take_sublist ..) _);rw[List.take_succ_eq_append_getElem hk,← List.append_assoc,List.nodup_append] at hnd2;exact hnd2.2.2 _ e _ (List.mem_singleton.2 rfl) rfl
      ·have e3:l[i].1[k]∉(l.take i).flatMap (·.1)++l[i].1.take k:=of_decide_eq_false e3;refine aM (fun e4=>?_) fun e4=>ah (.inr ⟨rfl,e1,e2,e3,fun j h=>by have:=pE e4; omega⟩);have e4:=l8 e4;obtain⟨j,rfl⟩:∃ j,k=j+1:=⟨k-1,by omega⟩;rw[mT (by omega),aj,show (((j+1:Nat):Int)-1)=(j:Int) by omega,dV (show j<l[i].1.length by omega),aj];refine ah ?_;rw[gC];by_cases hc:l[i].1[j+1]<=l[i].1[j]
       ·exact .inl ⟨decide_eq_true hc,fun h=>absurd ((h.1 _ hm).2.2.2.2 j hk) (by omega)⟩
       ·refine .inr ⟨decide_eq_false hc,e1,e2,e3,fun j2 h=>?_⟩;have:j2=j:=by omega
        subst this; omega
     ·rcases hb2 with⟨hb2,hn⟩ | ⟨hb2,k1,k2,k3,k4⟩
      ·subst hb2;exact ah ⟨rfl,hn⟩
      ·subst hb2;unfold bg.j1;rw[cond_false,ek (by omega),aj];refine ah ⟨rfl,fun j h1 h2=>?_,fun j h1 h2=>?_,?_,?_⟩
       ·by_cases h4:j=k
        ·subst h4; exact⟨k1,k2⟩
        ·exact K1 j (by omega) h2
       ·by_cases h4:j+1=k
        ·subst h4; exact k4 j rfl
        ·exact K2 j (by omega) h2
       ·rw[List.take_succ_eq_append_getElem hk,← List.append_assoc,List.nodup_append];exact⟨K3,by simp,fun a ha b hb=>by rw[List.mem_singleton.1 hb]; exact fun e=>k3 (e ▸ ha)⟩
       ·rw[List.take_succ_eq_append_getElem hk,← List.append_assoc];exact Lu K4 _
    ·obtain⟨K1,K2,K3,K4⟩:=hK;unfold bg.b1;dsimp only;rw[bw,decide_eq_false (by omega),cond_false,ek (by omega),aj];rw[List.take_length,← uL hi] at K3 K4;refine ah ⟨rfl,⟨hh.1,hh.2.1,hh.2.2,fun x hx=>?_,fun j h=>K2 j h h⟩,K3,K4⟩;obtain⟨j,hj,rfl⟩:=List.mem_iff_getElem.1 hx;exact K1 j hj hj
   refine key.mono fun r hr=>?_;cases r with
   | inl y =>
    obtain⟨r1,r2,r3,r4⟩:=hr;refine⟨r1,fun j h1 h2=>?_,r3,r4⟩;by_cases h4:j=i
    ·subst h4; exact r2
    ·exact I1 j (by omega) h2
   | inr b =>
    obtain⟨rfl,hn⟩:=hr;exact⟨fun e=>absurd e (by decide),fun h=>absurd h hn⟩
 ·obtain⟨I1,I2,I3⟩:=hI;unfold bg.b2;dsimp only;rw[bw,decide_eq_false (by omega),cond_false];rw[List.take_length] at I2;refine ah ⟨fun _=>⟨fun w hw=>?_,I2⟩,fun _=>rfl⟩;obtain⟨j,hj,rfl⟩:=List.mem_iff_getElem.1 hw;exact I1 j hj hj
end Go.Proofs.YtcppfkflcigjcaaGreatDoor
namespace Go.Proofs.YtcppfkflcigjcaaGreatDoor
open Go.Lad
theorem aN {a n:Int} {m:Nat} (ha:0<=a) (h0:0<=n) (h1:n<m):fL a n m=some ():=by
 unfold fL;rw[gC,gC,bw,decide_eq_true ha,decide_eq_true h0,decide_eq_true h1]; rfl
theorem BY (l:List Int) (p:Int) (h:l.length<=1000):Has (b7 l p) (fun b=>b=true↔p∈l):=by
 unfold b7 dy;refine ay (Q:=fun n=>0<=n↔p∈l) (ma l (fun i=>∀ j (h1:j<i) (h2:j<l.length),l[j]≠p) h (fun j h=>absurd h (by omega)) (fun i hi hI=>?_) (fun hI=>?_)) fun n hn=>ah ?_
 ·unfold dy.b1;rw[bw,decide_eq_true (by omega),cond_true,dV hi,aj];refine aM (fun e=>ah ⟨fun _=>by rw[Pc e]; exact List.getElem_mem hi,fun _=>by omega⟩) fun e=>?_;have e:=G4 e;rw[ek (by omega),aj];refine ah ⟨rfl,fun j h1 h2=>?_⟩;by_cases h4:j=i
  ·subst h4; exact fun e2=>e e2.symm
  ·exact hI j (by omega) h2
 ·unfold dy.b1;rw[bw,decide_eq_false (by omega),cond_false];refine ah ⟨fun h=>absurd h (by decide),fun h=>?_⟩;obtain⟨j,hj,e⟩:=List.mem_iff_getElem.1 h;exact absurd e (hI j hj hj)
 ·rw[gC,decide_eq_true_eq]; exact hn
def LS (f:bZ) (v:Nat):List gK:=if v=0 then f.1 else f.2.1
theorem Lv (f:bZ) {v:Nat} (hv:v<2):idx ([f.1,f.2.1]:List (List gK)) (v:Int)=some (LS f v):=by
 match v,hv with
 | 0,_=>rfl
 | 1,_=>rfl
noncomputable def DW (s x:gK) (k:Int):Bool:=if k∈s.2.1 then (gH s.2.2.1.1 (unL s.2.2.1.2) x.2.2.2.1 (unL x.2.2.2.2)).getD false else true
def qY (f:bZ) (t:List Bool) (P:Nat->Nat->Nat->Nat->Prop):Prop:=t.length=256/\∀ (i v k w:Nat) (hi:i<(LS f v).length) (hv:v<2) (hk:k<(LS f w).length) (hw:w<2),P i v k w->t[i * 32+v * 16+k * 2+w]?=some (DW (LS f v)[i] (LS f w)[k] (k:Int))
theorem qY.mono {f:bZ} {t:List Bool} {P P':Nat->Nat->Nat->Nat->Prop} (h:qY f t P) (hp:∀ i v k w,i<(LS f v).length->v<2->k<(LS f w).length->w<2->P' i v k w->P i v k w):qY f t P' :=
 ⟨h.1,fun i v k w hi hv hk hw hP=>h.2 i v k w hi hv hk hw (hp i v k w hi hv hk hw hP)⟩
def lexB (v i w k:Nat):Nat->Nat->Nat->Nat->Prop:=fun i' v' k' w'=>v'<v\/(v'=v/\(i'<i\/(i'=i/\(w'<w\/(w'=w/\k'<k)))))
section
variable {f:bZ} (h1:pO f.1) (h2:pO f.2.1)
include h1 h2
theorem qZ (v:Nat):pO (LS f v):=by unfold LS; split <;> assumption
theorem DX {v i w k:Nat} (hv:v<2) (hi:i<(LS f v).length) (hw:w<2) (hk:k<(LS f w).length) {t:List Bool} {b:Bool} (hb:b=DW (LS f v)[i] (LS f w)[k] (k:Int)) (h:qY f t (lexB v i w k)) :
  qY f (t.set (i * 32+v * 16+k * 2+w) b) (lexB v i w (k+1)):=by
 have n1:=(qZ h1 h2 v).1;have n2:=(qZ h1 h2 w).1;refine⟨by rw[List.length_set]; exact h.1,fun i' v' k' w' hi' hv' hk' hw' hP=>?_⟩;have n3:=(qZ h1 h2 v').1;have n4:=(qZ h1 h2 w').1;by_cases e:i * 32+v * 16+k * 2+w=i' * 32+v' * 16+k' * 2+w'
 ·have e1:i=i':=by omega
  have e2:v=v':=by omega
  have e3:k=k':=by omega
  have e4:w=w':=by omega
  subst e1 e2 e3 e4;rw[List.getElem?_set_self (by rw[h.1]; omega),hb]
 ·rw[List.getElem?_set_ne e];refine h.2 i' v' k' w' hi' hv' hk' hw' ?_;unfold lexB at hP ⊢;omega
theorem IH {v i w:Nat} (hv:v<2) (hi:i<(LS f v).length) (hw:w<2) {t:List Bool} (h:qY f t (lexB v i w 0)) :
  Has (aw (fun x=>cD.b1 (v:Int) (i:Int) (LS f v)[i] (w:Int) (LS f w) x.1 x.2) (0,t)) (fun r=>match r with | .inl y=>y.1=((w+1:Nat):Int)/\qY f y.2 (lexB v i (w+1) 0) | .inr _=>False):=by
 have n1:=(qZ h1 h2 v).1;have n2:=(qZ h1 h2 w).1;refine has_fold (LS f w) (fun k t=>qY f t (lexB v i w k)) (by omega) h (fun k hk t ht=>?_) (fun t ht=>?_)
 ·have hl:=ht.1;unfold cD.b1;dsimp only;rw[bw,decide_eq_true (by omega),cond_true,dV hk,aj];have hp:((((0+(i:Int) * 32)+(v:Int) * 16)+(k:Int) * 2)+(w:Int) * 1).toNat=i * 32+v * 16+k * 2+w:=by omega
  refine ay (BY _ _ (by have:=(qZ h1 h2 v).2 _ (List.getElem_mem hi); omega)) fun b hb=>?_;have hm:∀ (c:Bool) (R:((Int×List Bool)⊕((Int×List Bool)⊕((Int×List Bool)⊕((Int×List Bool)⊕(List Bool)))))->Prop),R (.inl (((k+1:Nat):Int),t.set (i * 32+v * 16+k * 2+w) c))->Has ((fL 0 (i:Int) 8).bind fun _=>(idx t (0+(i:Int) * 32)).bind fun _=>(fL (0+(i:Int) * 32) (v:Int) 2).bind fun _=>(idx t ((0+(i:Int) * 32)+(v:Int) * 16)).bind fun _ =>
    (fL ((0+(i:Int) * 32)+(v:Int) * 16) (k:Int) 8).bind fun _=>(idx t (((0+(i:Int) * 32)+(v:Int) * 16)+(k:Int) * 2)).bind fun _=>(fL (((0+(i:Int) * 32)+(v:Int) * 16)+(k:Int) * 2) (w:Int) 2).bind fun _ =>
    (idx t ((((0+(i:Int) * 32)+(v:Int) * 16)+(k:Int) * 2)+(w:Int) * 1)).bind fun _=>(idx t ((((0+(i:Int) * 32)+(v:Int) * 16)+(k:Int) * 2)+(w:Int) * 1)).bind fun _=>(z64 ((k:Int)+1)).bind fun v24 =>
    (some (.inl (v24,(t.set ((((0+(i:Int) * 32)+(v:Int) * 16)+(k:Int) * 2)+(w:Int) * 1).toNat c))):Option ((Int×List Bool)⊕((Int×List Bool)⊕((Int×List Bool)⊕((Int×List Bool)⊕(List Bool)))))))
    R:=fun c R hc=>by
   rw[aN (by omega) (by omega) (by omega),aj];refine ay (jm (by omega) (by omega)) fun _ _=>?_;rw[aN (by omega) (by omega) (by omega),aj];refine ay (jm (by omega) (by omega)) fun _ _=>?_;rw[aN (by omega) (by omega) (by omega),aj];refine ay (jm (by omega) (by omega)) fun _ _=>?_;rw[aN (by omega) (by omega) (by omega),aj];refine ay (jm (by omega) (by omega)) fun _ _=>?_;refine ay (jm (by omega) (by omega)) fun _ _=>?_;rw[ek (by omega),aj,hp];exact ah hc
  refine aM (fun e=>?_) fun e=>?_
  ·have e:b=false:=by simpa using e
   refine hm true _ ⟨rfl,DX h1 h2 hv hi hw hk ?_ ht⟩;unfold DW;rw[if_neg fun hx=>by rw[hb.2 hx] at e; cases e]
  ·have e:b=true:=by simpa using e
   simp only[fu1,fu2,fu3,fu4];obtain⟨r,hr,_⟩:=ID (LS f v)[i].2.2.1.1 (LS f v)[i].2.2.1.2 (LS f w)[k].2.2.2.1 (LS f w)[k].2.2.2.2;rw[hr,aj];refine hm r _ ⟨rfl,DX h1 h2 hv hi hw hk ?_ ht⟩;unfold DW;rw[if_pos (hb.1 e),hr]; rfl
 ·unfold cD.b1;dsimp only;rw[bw,decide_eq_false (by omega),cond_false,ek (by omega),aj];refine ah ⟨rfl,ht.mono fun i' v' k' w' hi' hv' hk' hw' hP=>?_⟩;unfold lexB at hP ⊢;by_cases e:w'=w
  ·subst e; omega
  ·omega
theorem Lw {v i:Nat} (hv:v<2) (hi:i<(LS f v).length) {t:List Bool} (h:qY f t (lexB v i 0 0)) :
  Has (aw (fun x=>cD.b2 f (v:Int) (i:Int) (LS f v)[i] x.1 x.2) (0,t)) (fun r=>match r with | .inl y=>y.1=((i+1:Nat):Int)/\qY f y.2 (lexB v (i+1) 0 0) | .inr _=>False):=by
 have n1:=(qZ h1 h2 v).1;refine has_fold [0,1] (fun w t=>qY f t (lexB v i w 0)) (by decide) h (fun w hw t ht=>?_) (fun t ht=>?_)
 ·have hw:w<2:=hw;unfold cD.b2;dsimp only;rw[bw,decide_eq_true (by omega),cond_true,Lv f hw,aj];refine (IH h1 h2 hv hi hw ht).mono fun r hr=>?_;cases r with
  | inl y=>exact hr
  | inr b=>exact hr.elim
 ·unfold cD.b2;dsimp only;rw[bw,decide_eq_false (by simp),cond_false,ek (by omega),aj];refine ah ⟨rfl,ht.mono fun i' v' k' w' hi' hv' hk' hw' hP=>?_⟩;unfold lexB at hP ⊢;have:[0,1].length=2:=rfl;omega
theorem Lx {v:Nat} (hv:v<2) {t:List Bool} (h:qY f t (lexB v 0 0 0)) :
  Has (aw (fun x=>cD.b3 f (v:Int) (LS f v) x.1 x.2) (0,t)) (fun r=>match r with | .inl y=>y.1=((v+1:Nat):Int)/\qY f y.2 (lexB (v+1) 0 0 0) | .inr _=>False):=by
 have n1:=(qZ h1 h2 v).1;refine has_fold (LS f v) (fun i t=>qY f t (lexB v i 0 0)) (by omega) h (fun i hi t ht=>?_) (fun t ht=>?_)
 ·unfold cD.b3;dsimp only;rw[bw,decide_eq_true (by omega),cond_true,dV hi,aj];refine (Lw h1 h2 hv hi ht).mono fun r hr=>?_;cases r with
  | inl y=>exact hr
  | inr b=>exact hr.elim
 ·unfold cD.b3;dsimp only;rw[bw,decide_eq_false (by omega),cond_false,ek (by omega),aj];refine ah ⟨rfl,ht.mono fun i' v' k' w' hi' hv' hk' hw' hP=>?_⟩;unfold lexB at hP ⊢;by_cases e:v'=v
  ·subst e; omega
  ·omega
theorem AK:Has (cD f) (fun t=>qY f t fun _ _ _ _=>True):=by
 unfold cD;refine has_fold [0,1] (fun v t=>qY f t (lexB v 0 0 0)) (by decide) ⟨by rw[List.length_replicate],fun i v k w hi hv hk hw hP=>?_⟩ (fun v hv t ht=>?_) (fun t ht=>?_)
 ·unfold lexB at hP; omega
 ·have hv:v<2:=hv;unfold cD.b4;dsimp only;rw[bw,decide_eq_true (by omega),cond_true,Lv f hv,aj];refine (Lx h1 h2 hv ht).mono fun r hr=>?_;cases r with
  | inl y=>exact hr
  | inr b=>exact hr.elim
 ·unfold cD.b4;dsimp only;rw[bw,decide_eq_false (by simp),cond_false];refine ah (ht.mono fun i' v' k' w' hi' hv' hk' hw' hP=>?_);unfold lexB;have:[0,1].length=2:=rfl;omega
end
end Go.Proofs.YtcppfkflcigjcaaGreatDoor
namespace Go.Proofs.YtcppfkflcigjcaaGreatDoor
open Go.Lad
noncomputable def jY (f:bZ) (i v k w:Nat):Bool:=match (LS f v)[i]?,(LS f w)[k]? with
 | some s,some x=>DW s x (k:Int)
 | _,_=>true
def stp (f:bZ) (i:Nat):Nat:=(f.2.2.getD i 0).toNat
def ver (d:List Bool) (i:Nat):Nat:=if d.getD i false=true then 1 else 0
theorem vH (d:List Bool) (i:Nat):ver d i<2:=by unfold ver; split <;> omega
def Bad (f:bZ) (d:List Bool):Prop := ∃ i k,i<f.2.2.length/\k<f.2.2.length/\jY f (stp f i) (ver d i) (stp f k) (ver d k)=false
theorem FN {d:List Bool} {i:Nat} (h:i<d.length):jk d (i:Int)=some (ver d i:Int):=by
 unfold jk mO;rw[bw,decide_eq_true (by omega),cond_true,dV h,aj,aj];unfold ver;rw[List.getD_eq_getElem?_getD,List.getElem?_eq_getElem h];show (bif d[i] then some (1:Int) else some 0)=some (((if d[i]=true then 1 else 0:Nat)):Int);cases d[i] <;> rfl
section
variable {f:bZ} (h1:pO f.1) (h2:pO f.2.1) (h3:f.2.2.length<=8) (hF:lq f) {t:List Bool} (hT:qY f t fun _ _ _ _=>True) {d:List Bool} (hd:d.length=f.2.2.length)
include h1 h2 h3 hF
theorem Ly {v:Nat} (hv:v<2):(LS f v).length=f.1.length:=by
 have hl:f.1.length=f.2.1.length:=by have:=congrArg List.length hF.1; simpa using this
 unfold LS; split
 ·rfl
 ·exact hl.symm
theorem vb {i:Nat} (hi:i<f.2.2.length):f.2.2[i]=(stp f i:Int)/\stp f i<f.1.length:=by
 have h:=hF.2.1 _ (List.getElem_mem hi);unfold stp;rw[List.getD_eq_getElem?_getD,List.getElem?_eq_getElem hi];show f.2.2[i]=((f.2.2[i].toNat:Nat):Int)/\f.2.2[i].toNat<f.1.length;omega
include hT
theorem G9 {i v k w:Nat} (hi:i<f.1.length) (hv:v<2) (hk:k<f.1.length) (hw:w<2):t[i * 32+v * 16+k * 2+w]?=some (jY f i v k w):=by
 have a1:i<(LS f v).length:=by rw[Ly h1 h2 h3 hF hv]; exact hi
 have a2:k<(LS f w).length:=by rw[Ly h1 h2 h3 hF hw]; exact hk
 rw[hT.2 i v k w a1 hv a2 hw trivial];unfold jY;rw[List.getElem?_eq_getElem a1,List.getElem?_eq_getElem a2]
theorem BZ {i v k w:Nat} (hi:i<f.1.length) (hv:v<2) (hk:k<f.1.length) (hw:w<2):idx t ((((0+(i:Int) * 32)+(v:Int) * 16)+(k:Int) * 2)+(w:Int) * 1)=some (jY f i v k w):=by
 refine vD (by omega) ?_;rw[show ((((0+(i:Int) * 32)+(v:Int) * 16)+(k:Int) * 2)+(w:Int) * 1).toNat=i * 32+v * 16+k * 2+w by omega];exact G9 h1 h2 h3 hF hT hi hv hk hw
omit hT
def LA (f:bZ) (d:List Bool) (e:List Bool) (n:Nat):Prop:=e.length=16/\∀ s v,s<8->v<2->∃ b,e[s * 2+v]?=some b/\(b=true↔∃ j,j<n/\j<f.2.2.length/\stp f j=s/\ver d j=v)
include hd
theorem LD:Has (aw (fun x=>az.b1 f d x.1 x.2) (0,List.replicate 16 false)) (fun e=>LA f d e f.2.2.length):=by
 refine has_fold f.2.2 (fun i e=>LA f d e i) (by omega) ⟨by rw[List.length_replicate],fun s v hs hv=>⟨false,?_,?_⟩⟩ (fun i hi e he=>?_) (fun e he=>?_)
 ·rw[List.getElem?_replicate,if_pos (by omega)]
 ·exact⟨fun h=>absurd h (by decide),fun⟨j,h,_⟩=>absurd h (by omega)⟩
 ·obtain⟨e1,e2⟩:=vb h1 h2 h3 hF hi;have n1:=h1.1;have n2:=vH d i;have hl:=he.1;unfold az.b1;dsimp only;rw[bw,decide_eq_true (by omega),cond_true,dV hi,aj,FN (by omega),aj,e1];rw[aN (by omega) (by omega) (by omega),aj];refine ay (jm (by omega) (by omega)) fun _ _=>?_;rw[aN (by omega) (by omega) (by omega),aj];refine ay (jm (by omega) (by omega)) fun _ _=>ay (jm (by omega) (by omega)) fun _ _=>?_;rw[ek (by omega),aj];refine ah ⟨rfl,by rw[List.length_set]; exact hl,fun s v hs hv=>?_⟩;rw[show ((0+(stp f i:Int) * 2)+(ver d i:Int) * 1).toNat=stp f i * 2+ver d i by omega];by_cases hp:stp f i * 2+ver d i=s * 2+v
  ·have a1:stp f i=s:=by omega
   have a2:ver d i=v:=by omega
   subst a1 a2;exact⟨true,by rw[List.getElem?_set_self (by omega)],fun _=>⟨i,by omega,hi,rfl,rfl⟩,fun _=>rfl⟩
  ·obtain⟨b,hb1,hb2⟩:=he.2 s v hs hv;refine⟨b,by rw[List.getElem?_set_ne hp]; exact hb1,hb2.trans ⟨fun⟨j,x1,x2⟩=>⟨j,by omega,x2⟩,fun⟨j,x1,x2,x3,x4⟩=>⟨j,?_,x2,x3,x4⟩⟩⟩;by_cases hj:j=i
   ·subst hj; omega
   ·omega
 ·unfold az.b1;dsimp only;rw[bw,decide_eq_false (by omega),cond_false];exact ah he
include hT
theorem N8 {e:List Bool} (he:LA f d e f.2.2.length) {i v:Nat} (hi:i<f.1.length) (hv:v<2) :
  Has (aw (fun x=>az.b2 f t e (i:Int) (v:Int) x.1 x.2) (false,0)) (fun b=>b=true↔∃ j,j<f.2.2.length/\jY f i v (stp f j) (ver d j)=false):=by
 have n1:=h1.1;have hl:=he.1;have htl:=hT.1;have step:∀ (s:Nat) (hs:s<f.1.length) (bad:Bool),∃ c0 c1:Bool,e[s * 2]?=some c0/\e[s * 2+1]?=some c1/\(c0=true↔∃ j,j<f.2.2.length/\stp f j=s/\ver d j=0)/\(c1=true↔∃ j,j<f.2.2.length/\stp f j=s/\ver d j=1) /\
   az.b2 f t e (i:Int) (v:Int) bad (s:Int)=some (.inl (bad || ((c0 && !jY f i v s 0) || (c1 && !jY f i v s 1)),((s+1:Nat):Int))):=by
  intro s hs bad;obtain⟨c0,x1,x2⟩:=he.2 s 0 (by omega) (by omega);obtain⟨c1,y1,y2⟩:=he.2 s 1 (by omega) (by omega);refine⟨c0,c1,x1,y1,x2.trans ⟨fun⟨j,a,b⟩=>⟨j,b⟩,fun⟨j,b⟩=>⟨j,b.1,b⟩⟩,y2.trans ⟨fun⟨j,a,b⟩=>⟨j,b⟩,fun⟨j,b⟩=>⟨j,b.1,b⟩⟩,?_⟩;have i0:idx e ((0+(s:Int) * 2)+0 * 1)=some c0:=vD (by omega) (by rw[show ((0+(s:Int) * 2)+0 * 1).toNat=s * 2+0 by omega]; exact x1);have i1:idx e ((0+(s:Int) * 2)+1 * 1)=some c1:=vD (by omega) (by rw[show ((0+(s:Int) * 2)+1 * 1).toNat=s * 2+1 by omega]; exact y1);have ie:idx e (0+(s:Int) * 2)=some c0:=vD (by omega) (by rw[show (0+(s:Int) * 2).toNat=s * 2+0 by omega]; exact x1);have t0:=BZ h1 h2 h3 hF hT hi hv hs (show 0<2 by omega);have t1:=BZ h1 h2 h3 hF hT hi hv hs (show 1<2 by omega);rw[show ((((0:Nat):Int)) * 1)=0 * 1 from rfl] at t0;rw[show ((((1:Nat):Int)) * 1)=1 * 1 from rfl] at t1;have it:idx t (((0+(i:Int) * 32)+(v:Int) * 16)+(s:Int) * 2)=some (jY f i v s 0):=vD (by omega) (by rw[show (((0+(i:Int) * 32)+(v:Int) * 16)+(s:Int) * 2).toNat=i * 32+v * 16+s * 2+0 by omega]; exact G9 h1 h2 h3 hF hT hi hv hs (by omega));unfold az.b2;rw[bw,decide_eq_true (by omega),cond_true,ek (by omega)];rw[i0,i1,ie,t0,t1,it];rw[aN (show (0:Int)<=0 by omega) (show (0:Int)<=(s:Int) by omega) (show (s:Int)<((8:Nat):Int) by omega)];rw[aN (show (0:Int)<=0+(s:Int) * 2 by omega) (show (0:Int)<=0 by omega) (show (0:Int)<((2:Nat):Int) by omega)];rw[aN (show (0:Int)<=0+(s:Int) * 2 by omega) (show (0:Int)<=1 by omega) (show (1:Int)<((2:Nat):Int) by omega)];rw[aN (show (0:Int)<=(0+(i:Int) * 32)+(v:Int) * 16 by omega) (show (0:Int)<=(s:Int) by omega) (show (s:Int)<((8:Nat):Int) by omega)];rw[aN (show (0:Int)<=((0+(i:Int) * 32)+(v:Int) * 16)+(s:Int) * 2 by omega) (show (0:Int)<=0 by omega) (show (0:Int)<((2:Nat):Int) by omega)];rw[aN (show (0:Int)<=((0+(i:Int) * 32)+(v:Int) * 16)+(s:Int) * 2 by omega) (show (0:Int)<=1 by omega) (show (1:Int)<((2:Nat):Int) by omega)];simp only[aj];cases bad <;> cases c0 <;> cases c1 <;> cases jY f i v s 0 <;> cases jY f i v s 1 <;> rfl
 refine n0 (fun x:Bool×Int=>∃ s:Nat,x.2=(s:Int)/\s<=f.1.length/\(x.1=true↔∃ j,j<f.2.2.length/\stp f j<s/\jY f i v (stp f j) (ver d j)=false)) (fun x=>f.1.length-x.2.toNat)
  ⟨0,rfl,Nat.zero_le _,fun h=>absurd h (by decide),fun⟨j,_,h,_⟩=>absurd h (by omega)⟩ (by show f.1.length-_<=_; omega) ?_
 rintro⟨bad,x⟩ ⟨s,hx,hs,hb⟩ _;dsimp only at hx hb;subst hx;dsimp only;rcases Nat.lt_or_ge s f.1.length with hs2 | hs2
 ·obtain⟨c0,c1,_,_,q0,q1,hq⟩:=step s hs2 bad;rw[hq];refine ah ⟨⟨s+1,rfl,hs2,?_⟩,by show f.1.length-((s+1:Nat):Int).toNat<f.1.length-((s:Int)).toNat; omega⟩;show ((bad || ((c0 && !jY f i v s 0) || (c1 && !jY f i v s 1)))=true)↔_;rw[Bool.or_eq_true,hb,Bool.or_eq_true,Bool.and_eq_true,Bool.and_eq_true,q0,q1,Bool.not_eq_true',Bool.not_eq_true'];constructor
  ·rintro (⟨j,a1,a2,a3⟩ | ⟨⟨j,a1,a2,a3⟩,a4⟩ | ⟨⟨j,a1,a2,a3⟩,a4⟩)
   ·exact⟨j,a1,by omega,a3⟩
   ·exact⟨j,a1,by omega,by rw[a2,a3]; exact a4⟩
   ·exact⟨j,a1,by omega,by rw[a2,a3]; exact a4⟩
  ·rintro⟨j,a1,a2,a3⟩;by_cases hj:stp f j=s
   ·subst hj;have:=vH d j;rcases Nat.lt_or_ge (ver d j) 1 with h0 | h0
    ·have h0:ver d j=0:=by omega
     exact .inr (.inl ⟨⟨j,a1,rfl,h0⟩,by rw[h0] at a3; exact a3⟩)
    ·have h0:ver d j=1:=by omega
     exact .inr (.inr ⟨⟨j,a1,rfl,h0⟩,by rw[h0] at a3; exact a3⟩)
   ·exact .inl ⟨j,a1,by omega,a3⟩
 ·have:s=f.1.length:=by omega
  subst this;unfold az.b2;rw[bw,decide_eq_false (by omega),cond_false];refine ah (hb.trans ⟨fun⟨j,a1,a2,a3⟩=>⟨j,a1,a3⟩,fun⟨j,a1,a3⟩=>⟨j,a1,(vb h1 h2 h3 hF a1).2,a3⟩⟩)
theorem sP:Has (az f d t) (fun r=>r.2.2=true↔Bad f d):=by
 have n1:=h1.1;have htl:=hT.1;unfold az;refine ay (LD h1 h2 h3 hF hd) fun e he=>?_;unfold az.j3;refine ma f.2.2 (fun n=>∀ i,i<n->i<f.2.2.length->∀ k,k<f.2.2.length->jY f (stp f i) (ver d i) (stp f k) (ver d k)=true) (by omega) (fun i h=>absurd h (by omega)) (fun i hi hI=>?_) (fun hI=>?_)
 ·obtain⟨e1,e2⟩:=vb h1 h2 h3 hF hi;have hv:=vH d i;unfold az.b4;rw[bw,decide_eq_true (by omega),cond_true,dV hi,aj,FN (by omega),aj,e1];rw[aN (by omega) (by omega) (by omega),aj];refine ay (jm (by omega) (by omega)) fun _ _=>?_;rw[aN (by omega) (by omega) (by omega),aj];refine ay (jm (by omega) (by omega)) fun _ _=>?_;refine ay (N8 h1 h2 h3 hF hT hd he e2 hv) fun b hb=>?_;unfold az.j2;refine (show Has (aw (fun x=>az.b3 f d t (i:Int) (stp f i:Int) (ver d i:Int) b x) 0) (fun r=>match r with
   | .inl y=>y=((i+1:Nat):Int) /\ ¬ ∃ k,k<f.2.2.length/\jY f (stp f i) (ver d i) (stp f k) (ver d k)=false
   | .inr r=>r.2.2=true/\∃ k,k<f.2.2.length/\jY f (stp f i) (ver d i) (stp f k) (ver d k)=false) from ?_).mono fun r hr=>?_
  ·refine ma f.2.2 (fun n=>b=true->∀ k,k<n->k<f.2.2.length->jY f (stp f i) (ver d i) (stp f k) (ver d k)=true) (by omega) (fun _ k h=>absurd h (by omega)) (fun k hk hK=>?_) (fun hK=>?_)
   ·obtain⟨g1,g2⟩:=vb h1 h2 h3 hF hk;have hw:=vH d k;unfold az.b3;rw[bw,decide_eq_true (by omega),cond_true,dV hk,aj,g1];refine ay (Q:=fun c=>c=true↔(b=true/\jY f (stp f i) (ver d i) (stp f k) (ver d k)=false)) (aM (fun hb1=>?_) fun hb1=>ah ⟨fun h=>absurd h (by decide),fun h=>by rw[hb1] at h; exact absurd h.1 (by decide)⟩) fun c hc=>?_
    ·rw[FN (by omega),aj,aN (by omega) (by omega) (by omega),aj];refine ay (jm (by omega) (by omega)) fun _ _=>?_;rw[aN (by omega) (by omega) (by omega),aj,BZ h1 h2 h3 hF hT e2 hv g2 hw,aj,aj];refine ah ?_;rw[Bool.not_eq_true'];exact⟨fun h=>⟨hb1,h⟩,fun h=>h.2⟩
    ·unfold az.j1;refine aM (fun h=>ah ⟨rfl,k,hk,(hc.1 h).2⟩) fun h=>?_;rw[ek (by omega),aj];refine ah ⟨rfl,fun hb1 k2 x1 x2=>?_⟩;by_cases x3:k2=k
     ·subst x3;cases hq:jY f (stp f i) (ver d i) (stp f k2) (ver d k2) with
      | true=>rfl
      | false=>rw[hc.2 ⟨hb1,hq⟩] at h; cases h
     ·exact hK hb1 k2 (by omega) x2
   ·unfold az.b3;rw[bw,decide_eq_false (by omega),cond_false,ek (by omega),aj];refine ah ⟨rfl,fun⟨k,x1,x2⟩=>?_⟩;have hb1:b=true:=hb.2 ⟨k,x1,x2⟩;rw[hK hb1 k x1 x1] at x2; cases x2
  ·cases r with
   | inl y =>
    refine⟨hr.1,fun i2 x1 x2 k x3=>?_⟩;by_cases x4:i2=i
    ·subst x4;cases hq:jY f (stp f i2) (ver d i2) (stp f k) (ver d k) with
     | true=>rfl
     | false=>exact absurd ⟨k,x3,hq⟩ hr.2
    ·exact hI i2 (by omega) x2 k x3
   | inr r =>
    obtain⟨r1,k,r2,r3⟩:=hr;exact⟨fun _=>⟨i,k,hi,r2,r3⟩,fun _=>r1⟩
 ·unfold az.b4;rw[bw,decide_eq_false (by omega),cond_false];refine ah ⟨fun h=>absurd h (by decide),fun⟨i,k,x1,x2,x3⟩=>?_⟩;rw[hI i x1 x1 k x2] at x3; cases x3
end
end Go.Proofs.YtcppfkflcigjcaaGreatDoor
namespace Go.Proofs.YtcppfkflcigjcaaGreatDoor
open Go.Lad
def pQ (n:Nat) (ws:List gO) (m:Nat) (d:List Bool):Prop:=d.length=n/\∀ i,i<n->(d.getD i false=true↔∃ w∈ws.take m,(i:Int)∈w.1)
def lL (f:bZ) (ws:List gO) (m:Nat):Prop := ∃ d,pQ f.2.2.length ws m d/\Bad f d
theorem DY {n:Nat} {ws:List gO} {m:Nat} {d e:List Bool} (h:pQ n ws m d) (h':pQ n ws m e) {i:Nat} (hi:i<n):ver d i=ver e i:=by
 have:=(h.2 i hi).trans (h'.2 i hi).symm;unfold ver;by_cases hd:d.getD i false=true
 ·rw[if_pos hd,if_pos (this.1 hd)]
 ·rw[if_neg hd,if_neg fun he=>hd (this.2 he)]
theorem pG {f:bZ} {ws:List gO} {m:Nat} {d:List Bool} (h:pQ f.2.2.length ws m d):Bad f d↔lL f ws m:=by
 refine⟨fun hb=>⟨d,h,hb⟩,fun⟨e,he,i,k,hi,hk,hb⟩=>⟨i,k,hi,hk,?_⟩⟩;rw[DY h he hi,DY h he hk]; exact hb
theorem DZ {s:Int} (h:0<=s):Has (l7 [] s) (fun h=>h.2=false):=by
 unfold l7;refine aM (fun e=>absurd (l8 e) (by show ¬ s<((0:Nat):Int); omega)) fun _=>ah rfl
theorem LG (f:bZ) (ms:List Int) (w:gO) (now:Int) (d:List Bool) (hl:w.1.length<=10) (hd:d.length=f.2.2.length) (hw:∀ x∈w.1,0<=x/\x<f.2.2.length) (hp:∀ x∈f.2.2,0<=x) :
  Has (aw (fun x=>bB.b1 f [] ms w now x.1 x.2) (0,d)) (fun r=>match r with | .inl e=>e.length=f.2.2.length/\∀ i,i<f.2.2.length->(e.getD i false=true↔(d.getD i false=true\/(i:Int)∈w.1)) | .inr _=>False):=by
 refine has_fold w.1 (fun k e=>e.length=f.2.2.length/\∀ i,i<f.2.2.length->(e.getD i false=true↔(d.getD i false=true\/(i:Int)∈w.1.take k))) (by omega) ⟨hd,fun i hi=>by simp⟩ (fun k hk e he=>?_) (fun e he=>?_)
 ·obtain⟨e1,e2⟩:=he;have hx:=hw _ (List.getElem_mem hk);unfold bB.b1;dsimp only;rw[bw,decide_eq_true (by omega),cond_true,dV hk,aj];refine ay (jm (by omega) (by omega)) fun s hs0=>?_;refine ay (Q:=fun h=>h.2=false) ?_ fun h hh=>?_
  ·exact DZ (hp _ hs0.1)
  ·rw[hh,cond_false,aj];unfold bB.j1;rw[cond_false];refine ay (jm (by omega) (by omega)) fun _ _=>ay (jm (by omega) (by omega)) fun _ _=>?_;rw[ek (by omega),aj];refine ah ⟨rfl,by rw[List.length_set]; exact e1,fun i hi=>?_⟩;rw[List.take_succ_eq_append_getElem hk,List.getD_eq_getElem?_getD];by_cases hq:w.1[k].toNat=i
   ·subst hq;rw[List.getElem?_set_self (by omega)];refine⟨fun _=>.inr (List.mem_append.2 (.inr (List.mem_singleton.2 (by omega)))),fun _=>rfl⟩
   ·rw[List.getElem?_set_ne hq,← List.getD_eq_getElem?_getD,e2 i hi,List.mem_append,List.mem_singleton];refine⟨fun h=>h.elim .inl fun h=>.inr (.inl h),fun h=>h.elim .inl fun h=>h.elim .inr fun h=>absurd h (by omega)⟩
 ·unfold bB.b1;dsimp only;rw[bw,decide_eq_false (by omega),cond_false];obtain⟨e1,e2⟩:=he;rw[List.take_length] at e2;exact ah ⟨e1,e2⟩
theorem N9 {f:bZ} (h1:pO f.1) (h2:pO f.2.1) (h3:f.2.2.length<=8) (hF:lq f) {t:List Bool} (hT:qY f t fun _ _ _ _=>True) {ws:List gO} (hl:ws.length<=10) (hw:∀ w∈ws,w.1.length<=10) (hW:jB f.2.2.length ws) (q:Int) :
  Has (bB f ws q [] t) (fun r=>(r.2=0/\r.1.length=ws.length/\(∀ m,m<=ws.length -> ¬ lL f ws m)/\∀ w∈ws,(w.1.length:Int)<=q)\/(r.2=27/\∃ m,m<=ws.length/\lL f ws m)\/(r.2=32/\∃ w∈ws,q<(w.1.length:Int))):=by
 unfold bB;have hm:pN (f.2.2.length:Int) (f.2.2.length:Int)=some ():=Ax (by omega) (by omega);rw[hm,aj];have hd0:pQ f.2.2.length ws 0 (ri (f.2.2.length:Int) false):=by
  refine⟨by rw[DI]; omega,fun i hi=>?_⟩;unfold ri;rw[List.getD_eq_getElem?_getD,List.getElem?_replicate];split <;> simp
 refine ay (sP h1 h2 h3 hF hT hd0.1) fun r hr=>?_;refine aM (fun e=>ah (.inr (.inl ⟨rfl,0,Nat.zero_le _,(pG hd0).1 (hr.1 e)⟩))) fun e=>?_;have hb0:¬ lL f ws 0:=fun h=>by rw[hr.2 ((pG hd0).2 h)] at e; cases e
 refine has_fold (body:=fun x:Int×(List Bool×List Int)=>bB.b2 f ws q [] t x.1 x.2.1 x.2.2) ws (fun m s=>pQ f.2.2.length ws m s.1/\s.2.length=m/\(∀ x∈s.2,0<=x/\x<=1073741824+(m:Int))/\(∀ j,j<=m -> ¬ lL f ws j)/\∀ j (h:j<m) (h2:j<ws.length),(ws[j].1.length:Int)<=q) (by omega)
  ⟨hd0,rfl,fun x hx=>absurd hx List.not_mem_nil,fun j hj=>(show j=0 by omega) ▸ hb0,fun j h=>absurd h (by omega)⟩ (fun m hm s hs=>?_) (fun s hs=>?_)
 ·obtain⟨d,ms⟩:=s;obtain⟨s1,s2,s3,s4,s5⟩:=hs;dsimp only at s1 s2 s3 s4 s5;have hmem:ws[m]∈ws:=List.getElem_mem hm;have hwm:=hW.1 _ hmem;have hwl:=hw _ hmem;unfold bB.b2;dsimp only;rw[bw,decide_eq_true (by omega),cond_true,dV hm,aj];refine ay (Q:=fun now=>0<=now/\now<=1073741824+((m+1:Nat):Int)) (aM (fun e=>?_) fun _=>ah ⟨hwm.2.1,by have:=hwm.2.2.1; omega⟩) fun now hnow=>?_
  ·have e:=l8 e;rw[mT (by omega),aj];obtain⟨p,rfl⟩:∃ p,m=p+1:=⟨m-1,by omega⟩;have hp:p<ms.length:=by omega
   rw[show (((p+1:Nat):Int)-1)=(p:Int) by omega,dV hp,aj,aj];have:=s3 _ (List.getElem_mem hp);rw[mT (by omega),aj];refine ah ?_;have:=hwm.2.1;have:=hwm.2.2.1;omega
  ·unfold bB.j3;refine aM (fun e=>ah (.inr (.inr ⟨rfl,_,hmem,l8 e⟩))) fun e=>?_;have e:=pE e;refine ay (LG f ms ws[m] now d hwl s1.1 hwm.2.2.2.1 fun x hx=>(hF.2.1 x hx).1) fun r hr=>?_;cases r with
   | inr b=>exact hr.elim
   | inl d2 =>
    dsimp only;obtain⟨r1,r2⟩:=hr;have hd2:pQ f.2.2.length ws (m+1) d2:=by
     refine⟨r1,fun i hi=>?_⟩;rw[r2 i hi,s1.2 i hi,List.take_succ_eq_append_getElem hm];constructor
     ·rintro (⟨w,x1,x2⟩ | x)
      ·exact⟨w,List.mem_append.2 (.inl x1),x2⟩
      ·exact⟨_,List.mem_append.2 (.inr (List.mem_singleton.2 rfl)),x⟩
     ·rintro⟨w,x1,x2⟩;rcases List.mem_append.1 x1 with x1 | x1
      ·exact .inl ⟨w,x1,x2⟩
      ·rw[List.mem_singleton.1 x1] at x2; exact .inr x2
    unfold bB.j2;refine ay (sP h1 h2 h3 hF hT hd2.1) fun r hr=>?_;refine aM (fun e=>ah (.inr (.inl ⟨rfl,m+1,hm,(pG hd2).1 (hr.1 e)⟩))) fun e3=>?_;have hb:¬ lL f ws (m+1):=fun h=>by rw[hr.2 ((pG hd2).2 h)] at e3; cases e3
    refine ay (pF (by simp; omega)) fun ms2 hms=>?_;subst hms;rw[ek (by omega),aj];refine ah ⟨rfl,hd2,by rw[List.length_append,s2]; rfl,fun x hx=>?_,fun j hj=>?_,fun j hj hj2=>?_⟩
    ·rcases List.mem_append.1 hx with hx | hx
     ·have:=s3 x hx; omega
     ·rw[List.mem_singleton.1 hx]; exact hnow
    ·by_cases h:j=m+1
     ·subst h; exact hb
     ·exact s4 j (by omega)
    ·by_cases h:j=m
     ·subst h; exact e
     ·exact s5 j (by omega) hj2
 ·obtain⟨s1,s2,s3,s4,s5⟩:=hs;unfold bB.b2;dsimp only;rw[bw,decide_eq_false (by omega),cond_false];refine ah (.inl ⟨rfl,s2,s4,fun w hw=>?_⟩);obtain⟨j,hj,rfl⟩:=List.mem_iff_getElem.1 hw;exact s5 j hj hj
theorem Oa {f:bZ} (h1:pO f.1) (h2:pO f.2.1) (h3:f.2.2.length<=8) {ws:List gO} (hl:ws.length<=10) (hw:∀ w∈ws,w.1.length<=10) (q:Int) :
  Has (mP f ws q []) (fun r=>(r.2=1 /\ ¬ (lq f/\1<=q/\jB f.2.2.length ws))\/(lq f/\1<=q/\jB f.2.2.length ws/\((r.2=0/\r.1.length=ws.length/\(∀ m,m<=ws.length -> ¬ lL f ws m)/\∀ w∈ws,(w.1.length:Int)<=q)\/(r.2=27/\∃ m,m<=ws.length/\lL f ws m)\/(r.2=32/\∃ w∈ws,q<(w.1.length:Int))))):=by
 unfold mP;refine ay (Q:=fun b=>b=false↔lq f/\1<=q/\jB f.2.2.length ws) ?_ fun b hb=>?_
 ·refine ay (AI f h1 h2 h3) fun a ha=>aM (fun e=>ah ⟨fun h=>absurd h (by decide),fun h=>by rw[ha.2 h.1] at e; cases e⟩) fun e1=>?_;have e1:a=true:=by simpa using e1
  refine aM (fun e=>ah ⟨fun h=>absurd h (by decide),fun h=>absurd (l8 e) (by omega)⟩) fun e2=>?_;have e2:=pE e2;refine ay (AJ f ws hl hw) fun c hc=>ah ⟨fun h=>⟨ha.1 e1,e2,hc.1 (by simpa using h)⟩,fun h=>by rw[hc.2 h.2.2]; rfl⟩
 ·unfold mP.j1;refine aM (fun e=>ah (.inl ⟨rfl,fun h=>by rw[hb.2 h] at e; cases e⟩)) fun e=>?_;obtain⟨g1,g2,g3⟩:=hb.1 e;refine ay (AK h1 h2) fun t ht=>ay (N9 h1 h2 h3 g1 ht hl hw g3 q) fun r hr=>ah (.inr ⟨g1,g2,g3,hr⟩)
theorem II (f:bZ) (ms:List Int) (w:gO) (now:Int) (d:List Bool) (hl:w.1.length<=10) (hd:d.length=f.2.2.length) (hw:∀ x∈w.1,0<=x/\x<f.2.2.length) (hp:∀ x∈f.2.2,0<=x) :
  Has (aw (fun x=>aQ.b1 f [] ms w now x.1 x.2) (0,d)) (fun r=>match r with | .inl e=>e.length=f.2.2.length/\∀ i,i<f.2.2.length->(e.getD i false=true↔(d.getD i false=true\/(i:Int)∈w.1)) | .inr _=>False):=by
 refine has_fold w.1 (fun k e=>e.length=f.2.2.length/\∀ i,i<f.2.2.length->(e.getD i false=true↔(d.getD i false=true\/(i:Int)∈w.1.take k))) (by omega) ⟨hd,fun i hi=>by simp⟩ (fun k hk e he=>?_) (fun e he=>?_)
 ·obtain⟨e1,e2⟩:=he;have hx:=hw _ (List.getElem_mem hk);unfold aQ.b1;dsimp only;rw[bw,decide_eq_true (by omega),cond_true,dV hk,aj];refine ay (jm (by omega) (by omega)) fun s hs0=>?_;refine ay (Q:=fun h=>h.2=false) ?_ fun h hh=>?_
  ·exact DZ (hp _ hs0.1)
  ·rw[hh,cond_false,aj];unfold aQ.j1;rw[cond_false];refine ay (jm (by omega) (by omega)) fun _ _=>ay (jm (by omega) (by omega)) fun _ _=>?_;rw[ek (by omega),aj];refine ah ⟨rfl,by rw[List.length_set]; exact e1,fun i hi=>?_⟩;rw[List.take_succ_eq_append_getElem hk,List.getD_eq_getElem?_getD];by_cases hq:w.1[k].toNat=i
   ·subst hq;rw[List.getElem?_set_self (by omega)];refine⟨fun _=>.inr (List.mem_append.2 (.inr (List.mem_singleton.2 (by omega)))),fun _=>rfl⟩
   ·rw[List.getElem?_set_ne hq,← List.getD_eq_getElem?_getD,e2 i hi,List.mem_append,List.mem_singleton];refine⟨fun h=>h.elim .inl fun h=>.inr (.inl h),fun h=>h.elim .inl fun h=>h.elim .inr fun h=>absurd h (by omega)⟩
 ·unfold aQ.b1;dsimp only;rw[bw,decide_eq_false (by omega),cond_false];obtain⟨e1,e2⟩:=he;rw[List.take_length] at e2;exact ah ⟨e1,e2⟩
theorem LH {f:bZ} (h1:pO f.1) (h2:pO f.2.1) (h3:f.2.2.length<=8) (hF:lq f) {t:List Bool} (hT:qY f t fun _ _ _ _=>True) {ws:List gO} (hl:ws.length<=10) (hw:∀ w∈ws,w.1.length<=10) (hW:jB f.2.2.length ws) (q:Int) :
  Has (aQ f ws q [] t) (fun r=>(r.1=0/\r.2.length=ws.length/\(∀ m,m<=ws.length -> ¬ lL f ws m)/\∀ w∈ws,(w.1.length:Int)<=q)\/(r.1=27/\∃ m,m<=ws.length/\lL f ws m)\/(r.1=32/\∃ w∈ws,q<(w.1.length:Int))):=by
 unfold aQ;have hm:pN (f.2.2.length:Int) (f.2.2.length:Int)=some ():=Ax (by omega) (by omega);rw[hm,aj];have hd0:pQ f.2.2.length ws 0 (ri (f.2.2.length:Int) false):=by
  refine⟨by rw[DI]; omega,fun i hi=>?_⟩;unfold ri;rw[List.getD_eq_getElem?_getD,List.getElem?_replicate];split <;> simp
 refine ay (sP h1 h2 h3 hF hT hd0.1) fun r hr=>?_;refine aM (fun e=>ah (.inr (.inl ⟨rfl,0,Nat.zero_le _,(pG hd0).1 (hr.1 e)⟩))) fun e=>?_;have hb0:¬ lL f ws 0:=fun h=>by rw[hr.2 ((pG hd0).2 h)] at e; cases e
 refine has_fold (body:=fun x:Int×(List Bool×List Int)=>aQ.b2 f ws q [] t x.1 x.2.1 x.2.2) ws (fun m s=>pQ f.2.2.length ws m s.1/\s.2.length=m/\(∀ x∈s.2,0<=x/\x<=1073741824+(m:Int))/\(∀ j,j<=m -> ¬ lL f ws j)/\∀ j (h:j<m) (h2:j<ws.length),(ws[j].1.length:Int)<=q) (by omega)
  ⟨hd0,rfl,fun x hx=>absurd hx List.not_mem_nil,fun j hj=>(show j=0 by omega) ▸ hb0,fun j h=>absurd h (by omega)⟩ (fun m hm s hs=>?_) (fun s hs=>?_)
 ·obtain⟨d,ms⟩:=s;obtain⟨s1,s2,s3,s4,s5⟩:=hs;dsimp only at s1 s2 s3 s4 s5;have hmem:ws[m]∈ws:=List.getElem_mem hm;have hwm:=hW.1 _ hmem;have hwl:=hw _ hmem;unfold aQ.b2;dsimp only;rw[bw,decide_eq_true (by omega),cond_true,dV hm,aj];refine ay (Q:=fun now=>0<=now/\now<=1073741824+((m+1:Nat):Int)) (aM (fun e=>?_) fun _=>ah ⟨hwm.2.1,by have:=hwm.2.2.1; omega⟩) fun now hnow=>?_
  ·have e:=l8 e;rw[mT (by omega),aj];obtain⟨p,rfl⟩:∃ p,m=p+1:=⟨m-1,by omega⟩;have hp:p<ms.length:=by omega
   rw[show (((p+1:Nat):Int)-1)=(p:Int) by omega,dV hp,aj,aj];have:=s3 _ (List.getElem_mem hp);rw[mT (by omega),aj];refine ah ?_;have:=hwm.2.1;have:=hwm.2.2.1;omega
  ·unfold aQ.j3;refine aM (fun e=>ah (.inr (.inr ⟨rfl,_,hmem,l8 e⟩))) fun e=>?_;have e:=pE e;refine ay (II f ms ws[m] now d hwl s1.1 hwm.2.2.2.1 fun x hx=>(hF.2.1 x hx).1) fun r hr=>?_;cases r with
   | inr b=>exact hr.elim
   | inl d2 =>
    dsimp only;obtain⟨r1,r2⟩:=hr;have hd2:pQ f.2.2.length ws (m+1) d2:=by
     refine⟨r1,fun i hi=>?_⟩;rw[r2 i hi,s1.2 i hi,List.take_succ_eq_append_getElem hm];constructor
     ·rintro (⟨w,x1,x2⟩ | x)
      ·exact⟨w,List.mem_append.2 (.inl x1),x2⟩
      ·exact⟨_,List.mem_append.2 (.inr (List.mem_singleton.2 rfl)),x⟩
     ·rintro⟨w,x1,x2⟩;rcases List.mem_append.1 x1 with x1 | x1
      ·exact .inl ⟨w,x1,x2⟩
      ·rw[List.mem_singleton.1 x1] at x2; exact .inr x2
    unfold aQ.j2;refine ay (sP h1 h2 h3 hF hT hd2.1) fun r hr=>?_;refine aM (fun e=>ah (.inr (.inl ⟨rfl,m+1,hm,(pG hd2).1 (hr.1 e)⟩))) fun e3=>?_;have hb:¬ lL f ws (m+1):=fun h=>by rw[hr.2 ((pG hd2).2 h)] at e3; cases e3
    refine ay (pF (by simp; omega)) fun ms2 hms=>?_;subst hms;rw[ek (by omega),aj];refine ah ⟨rfl,hd2,by rw[List.length_append,s2]; rfl,fun x hx=>?_,fun j hj=>?_,fun j hj hj2=>?_⟩
    ·rcases List.mem_append.1 hx with hx | hx
     ·have:=s3 x hx; omega
     ·rw[List.mem_singleton.1 hx]; exact hnow
    ·by_cases h:j=m+1
     ·subst h; exact hb
     ·exact s4 j (by omega)
    ·by_cases h:j=m
     ·subst h; exact e
     ·exact s5 j (by omega) hj2
 ·obtain⟨s1,s2,s3,s4,s5⟩:=hs;unfold aQ.b2;dsimp only;rw[bw,decide_eq_false (by omega),cond_false];refine ah (.inl ⟨rfl,s2,s4,fun w hw=>?_⟩);obtain⟨j,hj,rfl⟩:=List.mem_iff_getElem.1 hw;exact s5 j hj hj
theorem LJ {f:bZ} (h1:pO f.1) (h2:pO f.2.1) (h3:f.2.2.length<=8) {ws:List gO} (hl:ws.length<=10) (hw:∀ w∈ws,w.1.length<=10) (q:Int) :
  Has (jl f ws q []) (fun r=>(r.1=1 /\ ¬ (lq f/\1<=q/\jB f.2.2.length ws))\/(lq f/\1<=q/\jB f.2.2.length ws/\((r.1=0/\r.2.length=ws.length/\(∀ m,m<=ws.length -> ¬ lL f ws m)/\∀ w∈ws,(w.1.length:Int)<=q)\/(r.1=27/\∃ m,m<=ws.length/\lL f ws m)\/(r.1=32/\∃ w∈ws,q<(w.1.length:Int))))):=by
 unfold jl;refine ay (Q:=fun b=>b=false↔lq f/\1<=q/\jB f.2.2.length ws) ?_ fun b hb=>?_
 ·refine ay (AI f h1 h2 h3) fun a ha=>aM (fun e=>ah ⟨fun h=>absurd h (by decide),fun h=>by rw[ha.2 h.1] at e; cases e⟩) fun e1=>?_;have e1:a=true:=by simpa using e1
  refine aM (fun e=>ah ⟨fun h=>absurd h (by decide),fun h=>absurd (l8 e) (by omega)⟩) fun e2=>?_;have e2:=pE e2;refine ay (AJ f ws hl hw) fun c hc=>ah ⟨fun h=>⟨ha.1 e1,e2,hc.1 (by simpa using h)⟩,fun h=>by rw[hc.2 h.2.2]; rfl⟩
 ·unfold jl.j1;refine aM (fun e=>ah (.inl ⟨rfl,fun h=>by rw[hb.2 h] at e; cases e⟩)) fun e=>?_;obtain⟨g1,g2,g3⟩:=hb.1 e;refine ay (AK h1 h2) fun t ht=>ay (LH h1 h2 h3 g1 ht hl hw g3 q) fun r hr=>ah (.inr ⟨g1,g2,g3,hr⟩)
end Go.Proofs.YtcppfkflcigjcaaGreatDoor
namespace Go.Proofs.YtcppfkflcigjcaaGreatDoor
open Go.Lad
theorem alive:eZ=some true:=by kernel_rfl
end Go.Proofs.YtcppfkflcigjcaaGreatDoor
namespace Go.Proofs.YtcppfkflcigjcaaGreatDoor
open Go.Lad
theorem D0 {f g:bZ} (hs:g.2.2=f.2.2) (ht:∀ i v k w,v<2->w<2->jY g i v k w=jY f i (1-v) k (1-w)) {ws us:List gO} {m j:Nat}
  (hc:∀ i,i<f.2.2.length->((∃ w∈us.take j,(i:Int)∈w.1) ↔ ¬ ∃ w∈ws.take m,(i:Int)∈w.1)) (h:lL f ws m):lL g us j:=by
 obtain⟨d,hd,i,k,hi,hk,hb⟩:=h;have hver:∀ i,i<f.2.2.length->ver (d.map fun b=>!b) i=1-ver d i:=fun i hi=>by
  unfold ver;rw[List.getD_eq_getElem?_getD,List.getD_eq_getElem?_getD,List.getElem?_map,List.getElem?_eq_getElem (by rw[hd.1]; exact hi)];have hi2:i<d.length:=by rw[hd.1]; exact hi
  show (if (!d[i]'hi2)=true then 1 else 0)=1-(if d[i]'hi2=true then 1 else 0);cases d[i]'hi2 <;> rfl
 refine⟨d.map fun b=>!b,⟨by rw[List.length_map,hs]; exact hd.1,fun i hi=>?_⟩,i,k,by rw[hs]; exact hi,by rw[hs]; exact hk,?_⟩
 ·rw[hs] at hi;rw[hc i hi,← hd.2 i hi,List.getD_eq_getElem?_getD,List.getD_eq_getElem?_getD,List.getElem?_map,List.getElem?_eq_getElem (by rw[hd.1]; exact hi)];have hi2:i<d.length:=by rw[hd.1]; exact hi
  show (!d[i]'hi2)=true ↔ ¬ d[i]'hi2=true;cases d[i]'hi2 <;> simp
 ·have h1:=vH d i;have h2:=vH d k;have e:∀ x,stp g x=stp f x:=fun x=>by unfold stp; rw[hs]
  rw[hver i hi,hver k hk,e,e,ht _ _ _ _ (by omega) (by omega),show 1-(1-ver d i)=ver d i by omega,show 1-(1-ver d k)=ver d k by omega];exact hb
theorem IJ (f:bZ) (i v k w:Nat) (hv:v<2) (hw:w<2):jY (f.2.1,f.1,f.2.2) i v k w=jY f i (1-v) k (1-w):=by
 match v,w,hv,hw with
 | 0,0,_,_=>rfl
 | 0,1,_,_=>rfl
 | 1,0,_,_=>rfl
 | 1,1,_,_=>rfl
theorem FO (f:bZ) (i v k w:Nat) (hv:v<2) (hw:w<2):jY f i v k w=jY (f.2.1,f.1,f.2.2) i (1-v) k (1-w):=by
 match v,w,hv,hw with
 | 0,0,_,_=>rfl
 | 0,1,_,_=>rfl
 | 1,0,_,_=>rfl
 | 1,1,_,_=>rfl
def mU (ws:List gO):List gO:=ws.reverse.map fun w=>(w.1,0)
theorem n6 (ws:List gO):(mU ws).length=ws.length:=by unfold mU; simp
theorem AL (ws:List gO) {j:Nat} (hj:j<=ws.length) (x:Int):(∃ w∈(mU ws).take j,x∈w.1)↔∃ w∈ws.drop (ws.length-j),x∈w.1:=by
 unfold mU;rw[← List.map_take,List.take_reverse];constructor
 ·rintro⟨w,h1,h2⟩;obtain⟨u,hu,rfl⟩:=List.mem_map.1 h1;exact⟨u,List.mem_reverse.1 hu,h2⟩
 ·rintro⟨w,h1,h2⟩;exact⟨_,List.mem_map.2 ⟨w,List.mem_reverse.2 h1,rfl⟩,h2⟩
theorem Ob {n:Nat} {ws:List gO} (h:jB n ws):jB n (mU ws):=by
 refine⟨fun w hw=>?_,?_⟩
 ·obtain⟨u,hu,rfl⟩:=List.mem_map.1 hw;obtain⟨a1,a2,a3,a4,a5⟩:=h.1 u (List.mem_reverse.1 hu);exact⟨a1,by show (0:Int)<=0; omega,by show (0:Int)<=1073741824; omega,a4,a5⟩
 ·have:(mU ws).flatMap (·.1)=ws.reverse.flatMap (·.1):=by unfold mU; rw[List.flatMap_map]
  rw[this];exact ((List.reverse_perm ws).flatMap_right _).nodup_iff.2 h.2
theorem Qh {n:Nat} {ws:List gO} (h:jB n ws) (hn:(ws.flatMap (·.1)).length=n) {i:Nat} (hi:i<n):(i:Int)∈ws.flatMap (·.1):=by
 refine Classical.byContradiction fun hx=>?_;have h1:((i:Int)::ws.flatMap (·.1)).Nodup:=List.nodup_cons.2 ⟨hx,h.2⟩;have h2:=DJ h1 (m:=(List.range n).map fun k:Nat=>(k:Int)) fun x hx=>by
  rcases List.mem_cons.1 hx with rfl | hx
  ·exact List.mem_map.2 ⟨i,List.mem_range.2 hi,rfl⟩
  ·obtain⟨w,hw,hxw⟩:=List.mem_flatMap.1 hx;have:=(h.1 w hw).2.2.2.1 x hxw;exact List.mem_map.2 ⟨x.toNat,List.mem_range.2 (by omega),by omega⟩
 rw[List.length_cons,List.length_map,List.length_range] at h2;omega
theorem Pf {n:Nat} {ws:List gO} (h:jB n ws) (hn:(ws.flatMap (·.1)).length=n) {m:Nat} (hm:m<=ws.length) {i:Nat} (hi:i<n) :
  (∃ w∈ws.take m,(i:Int)∈w.1) ↔ ¬ ∃ w∈ws.drop m,(i:Int)∈w.1:=by
 have e:ws.flatMap (·.1)=(ws.take m).flatMap (·.1)++(ws.drop m).flatMap (·.1):=by rw[← List.flatMap_append,List.take_append_drop]
 have hin:=Qh h hn hi;have hnd:=h.2;rw[e] at hin hnd;rw[List.nodup_append] at hnd;constructor
 ·rintro⟨w,h1,h2⟩ ⟨u,h3,h4⟩;exact hnd.2.2 _ (List.mem_flatMap.2 ⟨w,h1,h2⟩) _ (List.mem_flatMap.2 ⟨u,h3,h4⟩) rfl
 ·intro hx;rcases List.mem_append.1 hin with h5 | h5
  ·exact List.mem_flatMap.1 h5
  ·exact absurd (List.mem_flatMap.1 h5) hx
theorem LO (ws:List gO) (hl:ws.length<=10) (hw:∀ w∈ws,w.1.length<=10):Has (aw (fun x=>aK.b1 ws x.1 x.2.1 x.2.2) (0,0,[])) (fun x=>x.1=((ws.flatMap (·.1)).length:Int)/\x.2=mU ws):=by
 refine n0 (fun x:Int×Int×List gO=>∃ i:Nat,i<=ws.length/\x.2.1=(i:Int)/\x.1=(((ws.take i).flatMap (·.1)).length:Int)/\((ws.take i).flatMap (·.1)).length<=i * 10/\x.2.2=(mU ws).take i) (fun x=>ws.length-x.2.1.toNat)
  ⟨0,Nat.zero_le _,rfl,rfl,Nat.le_refl _,rfl⟩ (by show ws.length-_<=_; omega) ?_
 rintro⟨a,b,c⟩ ⟨i,hi,x1,x2,x4,x3⟩ _;dsimp only at x1 x2 x3;subst x1 x2 x3;unfold aK.b1;dsimp only;rcases Nat.lt_or_ge i ws.length with h | h
 ·have hwl:=hw _ (List.getElem_mem h);have hz:(((ws.take i).flatMap (·.1)).length:Int)+(ws[i].1.length:Int)=(((ws.take (i+1)).flatMap (·.1)).length:Int):=by rw[uL h,List.length_append]; omega
  rw[bw,decide_eq_true (by omega),cond_true,dV h,aj,hz,mT (by rw[uL h,List.length_append]; omega),aj,mT (by omega),aj,mT (by omega),aj];rw[show ((ws.length:Int)-1-(i:Int))=((ws.length-1-i:Nat):Int) by omega,dV (show ws.length-1-i<ws.length by omega),aj];refine ay (pF (by rw[List.length_take,n6]; simp; omega)) fun l hl2=>?_;subst hl2;rw[ek (by omega),aj];refine ah ⟨⟨i+1,h,rfl,rfl,by rw[uL h,List.length_append]; omega,?_⟩,by show ws.length-((i+1:Nat):Int).toNat<ws.length-((i:Int)).toNat; omega⟩;rw[List.take_succ_eq_append_getElem (show i<(mU ws).length by rw[n6]; exact h)];have:(mU ws)[i]'(by rw[n6]; exact h)=(ws[ws.length-1-i].1,0):=by
   unfold mU;rw[List.getElem_map,List.getElem_reverse]
  rw[this]
 ·have:i=ws.length:=by omega
  subst this;rw[bw,decide_eq_false (by omega),cond_false];refine ah ⟨by rw[List.take_length],?_⟩;dsimp only;rw[← n6,List.take_length]
theorem yU (f:bZ) (ws:List gO) (q:Int):aK f ws q=some true:=by
 have key:Has (aK f ws q) (fun b=>b=true):=by
  unfold aK;rw[alive,aj];refine ay (Q:=fun b=>b=false->(pO f.1/\pO f.2.1/\f.2.2.length<=8)/\ws.length<=10/\∀ w∈ws,w.1.length<=10) ?_ fun b hb=>?_
  ·refine ay (N7 f) fun a ha=>aM (fun _=>ah fun h=>absurd h (by decide)) fun e1=>ay (BX ws) fun c hc=>ah fun e2=>⟨ha (by simpa using e1),hc (by simpa using e2)⟩
  ·unfold aK.j3;refine aM (fun _=>ah rfl) fun e=>?_;obtain⟨⟨h1,h2,h3⟩,hl,hw⟩:=hb e;refine ay (LO ws hl hw) fun x hx=>?_;obtain⟨many,us⟩:=x;obtain⟨x1,x2⟩:=hx;dsimp only at x1 x2;subst x1 x2;unfold aK.j2;dsimp only;refine ay (Oa h1 h2 h3 hl hw q) fun r hr=>?_;refine ay (Q:=fun b=>b=false->r.2≠1/\r.2≠32/\(ws.flatMap (·.1)).length=f.2.2.length) (aM (fun _=>ah fun h=>absurd h (by decide)) fun e1=>aM (fun _=>ah fun h=>absurd h (by decide)) fun e2=>ah fun e3=>⟨G4 e1,G4 e2,?_⟩) fun b hb=>?_
   ·have:(((ws.flatMap (·.1)).length:Nat):Int)=(f.2.2.length:Int):=by simpa [km] using e3
    omega
   ·unfold aK.j1;refine aM (fun _=>ah rfl) fun e=>?_;obtain⟨c1,c2,c3⟩:=hb e;rcases hr with⟨hr,_⟩ | ⟨g1,g2,g3,hr⟩
    ·exact absurd hr c1
    ·have hbw:∀ w∈mU ws,w.1.length<=10:=fun w hw2=>by
      obtain⟨u,hu,rfl⟩:=List.mem_map.1 hw2;exact hw u (List.mem_reverse.1 hu)
     refine ay (LJ (f:=(f.2.1,f.1,f.2.2)) h2 h1 h3 (by rw[n6]; exact hl) hbw q) fun v hv=>?_;have hok:lq (f.2.1,f.1,f.2.2)/\1<=q/\jB f.2.2.length (mU ws):=⟨FL g1,g2,Ob g3⟩;have fwd:∀ m,m<=ws.length->lL f ws m->lL (f.2.1,f.1,f.2.2) (mU ws) (ws.length-m):=fun m hm h =>
      D0 (f:=f) (g:=(f.2.1,f.1,f.2.2)) (ws:=ws) (us:=mU ws) rfl (fun i v k w hv hw=>IJ f i v k w hv hw) (fun i hi=>by
       rw[AL ws (by omega),show ws.length-(ws.length-m)=m by omega,Pf g3 c3 hm hi,Classical.not_not]) h
     have bwd:∀ m,m<=ws.length->lL (f.2.1,f.1,f.2.2) (mU ws) m->lL f ws (ws.length-m):=fun m hm h =>
      D0 (f:=(f.2.1,f.1,f.2.2)) (g:=f) (ws:=mU ws) (us:=ws) rfl (fun i v k w hv hw=>FO f i v k w hv hw) (fun i hi=>by
       rw[AL ws hm,Pf g3 c3 (by omega) hi]) h
     rcases hv with⟨_,hv⟩ | ⟨_,_,_,hv⟩
     ·exact absurd hok hv
     ·rcases hr with⟨r1,r2,r3,r4⟩ | ⟨r1,m,r2,r3⟩ | ⟨r1,_⟩
      ·rcases hv with⟨v1,v2,v3,v4⟩ | ⟨v1,m,v2,v3⟩ | ⟨v1,w,v2,v3⟩
       ·rw[r1,v1,r2,v2,n6];exact ah (by rw[km]; exact decide_eq_true rfl)
       ·rw[n6] at v2;exact absurd (bwd m v2 v3) (r3 _ (by omega))
       ·obtain⟨u,hu,rfl⟩:=List.mem_map.1 v2;exact absurd (r4 u (List.mem_reverse.1 hu)) (by dsimp only at v3; omega)
      ·rcases hv with⟨v1,v2,v3,v4⟩ | ⟨v1,_⟩ | ⟨v1,_⟩
       ·exact absurd (fwd m r2 r3) (v3 _ (by rw[n6]; omega))
       ·rw[r1,v1]; exact ah rfl
       ·rw[r1,v1]; exact ah rfl
      ·exact absurd r1 c2
 obtain⟨b,hb,rfl⟩:=key;exact hb
end Go.Proofs.YtcppfkflcigjcaaGreatDoor
