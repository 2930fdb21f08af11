import Derived.Test.YtkpefpjpadahiaaGreatDoorAb17
namespace Go.Lad
set_option linter.unusedVariables false
set_option linter.unusedSimpArgs false
theorem aA {α β:Type} (a:α) (f:α->Option β):Option.bind (some a) f=f a:=Eq.trans rfl rfl
theorem jg {α:Type} {l:List α} {k:Nat} (h:k<l.length):idx l (k:Int)=some l[k]:=by
 unfold idx;rw[if_pos (by omega),Int.toNat_natCast,List.getElem?_eq_getElem h]
theorem i64_in {n:Int} (h1 : -9223372036854775808<=n) (h2:n<=9223372036854775807):i64? n=some n:=if_pos ⟨h1,h2⟩
theorem I8 {n:Nat} (h:n+1<=9223372036854775807):i64? ((n:Int)+1)=some ((n+1:Nat):Int):=by
 rw[i64_in (by omega) (by omega)]; rfl
theorem LA {a b:Nat} (h:a+b<=9223372036854775807):i64? ((a:Int)+(b:Int))=some ((a+b:Nat):Int):=by
 rw[i64_in (by omega) (by omega)]; rfl
theorem tg {α:Type} {l m:List α} (h:l.length+m.length<=2147483647):app? l m=some (l++m):=if_pos h
theorem I9 {α:Type} {l:List α} {i j:Int} (h1:0<=i) (h2:i<=j) (h3:j<=l.length):cut l i j=some ((l.take j.toNat).drop i.toNat):=if_pos ⟨h1,h2,h3⟩
theorem Gw {α:Type} (l:List α) (k:Nat) (h:k<l.length):l.take (k+1)=l.take k++[l[k]]:=List.take_succ_eq_append_getElem h
theorem Ja {α β:Type} [DecidableEq α] (m:List (α×β)) (x:α) (y:β):(gv m x y).map (·.1)=if x∈m.map (·.1) then m.map (·.1) else m.map (·.1)++[x]:=by
 unfold gv;cases h:pos (m.map (·.1)) x with
 | none =>
  rw[if_neg (jI.1 h)];simp
 | some i =>
  have hx:=(ig h).1;have hm:x∈m.map (·.1):=List.mem_of_getElem? hx;rw[if_pos hm];simp only[List.map_set];apply List.ext_getElem?;intro j;rw[List.getElem?_set];split
  ·rename_i hij;subst hij;rw[hx];simp [mw h];have:=mw h
   simpa using this
  ·rfl
theorem BH {α β:Type} [DecidableEq α] (m:List (α×β)) (x x':α) (y:β):cM (gv m x y) x'=if x'=x then some y else cM m x':=by
 have hk:=Ja m x y;unfold cM;rw[hk];cases h:pos (m.map (·.1)) x with
 | none =>
  have hn:=jI.1 h;rw[if_neg hn,kZ];have hp:gv m x y=m++[(x,y)]:=by unfold gv; rw[h]
  rw[hp];by_cases hx:x'=x
  ·subst hx;rw[h];simp [pos]
  ·rw[if_neg hx];cases h':pos (m.map (·.1)) x' with
   | none =>
    have:pos [x] x'=none:=jI.2 (by simp [hx]);simp [this]
   | some i =>
    have hl:=mw h';rw[List.length_map] at hl;simp [List.getElem?_append_left hl]
 | some i =>
  have hx:=(ig h).1;have hm:x∈m.map (·.1):=List.mem_of_getElem? hx;rw[if_pos hm];have hp:gv m x y=m.set i (x,y):=by unfold gv; rw[h]
  rw[hp];have hl:=mw h;rw[List.length_map] at hl;by_cases hxx:x'=x
  ·subst hxx;rw[h];simp [hl]
  ·rw[if_neg hxx];cases h':pos (m.map (·.1)) x' with
   | none=>rfl
   | some j =>
    have hj:=(ig h').1;have hij:i≠j:=fun e=>by
     subst e;rw[hx] at hj;exact hxx (by simpa using hj.symm)
    simp [List.getElem?_set,hij]
end Go.Lad
