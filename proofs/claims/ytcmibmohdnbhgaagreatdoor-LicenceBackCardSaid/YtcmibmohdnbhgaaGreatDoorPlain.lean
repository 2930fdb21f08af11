import Derived.Test.YtcmibmohdnbhgaaGreatDoorAb17
namespace Go.Lad
set_option linter.unusedVariables false
set_option linter.unusedSimpArgs false
theorem bind_in {α β:Type} (a:α) (f:α → Option β):Option.bind (some a) f = f a:=Eq.trans rfl rfl
theorem idx_nat {α:Type} {l:List α} {k:Nat} (h:k < l.length):idx l (k:Int) = some l[k]:=by
 unfold idx
 rw[if_pos (by omega),Int.toNat_natCast,List.getElem?_eq_getElem h]
theorem i64_in {n:Int} (h1 : -9223372036854775808 ≤ n) (h2:n ≤ 9223372036854775807):i64? n = some n:=if_pos ⟨h1,h2⟩
theorem i64_succ {n:Nat} (h:n + 1 ≤ 9223372036854775807):i64? ((n:Int) + 1) = some ((n + 1:Nat):Int):=by
 rw[i64_in (by omega) (by omega)]; rfl
theorem i64_add {a b:Nat} (h:a + b ≤ 9223372036854775807):i64? ((a:Int) + (b:Int)) = some ((a + b:Nat):Int):=by
 rw[i64_in (by omega) (by omega)]; rfl
theorem need_in {p:Prop} [Decidable p] (h:p):need p = some ():=if_pos h
theorem app_in {α:Type} {l m:List α} (h:l.length + m.length ≤ 2147483647):app? l m = some (l ++ m):=if_pos h
theorem cut_in {α:Type} {l:List α} {i j:Int} (h1:0 ≤ i) (h2:i ≤ j) (h3:j ≤ l.length):cut l i j = some ((l.take j.toNat).drop i.toNat):=if_pos ⟨h1,h2,h3⟩
theorem take_snoc {α:Type} (l:List α) (k:Nat) (h:k < l.length):l.take (k + 1) = l.take k ++ [l[k]]:=List.take_succ_eq_append_getElem h
end Go.Lad
