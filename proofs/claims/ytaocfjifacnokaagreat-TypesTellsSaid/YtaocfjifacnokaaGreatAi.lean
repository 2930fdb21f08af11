import Derived.Test.YtaocfjifacnokaaGreatOpr
import Derived.Test.YtaocfjifacnokaaGreatTRun
import Derived.Test.YtaocfjifacnokaaGreatPZ2
namespace Go.Proofs.YtaocfjifacnokaaGreat
open Go.Lad Go.RowKit
set_option linter.unusedVariables false
theorem Lu {w:World} {x:df} {cs:List Value} (h:aL.rd (α:=TD iJ) (Old w) w cs x):ya x:=by
 have h:RdL (Old w) w (enc iJ x) cs:=h
 have h4:(enc iJ x)[4]? = some (.sl (List.map (enc nO) x.2.2.2.2.1)):=rfl
 obtain⟨v,hv⟩:∃ v,cs[4]? = some v:=by
  have hl:4 < cs.length:=by
   rw[← h.1]
   exact (List.getElem?_eq_some_iff.1 h4).1
  exact⟨_,List.getElem?_eq_getElem hl⟩
 have h:=h.2 4 _ _ h4 hv
 intro a ha
 obtain⟨i,hi⟩:=List.getElem?_of_mem ha
 generalize hp:PV.sl (List.map (enc nO) x.2.2.2.2.1) = p at h
 cases h with
 | sl0 =>
  injection hp with hp
  have:x.2.2.2.2.1 = []:=(List.map_eq_nil_iff (f:=enc nO) (l:=x.2.2.2.2.1)).1 hp
  rw[this] at hi; simp at hi
 | sl us h0 hF hb hc hm hz hcell hrd =>
  injection hp with hp
  subst hp
  have h1:=hrd i 5 (enc nO a) (.int .i64 a.2.2.2.2.1) ((List.getElem?_map (f:=enc nO) (l:=x.2.2.2.2.1) (i:=i)).trans (congrArg (Option.map (enc nO)) hi)) rfl
  generalize hq:us i 5 = v2 at h1
  cases h1 with
  | int h2=>exact h2
 | _=>cases hp
end Go.Proofs.YtaocfjifacnokaaGreat
