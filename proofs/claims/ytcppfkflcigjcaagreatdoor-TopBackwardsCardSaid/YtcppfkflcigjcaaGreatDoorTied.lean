import Derived.Test.YtcppfkflcigjcaaGreatDoorTda
import Derived.SevenTiedAt
namespace Go.Proofs.YtcppfkflcigjcaaGreatDoor
open Go
theorem h1:∀ os tape,(DataW.laidRun Tryz.prog (varsWorld Tryz.prog 400 (varsId Tryz.prog) os tape).memory 8 (tH.map (·.1))).map (·.1)=some tH:=fun _ _=>by kernel_rfl
def eqM:MemPlace->MemPlace->Bool
 | .cell b o,.cell c p=>Nat.beq b c && Nat.beq o p
 | .map b,.map c=>Nat.beq b c
 | _,_=>false
def I8:List MemPlace->Bool
 | []=>true
 | x::r=>r.all (fun y=>!eqM x y) && I8 r
theorem I9:∀ x,eqM x x=true
 | .cell b o=>by show (Nat.beq b b && Nat.beq o o)=true; rw[Nat.beq_refl,Nat.beq_refl]; rfl
 | .map b=>Nat.beq_refl b
theorem FU:∀ {l:List MemPlace},I8 l=true->l.Nodup
 | [],_=>List.nodup_nil
 | x::r,h=>by
  unfold I8 at h;rw[Bool.and_eq_true] at h;refine List.nodup_cons.2 ⟨fun hx=>?_,FU h.2⟩;have:=List.all_eq_true.1 h.1 x hx;rw[I9] at this;cases this
theorem h2a:∀ os tape,(DataW.laidRun Tryz.prog (varsWorld Tryz.prog 400 (varsId Tryz.prog) os tape).memory 8 (tH.map (·.1))).map (fun x=>I8 x.2)=some true:=fun _ _=>by kernel_rfl
theorem h2b:∀ os tape,(DataW.laidRun Tryz.prog (varsWorld Tryz.prog 400 (varsId Tryz.prog) os tape).memory 8 (tH.map (·.1))).map (fun x=>laidRowsB Tryz.prog (varsWorld Tryz.prog 400 (varsId Tryz.prog) os tape).memory x.2)=some true:=fun _ _=>by kernel_rfl
theorem h2 (os:Os) (tape:Tape):(DataW.laidRun Tryz.prog (varsWorld Tryz.prog 400 (varsId Tryz.prog) os tape).memory 8 (tH.map (·.1))).map (fun x=>decide x.2.Nodup && laidRowsB Tryz.prog (varsWorld Tryz.prog 400 (varsId Tryz.prog) os tape).memory x.2)=some true:=by
 have a:=h2a os tape;have b:=h2b os tape;generalize DataW.laidRun Tryz.prog (varsWorld Tryz.prog 400 (varsId Tryz.prog) os tape).memory 8 (tH.map (·.1))=r at a b;cases r with
 | none=>cases a
 | some x =>
  have a:I8 x.2=true:=Option.some.inj a;have b:laidRowsB Tryz.prog (varsWorld Tryz.prog 400 (varsId Tryz.prog) os tape).memory x.2=true:=Option.some.inj b;show some (decide x.2.Nodup && laidRowsB Tryz.prog (varsWorld Tryz.prog 400 (varsId Tryz.prog) os tape).memory x.2)=some true;rw[b,Bool.and_true,decide_eq_true (FU a)]
theorem ou:Tryz.pinned.checked.prog.pinnedFits "unicode/utf8.first" = true:=by kernel_rfl
theorem B7:Tryz.pinned.checked.prog.headLifts.contains "ownunsafe" = false:=by kernel_rfl
theorem Qq:Tryz.pinned.checked.prog.listedFits [("unicode/utf8.first", Rows.laid_unicode_utf8_first),("unicode/utf8.acceptRanges", Rows.laid_unicode_utf8_acceptRanges),("lading/lex.signs", Rows.laid_lading_lex_signs),("strings.asciiSpace", Rows.laid_strings_asciiSpace),("unicode.White_Space", Rows.laid_unicode_White_Space),("internal/strconv.uint64pow10", Rows.laid_internal_strconv_uint64pow10),("math/bits.deBruijn32tab", Rows.laid_math_bits_deBruijn32tab),("math/bits.deBruijn64tab", Rows.laid_math_bits_deBruijn64tab),("strconv.ErrSyntax", Rows.laid_strconv_ErrSyntax),("strconv.ErrRange", Rows.laid_strconv_ErrRange)]=true:=by
 unfold Program.listedFits;rw[B7];kernel_rfl
theorem tie:Tryz.prog.laidByTextLater tH OL true :=
 Program.laidByTextLater_by_run 400 8 hw hw2 Qp hk hg hn hd h1 h2
theorem rk:Rows.topBackwardsRow.laidByTextAt .later Tryz.pinned [.pinned,.data,.data,.data,.listed,.data,.data,.data,.sentinel,.sentinel] true :=
 OpenClaim.laidByTextAt_pinned rfl rfl tie rfl rfl rfl rfl (fun y hy _e=>by
  simp only[Rows.topBackwardsRow,List.zip_cons_cons,List.zip_nil_right,List.mem_cons,List.mem_nil_iff,or_false] at hy;rcases hy with rfl | rfl | rfl | rfl | rfl | rfl | rfl | rfl | rfl | rfl
  ·exact⟨ou,by kernel_rfl⟩
  ·cases _e
  ·cases _e
  ·cases _e
  ·cases _e
  ·cases _e
  ·cases _e
  ·cases _e
  ·cases _e
  ·cases _e) Qq
end Go.Proofs.YtcppfkflcigjcaaGreatDoor
