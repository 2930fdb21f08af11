import Derived.Test.YtcppfkflcigjcaaGreatDoorRows
import Derived.LaidByTextLater
import Derived.SevenTiedAt
namespace Go.Proofs.YtcppfkflcigjcaaGreatDoor
open Go
abbrev tH:List (String×DataW Unit):=[("unicode/utf8.acceptRanges", Rows.laid_unicode_utf8_acceptRanges),("lading/lex.signs", Rows.laid_lading_lex_signs),("strings.asciiSpace", Rows.laid_strings_asciiSpace),("unicode.White_Space", Rows.laid_unicode_White_Space),("internal/strconv.uint64pow10", Rows.laid_internal_strconv_uint64pow10),("math/bits.deBruijn32tab", Rows.laid_math_bits_deBruijn32tab),("math/bits.deBruijn64tab", Rows.laid_math_bits_deBruijn64tab),("strconv.ErrSyntax", Rows.laid_strconv_ErrSyntax),("strconv.ErrRange", Rows.laid_strconv_ErrRange)]
abbrev OL:List LaidKind:=[.data,.data,.data,.listed,.data,.data,.data,.sentinel,.sentinel]
theorem hw:Tryz.prog.worded (varsWordLater true)=true:=by kernel_rfl
theorem hw2:Tryz.prog.worded (varsWordLater !true)=false:=by kernel_rfl
theorem Qp:Tryz.prog.worded rootWordLater=true:=by kernel_rfl
theorem hk:tH.map (fun x=>Tryz.prog.kindOfLater x.1)=OL.map some:=by kernel_rfl
theorem hg:(Tryz.prog.funcNamed "gosem.cut.vars").isSome=true:=by kernel_rfl
theorem hn:varsNamedLaterB Tryz.prog (varsId Tryz.prog) tH=true:=by kernel_rfl
theorem hd:∀ os tape,varsDone Tryz.prog 400 (varsId Tryz.prog) os tape=true:=fun _ _=>by kernel_rfl
end Go.Proofs.YtcppfkflcigjcaaGreatDoor
