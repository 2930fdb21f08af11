import Derived.Test.YtcppfkflcigjcaaGreatDoorRows
import Derived.Test.YtcppfkflcigjcaaGreatDoorFF
import Derived.JoinedCond
namespace Go.Proofs.YtcppfkflcigjcaaGreatDoor.topBackwards
set_option linter.unusedVariables false
abbrev fB:FuncId:=3
theorem iH {a b:Bool} (h:a=true) (g:b=true):(a && b)=true:=by rw[h,g]; rfl
theorem OH:Tryz.prog.closure fB=[3,4,8,9,10,12,28,70,127,199,128,69,124,196,240,278,320,321,373,279,322,230,270,312,361,313,314,315,362,125,67,198,65,241,206,242,60,122,195,58,243,97,159,160,280,323,324,374,325,220,221,326,375,376,407,327,328,329,330,244,197,102,164,126,71,74,72,73,129,200,100,163,201,140,210,211,261,307,354,389,333,377,419,355,390,260,305,350,306,351,385,411,412,413,414,415,433,434,435,436,437,417,352,386,416,418,438,439,353,388,387,212,263,309,308,356,310,357,392,391,393,395,420,394,397,421,440,360,399,271,423,396,358,398,422,359,262,213,264,130,110,171,226,227,228,229,172,202,245,281,282,131,132,203,246,247,204,248,249,250,251,205,22,55,119,56,120,187,188,237,189,190,238,239,277,191,192,193,194,57,59,121,61,29,75,30,51,114,31,76,77,134,135,133,79,78,136,63,80,81,32,82,137,103,165,138,207,139,208,252,283,284,331,332,254,255,286,296,288,300,299,341,287,334,289,290,291,335,336,293,292,294,337,378,408,340,339,380,381,409,431,432,428,429,441,430,379,338,295,297,298,253,285,209,256,301,174,231,302,257,303,258,304,342,343,382,344,345,383,384,410,346,347,348,349,259,141,214,265,266,311,267,142,83,143,215,84,33,85,86,145,144,24,23,62,34,88,89,48,109,87,146,123,35,90,91,92,147,170,168,148,216,217,218,93,94,149,150,25,64,66,26,11,27,68,13,36,95,37,38,14,39,96,151,152,219,153,154,222,223,268,155,156,157,158,40,15,41,16,42,98,161,162,224,269,225,99,101,43,104,44,105,166,167,106,107,169,5,17,45,108,6,7,18,46,47,49,50,112,111,173,113,19,20,52,117,116,181,182,235,275,319,369,370,403,404,371,372,405,406,426,427,183,236,276,184,185,115,175,176,232,272,273,316,363,400,424,425,317,364,401,365,366,402,367,177,233,179,178,180,234,274,318,368,21,53,118,186,54]:=by kernel_rfl
theorem j1:(Rows.topBackwardsRow.wf (OpenSpec.ofChange (OpenSpec.ofChange Rows.topBackwardsSpec).bare))=true:=by kernel_rfl
theorem j2:(laidOutB Tryz.prog)=true:=by kernel_rfl
theorem j3:(mapsRowed Tryz.prog)=true:=by kernel_rfl
theorem j4:(Tryz.f3.params.all (Tryz.prog.readableRec ·))=true:=by kernel_rfl
theorem j5:(namedTie Tryz.prog Rows.topBackwardsRow.named (OpenSpec.ofChange Rows.topBackwardsSpec).bare.vars)=true:=by kernel_rfl
theorem j6:((Rows.topBackwardsRow.stops == []))=true:=by kernel_rfl
theorem j7:((Tryz.prog.stops == []))=true:=by kernel_rfl
theorem j8:((Rows.topBackwardsRow.knobs == []))=true:=by kernel_rfl
theorem j9:((Tryz.prog.stopKnobs == []))=true:=by kernel_rfl
theorem j10:((Rows.topBackwardsRow.inPlace == Tryz.prog.inPlace fB))=true:=by
 unfold Program.inPlace;rw[OH];kernel_rfl
theorem j11:((Rows.topBackwardsRow.unfollowed == Tryz.prog.unfollowed fB))=true:=by
 unfold Program.unfollowed;rw[OH];kernel_rfl
theorem j12:((Rows.topBackwardsRow.recurses == Tryz.prog.recurses fB))=true:=by
 have h:Tryz.prog.unfollowed fB=true:=by
  have:=j11;rw[show Rows.topBackwardsRow.unfollowed=true from rfl] at this
  simpa using this
 unfold Program.recurses;rw[h,Bool.true_or];rfl
theorem j13:((Rows.topBackwardsRow.named == Tryz.prog.varsNamed fB))=true:=by
 unfold Program.varsNamed;rw[OH];kernel_rfl
theorem j14:((Rows.topBackwardsRow.maps == (Tryz.f3.params.toList++(OpenSpec.ofChange Rows.topBackwardsSpec).bare.plain.varTypes Tryz.prog).any (Tryz.prog.mapsRec ·)))=true:=by kernel_rfl
theorem j15:((Rows.topBackwardsRow.ifaces == (Tryz.f3.params.toList++(OpenSpec.ofChange Rows.topBackwardsSpec).bare.plain.varTypes Tryz.prog).any (Tryz.prog.ifacesRec ·)))=true:=by kernel_rfl
theorem j16:((Rows.topBackwardsRow.mapsOut == Tryz.prog.mapsAmong Tryz.f3.resultTypes.toList))=true:=by kernel_rfl
theorem j17:((Rows.topBackwardsRow.loops == (Tryz.f3.params.toList++(OpenSpec.ofChange Rows.topBackwardsSpec).bare.plain.varTypes Tryz.prog).any (Tryz.prog.loopsFrom ·)))=true:=by kernel_rfl
theorem j18:((Rows.topBackwardsRow.wideKeys == (Tryz.f3.params.toList++(OpenSpec.ofChange Rows.topBackwardsSpec).bare.plain.varTypes Tryz.prog++Tryz.f3.resultTypes.toList).any (Tryz.prog.wideKeysFrom ·)))=true:=by kernel_rfl
theorem j19:((OpenSpec.ofChange Rows.topBackwardsSpec).bare.vars.all (Tryz.prog.varReadable ·))=true:=by kernel_rfl
theorem j20:(Tryz.f3.resultTypes.all (fun t=>Tryz.prog.readableRec t && decide (t<Tryz.prog.types.size)))=true:=by kernel_rfl
theorem j21:((Rows.topBackwardsRow.ifacesOut == Tryz.f3.resultTypes.toList.any (Tryz.prog.ifacesRec ·)))=true:=by kernel_rfl
theorem j22:((Rows.topBackwardsRow.loopsOut == Tryz.f3.resultTypes.toList.any (Tryz.prog.loopsFrom ·)))=true:=by kernel_rfl
theorem j23:((Rows.topBackwardsRow.plainKeys == Tryz.prog.plainKeys))=true:=by kernel_rfl
theorem j24:(Rows.topBackwardsRow.shortTexts.isNone)=true:=by kernel_rfl
theorem j25:(Tryz.prog.stopsHeard)=true:=by kernel_rfl
theorem j26:(Tryz.prog.mayEnter)=true:=by kernel_rfl
theorem j27:((Rows.topBackwardsRow.lifted == Tryz.prog.liftsFinal))=true:=by kernel_rfl
theorem j28:((Tryz.prog.make == some Rows.topBackwardsRow.make))=true:=by kernel_rfl
theorem j29:((Rows.topBackwardsRow.kinds == (if Rows.topBackwardsRow.domain.isEmpty then [] else Tryz.f3.params.toList.map fun t=>match Tryz.prog.underlying t with | some (.int k)=>some k | _=>none)))=true:=by kernel_rfl
theorem j30:((Rows.topBackwardsRow.pinned == Rows.topBackwardsRow.pinnedBy))=true:=by kernel_rfl
theorem j31:((Rows.topBackwardsRow.veiled == (Tryz.f3.params.toList++(OpenSpec.ofChange Rows.topBackwardsSpec).bare.plain.varTypes Tryz.prog++Tryz.f3.resultTypes.toList).any (Tryz.prog.veiledRec ·)))=true:=by kernel_rfl
theorem j32:(Rows.topBackwardsRow.veiledFits Tryz.prog Tryz.f3.params.toList (Tryz.f3.params.toList++(OpenSpec.ofChange Rows.topBackwardsSpec).bare.plain.varTypes Tryz.prog++Tryz.f3.resultTypes.toList))=true:=by kernel_rfl
set_option maxRecDepth 100000 in
theorem closed:joinedFacts Tryz.prog fB Tryz.f3 (OpenSpec.ofChange Rows.topBackwardsSpec).bare Rows.topBackwardsRow=true:=by
 unfold joinedFacts;exact (iH (iH (iH (iH (iH (iH (iH (iH (iH (iH (iH (iH (iH (iH (iH (iH (iH (iH (iH (iH (iH (iH (iH (iH (iH (iH (iH (iH (iH (iH (iH j1 j2) j3) j4) j5) j6) j7) j8) j9) j10) j11) j12) j13) j14) j15) j16) j17) j18) j19) j20) j21) j22) j23) j24) j25) j26) j27) j28) j29) j30) j31) j32)
end Go.Proofs.YtcppfkflcigjcaaGreatDoor.topBackwards
