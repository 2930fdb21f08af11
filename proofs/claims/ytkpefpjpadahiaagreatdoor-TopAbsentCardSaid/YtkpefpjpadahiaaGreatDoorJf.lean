import Derived.Test.YtkpefpjpadahiaaGreatDoorRows
import Derived.Test.YtkpefpjpadahiaaGreatDoorPlain
import Derived.JoinedCond
namespace Go.Proofs.YtkpefpjpadahiaaGreatDoor.topAbsent
set_option linter.unusedVariables false
abbrev fB:FuncId:=3
theorem gY {a b:Bool} (h:a=true) (g:b=true):(a && b)=true:=by rw[h,g]; rfl
theorem Ow:Tryz.prog.closure fB=[3,4,7,9,24,21,10,6,32,33,82,122,153,186,187,226,154,188,155,189,199,244,227,228,229,271,34,74,76,77,116,75,115,79,80,83,123,157,156,143,158,144,177,203,176,159,179,213,214,190,230,231,272,232,252,253,233,273,274,296,234,235,236,237,160,86,78,117,81,118,119,149,182,219,260,290,250,291,220,261,148,180,215,181,216,256,282,283,284,285,286,301,302,303,304,305,288,217,257,287,289,306,307,218,259,258,120,151,184,183,221,185,222,263,262,264,266,292,265,268,293,308,225,270,173,295,267,223,269,294,224,150,121,152,35,84,124,161,162,163,164,125,85,126,165,166,36,37,87,127,128,88,129,130,131,132,89,13,46,90,133,167,191,192,238,239,193,194,240,241,275,276,38,39,91,40,41,92,134,168,43,93,135,94,42,95,136,169,137,170,138,171,195,172,196,242,243,277,297,298,197,198,96,139,44,97,26,65,108,45,98,99,140,141,174,200,245,278,299,300,201,246,279,247,248,280,249,142,175,202,28,72,20,56,73,113,114,57,59,60,104,58,103,61,105,25,62,63,106,64,107,27,66,67,68,109,145,178,204,210,205,251,206,207,254,255,281,208,209,211,212,146,70,71,112,111,147,69,110,29,30,5,31,8,11,12,14,47,15,49,48,16,50,17,51,101,102,100,18,19,53,54,52,55,22,23]:=by kernel_rfl
theorem j1:(Rows.topAbsentRow.wf (OpenSpec.ofChange (OpenSpec.ofChange Rows.topAbsentSpec).bare))=true:=by kernel_rfl
theorem j2:(laidOutB Tryz.prog)=true:=by kernel_rfl
theorem j3:(mapsRowed Tryz.prog)=true:=by kernel_rfl
theorem j4:(Tryz.f3.params.all (Tryz.prog.readableRec ·))=true:=by kernel_rfl
theorem j5:(namedTie Tryz.prog Rows.topAbsentRow.named (OpenSpec.ofChange Rows.topAbsentSpec).bare.vars)=true:=by kernel_rfl
theorem j6:((Rows.topAbsentRow.stops == []))=true:=by kernel_rfl
theorem j7:((Tryz.prog.stops == []))=true:=by kernel_rfl
theorem j8:((Rows.topAbsentRow.knobs == []))=true:=by kernel_rfl
theorem j9:((Tryz.prog.stopKnobs == []))=true:=by kernel_rfl
theorem j10:((Rows.topAbsentRow.inPlace == Tryz.prog.inPlace fB))=true:=by
 unfold Program.inPlace;rw[Ow];kernel_rfl
theorem j11:((Rows.topAbsentRow.unfollowed == Tryz.prog.unfollowed fB))=true:=by
 unfold Program.unfollowed;rw[Ow];kernel_rfl
theorem j12:((Rows.topAbsentRow.recurses == Tryz.prog.recurses fB))=true:=by
 have h:Tryz.prog.unfollowed fB=true:=by
  have:=j11;rw[show Rows.topAbsentRow.unfollowed=true from rfl] at this
  simpa using this
 unfold Program.recurses;rw[h,Bool.true_or];rfl
theorem j13:((Rows.topAbsentRow.named == Tryz.prog.varsNamed fB))=true:=by
 unfold Program.varsNamed;rw[Ow];kernel_rfl
theorem j14:((Rows.topAbsentRow.maps == (Tryz.f3.params.toList++(OpenSpec.ofChange Rows.topAbsentSpec).bare.plain.varTypes Tryz.prog).any (Tryz.prog.mapsRec ·)))=true:=by kernel_rfl
theorem j15:((Rows.topAbsentRow.ifaces == (Tryz.f3.params.toList++(OpenSpec.ofChange Rows.topAbsentSpec).bare.plain.varTypes Tryz.prog).any (Tryz.prog.ifacesRec ·)))=true:=by kernel_rfl
theorem j16:((Rows.topAbsentRow.mapsOut == Tryz.prog.mapsAmong Tryz.f3.resultTypes.toList))=true:=by kernel_rfl
theorem j17:((Rows.topAbsentRow.loops == (Tryz.f3.params.toList++(OpenSpec.ofChange Rows.topAbsentSpec).bare.plain.varTypes Tryz.prog).any (Tryz.prog.loopsFrom ·)))=true:=by kernel_rfl
theorem j18:((Rows.topAbsentRow.wideKeys == (Tryz.f3.params.toList++(OpenSpec.ofChange Rows.topAbsentSpec).bare.plain.varTypes Tryz.prog++Tryz.f3.resultTypes.toList).any (Tryz.prog.wideKeysFrom ·)))=true:=by kernel_rfl
theorem j19:((OpenSpec.ofChange Rows.topAbsentSpec).bare.vars.all (Tryz.prog.varReadable ·))=true:=by kernel_rfl
theorem j20:(Tryz.f3.resultTypes.all (fun t=>Tryz.prog.readableRec t && decide (t<Tryz.prog.types.size)))=true:=by kernel_rfl
theorem j21:((Rows.topAbsentRow.ifacesOut == Tryz.f3.resultTypes.toList.any (Tryz.prog.ifacesRec ·)))=true:=by kernel_rfl
theorem j22:((Rows.topAbsentRow.loopsOut == Tryz.f3.resultTypes.toList.any (Tryz.prog.loopsFrom ·)))=true:=by kernel_rfl
theorem j23:((Rows.topAbsentRow.plainKeys == Tryz.prog.plainKeys))=true:=by kernel_rfl
theorem j24:(Rows.topAbsentRow.shortTexts.isNone)=true:=by kernel_rfl
theorem j25:(Tryz.prog.stopsHeard)=true:=by kernel_rfl
theorem j26:(Tryz.prog.mayEnter)=true:=by kernel_rfl
theorem j27:((Rows.topAbsentRow.lifted == Tryz.prog.liftsFinal))=true:=by kernel_rfl
theorem j28:((Tryz.prog.make == some Rows.topAbsentRow.make))=true:=by kernel_rfl
theorem j29:((Rows.topAbsentRow.kinds == (if Rows.topAbsentRow.domain.isEmpty then [] else Tryz.f3.params.toList.map fun t=>match Tryz.prog.underlying t with | some (.int k)=>some k | _=>none)))=true:=by kernel_rfl
theorem j30:((Rows.topAbsentRow.pinned == Rows.topAbsentRow.pinnedBy))=true:=by kernel_rfl
theorem j31:((Rows.topAbsentRow.veiled == (Tryz.f3.params.toList++(OpenSpec.ofChange Rows.topAbsentSpec).bare.plain.varTypes Tryz.prog++Tryz.f3.resultTypes.toList).any (Tryz.prog.veiledRec ·)))=true:=by kernel_rfl
theorem j32:(Rows.topAbsentRow.veiledFits Tryz.prog Tryz.f3.params.toList (Tryz.f3.params.toList++(OpenSpec.ofChange Rows.topAbsentSpec).bare.plain.varTypes Tryz.prog++Tryz.f3.resultTypes.toList))=true:=by kernel_rfl
set_option maxRecDepth 100000 in
theorem closed:joinedFacts Tryz.prog fB Tryz.f3 (OpenSpec.ofChange Rows.topAbsentSpec).bare Rows.topAbsentRow=true:=by
 unfold joinedFacts;exact (gY (gY (gY (gY (gY (gY (gY (gY (gY (gY (gY (gY (gY (gY (gY (gY (gY (gY (gY (gY (gY (gY (gY (gY (gY (gY (gY (gY (gY (gY (gY j1 j2) j3) j4) j5) j6) j7) j8) j9) j10) j11) j12) j13) j14) j15) j16) j17) j18) j19) j20) j21) j22) j23) j24) j25) j26) j27) j28) j29) j30) j31) j32)
end Go.Proofs.YtkpefpjpadahiaaGreatDoor.topAbsent
