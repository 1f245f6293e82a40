/-
  The closed facts that the row of bondNobody asks for. Conditions: none. Written by a program (genfacts.py).
-/
import Derived.Test.YtdgdigliepncpaaFacts
namespace Go.Proofs.Ytdgdigliepncpaa
open Go
set_option maxRecDepth 100000
theorem bn_k0 : (Rows.bondNobodyRow.wf (OpenSpec.ofChange Rows.bondNobodySpec)) = true := by kernel_rfl
theorem bn_k3 : (Try.f3.params.all (Try.prog.readableRec ·)) = true := by kernel_rfl
theorem bn_k4 : (namedTie Try.prog Rows.bondNobodyRow.named Rows.bondNobodySpec.vars) = true := by kernel_rfl
theorem bn_k5 : ((Rows.bondNobodyRow.stops == [])) = true := by kernel_rfl
theorem bn_k7 : ((Rows.bondNobodyRow.knobs == [])) = true := by kernel_rfl
theorem bn_k9 : ((Rows.bondNobodyRow.inPlace == Try.prog.inPlace 3)) = true := by kernel_rfl
theorem bn_k10 : ((Rows.bondNobodyRow.unfollowed == Try.prog.unfollowed 3)) = true := by kernel_rfl
theorem bn_k11 : ((Rows.bondNobodyRow.recurses == Try.prog.recurses 3)) = true := by kernel_rfl
theorem bn_k12 : ((Rows.bondNobodyRow.named == Try.prog.varsNamed 3)) = true := by kernel_rfl
theorem bn_k13 : ((Rows.bondNobodyRow.maps == (Try.f3.params.toList ++ Rows.bondNobodySpec.plain.varTypes Try.prog).any (Try.prog.mapsRec ·))) = true := by kernel_rfl
theorem bn_k14 : ((Rows.bondNobodyRow.ifaces == (Try.f3.params.toList ++ Rows.bondNobodySpec.plain.varTypes Try.prog).any (Try.prog.ifacesRec ·))) = true := by kernel_rfl
theorem bn_k15 : ((Rows.bondNobodyRow.mapsOut == Try.prog.mapsAmong Try.f3.resultTypes.toList)) = true := by kernel_rfl
theorem bn_k16 : ((Rows.bondNobodyRow.loops == (Try.f3.params.toList ++ Rows.bondNobodySpec.plain.varTypes Try.prog).any (Try.prog.loopsFrom ·))) = true := by kernel_rfl
theorem bn_k17 : ((Rows.bondNobodyRow.wideKeys == (Try.f3.params.toList ++ Rows.bondNobodySpec.plain.varTypes Try.prog ++ Try.f3.resultTypes.toList).any (Try.prog.wideKeysFrom ·))) = true := by kernel_rfl
theorem bn_k18 : (Rows.bondNobodySpec.vars.all (Try.prog.varReadable ·)) = true := by kernel_rfl
theorem bn_k19 : (Try.f3.resultTypes.all (fun t => Try.prog.readableRec t && decide (t < Try.prog.types.size))) = true := by kernel_rfl
theorem bn_k20 : ((Rows.bondNobodyRow.ifacesOut == Try.f3.resultTypes.toList.any (Try.prog.ifacesRec ·))) = true := by kernel_rfl
theorem bn_k21 : ((Rows.bondNobodyRow.loopsOut == Try.f3.resultTypes.toList.any (Try.prog.loopsFrom ·))) = true := by kernel_rfl
theorem bn_k22 : ((Rows.bondNobodyRow.plainKeys == Try.prog.plainKeys)) = true := by kernel_rfl
theorem bn_k23 : (Rows.bondNobodyRow.shortTexts.isNone) = true := by kernel_rfl
theorem bn_k26 : ((Rows.bondNobodyRow.lifted == Try.prog.liftsFinal)) = true := by kernel_rfl
theorem bn_k27 : ((Try.prog.make == some Rows.bondNobodyRow.make)) = true := by kernel_rfl
theorem bn_k28 : (kindsOk Try.prog Try.f3 Rows.bondNobodyRow) = true := by kernel_rfl
theorem bn_k29 : ((Rows.bondNobodyRow.pinned == Rows.bondNobodyRow.pinnedBy)) = true := by kernel_rfl
theorem bn_k30 : ((Rows.bondNobodyRow.veiled == (Try.f3.params.toList ++ Rows.bondNobodySpec.plain.varTypes Try.prog ++ Try.f3.resultTypes.toList).any (Try.prog.veiledRec ·))) = true := by kernel_rfl
theorem bn_k31 : (Rows.bondNobodyRow.veiledFits Try.prog Try.f3.params.toList (Try.f3.params.toList ++ Rows.bondNobodySpec.plain.varTypes Try.prog ++ Try.f3.resultTypes.toList)) = true := by kernel_rfl
theorem bn_closed : joinedFacts Try.prog 3 Try.f3 Rows.bondNobodySpec Rows.bondNobodyRow = true := joined_of bn_k0 laidOut0 mapsRowed0 bn_k3 bn_k4 bn_k5 stops0 bn_k7 stopKnobs0 bn_k9 bn_k10 bn_k11 bn_k12 bn_k13 bn_k14 bn_k15 bn_k16 bn_k17 bn_k18 bn_k19 bn_k20 bn_k21 bn_k22 bn_k23 heard0 enter0 bn_k26 bn_k27 bn_k28 bn_k29 bn_k30 bn_k31
theorem bn_named : Try.prog.funcNamed Rows.bondNobodyRow.func = some 3 := by kernel_rfl
end Go.Proofs.Ytdgdigliepncpaa
