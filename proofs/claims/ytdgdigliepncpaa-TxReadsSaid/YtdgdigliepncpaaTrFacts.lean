/-
  The closed facts that the row of txReads asks for. Conditions: none. Written by a program (genfacts.py).
-/
import Derived.Test.YtdgdigliepncpaaFacts
namespace Go.Proofs.Ytdgdigliepncpaa
open Go
set_option maxRecDepth 100000
theorem tr_k0 : (Rows.txReadsRow.wf (OpenSpec.ofChange Rows.txReadsSpec)) = true := by kernel_rfl
theorem tr_k3 : (Try.f5.params.all (Try.prog.readableRec ·)) = true := by kernel_rfl
theorem tr_k4 : (namedTie Try.prog Rows.txReadsRow.named Rows.txReadsSpec.vars) = true := by kernel_rfl
theorem tr_k5 : ((Rows.txReadsRow.stops == [])) = true := by kernel_rfl
theorem tr_k7 : ((Rows.txReadsRow.knobs == [])) = true := by kernel_rfl
theorem tr_k9 : ((Rows.txReadsRow.inPlace == Try.prog.inPlace 5)) = true := by kernel_rfl
theorem tr_k10 : ((Rows.txReadsRow.unfollowed == Try.prog.unfollowed 5)) = true := by kernel_rfl
theorem tr_k11 : ((Rows.txReadsRow.recurses == Try.prog.recurses 5)) = true := by kernel_rfl
theorem tr_k12 : ((Rows.txReadsRow.named == Try.prog.varsNamed 5)) = true := by kernel_rfl
theorem tr_k13 : ((Rows.txReadsRow.maps == (Try.f5.params.toList ++ Rows.txReadsSpec.plain.varTypes Try.prog).any (Try.prog.mapsRec ·))) = true := by kernel_rfl
theorem tr_k14 : ((Rows.txReadsRow.ifaces == (Try.f5.params.toList ++ Rows.txReadsSpec.plain.varTypes Try.prog).any (Try.prog.ifacesRec ·))) = true := by kernel_rfl
theorem tr_k15 : ((Rows.txReadsRow.mapsOut == Try.prog.mapsAmong Try.f5.resultTypes.toList)) = true := by kernel_rfl
theorem tr_k16 : ((Rows.txReadsRow.loops == (Try.f5.params.toList ++ Rows.txReadsSpec.plain.varTypes Try.prog).any (Try.prog.loopsFrom ·))) = true := by kernel_rfl
theorem tr_k17 : ((Rows.txReadsRow.wideKeys == (Try.f5.params.toList ++ Rows.txReadsSpec.plain.varTypes Try.prog ++ Try.f5.resultTypes.toList).any (Try.prog.wideKeysFrom ·))) = true := by kernel_rfl
theorem tr_k18 : (Rows.txReadsSpec.vars.all (Try.prog.varReadable ·)) = true := by kernel_rfl
theorem tr_k19 : (Try.f5.resultTypes.all (fun t => Try.prog.readableRec t && decide (t < Try.prog.types.size))) = true := by kernel_rfl
theorem tr_k20 : ((Rows.txReadsRow.ifacesOut == Try.f5.resultTypes.toList.any (Try.prog.ifacesRec ·))) = true := by kernel_rfl
theorem tr_k21 : ((Rows.txReadsRow.loopsOut == Try.f5.resultTypes.toList.any (Try.prog.loopsFrom ·))) = true := by kernel_rfl
theorem tr_k22 : ((Rows.txReadsRow.plainKeys == Try.prog.plainKeys)) = true := by kernel_rfl
theorem tr_k23 : (Rows.txReadsRow.shortTexts.isNone) = true := by kernel_rfl
theorem tr_k26 : ((Rows.txReadsRow.lifted == Try.prog.liftsFinal)) = true := by kernel_rfl
theorem tr_k27 : ((Try.prog.make == some Rows.txReadsRow.make)) = true := by kernel_rfl
theorem tr_k28 : (kindsOk Try.prog Try.f5 Rows.txReadsRow) = true := by kernel_rfl
theorem tr_k29 : ((Rows.txReadsRow.pinned == Rows.txReadsRow.pinnedBy)) = true := by kernel_rfl
theorem tr_k30 : ((Rows.txReadsRow.veiled == (Try.f5.params.toList ++ Rows.txReadsSpec.plain.varTypes Try.prog ++ Try.f5.resultTypes.toList).any (Try.prog.veiledRec ·))) = true := by kernel_rfl
theorem tr_k31 : (Rows.txReadsRow.veiledFits Try.prog Try.f5.params.toList (Try.f5.params.toList ++ Rows.txReadsSpec.plain.varTypes Try.prog ++ Try.f5.resultTypes.toList)) = true := by kernel_rfl
theorem tr_closed : joinedFacts Try.prog 5 Try.f5 Rows.txReadsSpec Rows.txReadsRow = true := joined_of tr_k0 laidOut0 mapsRowed0 tr_k3 tr_k4 tr_k5 stops0 tr_k7 stopKnobs0 tr_k9 tr_k10 tr_k11 tr_k12 tr_k13 tr_k14 tr_k15 tr_k16 tr_k17 tr_k18 tr_k19 tr_k20 tr_k21 tr_k22 tr_k23 heard0 enter0 tr_k26 tr_k27 tr_k28 tr_k29 tr_k30 tr_k31
theorem tr_named : Try.prog.funcNamed Rows.txReadsRow.func = some 5 := by kernel_rfl
end Go.Proofs.Ytdgdigliepncpaa
