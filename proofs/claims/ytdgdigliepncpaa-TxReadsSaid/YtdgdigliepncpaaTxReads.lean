/-
  TxReads: whatever the input, the law answers true, and the input reads as it did. Conditions: none.
-/
import Derived.Test.YtdgdigliepncpaaTrFacts
import Derived.Test.YtdgdigliepncpaaL8e
import Derived.Test.YtdgdigliepncpaaOpenT
import Derived.Test.YtdgdigliepncpaaCalls
namespace Go.Proofs.Ytdgdigliepncpaa
open Go.ChangeShapes Go.WideShapes Go.ChangeAt Go.RowKit

set_option maxRecDepth 100000 in
theorem txReads_lifted (os : Os) (started : os.Started) (H : Type) (enc : TypeId × Value → H) :
    ReturnsInHanded {} Try.checked os 5 .any (Rows.txReadsSpec.pre6 enc Try.prog Try.f5 Rows.txReadsRow.domain false) (Rows.txReadsSpec.post enc Try.prog Try.f5 false true false false) := by
  refine returnsInHanded_of_change (C := Try.checked) ownKnob0 started (by kernel_rfl) Try.func5
    (ChangeSpec.witness6 (enc := enc) (C := Try.checked) false ⟨#[], #[nilV, aggv (txC op0 nilV nilV nilV nilV)], []⟩ 12 (by kernel_rfl) (by kernel_rfl) (by kernel_rfl) (by kernel_rfl)) ?_
  intro W base args ds gs before hval0 hW hcnd _
  have hval : ∀ (j : Nat) t v, Try.f5.params[j]? = some t → args[j]? = some v → Value.okWide Try.prog W .any base t v := hval0
  have hW' := hW
  obtain ⟨p, q, hA0, hV, rfl, hfz, hnd⟩ := hW
  have hA : DataW.TrodAll enc Try.prog W 0 (fun _ => true) true Try.f5.params.toList args.toList ds p := hA0
  have hlt0 := hA.lt
  rw [Try.params5] at hA hval
  obtain ⟨v0, vs0, d0, ds0, p0, q0, hargs, rfl, rfl, h0, r0⟩ := trodAll_cons hA
  obtain ⟨v1, vs1, d1, ds1, p1, q1, rfl, rfl, rfl, h1, r1⟩ := trodAll_cons r0
  obtain ⟨rfl, rfl, rfl⟩ := trodAll_nil r1
  obtain rfl : args = #[v0, v1] := by cases args; simp_all
  obtain ⟨rfl, rfl⟩ := trodVars_none hV
  have k0 := hval 0 55 v0 rfl rfl
  have k1 := hval 1 60 v1 rfl rfl
  have g0 := h0
  have g1 := h1
  obtain ⟨m0, h0⟩ := h0
  obtain ⟨m1, h1⟩ := h1
  obtain ⟨u0, b, e0, hb⟩ := open_bytes h0
  obtain rfl := okWide_one Try.underlying55 k0 e0
  obtain ⟨t, ht⟩ := Opens.op (α := Txn) h1
  obtain ⟨fs, fd, hfs, _⟩ := (inferInstance : Fld Try.prog 60 0 0).eq
  have e1 := okWide_agg hfs k1
  generalize v1.cells.toList = cs at e1 ht
  subst e1
  clear hA0 hval0
  refine (Fnv.calls (l8_txReads _ v0 b cs t hb ht)).mono fun e W' ⟨he, bel⟩ => ?_
  subst he
  have a0 := Below.trod laidOut0 (by kernel_rfl) (of_decide_eq_true (by kernel_rfl)) g0 bel (fun x hx => hlt0 x (by simp [hx]))
  have a1 := Below.trod laidOut0 (by kernel_rfl) (of_decide_eq_true (by kernel_rfl)) g1 bel (fun x hx => hlt0 x (by simp [hx]))
  exact ⟨_, rfl, _, _, _, [], _, [], hW', trodAll_mk1 (shut_bool Try.underlying4 _), (trodAll_cons_mk a0 (trodAll_cons_mk a1 trodAll_mk0)), rfl, bel.frame _, fun h => by cases h⟩

theorem txReads_over : Rows.txReadsRow.holds Try.pinned (OpenSpec.ofChange Rows.txReadsSpec) :=
  OpenClaim.holds_of_wide 5 Try.f5 rfl rfl rfl rfl rfl rfl rfl ⟨rfl, rfl, rfl, rfl, rfl⟩ rfl rfl rfl rfl rfl tr_named Try.func5 tr_closed
    (of_decide_eq_true (by kernel_rfl)) (by unfold Func.isWrapper; first | (rw [if_pos (by decide +kernel)]; kernel_rfl) | (rw [if_neg (by decide +kernel)]; exact ⟨rfl, rfl⟩))
    (fun os started H enc _ => txReads_lifted os started H enc)

/-- The statement. -/
theorem txReads_proved : Rows.TxReadsSaid := txReads_over
end Go.Proofs.Ytdgdigliepncpaa
