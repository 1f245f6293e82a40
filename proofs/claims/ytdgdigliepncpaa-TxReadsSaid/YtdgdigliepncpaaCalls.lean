/-
  What a contract says of a call, and of which form an argument is. Conditions: none.
-/
import Derived.Test.YtdgdigliepncpaaOpen
import Derived.ProofKit
import Derived.OpenShut
import Derived.ChangeOld
import Derived.Below
import Derived.Carry
import Derived.WalkKit
namespace Go.Proofs.Ytdgdigliepncpaa
open Go.ChangeShapes Go.WideShapes Go.ChangeAt Go.RowKit
attribute [local semireducible] Fn Fn0

/-- What a contract says of a call. -/
theorem Fnv.calls {P : Program} {f : FuncId} {args : List Value} {v : Value} {w : World} (h : Fnv P f args (fun b => w.heap[b]?) v) : Calls P f args.toArray w fun e w' => e = .returned v ∧ Below w.heap.size w w' := by
  have hok : Ok (fun b => w.heap[b]?) [] w := ⟨by simp, fun _ _ h => (by cases h), fun _ _ h => h, fun _ _ h => (by cases h)⟩
  refine (h w hok).mono fun ex w' ⟨u, M', H', he, ⟨_, hu⟩, hd⟩ => ⟨by rw [he, hu], hd.os, hd.tape, hd.output, hd.size, fun k hk => hd.frame k hk (by simp)⟩

theorem okWide_one {P : Program} {w : World} {r : Reach} {b : Nat} {t : TypeId} {v u : Value} {el : TypeId} (ht : P.underlying t = some (.slice el)) (h : Value.okWide P w r b t v) (hc : v.cells.toList = [u]) : v = u := by
  cases v with
  | agg cs => simp [Value.okWide, Cell.okWide, Cell.ok, ht] at h
  | _ => simpa [Value.cells] using hc
theorem okWide_agg {P : Program} {w : World} {r : Reach} {b : Nat} {t : TypeId} {v : Value} {fs : Array Field} (ht : P.underlying t = some (.struct fs)) (h : Value.okWide P w r b t v) : v = aggv v.cells.toList := by
  simp only [Value.okWide, ht] at h
  obtain ⟨cs, rfl, _⟩ := h
  simp [Value.cells, aggv]
end Go.Proofs.Ytdgdigliepncpaa
