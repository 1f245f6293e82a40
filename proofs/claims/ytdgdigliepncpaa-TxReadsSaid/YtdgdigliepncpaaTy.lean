/-
  This text proves how closed facts on types become the rules' premises, and says what the 32 bytes of a sum are.
  Conditions: none; nothing here names the program.
-/
import Derived.Test.YtdgdigliepncpaaSteps
namespace Go.Proofs.Ytdgdigliepncpaa
open Go

/-- A struct's type: what lies where, and its zero. -/
class Bld (P : Program) (t : TypeId) (pl : outParam (List (Nat × Nat))) (z : outParam (List Value)) : Prop where
  eq : ∃ fs, P.underlying t = some (.struct fs) ∧ (fs.toList.mapM fun f => (P.info? f.type).map fun i => (f.offset, i.size)) = some pl
  zero : Zer P t z

/-- The 32 bytes of a sum. -/
structure Sm where
  l : List UInt8
  h : l.length = 32
instance : DecidableEq Sm := fun a b => if h : a.l = b.l then isTrue (by cases a; cases b; simp at h; simp [h]) else isFalse (fun e => h (by rw [e]))
def u8v (b : UInt8) : Value := .int .u8 b.toNat
def bytesC (l : List UInt8) : List Value := l.map u8v
def sumC (s : Sm) : List Value := bytesC s.l
def zsum : Sm := ⟨List.replicate 32 0, rfl⟩
theorem IsAgg.of {P : Program} {t n : Nat} (h : ((P.underlying t).map (fun d => match d with | .struct _ | .array _ _ => true | _ => false), (P.info? t).map (·.size)) = (some true, some n)) : IsAgg P t n := by
  simp only [Prod.mk.injEq] at h
  cases hu : P.underlying t with
  | none => simp [hu] at h
  | some d =>
    refine ⟨⟨d, hu, ?_⟩, h.2⟩
    have h1 := h.1
    rw [hu] at h1
    cases d <;> first | trivial | simp at h1
theorem IsOne.of {P : Program} {t : Nat} (h : ((P.underlying t).map (fun d => match d with | .struct _ | .array _ _ => false | _ => true), (P.info? t).map (·.size)) = (some true, some 1)) : IsOne P t := by
  simp only [Prod.mk.injEq] at h
  cases hu : P.underlying t with
  | none => simp [hu] at h
  | some d =>
    refine ⟨⟨d, hu, ?_⟩, h.2⟩
    have h1 := h.1
    rw [hu] at h1
    cases d <;> first | trivial | simp at h1
theorem Zer.of {P : Program} {t : Nat} {z : List Value} (h : ((P.info? t).bind (·.zero)).map (·.cells.toList) = some z) : Zer P t z := by
  cases hv : (P.info? t).bind (·.zero) with
  | none => simp [hv] at h
  | some v => rw [hv] at h; simp at h; exact ⟨v, hv, h⟩
def fldAt (P : Program) (s f : Nat) : Option (Nat × Bool) :=
  match P.underlying s with
  | some (.struct fs) => (fs[f]?).map fun fd => (fd.offset, (P.info? fd.type).any (fun i => decide (i.size ≠ 0)))
  | _ => none
theorem Fld.of {P : Program} {s f off : Nat} (h : fldAt P s f = some (off, true)) : Fld P s f off := by
  unfold fldAt at h
  split at h
  · rename_i fs hu
    cases hf : fs[f]? with
    | none => simp [hf] at h
    | some fd =>
      rw [hf] at h
      simp only [Option.map_some, Option.some.injEq, Prod.mk.injEq] at h
      exact ⟨fs, fd, hu, hf, h.1, h.2⟩
  · cases h
def plOf (P : Program) (t : Nat) : Option (List (Nat × Nat)) :=
  match P.underlying t with
  | some (.struct fs) => fs.toList.mapM fun f => (P.info? f.type).map fun i => (f.offset, i.size)
  | _ => none
theorem Bld.of {P : Program} {t : Nat} {pl : List (Nat × Nat)} {z : List Value} (h : (plOf P t, ((P.info? t).bind (·.zero)).map (·.cells.toList)) = (some pl, some z)) : Bld P t pl z := by
  simp only [Prod.mk.injEq] at h
  obtain ⟨h1, h2⟩ := h
  unfold plOf at h1
  split at h1
  · rename_i fs hu; exact ⟨⟨fs, hu, h1⟩, Zer.of h2⟩
  · cases h1
end Go.Proofs.Ytdgdigliepncpaa
