/-
  This text gives the rules for strings: bytes as a string, sums, and whether two are the same.
  Conditions: none; nothing here names the program.
-/
import Derived.Test.YtdgdigliepncpaaPen
import Derived.Laws.BytesString
import Derived.Laws.StructEq
namespace Go.Proofs.Ytdgdigliepncpaa
open Go
attribute [local semireducible] Qt BinRun SlM
/-- A string of these bytes. -/
def strV (l : List UInt8) : Value := .string ⟨l.toArray⟩
theorem foldl_push (l : List UInt8) : ∀ (s : List UInt8), (l.map fun b => (b.toNat : Int)).foldl (fun (r : ByteArray) n => r.push (UInt8.ofNat n.toNat)) ⟨s.toArray⟩ = ⟨(s ++ l).toArray⟩ := by
  induction l with
  | nil => intro s; simp
  | cons b l ih =>
    intro s
    rw [List.map_cons, List.foldl_cons]
    have : (⟨s.toArray⟩ : ByteArray).push (UInt8.ofNat ((b.toNat : Int)).toNat) = ⟨(s ++ [b]).toArray⟩ := by
      simp [ByteArray.push]
    rw [this, ih]; simp
section
variable {P : Program} {N : Nat} {e : Env} {M M1 : Mem} {A : Segs} {d : Nat} {ty : TypeId} {pos : String} {aft : Array Edge} {g : Option (Nat × Bool)} {x y : Operand} {xt : TypeId}
theorem Qt.toStr {src dst el : TypeId} {v : Value} {l : List UInt8} (hx : e.ev x = some v) (h : BytesM M1 v l) [s : Sub M1 M] [hs : Und P src (.slice el)] [he : Und P el (.int .u8)] [hd : Und P dst .string] : Qt P N e M A ⟨some d, .convert src dst x, ty, pos, aft, g⟩ (strV l) := fun a w hf hm _ => run_v (by
  show (convert src dst (a.eval x)).run P w = _
  rw [hf.ev hx]
  rcases h.2 with ⟨a0, rfl, hn⟩ | ⟨b, o, c, cl, T, fr, rfl, _, _, hb, hcs, hle⟩
  · have : l = [] := List.length_eq_zero_iff.1 hn
    subst this
    rw [run_convert_bytes_string w src dst el a0 0 0 hs.eq he.eq hd.eq]
    cases a0 with
    | none => rfl
    | some a => exact run_bytesToString (P := P) w a 0 0 [] (by simp [loadCells, loadCellsFrom])
  · rw [run_convert_bytes_string w src dst el _ _ _ hs.eq he.eq hd.eq]
    have hb' : w.heap[b]? = some (.cells cl.toArray T fr) := hm _ _ (s.le _ _ hb.eq)
    have hl := run_loadCells_list (P := P) w ⟨b, o, none⟩ (bytesC l) (fun j v hv => by
      rw [add_none, cell_row hb']
      rw [← hcs] at hv
      have := take_drop_get j v hv
      simpa using this)
    have e1 : (bytesC l).length = l.length := by simp [bytesC]
    rw [e1] at hl
    have e2 : bytesC l = (l.map fun b => (b.toNat : Int)).map (Value.int .u8) := by simp [bytesC, u8v]
    rw [e2] at hl
    rw [run_bytesToString w _ _ c _ hl]
    have := foldl_push l []
    rw [show (ByteArray.empty) = ⟨([] : List UInt8).toArray⟩ from rfl, this]
    rfl)
theorem BinRun.sadd {a b : List UInt8} (h : (a ++ b).length ≤ 1125899906842624) : BinRun P .add xt x y (strV a) (strV b) (strV (a ++ b)) := fun w => by
  rw [List.length_append] at h
  have h1 : ¬ (((⟨a.toArray⟩ : ByteArray).size + (⟨b.toArray⟩ : ByteArray).size : Nat) : Int) > IntKind.i64.max := by
    rw [ByteArray.size_mk_toArray, ByteArray.size_mk_toArray]
    show ¬ _ > (9223372036854775807 : Int)
    omega
  have h2 : (⟨a.toArray⟩ : ByteArray) ++ (⟨b.toArray⟩ : ByteArray) = ⟨(a ++ b).toArray⟩ := by
    have key : ∀ {a b : ByteArray}, a.data.toList = b.data.toList → a = b := fun {a b} h => by
      obtain ⟨⟨x⟩⟩ := a; obtain ⟨⟨y⟩⟩ := b; simp at h; rw [h]
    apply key
    simp
  simp only [strV, eqGuard, binOp, Op.stringOp, Sem.run_bind, Sem.run_pure, Result.andThen_ok, if_neg h1, h2]
  simp
theorem str_eq (a b : List UInt8) : ((⟨a.toArray⟩ : ByteArray).toList == (⟨b.toArray⟩ : ByteArray).toList) = decide (a = b) := by
  rw [ByteArray.toList_eq, ByteArray.toList_eq, Bool.eq_iff_iff, beq_iff_eq, decide_eq_true_eq]
theorem BinRun.streq {a b : List UInt8} : BinRun P .eql xt x y (strV a) (strV b) (.bool (decide (a = b))) := fun w => by
  simp only [strV, eqGuard, binOp, Op.stringOp, Sem.run_bind, Sem.run_pure, str_eq]
  rfl
theorem BinRun.strne {a b : List UInt8} : BinRun P .neq xt x y (strV a) (strV b) (.bool (!decide (a = b))) := fun w => by
  simp only [strV, eqGuard, binOp, Op.stringOp, Sem.run_bind, Sem.run_pure, str_eq]
  rfl
instance (l : List UInt8) : One1 (strV l) := ⟨rfl⟩
instance (l : List UInt8) : Cells (strV l) [strV l] := ⟨rfl⟩
end
end Go.Proofs.Ytdgdigliepncpaa
