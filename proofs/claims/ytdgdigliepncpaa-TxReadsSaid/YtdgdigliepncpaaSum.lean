/-
  This text proves how the 32 bytes of a sum lie among cells.
  Conditions: none; nothing here names the program.
-/
import Derived.Test.YtdgdigliepncpaaDraw
namespace Go.Proofs.Ytdgdigliepncpaa
open Go

@[simp] theorem bytesC_length (l : List UInt8) : (bytesC l).length = l.length := by simp [bytesC]
@[simp] theorem sumC_length (s : Sm) : (sumC s).length = 32 := by simp [sumC, s.h]
theorem bytesC_append (a b : List UInt8) : bytesC (a ++ b) = bytesC a ++ bytesC b := by simp [bytesC]

instance Drop.sum {s : Sm} {cs out : List Value} {k : Nat} [d : Drop cs k out] : Drop (sumC s ++ cs) (k + 32) out := ⟨by
  rw [List.drop_append, List.drop_of_length_le (by simp)]; simpa using d.eq, by have := d.le; simp; omega⟩
instance Drop.sumEnd {s : Sm} : Drop (sumC s) 32 [] := ⟨by simp, by simp⟩
instance Fst.sum {s : Sm} {cs out : List Value} {k : Nat} [d : Fst cs k out] : Fst (sumC s ++ cs) (k + 32) (sumC s ++ out) := ⟨by
  rw [List.take_append, List.take_of_length_le (by simp)]; simp [d.eq], by have := d.le; simp; omega⟩
instance Fst.sum32 {s : Sm} {cs : List Value} : Fst (sumC s ++ cs) 32 (sumC s) := ⟨by rw [List.take_append, List.take_of_length_le (by simp)]; simp, by simp⟩
instance Fst.sumEnd {s : Sm} : Fst (sumC s) 32 (sumC s) := ⟨List.take_of_length_le (by simp), by simp⟩
instance Fst.sum2 {s t : Sm} {cs : List Value} : Fst (sumC s ++ (sumC t ++ cs)) 64 (sumC s ++ sumC t) := ⟨by
  rw [← List.append_assoc, List.take_append, List.take_of_length_le (by simp)]; simp, by simp; omega⟩
instance Fst.sum2End {s t : Sm} : Fst (sumC s ++ sumC t) 64 (sumC s ++ sumC t) := ⟨List.take_of_length_le (by simp), by simp⟩
instance Len.sum {s : Sm} : Len (sumC s) 32 := ⟨by simp⟩
instance Len.sumApp {s : Sm} {cs : List Value} {n : Nat} [d : Len cs n] : Len (sumC s ++ cs) (n + 32) := ⟨by simp [d.eq]; omega⟩
instance Put.sumSkip {s : Sm} {cs new out : List Value} {k : Nat} [d : Put cs k new out] : Put (sumC s ++ cs) (k + 32) new (sumC s ++ out) := by
  have h1 := d.eq; have h2 := d.le
  refine ⟨?_, by simp at h2 ⊢; omega⟩
  rw [List.take_append, List.drop_append, List.take_of_length_le (by simp), List.drop_of_length_le (by simp; omega)]
  simp only [sumC_length, Nat.add_sub_cancel, List.nil_append, List.append_assoc]
  rw [show k + 32 + new.length - 32 = k + new.length from by omega]
  rw [← List.append_assoc (List.take k cs), h1]
instance Put.sumOver {s s' : Sm} {cs : List Value} : Put (sumC s ++ cs) 0 (sumC s') (sumC s' ++ cs) := ⟨by simp, by simp⟩
instance Put.sumEnd {s s' : Sm} : Put (sumC s) 0 (sumC s') (sumC s') := ⟨by simp, by simp⟩
instance Put.sumApp {s s' : Sm} {cs new out : List Value} [d : Put cs 0 new out] : Put (sumC s ++ cs) 0 (sumC s' ++ new) (sumC s' ++ out) := by
  have h1 := d.eq; have h2 := d.le
  refine ⟨?_, by simp at h2 ⊢; omega⟩
  simp only [List.take_zero, List.nil_append, Nat.zero_add, List.append_assoc] at h1 ⊢
  rw [List.drop_append, List.drop_of_length_le (by simp)]
  simp only [List.nil_append, List.length_append, sumC_length]
  rw [show 32 + new.length - 32 = new.length from by omega, h1]
instance Put.sumEndApp {s t s' t' : Sm} : Put (sumC s ++ sumC t) 0 (sumC s' ++ sumC t') (sumC s' ++ sumC t') := ⟨by simp, by simp⟩
instance Ones.bytes {l : List UInt8} : Ones (bytesC l) := ⟨fun v hv => by
  obtain ⟨b, _, rfl⟩ := List.mem_map.1 hv; rfl⟩
instance Ones.sum {s : Sm} : Ones (sumC s) := ⟨Ones.bytes.eq⟩

instance {b : UInt8} : One1 (u8v b) := ⟨rfl⟩
instance {b : UInt8} : Cells (u8v b) [u8v b] := ⟨rfl⟩
end Go.Proofs.Ytdgdigliepncpaa
