/-
  This text proves that an argument that reads as a transaction lies in memory as one.
  Conditions: none.
-/
import Derived.Test.YtdgdigliepncpaaOpen
import Derived.Test.YtdgdigliepncpaaTypes
namespace Go.Proofs.Ytdgdigliepncpaa
open Go
instance : Opens Try.prog 3 Int := ⟨fun h => by
  obtain ⟨n, e, w⟩ := open_i64 (Und.eq) h
  exact ⟨n, e, w⟩⟩
instance : Opens Try.prog 5 UInt8 := ⟨fun h => by
  obtain ⟨n, e⟩ := open_u8 (Und.eq) h
  exact ⟨n, e⟩⟩
section
variable {w : World} {H : Type} {enc : TypeId × Value → H} {fuel : Nat} {cs : List Value} {x : DataW H × List MemPlace}
theorem open_bytes (h : DataW.trod enc Try.prog w 0 (fun _ => true) true fuel 55 cs = some x) : ∃ v l, cs = [v] ∧ BytesM (memOf w) v l := by
  obtain ⟨v, xs, e, c, h1, h2⟩ := open_SlR (α := UInt8) Und.eq (by kernel_rfl) (by decide) h
  have hb := h2.bytes
  subst hb
  exact ⟨v, xs, e, h1⟩
theorem open_sum (h : DataW.trod enc Try.prog w 0 (fun _ => true) true fuel 32 cs = some x) : ∃ s : Sm, cs = sumC s := open_Sm Und.eq Und.eq (by kernel_rfl) (by kernel_rfl) h
theorem open_ref (h : DataW.trod enc Try.prog w 0 (fun _ => true) true fuel 34 cs = some x) : ∃ r : Rf, cs = sumC r.tx ++ [int64 r.at_] ∧ I64 r.at_ := by
  obtain ⟨hl, _, _, h0⟩ := open_field 0 32 0 32 (by kernel_rfl) h
  obtain ⟨_, _, _, h1⟩ := open_field 1 3 32 1 (by kernel_rfl) h
  obtain ⟨s, e0⟩ := open_sum h0
  obtain ⟨a, e1, w1⟩ := open_i64 Und.eq h1
  refine ⟨⟨s, a⟩, ?_, w1⟩
  have := drop_cut (off := 0) (next := 32) rfl e0 (drop_cut (next := 33) rfl e1 (drop_end (hl.trans (by kernel_rfl))))
  simpa using this
end
instance : Opens Try.prog 89 Way := ⟨fun h => by
  obtain ⟨hl, _, _, h0⟩ := open_field 0 48 0 1 (by kernel_rfl) h
  obtain ⟨_, _, _, h1⟩ := open_field 1 32 1 32 (by kernel_rfl) h
  obtain ⟨_, _, _, h2⟩ := open_field 2 3 33 1 (by kernel_rfl) h
  obtain ⟨_, _, _, h3⟩ := open_field 3 3 34 1 (by kernel_rfl) h
  obtain ⟨v, xs, e0, r0⟩ := open_SlR (α := Int) Und.eq (by kernel_rfl) (by decide) h0
  obtain ⟨s, e1⟩ := open_sum h1
  obtain ⟨a, e2, w2⟩ := open_i64 Und.eq h2
  obtain ⟨b, e3, w3⟩ := open_i64 Und.eq h3
  refine ⟨⟨xs, s, a, b⟩, v, ?_, r0, w2, w3⟩
  have := drop_cut (off := 0) (next := 1) rfl e0 (drop_cut (next := 33) rfl e1 (drop_cut (next := 34) rfl e2 (drop_cut (next := 35) rfl e3 (drop_end (hl.trans (by kernel_rfl))))))
  simpa using this⟩
instance : Opens Try.prog 87 Out := ⟨fun h => by
  obtain ⟨hl, _, _, h0⟩ := open_field 0 2 0 1 (by kernel_rfl) h
  obtain ⟨_, _, _, h1⟩ := open_field 1 85 1 1 (by kernel_rfl) h
  obtain ⟨a, e0, w0⟩ := open_i64 Und.eq h0
  obtain ⟨v, xs, e1, r1⟩ := open_SlR (α := Way) Und.eq (by kernel_rfl) (by decide) h1
  refine ⟨⟨a, xs⟩, v, ?_, r1, w0⟩
  have := drop_cut (off := 0) (next := 1) rfl e0 (drop_cut (next := 2) rfl e1 (drop_end (hl.trans (by kernel_rfl))))
  simpa using this⟩
instance : Opens Try.prog 94 Inp := ⟨fun h => by
  obtain ⟨hl, _, _, h0⟩ := open_field 0 34 0 33 (by kernel_rfl) h
  obtain ⟨_, _, _, h1⟩ := open_field 1 3 33 1 (by kernel_rfl) h
  obtain ⟨_, _, _, h2⟩ := open_field 2 55 34 1 (by kernel_rfl) h
  obtain ⟨r, e0, w0⟩ := open_ref h0
  obtain ⟨a, e1, w1⟩ := open_i64 Und.eq h1
  obtain ⟨v, l, e2, r2⟩ := open_bytes h2
  refine ⟨⟨r, a, l⟩, v, ?_, r2, w0, w1⟩
  have := drop_cut (off := 0) (next := 33) rfl e0 (drop_cut (next := 34) rfl e1 (drop_cut (next := 35) rfl e2 (drop_end (hl.trans (by kernel_rfl)))))
  simpa using this⟩
instance : Opens Try.prog 75 Sgn := ⟨fun h => by
  obtain ⟨hl, _, _, h0⟩ := open_field 0 3 0 1 (by kernel_rfl) h
  obtain ⟨_, _, _, h1⟩ := open_field 1 32 1 32 (by kernel_rfl) h
  obtain ⟨a, e0, w0⟩ := open_i64 Und.eq h0
  obtain ⟨s, e1⟩ := open_sum h1
  refine ⟨⟨a, s⟩, ?_, w0⟩
  have := drop_cut (off := 0) (next := 1) rfl e0 (drop_cut (next := 33) rfl e1 (drop_end (hl.trans (by kernel_rfl))))
  simpa using this⟩
instance : Opens Try.prog 57 Opn := ⟨fun h => by
  obtain ⟨hl, _, _, h0⟩ := open_field 0 3 0 1 (by kernel_rfl) h
  obtain ⟨_, _, _, h1⟩ := open_field 1 3 1 1 (by kernel_rfl) h
  obtain ⟨_, _, _, h2⟩ := open_field 2 3 2 1 (by kernel_rfl) h
  obtain ⟨_, _, _, h3⟩ := open_field 3 2 3 1 (by kernel_rfl) h
  obtain ⟨_, _, _, h4⟩ := open_field 4 32 4 32 (by kernel_rfl) h
  obtain ⟨_, _, _, h5⟩ := open_field 5 55 36 1 (by kernel_rfl) h
  obtain ⟨a, e0, w0⟩ := open_i64 Und.eq h0
  obtain ⟨b, e1, w1⟩ := open_i64 Und.eq h1
  obtain ⟨c, e2, w2⟩ := open_i64 Und.eq h2
  obtain ⟨d, e3, w3⟩ := open_i64 Und.eq h3
  obtain ⟨s, e4⟩ := open_sum h4
  obtain ⟨v, l, e5, r5⟩ := open_bytes h5
  refine ⟨⟨a, b, c, d, s, l⟩, v, ?_, r5, w0, w1, w2, w3⟩
  have := drop_cut (off := 0) (next := 1) rfl e0 (drop_cut (next := 2) rfl e1 (drop_cut (next := 3) rfl e2 (drop_cut (next := 4) rfl e3 (drop_cut (next := 36) rfl e4 (drop_cut (next := 37) rfl e5 (drop_end (hl.trans (by kernel_rfl))))))))
  simpa using this⟩
instance : Opens Try.prog 60 Txn := ⟨fun h => by
  obtain ⟨hl, _, _, h0⟩ := open_field 0 53 0 1 (by kernel_rfl) h
  obtain ⟨_, _, _, h1⟩ := open_field 1 54 1 1 (by kernel_rfl) h
  obtain ⟨_, _, _, h2⟩ := open_field 2 57 2 37 (by kernel_rfl) h
  obtain ⟨_, _, _, h3⟩ := open_field 3 58 39 1 (by kernel_rfl) h
  obtain ⟨vi, ins, e0, r0⟩ := open_SlR (α := Inp) Und.eq (by kernel_rfl) (by decide) h0
  obtain ⟨vo, outs, e1, r1⟩ := open_SlR (α := Out) Und.eq (by kernel_rfl) (by decide) h1
  obtain ⟨op, vd, e2, r2, w2⟩ := Opens.op (α := Opn) h2
  obtain ⟨vs, signs, e3, r3⟩ := open_SlR (α := Sgn) Und.eq (by kernel_rfl) (by decide) h3
  refine ⟨⟨ins, outs, op, signs⟩, vi, vo, vd, vs, ?_, r0, r1, r2, r3, w2⟩
  have := drop_cut (off := 0) (next := 1) rfl e0 (drop_cut (next := 2) rfl e1 (drop_cut (next := 39) rfl e2 (drop_cut (next := 40) rfl e3 (drop_end (hl.trans (by kernel_rfl))))))
  simpa using this⟩
end Go.Proofs.Ytdgdigliepncpaa
