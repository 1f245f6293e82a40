/-
  This text proves that the law's own example holds.
  Conditions: none.
-/
import Derived.Test.YtdgdigliepncpaaTx5
import Derived.Test.YtdgdigliepncpaaTxC
import Derived.Test.YtdgdigliepncpaaStr
namespace Go.Proofs.Ytdgdigliepncpaa
open Go
def inp0 : Inp := ⟨⟨zsum, 0⟩, 0, []⟩
def aw0 : Txn := ⟨[inp0], [], op0, []⟩
noncomputable def aw1 : Txn := signed1 aw0 5
theorem aw1_right : txRight aw1 = true := rfl
theorem aw1_bytes : txBytes aw1 = (txB aw1, 0) := by unfold txBytes; rw [if_pos aw1_right]
theorem aw1_same : txSame aw1 aw1 = true := by unfold txSame; rw [aw1_bytes]; simp
theorem aw1_keys : txKeys aw1 = [5] := by
  have h : txSum aw1 = txSum aw0 := rfl
  unfold txKeys
  rw [h]
  simp [aw1, signed1]
theorem aw1_wide : opWide aw1.op := ⟨⟨by decide, by decide⟩, ⟨by decide, by decide⟩, ⟨by decide, by decide⟩, ⟨by decide, by decide⟩⟩
theorem l8_right0 (M : Mem) : Fnv Try.prog 37 [aggv (txC op0 nilV nilV nilV nilV)] M (.bool false) := tx_right M _ txn0 (rep_txn0 M)
theorem l8_same (M : Mem) (ca cb : List Value) (ha : Rep.R M ca aw1) (hb : Rep.R M cb aw1) : Fnv Try.prog 45 [aggv ca, aggv cb] M (.bool true) := by
  have := tx_same M ca cb _ _ ha hb
  rwa [aw1_same] at this
theorem l8_bytes (M : Mem) (cs : List Value) (h : Rep.R M cs aw1) : Fn0 Try.prog 44 [aggv cs] M fun r M' => ∃ v, r = .tuple #[v, int64 0] ∧ BytesM M' v (txB aw1) := by
  have := tx_bytes M cs _ h
  rwa [aw1_bytes] at this
theorem l8_read (M : Mem) (v : Value) (h : BytesM M v (txB aw1)) : Fn0 Try.prog 48 [v] M fun r M' => ∃ cs, r = .tuple #[aggv cs, int64 0] ∧ Rep.R M' cs aw1 := by
  have := tx_read M v _ h (by have := (txB_le aw1_right aw1_wide true).2; omega)
  rwa [txRead_full aw1_right] at this
theorem l8_keys (M : Mem) (cs : List Value) (h : Rep.R M cs aw1) : Fn0 Try.prog 117 [aggv cs] M fun r M' => IntsM M' r [5] := by
  have := tx_keys M cs _ h (by have := (txB_le aw1_right aw1_wide false).1; omega) (by decide)
  rwa [aw1_keys] at this
set_option maxHeartbeats 1000000 in
theorem l8_awake (M : Mem) : Fnv Try.prog 36 [] M (.bool true) := by
  refine Fnv.of (Fn.enter Try.func36 Try.ntmps36 rfl rfl (by simp only [initEnv, List.zipIdx_cons, List.zipIdx_nil, List.map_cons, List.map_nil, Nat.zero_add, Nat.reduceAdd]; rfl) fun w0 hw => ?_)
  refine Wg ?_
  refine L.bsM fun b7 M7 hp7 hb7 => ?_
  refine Wg ?_
  refine L.bsM fun b9 M9 hp9 hb9 => ?_
  refine L.c0 (tx_signed1 _ aw0 5 _ _ nilV nilV ⟨_, SlM.ofRow (sz := 35) (n := 1) (c := 1) hb7.up rfl (by decide) (by decide), RepL.one ⟨nilV, rfl, BytesM.nil, ⟨by decide, by decide⟩, ⟨by decide, by decide⟩⟩⟩ SlR.nil BytesM.nil ⟨⟨by decide, by decide⟩, ⟨by decide, by decide⟩, ⟨by decide, by decide⟩, ⟨by decide, by decide⟩⟩ rfl (IntsM.row (ns := [5]) hb9 (by decide)) ⟨by decide, by decide⟩ (by have := (txB_le aw1_right aw1_wide false).1; have e : bodyB aw1 false = bodyB aw0 false := rfl; rw [e] at this; omega)) fun r1 M1 hM1 hR1 => ?_
  obtain ⟨cs1, rfl, ht1⟩ := hR1
  have o1 : Ones cs1 := Rep.ones ht1
  have l1 : Len cs1 40 := ⟨Rep.len ht1⟩
  have f1 : Fst cs1 40 cs1 := ⟨List.take_of_length_le (Nat.le_of_eq (Rep.len ht1)), Nat.le_of_eq (Rep.len ht1).symm⟩
  refine L.al fun b1 => ?_
  refine Wg ?_
  refine L.c0 (l8_bytes _ cs1 (Rep.up ht1 inferInstance)) fun r2 M2 hM2 hR2 => ?_
  obtain ⟨v2, rfl, hv2⟩ := hR2
  have iv := SlM.one hv2
  have cv := SlM.cells hv2
  refine Wg ?_
  refine L.c0 (l8_read _ v2 hv2.up) fun r3 M3 hM3 hR3 => ?_
  obtain ⟨cs3, rfl, ht3⟩ := hR3
  have o3 : Ones cs3 := Rep.ones ht3
  have l3 : Len cs3 40 := ⟨Rep.len ht3⟩
  have f3 : Fst cs3 40 cs3 := ⟨List.take_of_length_le (Nat.le_of_eq (Rep.len ht3)), Nat.le_of_eq (Rep.len ht3).symm⟩
  refine Wg ?_
  refine L.al fun b4 => ?_
  refine Wg ?_
  refine L.cv (l8_right0 _) fun M4 hM4 => ?_
  refine Wg ?_
  refine L.split 28 rfl (fun h28 => ?_) (fun h28 => ?_)
  rotate_left
  · exact absurd h28 (by decide)
  refine Wg ?_
  refine L.split 32 rfl (fun h32 => ?_) (fun h32 => ?_)
  rotate_left
  · exact absurd h32 (by decide)
  refine Wg ?_
  refine L.cv (l8_same _ cs3 cs1 (Rep.up ht3 inferInstance) (Rep.up ht1 inferInstance)) fun M5 hM5 => ?_
  refine Wg ?_
  refine L.c0 (l8_keys _ cs3 (Rep.up ht3 inferInstance)) fun r6 M6 hM6 hR6 => ?_
  have k6 : SlM M6 1 r6 1 [int64 5] := hR6.1
  have j6 := k6.one
  have d6 := k6.cells
  refine Wg ?_
  refine L.split 43 rfl (fun h43 => ?_) (fun h43 => ?_)
  rotate_left
  · exact absurd h43 (by decide)
  refine Wg ?_
  refine L.c0 (l8_keys _ cs3 (Rep.up ht3 inferInstance)) fun r7 M7 hM7 hR7 => ?_
  have k7 : SlM M7 1 r7 1 [int64 5] := hR7.1
  have j7 := k7.one
  have d7 := k7.cells
  have hel : El M7 r7 (0 * 1) [int64 5] := hR7.el (i := 0) (by simp)
  refine Wg ?_
  exact Hands.ofT ([]) (rs := [.tmp 0]) rfl (.tmp rfl .nil) rfl (⟨rfl, rfl⟩)

end Go.Proofs.Ytdgdigliepncpaa
