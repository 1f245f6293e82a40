/-
  This text proves that the law TxReads answers true.
  Conditions: none.
-/
import Derived.Test.YtdgdigliepncpaaL8a
import Derived.Test.YtdgdigliepncpaaL8b
import Derived.Test.YtdgdigliepncpaaL8c
import Derived.Test.YtdgdigliepncpaaL8d
namespace Go.Proofs.Ytdgdigliepncpaa
open Go

theorem txReads_bad {b : List UInt8} {t x : Txn} {e : Int} (hr : txRead b = (x, e)) (he : ¬ e = 0) : x = txn0 ∧ ((!decide ((txBytes t).1 = b)) || !txRight t) = true := by
  have h1 : (txRead b).2 ≠ 0 := by rw [hr]; exact he
  refine ⟨by have := txRead_bad h1; rw [hr] at this; exact this, ?_⟩
  cases hk : txRight t
  · simp
  · have : ¬ (txBytes t).1 = b := by
      intro h
      unfold txBytes at h
      rw [if_pos hk] at h
      have := txRead_full hk
      rw [← h] at h1
      dsimp only at h1
      rw [this] at h1
      exact h1 rfl
    simp [this]
theorem txReads_ok {b : List UInt8} {x : Txn} (hr : txRead b = (x, 0)) : txRight x = true ∧ (txBytes x).2 = 0 ∧ (txBytes x).1 = b := by
  obtain ⟨h1, h2⟩ := txRead_ok (b := b) (by rw [hr])
  rw [hr] at h1 h2
  unfold txBytes
  rw [if_pos h1]
  exact ⟨h1, rfl, h2⟩
set_option maxHeartbeats 2000000 in
theorem l8_txReads (M : Mem) (v : Value) (b : List UInt8) (cs : List Value) (t : Txn) (hv : BytesM M v b) (ht : Rep.R M cs t) : Fnv Try.prog 5 [v, aggv cs] M (.bool true) := by
  have hvl : b.length ≤ 9223372036854775807 := SlM.le hv
  have fi : Fst cs 40 cs := ⟨List.take_of_length_le (Nat.le_of_eq (Rep.len ht)), Nat.le_of_eq (Rep.len ht).symm⟩
  have o0 : Ones cs := Rep.ones ht
  have l0 : Len cs 40 := ⟨Rep.len ht⟩
  have iv := SlM.one hv
  have cv := SlM.cells hv
  generalize hg : txRead b = g
  obtain ⟨x, e⟩ := g
  refine Fnv.of (Fn.enter Try.func5 Try.ntmps5 rfl rfl (by simp only [initEnv, List.zipIdx_cons, List.zipIdx_nil, List.map_cons, List.map_nil, Nat.zero_add, Nat.reduceAdd]; rfl) fun w0 hw => ?_)
  refine Wg ?_
  refine L.bxM fun b3 M3 hp3 hb3 => ?_
  refine Wg ?_
  refine L.orM 4 18 14 rfl (fun h14 => by
        refine Wg ?_
        refine L.cv (l8_small _ cs t (Rep.up ht inferInstance)) fun M2 hM2 => ?_
        refine Wg ?_
        refine Wf ?_
        exact KjM.mk
    ) (fun M1 hM1 => ?_)
  refine Wg ?_
  refine C.cond rfl (fun h18 => ?_) (fun h18 => ?_)
  · refine Wg ?_
    refine L.cv (l8_awake _) fun M3 hM3 => ?_
    refine Wg ?_
    exact Hands.ofT ([]) (rs := [.tmp 4]) rfl (.tmp rfl .nil) rfl (⟨rfl, rfl⟩)
  have hbl : b.length ≤ 3000 := by simp at h18; omega
  refine Wg ?_
  refine L.c0 (tx_read _ v b (BytesM.up hv) (by omega)) fun r4 M4 hM4 hR4 => ?_
  obtain ⟨cx, hr2, hx⟩ := hR4
  rw [hg] at hr2 hx
  dsimp only at hr2 hx
  subst hr2
  have hx0 := hx
  obtain ⟨vi, vo, vd, vs, rfl, hi, ho, hd, hs, hwd⟩ := hx
  have i1 := hi.one
  have c1 := hi.cells
  have i2 := ho.one
  have c2 := ho.cells
  have i3 := SlM.one hd
  have c3 := SlM.cells hd
  have i4 := hs.one
  have c4 := hs.cells
  obtain ⟨ics, his, hir⟩ := hi
  obtain ⟨ocs, hos, hor⟩ := ho
  obtain ⟨scs, hss, hsr⟩ := hs
  refine Wg ?_
  refine L.al fun b5 => ?_
  refine Wg ?_
  refine L.c0 (tx_bytes _ cs t (Rep.up ht inferInstance)) fun r5 M5 hM5 hR5 => ?_
  obtain ⟨v2, rfl, hv2⟩ := hR5
  have j2 := SlM.one hv2
  have d2 := SlM.cells hv2
  refine Wg ?_
  refine C.cond rfl (fun h31 => ?_) (fun h31 => ?_)
  · have h31 := of_decide_eq_true h31
    obtain ⟨hx1, hbad⟩ := txReads_bad (t := t) hg h31
    have e1 : x.ins.length = 0 := by rw [hx1]; rfl
    have e2 : x.outs.length = 0 := by rw [hx1]; rfl
    have e3 : x.signs.length = 0 := by rw [hx1]; rfl
    have e4 : x.op.data.length = 0 := by rw [hx1]; rfl
    refine Wg ?_
    refine Wo ?_
    refine Wg ?_
    refine Wo ?_
    refine Wg ?_
    refine Wo ?_
    refine Wg ?_
    refine L.andM 11 60 49 rfl (fun h49 => by
          refine Wg ?_
          refine L.qh ?_ (Qt.toStr rfl hv2)
          refine Wg ?_
          refine L.qh ?_ (Qt.toStr rfl hv)
          refine L.qh ?_ (Qt.bin rfl rfl BinRun.strne)
          refine Wg ?_
          refine L.orM 4 59 55 rfl (fun h55 => by
                refine Wg ?_
                refine L.cv (l8_right _ cs t (Rep.up ht inferInstance)) fun M8 hM8 => ?_
                refine Wg ?_
                refine Wf ?_
                exact KjM.mk
            ) (fun M7 hM7 => ?_)
          refine Wg ?_
          refine Wf ?_
          exact KjM.mk
      ) (fun M6 hM6 => ?_)
    refine Wg ?_
    refine L.andM 2 63 61 rfl (fun h61 => by
          refine Wg ?_
          refine L.cv (l8_awake _) fun M10 hM10 => ?_
          refine Wg ?_
          refine Wf ?_
          exact KjM.mk
      ) (fun M9 hM9 => ?_)
    refine Wg ?_
    exact Hands.ofT ([]) (rs := [.tmp 4]) rfl (.tmp rfl .nil) rfl (⟨rfl, by simp [e1, e2, e3, e4]; rw [hbad]; rfl⟩)
  have h31 := of_decide_eq_false h31
  have e0 : e = 0 := by omega
  subst e0
  obtain ⟨k1, k2, k3⟩ := txReads_ok hg
  refine Wg ?_
  refine L.c0 (tx_bytes _ _ x (Rep.up hx0 inferInstance)) fun r11 M11 hM11 hR11 => ?_
  obtain ⟨v7, rfl, hv7⟩ := hR11
  have j7 := SlM.one hv7
  have d7 := SlM.cells hv7
  refine Wg ?_
  refine L.cv (l8_right _ _ x (Rep.up hx0 inferInstance)) fun M12 hM12 => ?_
  refine Wg ?_
  refine L.and 3 74 71 ?_
  refine Wg ?_
  refine L.andH 6 81 75 rfl (fun h75 => by
        refine Wg ?_
        refine L.qh ?_ (Qt.toStr rfl hv7)
        refine Wg ?_
        refine L.qh ?_ (Qt.toStr rfl hv)
        refine L.qh ?_ (Qt.bin rfl rfl BinRun.streq)
        refine Wg ?_
        refine Wf ?_
        exact Kj.mk
    ) ?_
  refine Wg ?_
  refine L.andM 2 84 82 rfl (fun h82 => by
        refine Wg ?_
        refine L.cv (l8_awake _) fun M15 hM15 => ?_
        refine Wg ?_
        refine Wf ?_
        exact KjM.mk
    ) (fun M14 hM14 => ?_)
  refine Wg ?_
  exact Hands.ofT ([]) (rs := [.tmp 4]) rfl (.tmp rfl .nil) rfl (⟨rfl, by simp [k1, k2, k3]; rfl⟩)

end Go.Proofs.Ytdgdigliepncpaa
