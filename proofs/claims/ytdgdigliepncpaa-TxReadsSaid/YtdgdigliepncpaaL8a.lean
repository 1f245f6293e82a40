/-
  This text proves what the law's own right and rightOp tell.
  Conditions: none.
-/
import Derived.Test.YtdgdigliepncpaaTx5
import Derived.Test.YtdgdigliepncpaaTxC
import Derived.Test.YtdgdigliepncpaaStr
namespace Go.Proofs.Ytdgdigliepncpaa
open Go

section
variable {P : Program} {N : Nat} {X : Cx} {Q : Post} {K : Kont} {e : Env} {M : Mem} {A A' : Segs} {c : Code}
attribute [local semireducible] C in
theorem C.frz (b : Nat) {o : Obj} [t : TakeB A b o A'] (h : ∀ M', Prev M' M → At M' b o → C P N X c Q e M' A') : C P N X c Q e M A := fun a w hf hs => by
  obtain ⟨M', hp, hM, hst2⟩ := freeze_alloc (X := X) (A := A') (hs.perm t.perm)
  exact h M' hp hM a w hf hst2
end
theorem opRight_2 {o : Opn} (h : ¬ o.kind = 0) : opRight o = (decide (0 < o.kind) && decide (o.kind < 8) && decide (0 ≤ o.tower) && decide (o.tower < 16) && decide (0 ≤ o.channel) && decide (o.channel ≤ 1048576) && decide (0 ≤ o.amount) && decide (o.amount ≤ 1125899906842624) && decide ((o.data.length : Int) ≤ 65536)) := by
  unfold opRight; rw [if_neg h, Bool.eq_iff_iff]; simp; omega
theorem l8_rightOp (M : Mem) (cs : List Value) (o : Opn) (hy : Rep.R M cs o) : Fnv Try.prog 40 [aggv cs] M (.bool (opRight o)) := by
  obtain ⟨v, rfl, hd, hwd⟩ := hy
  have hs : SlM M 1 v o.data.length (bytesC o.data) := hd
  have i1 := hs.one
  have c1 := hs.cells
  refine Fnv.of (Fn.enter Try.func40 Try.ntmps40 rfl rfl (by simp only [initEnv, List.zipIdx_cons, List.zipIdx_nil, List.map_cons, List.map_nil, Nat.zero_add, Nat.reduceAdd]; rfl) fun w0 hw => ?_)
  refine Wg ?_
  refine L.bxM fun b1 M1 hp1 hb1 => ?_
  refine Wg ?_
  refine C.cond rfl (fun h5 => ?_) (fun h5 => ?_)
  · have h5 := of_decide_eq_true h5
    refine Wg ?_
    refine L.and 4 13 9 ?_
    refine Wg ?_
    refine L.and 4 18 14 ?_
    refine Wg ?_
    refine L.andH 5 24 19 rfl (fun h19 => by
          refine Wg ?_
          refine L.qh ?_ (Qt.bin rfl rfl BinRun.sumEq)
          refine Wg ?_
          refine Wf ?_
          exact Kj.mk
      ) ?_
    refine Wg ?_
    refine L.and 5 30 25 ?_
    refine Wg ?_
    exact Hands.ofT ([]) (rs := [.tmp 2]) rfl (.tmp rfl .nil) rfl (⟨rfl, by rw [opRight_0 h5]; rfl⟩)
  have h5 := of_decide_eq_false h5
  refine Wg ?_
  refine L.and 4 38 34 ?_
  refine Wg ?_
  refine L.and 4 43 39 ?_
  refine Wg ?_
  refine L.and 4 48 44 ?_
  refine Wg ?_
  refine L.and 4 53 49 ?_
  refine Wg ?_
  refine L.and 4 58 54 ?_
  refine Wg ?_
  refine L.and 4 63 59 ?_
  refine Wg ?_
  refine L.and 4 68 64 ?_
  refine Wg ?_
  refine L.and 5 74 69 ?_
  refine Wg ?_
  exact Hands.ofT ([]) (rs := [.tmp 2]) rfl (.tmp rfl .nil) rfl (⟨rfl, by rw [opRight_2 h5]; rfl⟩)

theorem inRight_eq2 (x : Inp) : inRight x = !(decide (x.ref.at_ < 0) || decide (15 < x.ref.at_) || decide (x.way < 0) || decide (15 < x.way) || decide (64 < (x.pre.length : Int))) := by
  unfold inRight; rw [Bool.eq_iff_iff]; simp; omega
set_option maxHeartbeats 2000000 in
theorem l8_right (M : Mem) (cs : List Value) (t : Txn) (ht : Rep.R M cs t) : Fnv Try.prog 38 [aggv cs] M (.bool (txRight t)) := by
  obtain ⟨vi, vo, vd, vs, rfl, hi, ho, hd, hs, hwd⟩ := ht
  have hil := hi.le
  have hol := ho.le
  have hsl := hs.le
  obtain ⟨ics, his, hir⟩ := hi
  obtain ⟨ocs, hos, hor⟩ := ho
  have hs0 := hs
  obtain ⟨scs, hss, hsr⟩ := hs
  have i1 := his.one
  have c1 := his.cells
  have i2 := hos.one
  have c2 := hos.cells
  have i3 := SlM.one hd
  have c3 := SlM.cells hd
  have i4 := hss.one
  have c4 := hss.cells
  refine Fnv.of (Fn.enter Try.func38 Try.ntmps38 rfl rfl (by simp only [initEnv, List.zipIdx_cons, List.zipIdx_nil, List.map_cons, List.map_nil, Nat.zero_add, Nat.reduceAdd]; rfl) fun w0 hw => ?_)
  refine Wg ?_
  refine L.bxM fun b1 M1 hp1 hb1 => ?_
  refine Wg ?_
  refine L.or 5 18 13 ?_
  refine Wg ?_
  refine L.or 5 24 19 ?_
  refine Wg ?_
  refine L.orM 5 30 25 rfl (fun h25 => by
        refine Wg ?_
        refine L.cv (l8_rightOp _ _ t.op ⟨vd, rfl, BytesM.up hd, hwd⟩) fun M2 hM2 => ?_
        refine Wg ?_
        refine Wf ?_
        exact KjM.mk
    ) (fun M1 hM1 => ?_)
  refine Wg ?_
  refine L.orH 11 42 31 rfl (fun h31 => by
        refine Wg ?_
        refine L.and 5 41 36 ?_
        refine Wg ?_
        refine Wf ?_
        exact Kj.mk
    ) ?_
  refine Wg ?_
  refine C.cond rfl (fun h42 => ?_) (fun h42 => ?_)
  · refine Wg ?_
    exact Hands.ofT ([]) (rs := [.tmp 2]) rfl (.tmp rfl .nil) rfl (⟨rfl, by rw [txRight_eq, h42]; rfl⟩)
  have hg : txRight t = (insOk [] t.ins && (keysOk (t.signs.map (·.key)) && t.outs.all outRight)) := by rw [txRight_eq, h42]; rfl
  rw [hg]
  refine Wg ?_
  refine C.loopF (σ := Nat) (fun s => [(1, ptr b1 0), (3, int64 s)]) (fun s => []) (fun s M' => insOk (t.ins.take s) (t.ins.drop s) = insOk [] t.ins ∧ s ≤ t.ins.length) (fun s => t.ins.length - s) 0 ?_ ?_ ?_ ?_
  · exact (.cons rfl rfl (.cons rfl rfl .nil))
  · first | exact Forget.rf | ((try dsimp only); exact Forget.go)
  · exact ⟨rfl, by simp⟩
  · rintro i M2 hM2 ⟨hgo, hi⟩
    try dsimp only at hgo hi
    refine C.as [(1, ptr b1 0), (3, int64 i)] ([]) ?_
    refine Wg ?_
    refine C.cond rfl (fun hlt => ?_) (fun hlt => ?_)
    · have hlt := of_decide_eq_true hlt
      have hlt' : i < t.ins.length := by omega
      have hel := his.up (M' := M2) |>.el hlt'
      have hre := (hir.up (M' := M2)).el hlt'
      rw [List.drop_eq_getElem_cons hlt', insOk_cons, ← List.take_succ_eq_append_getElem hlt', inRight_eq2] at hgo
      generalize List.take (Rep.sz Inp) _ = ci at hel hre
      generalize t.ins[i] = x at hgo hre
      have hre' := hre
      obtain ⟨v, rfl, hpre, hra, hrw⟩ := hre
      have j1 := SlM.one hpre
      have d1 := SlM.cells hpre
      refine Wg ?_
      refine L.al fun b4 => ?_
      refine Wg ?_
      refine L.or 5 64 59 ?_
      refine Wg ?_
      refine L.or 4 69 65 ?_
      refine Wg ?_
      refine L.or 4 74 70 ?_
      refine Wg ?_
      refine L.or 5 80 75 ?_
      refine Wg ?_
      refine C.frz b4 fun Mz4 hMz4 hx4 => ?_
      refine C.cond rfl (fun h80 => ?_) (fun h80 => ?_)
      · rw [h80] at hgo
        refine Wg ?_
        exact Hands.ofT ([]) (rs := [.tmp 2]) rfl (.tmp rfl .nil) rfl (⟨rfl, by rw [← hgo]; rfl⟩)
      rw [h80] at hgo
      refine Wg ?_
      refine C.loopF (σ := Nat) (fun s => [(1, ptr b1 0), (3, int64 i), (4, ptr b4 0), (5, int64 s)]) (fun s => []) (fun s M' => (((t.ins.take i).drop s).any fun y => decide (y.ref = x.ref)) = ((t.ins.take i).any fun y => decide (y.ref = x.ref)) ∧ s ≤ i) (fun s => i - s) 0 ?_ ?_ ?_ ?_
      · exact (.cons rfl rfl (.cons rfl rfl (.cons rfl rfl (.cons rfl rfl .nil))))
      · first | exact Forget.rf | ((try dsimp only); exact Forget.go)
      · exact ⟨rfl, by simp⟩
      · rintro k M3 hM3 ⟨hgk, hk⟩
        try dsimp only at hgk hk
        refine C.as [(1, ptr b1 0), (3, int64 i), (4, ptr b4 0), (5, int64 k)] ([]) ?_
        refine Wg ?_
        refine C.cond rfl (fun hkt => ?_) (fun hkt => ?_)
        · have hkt := of_decide_eq_true hkt
          have hkt' : k < (t.ins.take i).length := by rw [List.length_take]; omega
          have hel3 := his.up (M' := M3) |>.el (i := k) (by omega)
          have hre3 := (hir.up (M' := M3)).el (i := k) (by omega)
          rw [List.drop_eq_getElem_cons hkt', List.any_cons, List.getElem_take] at hgk
          generalize List.take (Rep.sz Inp) _ = ck at hel3 hre3
          generalize t.ins[k] = y at hgk hre3
          obtain ⟨v3, rfl, hpre3, hra3, hrw3⟩ := hre3
          have j3 := SlM.one hpre3
          have d3 := SlM.cells hpre3
          refine Wg ?_
          refine C.drw [] [] ?_
          refine LA.ta 0 ?_
          refine LA.ta 1 ?_
          refine LA.ta 2 ?_
          refine LA.ta 3 ?_
          refine LA.ta 4 ?_
          refine LA.ta 5 ?_
          refine LA.ta 6 ?_
          refine LA.ta 7 ?_
          refine LA.th 8 rfl ?_ (Qt.bin rfl rfl (BinRun.rfEq (a := y.ref) (b := x.ref)))
          refine LA.dn ?_
          try dsimp only
          refine Wg ?_
          refine C.cond rfl (fun h94 => ?_) (fun h94 => ?_)
          · rw [h94] at hgk
            rw [← hgk] at hgo
            refine Wg ?_
            exact Hands.ofT ([]) (rs := [.tmp 2]) rfl (.tmp rfl .nil) rfl (⟨rfl, by rw [← hgo]; rfl⟩)
          rw [h94] at hgk
          refine Wg ?_
          refine Wo ?_
          refine Wg ?_
          refine ⟨k + 1, (.cons rfl rfl (.cons rfl rfl (.cons rfl rfl (.cons rfl rfl .nil)))), (by first | exact Forget.rf | ((try dsimp only); exact Forget.go)), inferInstance, ⟨by simpa using hgk, (by first | omega | (dsimp only; omega))⟩, (by first | omega | (dsimp only; omega))⟩
        have hkt := of_decide_eq_false hkt
        have e3 : k = i := by omega
        subst e3
        rw [List.drop_of_length_le (by rw [List.length_take]; omega)] at hgk
        rw [← hgk] at hgo
        refine Wg ?_
        refine Wo ?_
        refine Wg ?_
        refine ⟨k + 1, (.cons rfl rfl (.cons rfl rfl .nil)), (by first | exact Forget.rf | ((try dsimp only); exact Forget.go)), inferInstance, ⟨by simpa using hgo, (by first | omega | (dsimp only; omega))⟩, (by first | omega | (dsimp only; omega))⟩
    have hlt := of_decide_eq_false hlt
    have e1 : i = t.ins.length := by omega
    subst e1
    rw [List.drop_length, insOk] at hgo
    rw [← hgo, Bool.true_and, Bool.and_comm]
    refine Wg ?_
    refine C.loopF (σ := Nat) (fun s => [(1, ptr b1 0), (6, int64 s)]) (fun s => []) (fun s M' => (t.outs.drop s).all outRight = t.outs.all outRight ∧ s ≤ t.outs.length) (fun s => t.outs.length - s) 0 ?_ ?_ ?_ ?_
    · exact (.cons rfl rfl (.cons rfl rfl .nil))
    · first | exact Forget.rf | ((try dsimp only); exact Forget.go)
    · exact ⟨rfl, by simp⟩
    · rintro j Mj hMj ⟨hgo2, hj⟩
      try dsimp only at hgo2 hj
      refine C.as [(1, ptr b1 0), (6, int64 j)] ([]) ?_
      refine Wg ?_
      refine C.cond rfl (fun hlt2 => ?_) (fun hlt2 => ?_)
      · have hlt2 := of_decide_eq_true hlt2
        have hlt' : j < t.outs.length := by omega
        have hel := hos.up (M' := Mj) |>.el hlt'
        have hre := (hor.up (M' := Mj)).el hlt'
        rw [List.drop_eq_getElem_cons hlt', List.all_cons] at hgo2
        generalize List.take (Rep.sz Out) _ = ci at hel hre
        generalize t.outs[j] = x at hgo2 hre
        have hre' := hre
        obtain ⟨vw, rfl, hww, hwa⟩ := hre
        have ik := hww.one
        have ck := hww.cells
        refine Wg ?_
        refine L.cv (lock_rightOut _ _ x hre') fun M4 hM4 => ?_
        refine Wg ?_
        refine C.cond rfl (fun h108 => ?_) (fun h108 => ?_)
        · have hr : outRight x = false := by simpa using h108
          rw [hr] at hgo2
          refine Wg ?_
          exact Hands.ofT ([]) (rs := [.tmp 2]) rfl (.tmp rfl .nil) rfl (⟨rfl, by rw [← hgo2]; rfl⟩)
        have hr : outRight x = true := by simpa using h108
        rw [hr] at hgo2
        refine Wg ?_
        refine Wo ?_
        refine Wg ?_
        refine ⟨j + 1, (.cons rfl rfl (.cons rfl rfl .nil)), (by first | exact Forget.rf | ((try dsimp only); exact Forget.go)), inferInstance, ⟨by simpa using hgo2, (by first | omega | (dsimp only; omega))⟩, (by first | omega | (dsimp only; omega))⟩
      have hlt2 := of_decide_eq_false hlt2
      have e2 : j = t.outs.length := by omega
      subst e2
      rw [List.drop_length] at hgo2
      rw [← hgo2]
      refine Wg ?_
      refine C.loopF (σ := Nat) (fun s => [(1, ptr b1 0), (7, int64 s)]) (fun s => []) (fun s M' => rise (prevK (t.signs.map (·.key)) s) ((t.signs.map (·.key)).drop s) = keysOk (t.signs.map (·.key)) ∧ s ≤ t.signs.length) (fun s => t.signs.length - s) 0 ?_ ?_ ?_ ?_
      · exact (.cons rfl rfl (.cons rfl rfl .nil))
      · first | exact Forget.rf | ((try dsimp only); exact Forget.go)
      · exact ⟨rfl, by simp⟩
      · rintro n Mn hMn ⟨hgo3, hn⟩
        try dsimp only at hgo3 hn
        refine C.as [(1, ptr b1 0), (7, int64 n)] ([]) ?_
        refine Wg ?_
        refine C.cond rfl (fun hlt3 => ?_) (fun hlt3 => ?_)
        · have hlt3 := of_decide_eq_true hlt3
          have hlt' : n < t.signs.length := by omega
          obtain ⟨sg, hsg, hel, hsk, hkd⟩ := sgn_el hs0 hlt'
          rw [rise_step _ _ (by simpa using hlt'), hkd] at hgo3
          refine Wg ?_
          refine L.split 124 rfl (fun h124 => ?_) (fun h124 => ?_)
          · rw [h124] at hgo3
            refine Wg ?_
            exact Hands.ofT ([]) (rs := [.tmp 2]) rfl (.tmp rfl .nil) rfl (⟨rfl, by rw [← hgo3]; rfl⟩)
          refine Wg ?_
          refine L.split 128 rfl (fun h128 => ?_) (fun h128 => ?_)
          · rw [h124, h128] at hgo3
            refine Wg ?_
            exact Hands.ofT ([]) (rs := [.tmp 2]) rfl (.tmp rfl .nil) rfl (⟨rfl, by rw [← hgo3]; rfl⟩)
          refine Wg ?_
          refine L.split 131 rfl (fun h131 => ?_) (fun h131 => ?_)
          rotate_left
          · rw [h124, h128, h131] at hgo3
            refine Wg ?_
            refine Wo ?_
            refine Wg ?_
            refine ⟨n + 1, (.cons rfl rfl (.cons rfl rfl .nil)), (by first | exact Forget.rf | ((try dsimp only); exact Forget.go)), inferInstance, ⟨by simpa using hgo3, (by first | omega | (dsimp only; omega))⟩, (by first | omega | (dsimp only; omega))⟩
          have hi0 : 0 < n := by simpa using h131
          obtain ⟨sg2, hsg2, hel2, hsk2, hkd2⟩ := sgn_el hs0 (i := n - 1) (by omega)
          rw [h124, h128, h131, hkd2] at hgo3
          refine Wg ?_
          refine L.qh ?_ (Qt.bin rfl rfl (BinRun.sub (sub1 hi0 (by omega))))
          refine Wg ?_
          refine C.cond rfl (fun h142 => ?_) (fun h142 => ?_)
          · rw [h142] at hgo3
            refine Wg ?_
            exact Hands.ofT ([]) (rs := [.tmp 2]) rfl (.tmp rfl .nil) rfl (⟨rfl, by rw [← hgo3]; rfl⟩)
          rw [h142] at hgo3
          refine Wg ?_
          refine Wo ?_
          refine Wg ?_
          refine ⟨n + 1, (.cons rfl rfl (.cons rfl rfl .nil)), (by first | exact Forget.rf | ((try dsimp only); exact Forget.go)), inferInstance, ⟨by simpa using hgo3, (by first | omega | (dsimp only; omega))⟩, (by first | omega | (dsimp only; omega))⟩
        have hlt3 := of_decide_eq_false hlt3
        have e4 : n = t.signs.length := by omega
        subst e4
        have hlen : (t.signs.map (·.key)).length = t.signs.length := by simp
        rw [← hlen, rise_end] at hgo3
        refine Wg ?_
        exact Hands.ofT ([]) (rs := [.tmp 2]) rfl (.tmp rfl .nil) rfl (⟨rfl, by rw [← hgo3]; rfl⟩)

end Go.Proofs.Ytdgdigliepncpaa
