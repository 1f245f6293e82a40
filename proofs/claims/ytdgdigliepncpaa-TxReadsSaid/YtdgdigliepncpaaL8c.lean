/-
  This text proves what the law's own front writes.
  Conditions: none.
-/
import Derived.Test.YtdgdigliepncpaaTx5
import Derived.Test.YtdgdigliepncpaaTxC
import Derived.Test.YtdgdigliepncpaaStr
namespace Go.Proofs.Ytdgdigliepncpaa
open Go
attribute [local irreducible] numB

set_option maxHeartbeats 4000000 in
theorem l8_front (M : Mem) (cs : List Value) (t : Txn) (shown : Bool) (ht : Rep.R M cs t) (hb : (bodyB t shown).length ≤ 1099511627000) :
    Fn0 Try.prog 43 [aggv cs, .bool shown] M fun r M' => BytesM M' r (bodyB t shown) := by
  obtain ⟨vi, vo, vd, vs, rfl, hi, ho, hd, hs, hwd⟩ := ht
  have hil := hi.le
  have hol := ho.le
  obtain ⟨ics, his, hir⟩ := hi
  obtain ⟨ocs, hos, hor⟩ := ho
  have i1 := his.one
  have c1 := his.cells
  have i2 := hos.one
  have c2 := hos.cells
  have i3 := SlM.one hd
  have c3 := SlM.cells hd
  have i4 := hs.one
  have c4 := hs.cells
  obtain ⟨hw1, hw2, hw3, hw4⟩ := hwd
  have hbl := hb
  simp only [bodyB, opB, List.length_append] at hbl
  refine Fn0.of (Fn.enter Try.func43 Try.ntmps43 rfl rfl (by simp only [initEnv, List.zipIdx_cons, List.zipIdx_nil, List.map_cons, List.map_nil, Nat.zero_add, Nat.reduceAdd]; rfl) fun w0 hw => ?_)
  refine Wg ?_
  refine L.bxM fun b2 M2 hp2 hb2 => ?_
  refine Wg ?_
  refine L.al fun b5 => ?_
  refine Wg ?_
  refine L.cl (pen_num b5 (t.ins.length : Int) [] _ _ (pen_nil b5) (by omega) (by simp)) fun r1 M1 H1 hM1 hR1 => ?_
  obtain ⟨rfl, hp1⟩ := hR1
  refine Wg ?_
  refine C.loopF (σ := Nat × List UInt8 × Hp) (fun s => [(1, .bool shown), (2, ptr b2 0), (5, ptr b5 0), (6, int64 s.1)]) (fun s => [s.2.2]) (fun s M' => PenH b5 s.2.1 s.2.2 ∧ s.2.1 ++ ((t.ins.drop s.1).flatMap (inB shown) ++ (numB t.outs.length ++ t.outs.flatMap outB ++ opB t.op)) = bodyB t shown ∧ s.1 ≤ t.ins.length) (fun s => t.ins.length - s.1) (0, [] ++ numB (t.ins.length : Int), H1) ?_ ?_ ?_ ?_
  · exact (.cons rfl rfl (.cons rfl rfl (.cons rfl rfl (.cons rfl rfl .nil))))
  · first | exact Forget.rf | ((try dsimp only); exact Forget.go)
  · exact ⟨hp1, by simp [bodyB], by simp⟩
  · rintro ⟨i, l', H2⟩ M2 hM2 ⟨hp2, hgo, hi⟩
    try dsimp only at hp2 hgo hi
    refine C.as [(1, .bool shown), (2, ptr b2 0), (5, ptr b5 0), (6, int64 i)] ([H2]) ?_
    refine Wg ?_
    refine C.cond rfl (fun hlt => ?_) (fun hlt => ?_)
    · have hlt := of_decide_eq_true hlt
      have hlt' : i < t.ins.length := by omega
      have hel := his.up (M' := M2) |>.el hlt'
      have hre := (hir.up (M' := M2)).el hlt'
      generalize List.take (Rep.sz Inp) _ = ci at hel hre
      rw [List.drop_eq_getElem_cons hlt', List.flatMap_cons] at hgo
      generalize t.ins[i] = x at hgo hre
      obtain ⟨vp, rfl, hpre, hra, hrw⟩ := hre
      have hlen := congrArg List.length hgo
      rw [← hlen] at hb
      simp only [inB, List.length_append] at hb
      have ik := SlM.one hpre
      have ck := SlM.cells hpre
      refine Wg ?_
      refine L.al fun b7 => ?_
      refine Wg ?_
      refine C.drw [] [b7] ?_
      refine LA.ta 0 ?_
      refine LA.ta 1 ?_
      refine LA.ta 2 ?_
      refine LA.ta 4 ?_
      refine LA.ta 5 ?_
      refine LA.ta 6 ?_
      refine LA.ta 8 ?_
      refine LA.ta 9 ?_
      refine LA.e1 3 ?_
      refine L.cl (pen_sum b5 x.ref.tx l' _ H2 hp2 (by omega)) fun r2 M2 H2 hM2 hR2 => ?_
      obtain ⟨rfl, hp3⟩ := hR2
      refine L.nil ⟨fun _ => ⟨Sub.le, by simp⟩, ?_⟩
      refine LA.e1 7 ?_
      refine L.cl (pen_num b5 x.ref.at_ _ _ _ hp3 hra (by first | omega | (simp only [List.length_append]; omega))) fun r3 M3 H3 hM3 hR3 => ?_
      obtain ⟨rfl, hp3a⟩ := hR3
      refine L.nil ⟨fun _ => ⟨Sub.le, by simp⟩, ?_⟩
      refine LA.e1 10 ?_
      refine L.cl (pen_num b5 x.way _ _ _ hp3a hrw (by first | omega | (simp only [List.length_append]; omega))) fun r4 M4 H4 hM4 hR4 => ?_
      obtain ⟨rfl, hp4⟩ := hR4
      refine L.nil ⟨fun _ => ⟨Sub.le, by simp⟩, ?_⟩
      refine LA.dn ?_
      try dsimp only
      refine Wg ?_
      refine C.cond rfl (fun h35 => ?_) (fun h35 => ?_)
      · subst h35
        simp only [if_true, List.length_append] at hb
        refine Wg ?_
        refine L.cl (pen_text b5 vp x.pre _ _ _ hp4 (BytesM.up hpre) (by first | omega | (simp only [List.length_append]; omega))) fun r5 M5 H5 hM5 hR5 => ?_
        obtain ⟨rfl, hp5⟩ := hR5
        refine Wg ?_
        refine Wo ?_
        refine Wg ?_
        refine ⟨(i + 1, _, _), (.cons rfl rfl (.cons rfl rfl (.cons rfl rfl (.cons rfl rfl .nil)))), (by first | exact Forget.rf | ((try dsimp only); exact Forget.go)), inferInstance, ⟨hp5, by rw [← hgo]; simp [inB], (by first | omega | (dsimp only; omega))⟩, (by first | omega | (dsimp only; omega))⟩
      subst h35
      refine Wg ?_
      refine Wo ?_
      refine Wg ?_
      refine ⟨(i + 1, _, _), (.cons rfl rfl (.cons rfl rfl (.cons rfl rfl (.cons rfl rfl .nil)))), (by first | exact Forget.rf | ((try dsimp only); exact Forget.go)), inferInstance, ⟨hp4, by rw [← hgo]; simp [inB], (by first | omega | (dsimp only; omega))⟩, (by first | omega | (dsimp only; omega))⟩
    have hlt := of_decide_eq_false hlt
    have e1 : i = t.ins.length := by omega
    subst e1
    rw [List.drop_length, List.flatMap_nil, List.nil_append] at hgo
    have hlen := congrArg List.length hgo
    simp only [bodyB, opB, List.length_append] at hlen
    refine Wg ?_
    refine L.cl (pen_num b5 (t.outs.length : Int) l' _ _ hp2 (by omega) (by omega)) fun r6 M6 H6 hM6 hR6 => ?_
    obtain ⟨rfl, hp6⟩ := hR6
    refine Wg ?_
    refine C.loopF (σ := Nat × List UInt8 × Hp) (fun s => [(2, ptr b2 0), (5, ptr b5 0), (8, int64 s.1)]) (fun s => [s.2.2]) (fun s M' => PenH b5 s.2.1 s.2.2 ∧ s.2.1 ++ ((t.outs.drop s.1).flatMap outB ++ opB t.op) = bodyB t shown ∧ s.1 ≤ t.outs.length) (fun s => t.outs.length - s.1) (0, l' ++ numB (t.outs.length : Int), H6) ?_ ?_ ?_ ?_
    · exact (.cons rfl rfl (.cons rfl rfl (.cons rfl rfl .nil)))
    · first | exact Forget.rf | ((try dsimp only); exact Forget.go)
    · exact ⟨hp6, by rw [← hgo]; simp, by simp⟩
    · rintro ⟨j, l2, Hj⟩ Mj hMj ⟨hp7, hgo2, hj⟩
      try dsimp only at hp7 hgo2 hj
      refine C.as [(2, ptr b2 0), (5, ptr b5 0), (8, int64 j)] ([Hj]) ?_
      refine Wg ?_
      refine C.cond rfl (fun hlt2 => ?_) (fun hlt2 => ?_)
      · have hlt2 := of_decide_eq_true hlt2
        have hlt' : j < t.outs.length := by omega
        have hel := hos.up (M' := Mj) |>.el hlt'
        have hre := (hor.up (M' := Mj)).el hlt'
        generalize List.take (Rep.sz Out) _ = ci at hel hre
        rw [List.drop_eq_getElem_cons hlt', List.flatMap_cons] at hgo2
        generalize t.outs[j] = x at hgo2 hre
        have hre' := hre
        obtain ⟨vw, rfl, hww, hwa⟩ := hre
        have hlen2 := congrArg List.length hgo2
        simp only [bodyB, opB, List.length_append] at hlen2
        have ik := hww.one
        have ck := hww.cells
        refine Wg ?_
        refine L.cl (lock_put b5 _ x l2 _ _ hp7 hre' (by simp only [List.length_append]; omega)) fun r7 M7 H7 hM7 hR7 => ?_
        obtain ⟨rfl, hp8⟩ := hR7
        refine Wg ?_
        refine Wo ?_
        refine Wg ?_
        refine ⟨(j + 1, _, _), (.cons rfl rfl (.cons rfl rfl (.cons rfl rfl .nil))), (by first | exact Forget.rf | ((try dsimp only); exact Forget.go)), inferInstance, ⟨hp8, by rw [← hgo2]; simp, (by first | omega | (dsimp only; omega))⟩, (by first | omega | (dsimp only; omega))⟩
      have hlt2 := of_decide_eq_false hlt2
      have e2 : j = t.outs.length := by omega
      subst e2
      rw [List.drop_length, List.flatMap_nil, List.nil_append] at hgo2
      have hlen2 := congrArg List.length hgo2
      simp only [bodyB, opB, List.length_append] at hlen2
      refine Wg ?_
      refine L.al fun b9 => ?_
      refine Wg ?_
      refine C.drw [] [b9] ?_
      refine LA.ta 0 ?_
      refine LA.ta 1 ?_
      refine LA.ta 3 ?_
      refine LA.ta 4 ?_
      refine LA.ta 6 ?_
      refine LA.ta 7 ?_
      refine LA.ta 9 ?_
      refine LA.ta 10 ?_
      refine LA.ta 12 ?_
      refine LA.ta 13 ?_
      refine LA.ta 15 ?_
      refine LA.ta 16 ?_
      refine LA.e1 2 ?_
      refine L.cl (pen_num b5 t.op.kind l2 _ _ hp7 hw1 (by first | omega | (simp only [List.length_append]; omega))) fun r8 M8 H8 hM8 hR8 => ?_
      obtain ⟨rfl, hp9⟩ := hR8
      refine L.nil ⟨fun _ => ⟨Sub.le, by simp⟩, ?_⟩
      refine LA.e1 5 ?_
      refine L.cl (pen_num b5 t.op.tower _ _ _ hp9 hw2 (by first | omega | (simp only [List.length_append]; omega))) fun r9 M9 H9 hM9 hR9 => ?_
      obtain ⟨rfl, hp10⟩ := hR9
      refine L.nil ⟨fun _ => ⟨Sub.le, by simp⟩, ?_⟩
      refine LA.e1 8 ?_
      refine L.cl (pen_num b5 t.op.channel _ _ _ hp10 hw3 (by first | omega | (simp only [List.length_append]; omega))) fun r10 M10 H10 hM10 hR10 => ?_
      obtain ⟨rfl, hp11⟩ := hR10
      refine L.nil ⟨fun _ => ⟨Sub.le, by simp⟩, ?_⟩
      refine LA.e1 11 ?_
      refine L.cl (pen_num b5 t.op.amount _ _ _ hp11 hw4 (by first | omega | (simp only [List.length_append]; omega))) fun r11 M11 H11 hM11 hR11 => ?_
      obtain ⟨rfl, hp12⟩ := hR11
      refine L.nil ⟨fun _ => ⟨Sub.le, by simp⟩, ?_⟩
      refine LA.e1 14 ?_
      refine L.cl (pen_sum b5 t.op.root _ _ _ hp12 (by first | omega | (simp only [List.length_append]; omega))) fun r12 M12 H12 hM12 hR12 => ?_
      obtain ⟨rfl, hp13⟩ := hR12
      refine L.nil ⟨fun _ => ⟨Sub.le, by simp⟩, ?_⟩
      refine LA.e1 17 ?_
      refine L.cl (pen_text b5 vd t.op.data _ _ _ hp13 (BytesM.up hd) (by first | omega | (simp only [List.length_append]; omega))) fun r13 M13 H13 hM13 hR13 => ?_
      obtain ⟨rfl, hp14⟩ := hR13
      refine L.nil ⟨fun _ => ⟨Sub.le, by simp⟩, ?_⟩
      refine LA.dn ?_
      try dsimp only
      refine Wg ?_
      refine L.cl (pen_bytes b5 (l2 ++ numB t.op.kind ++ numB t.op.tower ++ numB t.op.channel ++ numB t.op.amount ++ t.op.root.l ++ numB t.op.data.length ++ t.op.data) _ _ hp14 (by first | omega | (simp only [List.length_append]; omega))) fun r14 M14 H14 hM14 hR14 => ?_
      obtain ⟨hv15, hp15⟩ := hR14
      have iv := SlM.one hv15
      have cv := SlM.cells hv15
      refine Wg ?_
      exact Hands.ofT ([]) (rs := [.tmp 4]) rfl (.tmp rfl .nil) rfl (⟨rfl, by rw [← hgo2]; show BytesM M14 r14 _; simpa [opB] using hv15⟩)

end Go.Proofs.Ytdgdigliepncpaa
