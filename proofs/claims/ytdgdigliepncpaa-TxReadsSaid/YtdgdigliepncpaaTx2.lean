/-
  This text proves what a transaction's bytes and its sum are.
  Conditions: none.
-/
import Derived.Test.YtdgdigliepncpaaTx
namespace Go.Proofs.Ytdgdigliepncpaa
open Go
attribute [local irreducible] numB

theorem pen_nil (pb : Nat) : PenH pb [] [(pb, row [.slice none 0 0] 71)] := ⟨_, [], OwnS.nil, rfl⟩
set_option maxHeartbeats 2000000 in
theorem tx_body (pb : Nat) (cs : List Value) (t : Txn) (shown : Bool) (l : List UInt8) (M : Mem) (H : Hp) (hp : PenH pb l H) (ht : Rep.R M cs t) (hb : (l ++ bodyB t shown).length ≤ 1099511627776) :
    Fn Try.prog 141 [ptr pb 0, aggv cs, .bool shown] M H fun r _ H' => r = .tuple #[] ∧ PenH pb (l ++ bodyB t shown) H' := by
  obtain ⟨vi, vo, vd, vs, rfl, hi, ho, hd, hs, hwd⟩ := ht
  have hil := hi.le
  have hol := ho.le
  obtain ⟨ics, his, hir⟩ := hi
  obtain ⟨ocs, hos, hor⟩ := ho
  have i1 := his.one
  have c1 := his.cells
  have i2 := hos.one
  have c2 := hos.cells
  have i3 := SlM.one hd
  have c3 := SlM.cells hd
  have i4 := hs.one
  have c4 := hs.cells
  obtain ⟨hw1, hw2, hw3, hw4⟩ := hwd
  have hbl := hb
  simp only [bodyB, opB, List.length_append] at hbl
  refine Fn.enter Try.func141 Try.ntmps141 rfl rfl (by simp only [initEnv, List.zipIdx_cons, List.zipIdx_nil, List.map_cons, List.map_nil, Nat.zero_add, Nat.reduceAdd]; rfl) fun w0 hw => ?_
  refine Wg ?_
  refine L.bxM fun b4 M4 hp4 hb4 => ?_
  refine Wg ?_
  refine L.cl (pen_num pb (t.ins.length : Int) l _ H hp (by omega) (by omega)) fun r1 M1 H1 hM1 hR1 => ?_
  obtain ⟨rfl, hp1⟩ := hR1
  refine Wg ?_
  refine C.loopF (σ := Nat × List UInt8 × Hp) (fun s => [(0, ptr pb 0), (2, .bool shown), (4, ptr b4 0), (17, vi), (18, int64 t.ins.length), (19, int64 s.1)]) (fun s => [s.2.2]) (fun s M' => PenH pb s.2.1 s.2.2 ∧ s.2.1 ++ ((t.ins.drop s.1).flatMap (inB shown) ++ (numB t.outs.length ++ t.outs.flatMap outB ++ opB t.op)) = l ++ bodyB t shown ∧ s.1 ≤ t.ins.length) (fun s => t.ins.length - s.1) (0, l ++ numB (t.ins.length : Int), H1) ?_ ?_ ?_ ?_
  · exact (.cons rfl rfl (.cons rfl rfl (.cons rfl rfl (.cons rfl rfl (.cons rfl rfl (.cons rfl rfl .nil))))))
  · first | exact Forget.rf | ((try dsimp only); exact Forget.go)
  · exact ⟨hp1, by simp [bodyB], by simp⟩
  · rintro ⟨i, l', H2⟩ M2 hM2 ⟨hp2, hgo, hi⟩
    try dsimp only at hp2 hgo hi
    refine C.as [(0, ptr pb 0), (2, .bool shown), (4, ptr b4 0), (17, vi), (18, int64 t.ins.length), (19, int64 i)] ([H2]) ?_
    refine Wg ?_
    refine C.cond rfl (fun hlt => ?_) (fun hlt => ?_)
    · have hlt := of_decide_eq_true hlt
      have hlt' : i < t.ins.length := by omega
      have hel := his.up (M' := M2) |>.el hlt'
      have hre := (hir.up (M' := M2)).el hlt'
      generalize List.take (Rep.sz Inp) _ = ci at hel hre
      rw [List.drop_eq_getElem_cons hlt', List.flatMap_cons] at hgo
      generalize t.ins[i] = x at hgo hre
      obtain ⟨vp, rfl, hpre, hra, hrw⟩ := hre
      have hlen := congrArg List.length hgo
      rw [← hlen] at hb
      simp only [inB, List.length_append] at hb
      have ik := SlM.one hpre
      have ck := SlM.cells hpre
      refine Wg ?_
      refine L.al fun b7 => ?_
      refine Wg ?_
      refine C.cutE (fun M' A' => ∃ H', A' = [H', [(b7, row (sumC x.ref.tx ++ int64 x.ref.at_ :: int64 x.way :: vp :: []) 94)]] ∧ PenH pb (l' ++ x.ref.tx.l ++ [x.ref.at_, x.way].flatMap numB) H') ?_ ?_
      · refine Wg ?_
        refine C.drw [] [b7] ?_
        refine LA.ta 0 ?_
        refine LA.ta 1 ?_
        refine LA.ta 2 ?_
        refine LA.ta 3 ?_
        refine LA.ta 5 ?_
        refine LA.ta 6 ?_
        refine LA.ta 7 ?_
        refine LA.ta 8 ?_
        refine LA.ta 9 ?_
        refine LA.all [4, 10] (by kernel_rfl) (by simp) ⟨⟨_, rfl, ?_⟩, ⟨_, rfl, ?_⟩, trivial⟩
        · refine L.cl (pen_sum pb x.ref.tx l' _ H2 hp2 (by omega)) fun r2 M2 H2 hM2 hR2 => ?_
          obtain ⟨rfl, hp3⟩ := hR2
          refine L.nil ⟨fun _ => ⟨Sub.le, by simp⟩, ?_⟩
          refine LA.e1 10 ?_
          refine L.bsM fun b33 M33 hp33 hb33 => ?_
          refine L.nil ⟨fun _ => ⟨Sub.le, by simp⟩, ?_⟩
          refine LA.e1 11 ?_
          refine L.cl (pen_nums pb _ [x.ref.at_, x.way] (l' ++ x.ref.tx.l) _ _ hp3 (IntsM.row hb33 (by simp; exact ⟨hra, hrw⟩)).up (by simp only [List.length_append, List.flatMap_cons, List.flatMap_nil, List.length_nil]; omega)) fun r3 M3 H3 hM3 hR3 => ?_
          obtain ⟨rfl, hp4⟩ := hR3
          refine L.nil ⟨fun _ => ⟨Sub.le, by simp⟩, ?_⟩
          refine LA.dn ?_
          try dsimp only
          exact ⟨by repeat (first | exact Ext.refl | refine Ext.cons rfl ?_), inferInstance, _, Forget.go, ⟨_, rfl, hp4⟩⟩
        · refine L.bsM fun b33 M33 hp33 hb33 => ?_
          refine L.nil ⟨fun _ => ⟨Sub.le, by simp⟩, ?_⟩
          refine LA.e1 4 ?_
          refine L.cl (pen_sum pb x.ref.tx l' _ H2 hp2 (by omega)) fun r4 M4 H4 hM4 hR4 => ?_
          obtain ⟨rfl, hp3⟩ := hR4
          refine L.nil ⟨fun _ => ⟨Sub.le, by simp⟩, ?_⟩
          refine LA.e1 11 ?_
          refine L.cl (pen_nums pb _ [x.ref.at_, x.way] (l' ++ x.ref.tx.l) _ _ hp3 (IntsM.row hb33 (by simp; exact ⟨hra, hrw⟩)).up (by simp only [List.length_append, List.flatMap_cons, List.flatMap_nil, List.length_nil]; omega)) fun r5 M5 H5 hM5 hR5 => ?_
          obtain ⟨rfl, hp4⟩ := hR5
          refine L.nil ⟨fun _ => ⟨Sub.le, by simp⟩, ?_⟩
          refine LA.dn ?_
          try dsimp only
          exact ⟨by repeat (first | exact Ext.refl | refine Ext.cons rfl ?_), inferInstance, _, Forget.go, ⟨_, rfl, hp4⟩⟩
      rintro M3 A3 hM3 ⟨H4, rfl, hp4⟩
      refine Wg ?_
      refine C.cond rfl (fun h35 => ?_) (fun h35 => ?_)
      · subst h35
        simp only [if_true, List.length_append] at hb
        refine Wg ?_
        refine L.cl (pen_text pb vp x.pre _ _ _ hp4 (BytesM.up hpre) (by simp only [List.length_append, List.flatMap_cons, List.flatMap_nil, List.length_nil]; omega)) fun r6 M6 H6 hM6 hR6 => ?_
        obtain ⟨rfl, hp5⟩ := hR6
        refine Wg ?_
        refine Wo ?_
        refine Wg ?_
        refine ⟨(i + 1, _, _), (.cons rfl rfl (.cons rfl rfl (.cons rfl rfl (.cons rfl rfl (.cons rfl rfl (.cons rfl rfl .nil)))))), (by first | exact Forget.rf | ((try dsimp only); exact Forget.go)), inferInstance, ⟨hp5, by rw [← hgo]; simp [inB], (by first | omega | (dsimp only; omega))⟩, (by first | omega | (dsimp only; omega))⟩
      subst h35
      refine Wg ?_
      refine Wo ?_
      refine Wg ?_
      refine ⟨(i + 1, _, _), (.cons rfl rfl (.cons rfl rfl (.cons rfl rfl (.cons rfl rfl (.cons rfl rfl (.cons rfl rfl .nil)))))), (by first | exact Forget.rf | ((try dsimp only); exact Forget.go)), inferInstance, ⟨hp4, by rw [← hgo]; simp [inB], (by first | omega | (dsimp only; omega))⟩, (by first | omega | (dsimp only; omega))⟩
    have hlt := of_decide_eq_false hlt
    have e1 : i = t.ins.length := by omega
    subst e1
    rw [List.drop_length, List.flatMap_nil, List.nil_append] at hgo
    have hlen := congrArg List.length hgo
    simp only [bodyB, opB, List.length_append] at hlen
    refine Wg ?_
    refine L.cl (pen_num pb (t.outs.length : Int) l' _ _ hp2 (by omega) (by omega)) fun r7 M7 H7 hM7 hR7 => ?_
    obtain ⟨rfl, hp6⟩ := hR7
    refine Wg ?_
    refine C.loopF (σ := Nat × List UInt8 × Hp) (fun s => [(0, ptr pb 0), (4, ptr b4 0), (47, vo), (48, int64 t.outs.length), (49, int64 s.1)]) (fun s => [s.2.2]) (fun s M' => PenH pb s.2.1 s.2.2 ∧ s.2.1 ++ ((t.outs.drop s.1).flatMap outB ++ opB t.op) = l ++ bodyB t shown ∧ s.1 ≤ t.outs.length) (fun s => t.outs.length - s.1) (0, l' ++ numB (t.outs.length : Int), H7) ?_ ?_ ?_ ?_
    · exact (.cons rfl rfl (.cons rfl rfl (.cons rfl rfl (.cons rfl rfl (.cons rfl rfl .nil)))))
    · first | exact Forget.rf | ((try dsimp only); exact Forget.go)
    · exact ⟨hp6, by rw [← hgo]; simp, by simp⟩
    · rintro ⟨j, l2, Hj⟩ Mj hMj ⟨hp7, hgo2, hj⟩
      try dsimp only at hp7 hgo2 hj
      refine C.as [(0, ptr pb 0), (4, ptr b4 0), (47, vo), (48, int64 t.outs.length), (49, int64 j)] ([Hj]) ?_
      refine Wg ?_
      refine C.cond rfl (fun hlt2 => ?_) (fun hlt2 => ?_)
      · have hlt2 := of_decide_eq_true hlt2
        have hlt' : j < t.outs.length := by omega
        have hel := hos.up (M' := Mj) |>.el hlt'
        have hre := (hor.up (M' := Mj)).el hlt'
        generalize List.take (Rep.sz Out) _ = ci at hel hre
        rw [List.drop_eq_getElem_cons hlt', List.flatMap_cons] at hgo2
        generalize t.outs[j] = x at hgo2 hre
        have hre' := hre
        obtain ⟨vw, rfl, hww, hwa⟩ := hre
        have hlen2 := congrArg List.length hgo2
        simp only [bodyB, opB, List.length_append] at hlen2
        have ik := hww.one
        have ck := hww.cells
        refine Wg ?_
        refine L.al fun b9 => ?_
        refine Wg ?_
        refine L.cl (lock_put pb _ x l2 _ _ hp7 hre' (by simp only [List.length_append]; omega)) fun r8 M8 H8 hM8 hR8 => ?_
        obtain ⟨rfl, hp8⟩ := hR8
        refine Wg ?_
        refine Wo ?_
        refine Wg ?_
        refine ⟨(j + 1, _, _), (.cons rfl rfl (.cons rfl rfl (.cons rfl rfl (.cons rfl rfl (.cons rfl rfl .nil))))), (by first | exact Forget.rf | ((try dsimp only); exact Forget.go)), inferInstance, ⟨hp8, by rw [← hgo2]; simp, (by first | omega | (dsimp only; omega))⟩, (by first | omega | (dsimp only; omega))⟩
      have hlt2 := of_decide_eq_false hlt2
      have e2 : j = t.outs.length := by omega
      subst e2
      rw [List.drop_length, List.flatMap_nil, List.nil_append] at hgo2
      have hlen2 := congrArg List.length hgo2
      simp only [bodyB, opB, List.length_append] at hlen2
      refine Wg ?_
      refine L.al fun b10 => ?_
      refine Wg ?_
      refine C.drw [] [b10] ?_
      refine LA.ta 0 ?_
      refine LA.ta 1 ?_
      refine LA.ta 2 ?_
      refine LA.ta 3 ?_
      refine LA.ta 4 ?_
      refine LA.ta 5 ?_
      refine LA.ta 6 ?_
      refine LA.ta 7 ?_
      refine LA.ta 8 ?_
      refine LA.ta 11 ?_
      refine LA.ta 12 ?_
      refine LA.ta 14 ?_
      refine LA.ta 15 ?_
      refine LA.e1 9 ?_
      refine L.bsM fun b68 M68 hp68 hb68 => ?_
      refine L.nil ⟨fun _ => ⟨Sub.le, by simp⟩, ?_⟩
      refine LA.e1 10 ?_
      refine L.cl (pen_nums pb _ [t.op.kind, t.op.tower, t.op.channel, t.op.amount] l2 _ _ hp7 (IntsM.row hb68 (by simp; exact ⟨hw1, hw2, hw3, hw4⟩)) (by simp only [List.length_append, List.flatMap_cons, List.flatMap_nil, List.length_nil]; omega)) fun r9 M9 H9 hM9 hR9 => ?_
      obtain ⟨rfl, hp9⟩ := hR9
      refine L.nil ⟨fun _ => ⟨Sub.le, by simp⟩, ?_⟩
      refine LA.e1 13 ?_
      refine L.cl (pen_sum pb t.op.root _ _ _ hp9 (by simp only [List.length_append, List.flatMap_cons, List.flatMap_nil, List.length_nil]; omega)) fun r10 M10 H10 hM10 hR10 => ?_
      obtain ⟨rfl, hp10⟩ := hR10
      refine L.nil ⟨fun _ => ⟨Sub.le, by simp⟩, ?_⟩
      refine LA.e1 16 ?_
      refine L.cl (pen_text pb vd t.op.data _ _ _ hp10 (BytesM.up hd) (by simp only [List.length_append, List.flatMap_cons, List.flatMap_nil, List.length_nil]; omega)) fun r11 M11 H11 hM11 hR11 => ?_
      obtain ⟨rfl, hp11⟩ := hR11
      refine L.nil ⟨fun _ => ⟨Sub.le, by simp⟩, ?_⟩
      refine LA.dn ?_
      try dsimp only
      refine Wg ?_
      exact Hands.ofT (_) (rs := []) rfl .nil rfl (⟨rfl, by rw [← hgo2]; simpa [opB] using hp11⟩)

noncomputable def txSum (t : Txn) : Sm := shaJoin 41 [bodyB t false]
theorem tx_sum (M : Mem) (cs : List Value) (t : Txn) (ht : Rep.R M cs t) (hb : (bodyB t false).length ≤ 1099511627000) : Fnv Try.prog 41 [aggv cs] M (aggv (sumC (txSum t))) := by
  have fi : Fst cs 40 cs := ⟨List.take_of_length_le (Nat.le_of_eq (Rep.len ht)), Nat.le_of_eq (Rep.len ht).symm⟩
  refine Fnv.of (Fn.enter Try.func41 Try.ntmps41 rfl rfl (by simp only [initEnv, List.zipIdx_cons, List.zipIdx_nil, List.map_cons, List.map_nil, Nat.zero_add, Nat.reduceAdd]; rfl) fun w0 hw => ?_)
  refine Wg ?_
  refine L.bxM fun b1 M1 hp1 hb1 => ?_
  refine L.al fun b2 => ?_
  refine Wg ?_
  refine L.al fun b3 => ?_
  refine Wg ?_
  refine L.cl (tx_body b3 cs t false [] _ _ (pen_nil b3) (Rep.up ht inferInstance) (by rw [List.nil_append]; omega)) fun r1 M1 H1 hM1 hR1 => ?_
  obtain ⟨rfl, hp1⟩ := hR1
  refine Wg ?_
  refine L.cl (pen_bytes b3 (bodyB t false) _ _ hp1 (by omega)) fun r2 M2 H2 hM2 hR2 => ?_
  obtain ⟨hv2, hp2⟩ := hR2
  have iv := SlM.one hv2
  have cv := SlM.cells hv2
  refine L.bsM fun b7 M7 hp7 hb7 => ?_
  refine L.cv (sha_join _ 41 _ [bodyB t false] (PartsM.one hb7 (BytesM.up hv2)) (by simp [joinL, join4]; omega)) fun M3 hM3 => ?_
  refine Wg ?_
  exact Hands.ofT ([]) (rs := [.cell 2 32]) rfl (.cell rfl BoxIs.aggA .nil) rfl (⟨rfl, rfl⟩)

theorem eq_bytes (M : Mem) (v u : Value) (a b : List UInt8) (hv : BytesM M v a) (hu : BytesM M u b) : Fnv Try.prog 144 [v, u] M (.bool (decide (a = b))) := by
  have hs : SlM M 1 v a.length (bytesC a) := hv
  have hs2 : SlM M 1 u b.length (bytesC b) := hu
  have i1 := hs.one
  have c1 := hs.cells
  have i2 := hs2.one
  have c2 := hs2.cells
  have hle := hs.le
  unfold maxLen at hle
  refine Fnv.of (Fn.enter Try.func144 Try.ntmps144 rfl rfl (by simp only [initEnv, List.zipIdx_cons, List.zipIdx_nil, List.map_cons, List.map_nil, Nat.zero_add, Nat.reduceAdd]; rfl) fun w0 hw => ?_)
  refine Wg ?_
  refine C.cond rfl (fun h10 => ?_) (fun h10 => ?_)
  · have h10 := of_decide_eq_true h10
    refine Wg ?_
    exact Hands.ofT ([]) (rs := [.tmp 4]) rfl (.tmp rfl .nil) rfl (⟨rfl, by rw [decide_eq_false (fun h => h10 (by rw [h]))]; rfl⟩)
  have h10 := of_decide_eq_false h10
  have hab : a.length = b.length := by omega
  refine Wg ?_
  refine C.loopF (σ := Nat) (fun s => [(0, v), (1, u), (12, int64 a.length), (13, int64 s)]) (fun s => []) (fun s M' => decide (a.drop s = b.drop s) = decide (a = b) ∧ s ≤ a.length) (fun s => a.length - s) 0 ?_ ?_ ?_ ?_
  · exact (.cons rfl rfl (.cons rfl rfl (.cons rfl rfl (.cons rfl rfl .nil))))
  · first | exact Forget.rf | ((try dsimp only); exact Forget.go)
  · exact ⟨rfl, by simp⟩
  · rintro i M2 hM2 ⟨hgo, hi⟩
    try dsimp only at hgo hi
    refine C.as [(0, v), (1, u), (12, int64 a.length), (13, int64 i)] ([]) ?_
    refine Wg ?_
    refine C.cond rfl (fun hlt => ?_) (fun hlt => ?_)
    · have hlt := of_decide_eq_true hlt
      have hlt' : i < a.length := by omega
      have e1 := BytesM.el hv hlt'
      have e2 := BytesM.el hu (i := i) (by omega)
      have g1 : a.getD i 0 = a[i] := by simp [hlt']
      have g2 : b.getD i 0 = b[i]'(by omega) := by simp [show i < b.length by omega]
      rw [List.drop_eq_getElem_cons hlt', List.drop_eq_getElem_cons (show i < b.length by omega), ← g1, ← g2] at hgo
      refine Wg ?_
      refine C.drw [] [] ?_
      refine LA.ta 0 ?_
      refine LA.ta 1 ?_
      refine LA.ta 2 ?_
      refine LA.ta 3 ?_
      refine LA.ta 4 ?_
      refine LA.ta 5 ?_
      refine LA.ta 6 ?_
      refine LA.ta 7 ?_
      refine LA.ta 8 ?_
      refine LA.dn ?_
      try dsimp only
      refine Wg ?_
      refine C.cond rfl (fun h24 => ?_) (fun h24 => ?_)
      · have h24 := of_decide_eq_true h24
        have hne : a.getD i 0 ≠ b.getD i 0 := fun h => h24 (by rw [h])
        rw [decide_eq_false (fun h => hne (List.cons.inj h).1)] at hgo
        refine Wg ?_
        exact Hands.ofT ([]) (rs := [.tmp 4]) rfl (.tmp rfl .nil) rfl (⟨rfl, by rw [← hgo]; rfl⟩)
      have h24 := of_decide_eq_false h24
      have heq : a.getD i 0 = b.getD i 0 := UInt8.toNat_inj.1 (by omega)
      refine Wg ?_
      refine Wo ?_
      refine Wg ?_
      refine ⟨i + 1, (.cons rfl rfl (.cons rfl rfl (.cons rfl rfl (.cons rfl rfl .nil)))), (by first | exact Forget.rf | ((try dsimp only); exact Forget.go)), inferInstance, ⟨by rw [← hgo, heq]; simp, (by first | omega | (dsimp only; omega))⟩, (by first | omega | (dsimp only; omega))⟩
    have hlt := of_decide_eq_false hlt
    have e1 : i = a.length := by omega
    subst e1
    rw [List.drop_length, hab, List.drop_length] at hgo
    refine Wg ?_
    exact Hands.ofT ([]) (rs := [.tmp 4]) rfl (.tmp rfl .nil) rfl (⟨rfl, by rw [← hgo]; rfl⟩)

end Go.Proofs.Ytdgdigliepncpaa
