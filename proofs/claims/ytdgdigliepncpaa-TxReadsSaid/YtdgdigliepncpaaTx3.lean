/-
  This text proves what a transaction's bytes are, when two are alike, who signed, and what bytes are read as.
  Conditions: none.
-/
import Derived.Test.YtdgdigliepncpaaTx2
namespace Go.Proofs.Ytdgdigliepncpaa
open Go
attribute [local irreducible] numB

theorem flatMap_le {α : Type} {f : α → List UInt8} {c : Nat} : ∀ {l : List α}, (∀ x ∈ l, (f x).length ≤ c) → (l.flatMap f).length ≤ c * l.length
  | [], _ => by simp
  | x :: xs, h => by
    have h1 := h x (by simp)
    have h2 := flatMap_le (l := xs) fun y hy => h y (by simp [hy])
    simp only [List.flatMap_cons, List.length_append, List.length_cons, Nat.mul_add, Nat.mul_one]
    omega
theorem rise_le : ∀ (l : List Int) (p : Option Int), rise p l = true → ∀ k ∈ l, 0 ≤ k ∧ k ≤ 255
  | [], _, _, k, hk => by cases hk
  | x :: xs, p, h, k, hk => by
    rw [rise_cons] at h
    simp only [Bool.and_eq_true, decide_eq_true_eq] at h
    rcases List.mem_cons.1 hk with rfl | hk
    · exact h.1.1
    · exact rise_le xs _ h.2 k hk
theorem wayB_le {w : Way} (h : wayRight w = true) : (wayB w).length ≤ 203 := by
  unfold wayRight at h
  simp only [Bool.and_eq_true, decide_eq_true_eq] at h
  have h1 := numB_le w.keys.length (by omega)
  have h2 := flatMap_le (f := numB) (c := 9) (l := w.keys) fun k hk => numB_le k (by have := rise_le _ _ h.2 k hk; omega)
  have h3 := numB_le w.after (by omega)
  have h4 := numB_le w.wait (by omega)
  have h5 := w.hash.h
  simp only [wayB, List.length_append]
  omega
theorem outB_le {o : Out} (h : outRight o = true) : (outB o).length ≤ 3266 := by
  unfold outRight at h
  simp only [Bool.and_eq_true, decide_eq_true_eq, List.all_eq_true] at h
  have h1 := numB_le o.amount (by omega)
  have h2 := numB_le o.ways.length (by omega)
  have h3 := flatMap_le (f := wayB) (c := 203) (l := o.ways) fun w hw => wayB_le (h.2 w hw)
  simp only [outB, List.length_append]
  omega
theorem inB_le {x : Inp} (b : Bool) (h : inRight x = true) : (inB b x).length ≤ 123 := by
  unfold inRight at h
  simp only [Bool.and_eq_true, decide_eq_true_eq] at h
  have h1 := numB_le x.ref.at_ (by omega)
  have h2 := numB_le x.way (by omega)
  have h3 := numB_le x.pre.length (by omega)
  have h5 := x.ref.tx.h
  cases b <;> simp only [inB, List.length_append, if_true, Bool.false_eq_true, if_false, List.length_nil] <;> omega
theorem opB_le {o : Opn} (h : opRight o = true) (hw : opWide o) : (opB o).length ≤ 65613 := by
  obtain ⟨w1, w2, w3, w4⟩ := hw
  have hd : o.data.length ≤ 65536 := by
    by_cases h0 : o.kind = 0
    · rw [opRight_0 h0] at h
      simp only [Bool.and_eq_true, decide_eq_true_eq] at h
      omega
    · rw [opRight_1 h0] at h
      simp only [Bool.and_eq_true, decide_eq_true_eq] at h
      omega
  have h1 := numB_le o.kind (by omega)
  have h2 := numB_le o.tower (by omega)
  have h3 := numB_le o.channel (by omega)
  have h4 := numB_le o.amount (by omega)
  have h5 := numB_le o.data.length (by omega)
  have h6 := o.root.h
  simp only [opB, List.length_append]
  omega
theorem insOk_all : ∀ (l pre : List Inp), insOk pre l = true → ∀ x ∈ l, inRight x = true
  | [], _, _, x, hx => by cases hx
  | y :: ys, pre, h, x, hx => by
    rw [insOk_cons] at h
    simp only [Bool.and_eq_true] at h
    rcases List.mem_cons.1 hx with rfl | hx
    · exact h.1.1
    · exact insOk_all ys _ h.2 x hx
theorem txRight_parts {t : Txn} (h : txRight t = true) : t.ins.length ≤ 16 ∧ t.outs.length ≤ 16 ∧ t.signs.length ≤ 16 ∧ opRight t.op = true ∧ (t.ins.length = 0 → t.op.kind ≠ 0) ∧ (∀ x ∈ t.ins, inRight x = true) ∧ keysOk (t.signs.map (·.key)) = true ∧ ∀ o ∈ t.outs, outRight o = true := by
  unfold txRight at h
  simp only [Bool.and_eq_true, decide_eq_true_eq, Bool.not_eq_true', List.all_eq_true, Bool.and_eq_false_iff, decide_eq_false_iff_not] at h
  obtain ⟨⟨⟨⟨⟨⟨⟨h1, h2⟩, h3⟩, h4⟩, h5⟩, h6⟩, h7⟩, h8⟩ := h
  exact ⟨h1, h2, h3, h4, fun h0 => by rcases h5 with h5 | h5; exact absurd h0 h5; exact h5, insOk_all _ _ h6, h7, h8⟩
theorem txB_le {t : Txn} (h : txRight t = true) (hw : opWide t.op) (b : Bool) : (bodyB t b).length ≤ 130000 ∧ (txB t).length ≤ 150000 := by
  obtain ⟨h1, h2, h3, h4, _, h6, h7, h8⟩ := txRight_parts h
  have e1 := numB_le t.ins.length (by omega)
  have e2 := numB_le t.outs.length (by omega)
  have e3 := numB_le t.signs.length (by omega)
  have e4 := opB_le h4 hw
  have e5 := flatMap_le (f := inB b) (c := 123) (l := t.ins) fun x hx => inB_le b (h6 x hx)
  have e9 := flatMap_le (f := inB true) (c := 123) (l := t.ins) fun x hx => inB_le true (h6 x hx)
  have e6 := flatMap_le (f := outB) (c := 3266) (l := t.outs) fun x hx => outB_le (h8 x hx)
  have e7 := flatMap_le (f := signB) (c := 41) (l := t.signs) fun s hs => by
    have := rise_le _ _ h7 s.key (List.mem_map.2 ⟨s, hs, rfl⟩)
    have k1 := numB_le s.key (by omega)
    have k2 := s.of.h
    simp only [signB, List.length_append]
    omega
  constructor
  · simp only [bodyB, List.length_append]; omega
  · simp only [txB, bodyB, List.length_append]; omega

def txBytes (t : Txn) : List UInt8 × Int := if txRight t then (txB t, 0) else ([], 1)
set_option maxHeartbeats 1000000 in
theorem tx_bytes (M : Mem) (cs : List Value) (t : Txn) (ht : Rep.R M cs t) : Fn0 Try.prog 44 [aggv cs] M fun r M' => ∃ v, r = .tuple #[v, int64 (txBytes t).2] ∧ BytesM M' v (txBytes t).1 := by
  have ht0 := ht
  obtain ⟨vi, vo, vd, vs, rfl, hi, ho, hd, hs, hwd⟩ := ht
  have hsl := hs.le
  have hs0 := hs
  obtain ⟨scs, hss, hsr⟩ := hs
  have i1 := hi.one
  have c1 := hi.cells
  have i2 := ho.one
  have c2 := ho.cells
  have i3 := SlM.one hd
  have c3 := SlM.cells hd
  have i4 := hss.one
  have c4 := hss.cells
  refine Fn0.of (Fn.enter Try.func44 Try.ntmps44 rfl rfl (by simp only [initEnv, List.zipIdx_cons, List.zipIdx_nil, List.map_cons, List.map_nil, Nat.zero_add, Nat.reduceAdd]; rfl) fun w0 hw => ?_)
  refine Wg ?_
  refine L.bxM fun b1 M1 hp1 hb1 => ?_
  refine Wg ?_
  refine L.cv (tx_right _ _ t (Rep.up ht0 inferInstance)) fun M1 hM1 => ?_
  refine Wg ?_
  refine C.cond rfl (fun h9 => ?_) (fun h9 => ?_)
  · have hr : txRight t = false := by simpa using h9
    refine Wg ?_
    exact Hands.ofT ([]) (rs := [.tmp 2, .tmp 3]) rfl (.tmp rfl (.tmp rfl .nil)) rfl (⟨rfl, _, by rw [txBytes, hr]; rfl, by rw [txBytes, hr]; exact BytesM.nil⟩)
  have hr : txRight t = true := by simpa using h9
  obtain ⟨hb1, hb2⟩ := txB_le hr hwd true
  have hb3 := hb2
  simp only [txB, List.length_append] at hb2
  refine Wg ?_
  refine L.al fun b4 => ?_
  refine Wg ?_
  refine L.cl (tx_body b4 _ t true [] _ _ (pen_nil b4) (Rep.up ht0 inferInstance) (by rw [List.nil_append]; omega)) fun r2 M2 H2 hM2 hR2 => ?_
  obtain ⟨rfl, hp1⟩ := hR2
  refine Wg ?_
  refine L.cl (pen_num b4 (t.signs.length : Int) _ _ _ hp1 (by omega) (by rw [List.nil_append]; omega)) fun r3 M3 H3 hM3 hR3 => ?_
  obtain ⟨rfl, hp2⟩ := hR3
  refine Wg ?_
  refine C.loopF (σ := Nat × List UInt8 × Hp) (fun s => [(1, ptr b1 0), (4, ptr b4 0), (17, vs), (18, int64 t.signs.length), (19, int64 s.1)]) (fun s => [s.2.2]) (fun s M' => PenH b4 s.2.1 s.2.2 ∧ s.2.1 ++ (t.signs.drop s.1).flatMap signB = txB t ∧ s.1 ≤ t.signs.length) (fun s => t.signs.length - s.1) (0, [] ++ bodyB t true ++ numB (t.signs.length : Int), H3) ?_ ?_ ?_ ?_
  · exact (.cons rfl rfl (.cons rfl rfl (.cons rfl rfl (.cons rfl rfl (.cons rfl rfl .nil)))))
  · first | exact Forget.rf | ((try dsimp only); exact Forget.go)
  · exact ⟨hp2, by simp [txB], by simp⟩
  · rintro ⟨i, l', Hi⟩ Mi hMi ⟨hpi, hgo, hi⟩
    try dsimp only at hpi hgo hi
    refine C.as [(1, ptr b1 0), (4, ptr b4 0), (17, vs), (18, int64 t.signs.length), (19, int64 i)] ([Hi]) ?_
    refine Wg ?_
    refine C.cond rfl (fun hlt => ?_) (fun hlt => ?_)
    · have hlt := of_decide_eq_true hlt
      have hlt' : i < t.signs.length := by omega
      obtain ⟨sg, hsg, hel, hsk, hkd⟩ := sgn_el hs0 hlt'
      have hsi : t.signs[i] = sg := by rw [List.getElem?_eq_getElem hlt'] at hsg; exact Option.some.inj hsg
      rw [List.drop_eq_getElem_cons hlt', List.flatMap_cons, hsi] at hgo
      have hlen := congrArg List.length hgo
      simp only [signB, List.length_append] at hlen
      refine Wg ?_
      refine L.al fun b6 => ?_
      refine Wg ?_
      refine C.drw [] [b6] ?_
      refine LA.ta 0 ?_
      refine LA.ta 1 ?_
      refine LA.ta 3 ?_
      refine LA.ta 4 ?_
      refine LA.e1 2 ?_
      refine L.cl (pen_num b4 sg.key l' _ _ hpi hsk (by omega)) fun r4 M4 H4 hM4 hR4 => ?_
      obtain ⟨rfl, hp5⟩ := hR4
      refine L.nil ⟨fun _ => ⟨Sub.le, by simp⟩, ?_⟩
      refine LA.e1 5 ?_
      refine L.cl (pen_sum b4 sg.of _ _ _ hp5 (by simp only [List.length_append]; omega)) fun r5 M5 H5 hM5 hR5 => ?_
      obtain ⟨rfl, hp6⟩ := hR5
      refine L.nil ⟨fun _ => ⟨Sub.le, by simp⟩, ?_⟩
      refine LA.dn ?_
      try dsimp only
      refine Wg ?_
      refine Wo ?_
      refine Wg ?_
      refine ⟨(i + 1, _, _), (.cons rfl rfl (.cons rfl rfl (.cons rfl rfl (.cons rfl rfl (.cons rfl rfl .nil))))), (by first | exact Forget.rf | ((try dsimp only); exact Forget.go)), inferInstance, ⟨hp6, by rw [← hgo]; simp [signB], (by first | omega | (dsimp only; omega))⟩, (by first | omega | (dsimp only; omega))⟩
    have hlt := of_decide_eq_false hlt
    have e1 : i = t.signs.length := by omega
    subst e1
    rw [List.drop_length, List.flatMap_nil, List.append_nil] at hgo
    subst hgo
    refine Wg ?_
    refine L.cl (pen_bytes b4 _ _ _ hpi (by omega)) fun r6 M6 H6 hM6 hR6 => ?_
    obtain ⟨hv2, hp7⟩ := hR6
    refine Wg ?_
    exact Hands.ofT ([]) (rs := [.tmp 2, .tmp 3]) rfl (.tmp rfl (.tmp rfl .nil)) rfl (⟨rfl, _, by rw [txBytes, hr]; rfl, by rw [txBytes, hr]; exact hv2⟩)

def txSame (a b : Txn) : Bool := decide ((txBytes a).2 = 0) && decide ((txBytes b).2 = 0) && decide ((txBytes a).1 = (txBytes b).1)
theorem tx_same (M : Mem) (ca cb : List Value) (a b : Txn) (ha : Rep.R M ca a) (hb : Rep.R M cb b) : Fnv Try.prog 45 [aggv ca, aggv cb] M (.bool (txSame a b)) := by
  have fa : Fst ca 40 ca := ⟨List.take_of_length_le (Nat.le_of_eq (Rep.len ha)), Nat.le_of_eq (Rep.len ha).symm⟩
  have fb : Fst cb 40 cb := ⟨List.take_of_length_le (Nat.le_of_eq (Rep.len hb)), Nat.le_of_eq (Rep.len hb).symm⟩
  refine Fnv.of (Fn.enter Try.func45 Try.ntmps45 rfl rfl (by simp only [initEnv, List.zipIdx_cons, List.zipIdx_nil, List.map_cons, List.map_nil, Nat.zero_add, Nat.reduceAdd]; rfl) fun w0 hw => ?_)
  refine Wg ?_
  refine L.bxM fun b2 M2 hp2 hb2 => ?_
  refine L.bxM fun b3 M3 hp3 hb3 => ?_
  refine Wg ?_
  refine L.c0 (tx_bytes _ ca a (Rep.up ha inferInstance)) fun r1 M1 hM1 hR1 => ?_
  obtain ⟨v1, rfl, hv1⟩ := hR1
  refine Wg ?_
  refine L.c0 (tx_bytes _ cb b (Rep.up hb inferInstance)) fun r2 M2 hM2 hR2 => ?_
  obtain ⟨v2, rfl, hv2⟩ := hR2
  refine Wg ?_
  refine L.and 3 24 21 ?_
  refine Wg ?_
  refine L.andM 4 29 25 rfl (fun h25 => by
        refine Wg ?_
        refine L.cv (eq_bytes _ v1 v2 _ _ (BytesM.up hv1) (BytesM.up hv2)) fun M4 hM4 => ?_
        refine Wg ?_
        refine Wf ?_
        exact KjM.mk
    ) (fun M3 hM3 => ?_)
  refine Wg ?_
  exact Hands.ofT ([]) (rs := [.tmp 4]) rfl (.tmp rfl .nil) rfl (⟨rfl, rfl⟩)

noncomputable def txKeys (t : Txn) : List Int := (t.signs.filter fun s => decide (s.of = txSum t)).map (·.key)
theorem tx_keys (M : Mem) (cs : List Value) (t : Txn) (ht : Rep.R M cs t) (hb : (bodyB t false).length ≤ 1099511627000) (hn : t.signs.length ≤ 1000000) : Fn0 Try.prog 117 [aggv cs] M fun r M' => IntsM M' r (txKeys t) := by
  have ht0 := ht
  obtain ⟨vi, vo, vd, vs, rfl, hi, ho, hd, hs, hwd⟩ := ht
  have hsl := hs.le
  have hs0 := hs
  obtain ⟨scs, hss, hsr⟩ := hs
  have i1 := hi.one
  have c1 := hi.cells
  have i2 := ho.one
  have c2 := ho.cells
  have i3 := SlM.one hd
  have c3 := SlM.cells hd
  have i4 := hss.one
  have c4 := hss.cells
  refine Fn0.of (Fn.enter Try.func117 Try.ntmps117 rfl rfl (by simp only [initEnv, List.zipIdx_cons, List.zipIdx_nil, List.map_cons, List.map_nil, Nat.zero_add, Nat.reduceAdd]; rfl) fun w0 hw => ?_)
  refine Wg ?_
  refine L.bxM fun b1 M1 hp1 hb1 => ?_
  refine Wg ?_
  refine L.cv (tx_sum _ _ t (Rep.up ht0 inferInstance) hb) fun M1 hM1 => ?_
  refine L.al fun b3 => ?_
  refine Wg ?_
  refine C.loopF (σ := Nat × List Int × Value × Hp) (fun s => [(1, ptr b1 0), (3, ptr b3 0), (4, s.2.2.1), (10, vs), (11, int64 t.signs.length), (12, int64 s.1)]) (fun s => [s.2.2.2, [(b3, row (sumC (txSum t)) 32)]]) (fun s M' => OwnS 3 1 s.2.2.1 (s.2.1.map int64) s.2.2.2 ∧ (∀ k ∈ s.2.1, I64 k) ∧ s.2.1 ++ ((t.signs.drop s.1).filter fun s => decide (s.of = txSum t)).map (·.key) = txKeys t ∧ s.1 ≤ t.signs.length ∧ s.2.1.length ≤ s.1) (fun s => t.signs.length - s.1) (0, [], .slice none 0 0, []) ?_ ?_ ?_ ?_
  · exact (.cons rfl rfl (.cons rfl rfl (.cons rfl rfl (.cons rfl rfl (.cons rfl rfl (.cons rfl rfl .nil))))))
  · first | exact Forget.rf | ((try dsimp only); exact Forget.go)
  · exact ⟨OwnS.nil, by simp, rfl, by simp, by simp⟩
  · rintro ⟨i, ks, vk, Hk⟩ Mi hMi ⟨hok, hki, hgo, hi, hkl⟩
    try dsimp only at hok hki hgo hi hkl
    refine C.as [(1, ptr b1 0), (3, ptr b3 0), (4, vk), (10, vs), (11, int64 t.signs.length), (12, int64 i)] ([Hk, [(b3, row (sumC (txSum t)) 32)]]) ?_
    have ik := hok.one
    have ck := hok.cells
    refine Wg ?_
    refine C.cond rfl (fun hlt => ?_) (fun hlt => ?_)
    · have hlt := of_decide_eq_true hlt
      have hlt' : i < t.signs.length := by omega
      obtain ⟨sg, hsg, hel, hsk, hkd⟩ := sgn_el hs0 hlt'
      have hsi : t.signs[i] = sg := by rw [List.getElem?_eq_getElem hlt'] at hsg; exact Option.some.inj hsg
      rw [List.drop_eq_getElem_cons hlt', List.filter_cons, hsi] at hgo
      refine Wg ?_
      refine L.al fun b6 => ?_
      refine Wg ?_
      refine L.qh ?_ (Qt.bin rfl rfl BinRun.sumEq)
      refine Wg ?_
      refine C.cond rfl (fun h19 => ?_) (fun h19 => ?_)
      · rw [if_pos h19] at hgo
        refine Wg ?_
        refine L.bsM fun b23 M23 hp23 hb23 => ?_
        refine L.ap hok (Rd.row (cl := [int64 sg.key]) hb23) (by (simp; omega)) fun v24 H24 o24 => ?_
        have i24 := o24.one
        have c24 := o24.cells
        refine Wg ?_
        refine Wo ?_
        refine Wg ?_
        refine ⟨(i + 1, ks ++ [sg.key], v24, H24), (.cons rfl rfl (.cons rfl rfl (.cons rfl rfl (.cons rfl rfl (.cons rfl rfl (.cons rfl rfl .nil)))))), (by first | exact Forget.rf | ((try dsimp only); exact Forget.go)), inferInstance, ⟨by rw [List.map_append]; exact o24, snoc64 hki hsk, by rw [← hgo]; simp, (by first | omega | (dsimp only; omega)), by simp; omega⟩, (by first | omega | (dsimp only; omega))⟩
      rw [if_neg (by rw [h19]; exact Bool.false_ne_true)] at hgo
      refine Wg ?_
      refine Wo ?_
      refine Wg ?_
      refine ⟨(i + 1, ks, vk, Hk), (.cons rfl rfl (.cons rfl rfl (.cons rfl rfl (.cons rfl rfl (.cons rfl rfl (.cons rfl rfl .nil)))))), (by first | exact Forget.rf | ((try dsimp only); exact Forget.go)), inferInstance, ⟨hok, hki, hgo, (by first | omega | (dsimp only; omega)), by dsimp only; omega⟩, (by first | omega | (dsimp only; omega))⟩
    have hlt := of_decide_eq_false hlt
    have e1 : i = t.signs.length := by omega
    subst e1
    rw [List.drop_length, List.filter_nil, List.map_nil, List.append_nil] at hgo
    subst hgo
    refine hok.frzC (txKeys t).length (by simp) (by decide) fun M5 hM5 hvk => ?_
    refine Wg ?_
    exact Hands.ofT ([]) (rs := [.tmp 2]) rfl (.tmp rfl .nil) rfl (⟨rfl, hvk, hki⟩)

end Go.Proofs.Ytdgdigliepncpaa
