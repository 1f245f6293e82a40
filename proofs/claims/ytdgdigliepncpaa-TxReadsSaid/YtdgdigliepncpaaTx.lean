/-
  This text proves which transactions may be.
  Conditions: none.
-/
import Derived.Test.YtdgdigliepncpaaLock4
namespace Go.Proofs.Ytdgdigliepncpaa
open Go

theorem idxf_inp (M : Mem) (v : Value) (xs : List Inp) (f : FuncId) (caps : List Value) (p : Inp → Bool) (hv : SlR M v xs) [Callable Try.prog f]
    (hf : ∀ M', Sub M M' → ∀ x ∈ xs, ∀ cs, Rep.R M' cs x → Fnv Try.prog f ([aggv cs] ++ caps) M' (.bool (p x))) : Fnv Try.prog 221 [v, .func (.func f) #[] caps.toArray] M (int64 (idxFrom p 0 xs)) := by
  have hle := hv.le
  obtain ⟨cs, hs, hr⟩ := hv
  have i1 := hs.one
  have c1 := hs.cells
  refine Fnv.of (Fn.enter Try.func221 Try.ntmps221 rfl rfl (by simp only [initEnv, List.zipIdx_cons, List.zipIdx_nil, List.map_cons, List.map_nil, Nat.zero_add, Nat.reduceAdd]; rfl) fun w0 hw => ?_)
  refine Wg ?_
  refine C.loopF (σ := Nat) (fun s => [(0, v), (1, .func (.func f) #[] caps.toArray), (7, int64 xs.length), (8, int64 s)]) (fun s => []) (fun s M' => idxFrom p s (xs.drop s) = idxFrom p 0 xs ∧ s ≤ xs.length) (fun s => xs.length - s) 0 ?_ ?_ ?_ ?_
  · exact (.cons rfl rfl (.cons rfl rfl (.cons rfl rfl (.cons rfl rfl .nil))))
  · first | exact Forget.rf | ((try dsimp only); exact Forget.go)
  · exact ⟨rfl, by simp⟩
  · rintro i M2 hM2 ⟨hgo, hi⟩
    try dsimp only at hgo hi
    refine C.as [(0, v), (1, .func (.func f) #[] caps.toArray), (7, int64 xs.length), (8, int64 i)] ([]) ?_
    refine Wg ?_
    refine C.cond rfl (fun hlt => ?_) (fun hlt => ?_)
    · have hlt := of_decide_eq_true hlt
      have hlt' : i < xs.length := by omega
      have hel := hs.up (M' := M2) |>.el hlt'
      have hre := (hr.up (M' := M2)).el hlt'
      have hmem : xs[i] ∈ xs := List.getElem_mem _
      rw [List.drop_eq_getElem_cons hlt', idxFrom] at hgo
      generalize List.take (Rep.sz Inp) _ = ci at hel hre
      generalize xs[i] = x at hgo hre hmem
      have fi : Fst ci 35 ci := ⟨List.take_of_length_le (Nat.le_of_eq (Rep.len hre)), Nat.le_of_eq (Rep.len hre).symm⟩
      refine Wg ?_
      refine L.fvv (vs := [aggv ci]) rfl (hf M2 inferInstance x hmem ci hre) fun M3 hM3 => ?_
      refine Wg ?_
      refine C.cond rfl (fun hp => ?_) (fun hp => ?_)
      · rw [if_pos hp] at hgo
        refine Wg ?_
        exact Hands.ofT ([]) (rs := [.tmp 4]) rfl (.tmp rfl .nil) rfl (⟨rfl, by rw [← hgo]; rfl⟩)
      rw [if_neg (by rw [hp]; exact Bool.false_ne_true)] at hgo
      refine Wg ?_
      refine Wo ?_
      refine Wg ?_
      refine ⟨i + 1, (.cons rfl rfl (.cons rfl rfl (.cons rfl rfl (.cons rfl rfl .nil)))), (by first | exact Forget.rf | ((try dsimp only); exact Forget.go)), inferInstance, ⟨hgo, (by first | omega | (dsimp only; omega))⟩, (by first | omega | (dsimp only; omega))⟩
    have hlt := of_decide_eq_false hlt
    have e1 : i = xs.length := by omega
    subst e1
    rw [List.drop_length] at hgo
    refine Wg ?_
    exact Hands.ofT ([]) (rs := [.tmp 4]) rfl (.tmp rfl .nil) rfl (⟨rfl, by rw [← hgo]; rfl⟩)

theorem conf_inp (M : Mem) (v : Value) (xs : List Inp) (f : FuncId) (caps : List Value) (p : Inp → Bool) (hv : SlR M v xs) [Callable Try.prog f]
    (hf : ∀ M', Sub M M' → ∀ x ∈ xs, ∀ cs, Rep.R M' cs x → Fnv Try.prog f ([aggv cs] ++ caps) M' (.bool (p x))) : Fnv Try.prog 136 [v, .func (.func f) #[] caps.toArray] M (.bool (xs.any p)) := by
  have i1 := hv.one
  have c1 := hv.cells
  refine Fnv.of (Fn.enter Try.func136 Try.ntmps136 rfl rfl (by simp only [initEnv, List.zipIdx_cons, List.zipIdx_nil, List.map_cons, List.map_nil, Nat.zero_add, Nat.reduceAdd]; rfl) fun w0 hw => ?_)
  refine Wg ?_
  refine L.cv (idxf_inp _ v xs f caps p hv.up (fun M' s => hf M' (Sub.trans' inferInstance s))) fun M1 hM1 => ?_
  refine Wg ?_
  exact Hands.ofT ([]) (rs := [.tmp 4]) rfl (.tmp rfl .nil) rfl (⟨rfl, by rw [← idxFrom_any p xs 0]; rfl⟩)

theorem idxf_out (M : Mem) (v : Value) (xs : List Out) (f : FuncId) (caps : List Value) (p : Out → Bool) (hv : SlR M v xs) [Callable Try.prog f]
    (hf : ∀ M', Sub M M' → ∀ x ∈ xs, ∀ cs, Rep.R M' cs x → Fnv Try.prog f ([aggv cs] ++ caps) M' (.bool (p x))) : Fnv Try.prog 222 [v, .func (.func f) #[] caps.toArray] M (int64 (idxFrom p 0 xs)) := by
  have hle := hv.le
  obtain ⟨cs, hs, hr⟩ := hv
  have i1 := hs.one
  have c1 := hs.cells
  refine Fnv.of (Fn.enter Try.func222 Try.ntmps222 rfl rfl (by simp only [initEnv, List.zipIdx_cons, List.zipIdx_nil, List.map_cons, List.map_nil, Nat.zero_add, Nat.reduceAdd]; rfl) fun w0 hw => ?_)
  refine Wg ?_
  refine C.loopF (σ := Nat) (fun s => [(0, v), (1, .func (.func f) #[] caps.toArray), (7, int64 xs.length), (8, int64 s)]) (fun s => []) (fun s M' => idxFrom p s (xs.drop s) = idxFrom p 0 xs ∧ s ≤ xs.length) (fun s => xs.length - s) 0 ?_ ?_ ?_ ?_
  · exact (.cons rfl rfl (.cons rfl rfl (.cons rfl rfl (.cons rfl rfl .nil))))
  · first | exact Forget.rf | ((try dsimp only); exact Forget.go)
  · exact ⟨rfl, by simp⟩
  · rintro i M2 hM2 ⟨hgo, hi⟩
    try dsimp only at hgo hi
    refine C.as [(0, v), (1, .func (.func f) #[] caps.toArray), (7, int64 xs.length), (8, int64 i)] ([]) ?_
    refine Wg ?_
    refine C.cond rfl (fun hlt => ?_) (fun hlt => ?_)
    · have hlt := of_decide_eq_true hlt
      have hlt' : i < xs.length := by omega
      have hel := hs.up (M' := M2) |>.el hlt'
      have hre := (hr.up (M' := M2)).el hlt'
      have hmem : xs[i] ∈ xs := List.getElem_mem _
      rw [List.drop_eq_getElem_cons hlt', idxFrom] at hgo
      generalize List.take (Rep.sz Out) _ = ci at hel hre
      generalize xs[i] = x at hgo hre hmem
      have fi : Fst ci 2 ci := ⟨List.take_of_length_le (Nat.le_of_eq (Rep.len hre)), Nat.le_of_eq (Rep.len hre).symm⟩
      refine Wg ?_
      refine L.fvv (vs := [aggv ci]) rfl (hf M2 inferInstance x hmem ci hre) fun M3 hM3 => ?_
      refine Wg ?_
      refine C.cond rfl (fun hp => ?_) (fun hp => ?_)
      · rw [if_pos hp] at hgo
        refine Wg ?_
        exact Hands.ofT ([]) (rs := [.tmp 4]) rfl (.tmp rfl .nil) rfl (⟨rfl, by rw [← hgo]; rfl⟩)
      rw [if_neg (by rw [hp]; exact Bool.false_ne_true)] at hgo
      refine Wg ?_
      refine Wo ?_
      refine Wg ?_
      refine ⟨i + 1, (.cons rfl rfl (.cons rfl rfl (.cons rfl rfl (.cons rfl rfl .nil)))), (by first | exact Forget.rf | ((try dsimp only); exact Forget.go)), inferInstance, ⟨hgo, (by first | omega | (dsimp only; omega))⟩, (by first | omega | (dsimp only; omega))⟩
    have hlt := of_decide_eq_false hlt
    have e1 : i = xs.length := by omega
    subst e1
    rw [List.drop_length] at hgo
    refine Wg ?_
    exact Hands.ofT ([]) (rs := [.tmp 4]) rfl (.tmp rfl .nil) rfl (⟨rfl, by rw [← hgo]; rfl⟩)

theorem conf_out (M : Mem) (v : Value) (xs : List Out) (f : FuncId) (caps : List Value) (p : Out → Bool) (hv : SlR M v xs) [Callable Try.prog f]
    (hf : ∀ M', Sub M M' → ∀ x ∈ xs, ∀ cs, Rep.R M' cs x → Fnv Try.prog f ([aggv cs] ++ caps) M' (.bool (p x))) : Fnv Try.prog 138 [v, .func (.func f) #[] caps.toArray] M (.bool (xs.any p)) := by
  have i1 := hv.one
  have c1 := hv.cells
  refine Fnv.of (Fn.enter Try.func138 Try.ntmps138 rfl rfl (by simp only [initEnv, List.zipIdx_cons, List.zipIdx_nil, List.map_cons, List.map_nil, Nat.zero_add, Nat.reduceAdd]; rfl) fun w0 hw => ?_)
  refine Wg ?_
  refine L.cv (idxf_out _ v xs f caps p hv.up (fun M' s => hf M' (Sub.trans' inferInstance s))) fun M1 hM1 => ?_
  refine Wg ?_
  exact Hands.ofT ([]) (rs := [.tmp 4]) rfl (.tmp rfl .nil) rfl (⟨rfl, by rw [← idxFrom_any p xs 0]; rfl⟩)

theorem opRight_0 {o : Opn} (h : o.kind = 0) : opRight o = (decide (o.tower = 0) && decide (o.channel = 0) && decide (o.amount = 0) && decide (o.root = zsum) && decide ((o.data.length : Int) = 0)) := by
  unfold opRight; rw [if_pos h, Bool.eq_iff_iff]; simp
theorem opRight_1 {o : Opn} (h : ¬ o.kind = 0) : opRight o = (decide (1 ≤ o.kind) && decide (o.kind ≤ 7) && decide (0 ≤ o.tower) && decide (o.tower < 16) && decide (0 ≤ o.channel) && decide (o.channel ≤ 1048576) && decide (0 ≤ o.amount) && decide (o.amount ≤ 1125899906842624) && decide ((o.data.length : Int) ≤ 65536)) := by
  unfold opRight; rw [if_neg h, Bool.eq_iff_iff]; simp; omega
theorem tx_rightOp (M : Mem) (cs : List Value) (o : Opn) (hy : Rep.R M cs o) : Fnv Try.prog 39 [aggv cs] M (.bool (opRight o)) := by
  obtain ⟨v, rfl, hd, hwd⟩ := hy
  have hs : SlM M 1 v o.data.length (bytesC o.data) := hd
  have i1 := hs.one
  have c1 := hs.cells
  refine Fnv.of (Fn.enter Try.func39 Try.ntmps39 rfl rfl (by simp only [initEnv, List.zipIdx_cons, List.zipIdx_nil, List.map_cons, List.map_nil, Nat.zero_add, Nat.reduceAdd]; rfl) fun w0 hw => ?_)
  refine Wg ?_
  refine L.bxM fun b1 M1 hp1 hb1 => ?_
  refine Wg ?_
  refine C.cond rfl (fun h5 => ?_) (fun h5 => ?_)
  · have h5 := of_decide_eq_true h5
    refine Wg ?_
    refine L.and 4 13 9 ?_
    refine Wg ?_
    refine L.and 4 18 14 ?_
    refine Wg ?_
    refine L.andH 5 24 19 rfl (fun h19 => by
          refine Wg ?_
          refine L.qh ?_ (Qt.bin rfl rfl BinRun.sumEq)
          refine Wg ?_
          refine Wf ?_
          exact Kj.mk
      ) ?_
    refine Wg ?_
    refine L.and 5 30 25 ?_
    refine Wg ?_
    exact Hands.ofT ([]) (rs := [.tmp 2]) rfl (.tmp rfl .nil) rfl (⟨rfl, by rw [opRight_0 h5]; rfl⟩)
  have h5 := of_decide_eq_false h5
  refine Wg ?_
  refine L.and 4 38 34 ?_
  refine Wg ?_
  refine L.and 4 43 39 ?_
  refine Wg ?_
  refine L.and 4 48 44 ?_
  refine Wg ?_
  refine L.and 4 53 49 ?_
  refine Wg ?_
  refine L.and 4 58 54 ?_
  refine Wg ?_
  refine L.and 4 63 59 ?_
  refine Wg ?_
  refine L.and 4 68 64 ?_
  refine Wg ?_
  refine L.and 5 74 69 ?_
  refine Wg ?_
  exact Hands.ofT ([]) (rs := [.tmp 2]) rfl (.tmp rfl .nil) rfl (⟨rfl, by rw [opRight_1 h5]; rfl⟩)

theorem inRight_eq (x : Inp) : inRight x = (decide (0 ≤ x.ref.at_) && decide (x.ref.at_ < 16) && decide (0 ≤ x.way) && decide (x.way < 16) && decide ((x.pre.length : Int) ≤ 64)) := by
  unfold inRight; rw [Bool.eq_iff_iff]; simp; omega
theorem tx_rightIn (M : Mem) (cs : List Value) (x : Inp) (hy : Rep.R M cs x) : Fnv Try.prog 135 [aggv cs] M (.bool (inRight x)) := by
  obtain ⟨v, rfl, hd, ha, hb⟩ := hy
  have hs : SlM M 1 v x.pre.length (bytesC x.pre) := hd
  have i1 := hs.one
  have c1 := hs.cells
  refine Fnv.of (Fn.enter Try.func135 Try.ntmps135 rfl rfl (by simp only [initEnv, List.zipIdx_cons, List.zipIdx_nil, List.map_cons, List.map_nil, Nat.zero_add, Nat.reduceAdd]; rfl) fun w0 hw => ?_)
  refine Wg ?_
  refine L.bxM fun b1 M1 hp1 hb1 => ?_
  refine Wg ?_
  refine L.and 5 12 7 ?_
  refine Wg ?_
  refine L.and 4 17 13 ?_
  refine Wg ?_
  refine L.and 4 22 18 ?_
  refine Wg ?_
  refine L.and 5 28 23 ?_
  refine Wg ?_
  exact Hands.ofT ([]) (rs := [.tmp 2]) rfl (.tmp rfl .nil) rfl (⟨rfl, by rw [inRight_eq]; rfl⟩)

theorem tx_right1 (M : Mem) (cs : List Value) (x y : Inp) (xb : Nat) (v : Value) (hy : Rep.R M cs y) (hx : At M xb (row (sumC x.ref.tx ++ int64 x.ref.at_ :: int64 x.way :: v :: []) 94)) : Fnv Try.prog 137 [aggv cs, ptr xb 0] M (.bool (decide (y.ref = x.ref))) := by
  obtain ⟨v2, rfl, hd, ha, hb⟩ := hy
  have i1 := SlM.one hd
  have c1 := SlM.cells hd
  refine Fnv.of (Fn.enter Try.func137 Try.ntmps137 rfl rfl (by simp only [initEnv, List.zipIdx_cons, List.zipIdx_nil, List.map_cons, List.map_nil, Nat.zero_add, Nat.reduceAdd]; rfl) fun w0 hw => ?_)
  refine Wg ?_
  refine L.bxM fun b2 M2 hp2 hb2 => ?_
  refine Wg ?_
  refine L.qh ?_ (Qt.bin rfl rfl (BinRun.rfEq (a := y.ref) (b := x.ref)))
  refine Wg ?_
  exact Hands.ofT ([]) (rs := [.tmp 3]) rfl (.tmp rfl .nil) rfl (⟨rfl, rfl⟩)

theorem tx_right2 (M : Mem) (cs : List Value) (o : Out) (hy : Rep.R M cs o) : Fnv Try.prog 139 [aggv cs] M (.bool (!outRight o)) := by
  have fi : Fst cs 2 cs := ⟨List.take_of_length_le (Nat.le_of_eq (Rep.len hy)), Nat.le_of_eq (Rep.len hy).symm⟩
  refine Fnv.of (Fn.enter Try.func139 Try.ntmps139 rfl rfl (by simp only [initEnv, List.zipIdx_cons, List.zipIdx_nil, List.map_cons, List.map_nil, Nat.zero_add, Nat.reduceAdd]; rfl) fun w0 hw => ?_)
  refine Wg ?_
  refine L.bxM fun b1 M1 hp1 hb1 => ?_
  refine Wg ?_
  refine L.cv (lock_rightOut _ cs o (Rep.up hy inferInstance)) fun M1 hM1 => ?_
  refine Wg ?_
  exact Hands.ofT ([]) (rs := [.tmp 2]) rfl (.tmp rfl .nil) rfl (⟨rfl, rfl⟩)

theorem insOk_cons (pre : List Inp) (x : Inp) (xs : List Inp) : insOk pre (x :: xs) = (inRight x && !(pre.any fun y => decide (y.ref = x.ref)) && insOk (pre ++ [x]) xs) := rfl
theorem txRight_eq (t : Txn) : txRight t = (!(decide (16 < (t.ins.length : Int)) || decide (16 < (t.outs.length : Int)) || decide (16 < (t.signs.length : Int)) || !opRight t.op || (decide ((t.ins.length : Int) = 0) && decide (t.op.kind = 0))) && (insOk [] t.ins && (keysOk (t.signs.map (·.key)) && t.outs.all outRight))) := by
  unfold txRight
  rw [Bool.eq_iff_iff]
  cases opRight t.op <;> cases insOk [] t.ins <;> cases keysOk (t.signs.map (·.key)) <;> cases t.outs.all outRight <;> simp
  omega
theorem sgn_el {M : Mem} {v : Value} {l : List Sgn} (h : SlR M v l) {i : Nat} (hi : i < l.length) : ∃ s, l[i]? = some s ∧ El M v (i * 33) (sgnC s) ∧ I64 s.key ∧ (l.map (·.key)).getD i 0 = s.key := by
  obtain ⟨ci, h1, h2, h3⟩ := h.el hi
  exact ⟨l[i], by simp [hi], h2 ▸ h1, h3, by simp [hi]⟩
set_option maxHeartbeats 2000000 in
theorem tx_right (M : Mem) (cs : List Value) (t : Txn) (ht : Rep.R M cs t) : Fnv Try.prog 37 [aggv cs] M (.bool (txRight t)) := by
  obtain ⟨vi, vo, vd, vs, rfl, hi, ho, hd, hs, hwd⟩ := ht
  have hil := hi.le
  have hsl := hs.le
  obtain ⟨ics, his, hir⟩ := hi
  obtain ⟨ocs, hos, hor⟩ := ho
  have hs0 := hs
  obtain ⟨scs, hss, hsr⟩ := hs
  have i1 := his.one
  have c1 := his.cells
  have i2 := hos.one
  have c2 := hos.cells
  have i3 := SlM.one hd
  have c3 := SlM.cells hd
  have i4 := hss.one
  have c4 := hss.cells
  refine Fnv.of (Fn.enter Try.func37 Try.ntmps37 rfl rfl (by simp only [initEnv, List.zipIdx_cons, List.zipIdx_nil, List.map_cons, List.map_nil, Nat.zero_add, Nat.reduceAdd]; rfl) fun w0 hw => ?_)
  refine Wg ?_
  refine L.bxM fun b1 M1 hp1 hb1 => ?_
  refine Wg ?_
  refine L.or 5 16 11 ?_
  refine Wg ?_
  refine L.or 5 22 17 ?_
  refine Wg ?_
  refine L.orM 5 28 23 rfl (fun h23 => by
        refine Wg ?_
        refine L.cv (tx_rightOp _ _ t.op ⟨vd, rfl, BytesM.up hd, hwd⟩) fun M2 hM2 => ?_
        refine Wg ?_
        refine Wf ?_
        exact KjM.mk
    ) (fun M1 hM1 => ?_)
  refine Wg ?_
  refine L.orH 11 40 29 rfl (fun h29 => by
        refine Wg ?_
        refine L.and 5 39 34 ?_
        refine Wg ?_
        refine Wf ?_
        exact Kj.mk
    ) ?_
  refine Wg ?_
  refine C.cond rfl (fun h40 => ?_) (fun h40 => ?_)
  · refine Wg ?_
    exact Hands.ofT ([]) (rs := [.tmp 2]) rfl (.tmp rfl .nil) rfl (⟨rfl, by rw [txRight_eq, h40]; rfl⟩)
  have hg : txRight t = (insOk [] t.ins && (keysOk (t.signs.map (·.key)) && t.outs.all outRight)) := by rw [txRight_eq, h40]; rfl
  rw [hg]
  refine Wg ?_
  refine C.loopF (σ := Nat) (fun s => [(1, ptr b1 0), (42, vi), (43, int64 t.ins.length), (44, int64 s)]) (fun s => []) (fun s M' => insOk (t.ins.take s) (t.ins.drop s) = insOk [] t.ins ∧ s ≤ t.ins.length) (fun s => t.ins.length - s) 0 ?_ ?_ ?_ ?_
  · exact (.cons rfl rfl (.cons rfl rfl (.cons rfl rfl (.cons rfl rfl .nil))))
  · first | exact Forget.rf | ((try dsimp only); exact Forget.go)
  · exact ⟨rfl, by simp⟩
  · rintro i M2 hM2 ⟨hgo, hi⟩
    try dsimp only at hgo hi
    refine C.as [(1, ptr b1 0), (42, vi), (43, int64 t.ins.length), (44, int64 i)] ([]) ?_
    refine Wg ?_
    refine C.cond rfl (fun hlt => ?_) (fun hlt => ?_)
    · have hlt := of_decide_eq_true hlt
      have hlt' : i < t.ins.length := by omega
      have hel := his.up (M' := M2) |>.el hlt'
      have hre := (hir.up (M' := M2)).el hlt'
      rw [List.drop_eq_getElem_cons hlt', insOk_cons, ← List.take_succ_eq_append_getElem hlt'] at hgo
      generalize List.take (Rep.sz Inp) _ = ci at hel hre
      generalize t.ins[i] = x at hgo hre
      have hre' := hre
      obtain ⟨v, rfl, hpre, hra, hrw⟩ := hre
      have j1 := SlM.one hpre
      have d1 := SlM.cells hpre
      refine Wg ?_
      refine L.al fun b4 => ?_
      refine Wg ?_
      refine L.frz b4 fun Mz4 hMz4 hx4 => ?_
      refine L.cv (tx_rightIn _ _ x (Rep.up hre' inferInstance)) fun M4 hM4 => ?_
      refine Wg ?_
      refine L.split 52 rfl (fun h52 => ?_) (fun h52 => ?_)
      · have hr : inRight x = false := by simpa using h52
        rw [hr] at hgo
        refine Wg ?_
        exact Hands.ofT ([]) (rs := [.tmp 2]) rfl (.tmp rfl .nil) rfl (⟨rfl, by rw [← hgo]; rfl⟩)
      have hr : inRight x = true := by simpa using h52
      refine Wg ?_
      refine L.qh ?_ (Qt.sliceHi (hi := i) rfl rfl his (by omega))
      refine Wg ?_
      refine L.cv (conf_inp _ _ (t.ins.take i) 137 [ptr b4 0] (fun y => decide (y.ref = x.ref)) (by have := (SlR.sub ⟨_, his, hir⟩ (Nat.zero_le i) hi).up (M' := M); simpa using SlR.up this) (fun M' s y _ cs hy => tx_right1 M' cs x y b4 v hy (At.up hx4 (s := Sub.trans' inferInstance s)))) fun M5 hM5 => ?_
      refine Wg ?_
      refine C.cond rfl (fun h59 => ?_) (fun h59 => ?_)
      · rw [hr, h59] at hgo
        refine Wg ?_
        exact Hands.ofT ([]) (rs := [.tmp 2]) rfl (.tmp rfl .nil) rfl (⟨rfl, by rw [← hgo]; rfl⟩)
      rw [hr, h59] at hgo
      refine Wg ?_
      refine Wo ?_
      refine Wg ?_
      refine ⟨i + 1, (.cons rfl rfl (.cons rfl rfl (.cons rfl rfl (.cons rfl rfl .nil)))), (by first | exact Forget.rf | ((try dsimp only); exact Forget.go)), inferInstance, ⟨by simpa using hgo, (by first | omega | (dsimp only; omega))⟩, (by first | omega | (dsimp only; omega))⟩
    have hlt := of_decide_eq_false hlt
    have e1 : i = t.ins.length := by omega
    subst e1
    rw [List.drop_length, insOk] at hgo
    rw [← hgo, Bool.true_and]
    refine Wg ?_
    refine C.loopF (σ := Nat) (fun s => [(1, ptr b1 0), (62, vs), (63, int64 t.signs.length), (64, int64 s)]) (fun s => []) (fun s M' => rise (prevK (t.signs.map (·.key)) s) ((t.signs.map (·.key)).drop s) = keysOk (t.signs.map (·.key)) ∧ s ≤ t.signs.length) (fun s => t.signs.length - s) 0 ?_ ?_ ?_ ?_
    · exact (.cons rfl rfl (.cons rfl rfl (.cons rfl rfl (.cons rfl rfl .nil))))
    · first | exact Forget.rf | ((try dsimp only); exact Forget.go)
    · exact ⟨rfl, by simp⟩
    · rintro i M3 hM3 ⟨hgo2, hi2⟩
      try dsimp only at hgo2 hi2
      refine C.as [(1, ptr b1 0), (62, vs), (63, int64 t.signs.length), (64, int64 i)] ([]) ?_
      refine Wg ?_
      refine C.cond rfl (fun hlt2 => ?_) (fun hlt2 => ?_)
      · have hlt2 := of_decide_eq_true hlt2
        have hlt' : i < t.signs.length := by omega
        obtain ⟨sg, hsg, hel, hsk, hkd⟩ := sgn_el hs0 hlt'
        rw [rise_step _ _ (by simpa using hlt'), hkd] at hgo2
        refine Wg ?_
        refine L.al fun b6 => ?_
        refine Wg ?_
        refine C.drw [] [b6] ?_
        refine LA.ta 0 ?_
        refine LA.ta 1 ?_
        refine LA.ta 2 ?_
        refine LA.ta 3 ?_
        refine LA.split 72 rfl (fun h72 => ?_) (fun h72 => ?_)
        · rw [h72] at hgo2
          refine LA.to 4 ?_
          refine LA.to 5 ?_
          refine LA.to 6 ?_
          refine LA.ta 7 ?_
          refine LA.ta 8 ?_
          refine LA.to 9 ?_
          refine LA.to 10 ?_
          refine LA.to 11 ?_
          refine LA.to 12 ?_
          refine LA.to 13 ?_
          refine LA.to 14 ?_
          refine LA.to 15 ?_
          refine LA.to 16 ?_
          refine LA.to 17 ?_
          refine LA.to 18 ?_
          refine LA.to 19 ?_
          refine LA.to 20 ?_
          refine LA.to 21 ?_
          refine LA.to 22 ?_
          refine LA.ta 23 ?_
          refine LA.dn ?_
          try dsimp only
          refine Wg ?_
          exact Hands.ofT ([]) (rs := [.tmp 2]) rfl (.tmp rfl .nil) rfl (⟨rfl, by rw [← hgo2]; rfl⟩)
        refine LA.ta 4 ?_
        refine LA.ta 5 ?_
        refine LA.ta 6 ?_
        refine LA.ta 7 ?_
        refine LA.ta 8 ?_
        refine LA.split 77 rfl (fun h77 => ?_) (fun h77 => ?_)
        · rw [h72, h77] at hgo2
          refine LA.to 9 ?_
          refine LA.to 10 ?_
          refine LA.to 11 ?_
          refine LA.to 12 ?_
          refine LA.to 13 ?_
          refine LA.to 14 ?_
          refine LA.to 15 ?_
          refine LA.to 16 ?_
          refine LA.to 17 ?_
          refine LA.to 18 ?_
          refine LA.to 19 ?_
          refine LA.to 20 ?_
          refine LA.to 21 ?_
          refine LA.to 22 ?_
          refine LA.ta 23 ?_
          refine LA.dn ?_
          try dsimp only
          refine Wg ?_
          exact Hands.ofT ([]) (rs := [.tmp 2]) rfl (.tmp rfl .nil) rfl (⟨rfl, by rw [← hgo2]; rfl⟩)
        refine LA.ta 9 ?_
        refine LA.ta 10 ?_
        refine LA.ta 11 ?_
        refine LA.split 80 rfl (fun h80 => ?_) (fun h80 => ?_)
        rotate_left
        · rw [h72, h77, h80] at hgo2
          refine LA.to 12 ?_
          refine LA.to 13 ?_
          refine LA.to 14 ?_
          refine LA.to 15 ?_
          refine LA.to 16 ?_
          refine LA.to 17 ?_
          refine LA.to 18 ?_
          refine LA.to 19 ?_
          refine LA.to 20 ?_
          refine LA.to 21 ?_
          refine LA.ta 22 ?_
          refine LA.ta 23 ?_
          refine LA.dn ?_
          try dsimp only
          refine Wg ?_
          refine Wo ?_
          refine Wg ?_
          refine ⟨i + 1, (.cons rfl rfl (.cons rfl rfl (.cons rfl rfl (.cons rfl rfl .nil)))), (by first | exact Forget.rf | ((try dsimp only); exact Forget.go)), inferInstance, ⟨by simpa using hgo2, (by first | omega | (dsimp only; omega))⟩, (by first | omega | (dsimp only; omega))⟩
        have hi0 : 0 < i := by simpa using h80
        obtain ⟨sg2, hsg2, hel2, hsk2, hkd2⟩ := sgn_el hs0 (i := i - 1) (by omega)
        rw [h72, h77, h80, hkd2] at hgo2
        refine LA.ta 12 ?_
        refine LA.ta 13 ?_
        refine LA.ta 14 ?_
        refine LA.ta 15 ?_
        refine LA.ta 16 ?_
        refine LA.th 17 rfl ?_ (Qt.bin rfl rfl (BinRun.sub (sub1 hi0 (by omega))))
        refine LA.ta 18 ?_
        refine LA.ta 19 ?_
        refine LA.ta 20 ?_
        refine LA.ta 21 ?_
        refine LA.ta 22 ?_
        refine LA.ta 23 ?_
        refine LA.dn ?_
        try dsimp only
        refine Wg ?_
        refine C.cond rfl (fun h92 => ?_) (fun h92 => ?_)
        · rw [h92] at hgo2
          refine Wg ?_
          exact Hands.ofT ([]) (rs := [.tmp 2]) rfl (.tmp rfl .nil) rfl (⟨rfl, by rw [← hgo2]; rfl⟩)
        rw [h92] at hgo2
        refine Wg ?_
        refine Wo ?_
        refine Wg ?_
        refine ⟨i + 1, (.cons rfl rfl (.cons rfl rfl (.cons rfl rfl (.cons rfl rfl .nil)))), (by first | exact Forget.rf | ((try dsimp only); exact Forget.go)), inferInstance, ⟨by simpa using hgo2, (by first | omega | (dsimp only; omega))⟩, (by first | omega | (dsimp only; omega))⟩
      have hlt2 := of_decide_eq_false hlt2
      have e2 : i = t.signs.length := by omega
      subst e2
      have hlen : (t.signs.map (·.key)).length = t.signs.length := by simp
      rw [← hlen, rise_end] at hgo2
      rw [← hgo2, Bool.true_and]
      refine Wg ?_
      refine L.cv (conf_out _ vo t.outs 139 [] (fun o => !outRight o) ⟨_, hos.up, hor.up⟩ (fun M' s x _ cs hx => tx_right2 M' cs x hx)) fun M6 hM6 => ?_
      refine Wg ?_
      exact Hands.ofT ([]) (rs := [.tmp 2]) rfl (.tmp rfl .nil) rfl (⟨rfl, by rw [any_not]; rfl⟩)

end Go.Proofs.Ytdgdigliepncpaa
