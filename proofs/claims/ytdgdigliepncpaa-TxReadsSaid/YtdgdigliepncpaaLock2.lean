/-
  This text proves which outs may be, and what is found in lists by a test.
  Conditions: none.
-/
import Derived.Test.YtdgdigliepncpaaLock
namespace Go.Proofs.Ytdgdigliepncpaa
open Go

theorem idxf_way (M : Mem) (v : Value) (xs : List Way) (f : FuncId) (caps : List Value) (p : Way → Bool) (hv : SlR M v xs) [Callable Try.prog f]
    (hf : ∀ M', Sub M M' → ∀ x ∈ xs, ∀ cs, Rep.R M' cs x → Fnv Try.prog f ([aggv cs] ++ caps) M' (.bool (p x))) : Fnv Try.prog 262 [v, .func (.func f) #[] caps.toArray] M (int64 (idxFrom p 0 xs)) := by
  have hle := hv.le
  obtain ⟨cs, hs, hr⟩ := hv
  have i1 := hs.one
  have c1 := hs.cells
  refine Fnv.of (Fn.enter Try.func262 Try.ntmps262 rfl rfl (by simp only [initEnv, List.zipIdx_cons, List.zipIdx_nil, List.map_cons, List.map_nil, Nat.zero_add, Nat.reduceAdd]; rfl) fun w0 hw => ?_)
  refine Wg ?_
  refine C.loopF (σ := Nat) (fun s => [(0, v), (1, .func (.func f) #[] caps.toArray), (7, int64 xs.length), (8, int64 s)]) (fun s => []) (fun s M' => idxFrom p s (xs.drop s) = idxFrom p 0 xs ∧ s ≤ xs.length) (fun s => xs.length - s) 0 ?_ ?_ ?_ ?_
  · exact (.cons rfl rfl (.cons rfl rfl (.cons rfl rfl (.cons rfl rfl .nil))))
  · first | exact Forget.rf | ((try dsimp only); exact Forget.go)
  · exact ⟨rfl, by simp⟩
  · rintro i M2 hM2 ⟨hgo, hi⟩
    try dsimp only at hgo hi
    refine C.as [(0, v), (1, .func (.func f) #[] caps.toArray), (7, int64 xs.length), (8, int64 i)] ([]) ?_
    refine Wg ?_
    refine C.cond rfl (fun hlt => ?_) (fun hlt => ?_)
    · have hlt := of_decide_eq_true hlt
      have hlt' : i < xs.length := by omega
      have hel := hs.up (M' := M2) |>.el hlt'
      have hre := (hr.up (M' := M2)).el hlt'
      have hmem : xs[i] ∈ xs := List.getElem_mem _
      rw [List.drop_eq_getElem_cons hlt', idxFrom] at hgo
      generalize List.take (Rep.sz Way) _ = ci at hel hre
      generalize xs[i] = x at hgo hre hmem
      have fi : Fst ci 35 ci := ⟨List.take_of_length_le (Nat.le_of_eq (Rep.len hre)), Nat.le_of_eq (Rep.len hre).symm⟩
      refine Wg ?_
      refine L.fvv (vs := [aggv ci]) rfl (hf M2 inferInstance x hmem ci hre) fun M3 hM3 => ?_
      refine Wg ?_
      refine C.cond rfl (fun hp => ?_) (fun hp => ?_)
      · rw [if_pos hp] at hgo
        refine Wg ?_
        exact Hands.ofT ([]) (rs := [.tmp 4]) rfl (.tmp rfl .nil) rfl (⟨rfl, by rw [← hgo]; rfl⟩)
      rw [if_neg (by rw [hp]; exact Bool.false_ne_true)] at hgo
      refine Wg ?_
      refine Wo ?_
      refine Wg ?_
      refine ⟨i + 1, (.cons rfl rfl (.cons rfl rfl (.cons rfl rfl (.cons rfl rfl .nil)))), (by first | exact Forget.rf | ((try dsimp only); exact Forget.go)), inferInstance, ⟨hgo, (by first | omega | (dsimp only; omega))⟩, (by first | omega | (dsimp only; omega))⟩
    have hlt := of_decide_eq_false hlt
    have e1 : i = xs.length := by omega
    subst e1
    rw [List.drop_length] at hgo
    refine Wg ?_
    exact Hands.ofT ([]) (rs := [.tmp 4]) rfl (.tmp rfl .nil) rfl (⟨rfl, by rw [← hgo]; rfl⟩)

theorem conf_way (M : Mem) (v : Value) (xs : List Way) (f : FuncId) (caps : List Value) (p : Way → Bool) (hv : SlR M v xs) [Callable Try.prog f]
    (hf : ∀ M', Sub M M' → ∀ x ∈ xs, ∀ cs, Rep.R M' cs x → Fnv Try.prog f ([aggv cs] ++ caps) M' (.bool (p x))) : Fnv Try.prog 223 [v, .func (.func f) #[] caps.toArray] M (.bool (xs.any p)) := by
  have i1 := hv.one
  have c1 := hv.cells
  refine Fnv.of (Fn.enter Try.func223 Try.ntmps223 rfl rfl (by simp only [initEnv, List.zipIdx_cons, List.zipIdx_nil, List.map_cons, List.map_nil, Nat.zero_add, Nat.reduceAdd]; rfl) fun w0 hw => ?_)
  refine Wg ?_
  refine L.cv (idxf_way _ v xs f caps p hv.up (fun M' s => hf M' (Sub.trans' inferInstance s))) fun M1 hM1 => ?_
  refine Wg ?_
  exact Hands.ofT ([]) (rs := [.tmp 4]) rfl (.tmp rfl .nil) rfl (⟨rfl, by rw [← idxFrom_any p xs 0]; rfl⟩)

theorem lock_rightOut1 (M : Mem) (cs : List Value) (w : Way) (hy : Rep.R M cs w) : Fnv Try.prog 224 [aggv cs] M (.bool (!wayRight w)) := by
  have fi : Fst cs 35 cs := ⟨List.take_of_length_le (Nat.le_of_eq (Rep.len hy)), Nat.le_of_eq (Rep.len hy).symm⟩
  refine Fnv.of (Fn.enter Try.func224 Try.ntmps224 rfl rfl (by simp only [initEnv, List.zipIdx_cons, List.zipIdx_nil, List.map_cons, List.map_nil, Nat.zero_add, Nat.reduceAdd]; rfl) fun w0 hw => ?_)
  refine Wg ?_
  refine L.bxM fun b1 M1 hp1 hb1 => ?_
  refine Wg ?_
  refine L.cv (lock_right _ cs w (Rep.up hy inferInstance)) fun M1 hM1 => ?_
  refine Wg ?_
  exact Hands.ofT ([]) (rs := [.tmp 2]) rfl (.tmp rfl .nil) rfl (⟨rfl, rfl⟩)

theorem any_not {α : Type} (p : α → Bool) (l : List α) : (!l.any fun x => !p x) = l.all p := by
  induction l with
  | nil => rfl
  | cons x xs ih => rw [List.any_cons, List.all_cons, ← ih]; cases p x <;> simp
theorem outRight_eq (o : Out) : outRight o = (!(decide (o.amount < 0) || decide (1125899906842624 < o.amount) || decide ((o.ways.length : Int) < 1) || decide (16 < (o.ways.length : Int))) && o.ways.all wayRight) := by
  unfold outRight
  cases o.ways.all wayRight
  · simp
  · rw [Bool.eq_iff_iff]; simp; omega
theorem lock_rightOut (M : Mem) (cs : List Value) (o : Out) (ho : Rep.R M cs o) : Fnv Try.prog 140 [aggv cs] M (.bool (outRight o)) := by
  obtain ⟨v, rfl, hk, ha⟩ := ho
  obtain ⟨kcs, hs, hr⟩ := hk
  have i1 := hs.one
  have c1 := hs.cells
  refine Fnv.of (Fn.enter Try.func140 Try.ntmps140 rfl rfl (by simp only [initEnv, List.zipIdx_cons, List.zipIdx_nil, List.map_cons, List.map_nil, Nat.zero_add, Nat.reduceAdd]; rfl) fun w0 hw => ?_)
  refine Wg ?_
  refine L.bxM fun b1 M1 hp1 hb1 => ?_
  refine Wg ?_
  refine L.or 4 10 6 ?_
  refine Wg ?_
  refine L.or 5 16 11 ?_
  refine Wg ?_
  refine L.or 5 22 17 ?_
  refine Wg ?_
  refine C.cond rfl (fun h1 => ?_) (fun h1 => ?_)
  · refine Wg ?_
    exact Hands.ofT ([]) (rs := [.tmp 2]) rfl (.tmp rfl .nil) rfl (⟨rfl, by rw [outRight_eq, h1]; rfl⟩)
  refine Wg ?_
  refine L.cv (conf_way _ v o.ways 224 [] (fun w => !wayRight w) ⟨_, hs.up, hr.up⟩ (fun M' s x _ cs hx => lock_rightOut1 M' cs x hx)) fun M1 hM1 => ?_
  refine Wg ?_
  exact Hands.ofT ([]) (rs := [.tmp 2]) rfl (.tmp rfl .nil) rfl (⟨rfl, by rw [outRight_eq, h1, any_not]; rfl⟩)

theorem lock_to (M : Mem) (key amount : Int) (hk : I64 key) (ha : I64 amount) : Fn0 Try.prog 55 [int64 key, int64 amount] M fun r M' => ∃ cs, r = aggv cs ∧ Rep.R M' cs (⟨amount, [⟨[key], zsum, 0, 0⟩]⟩ : Out) := by
  refine Fn0.of (Fn.enter Try.func55 Try.ntmps55 rfl rfl (by simp only [initEnv, List.zipIdx_cons, List.zipIdx_nil, List.map_cons, List.map_nil, Nat.zero_add, Nat.reduceAdd]; rfl) fun w0 hw => ?_)
  refine Wg ?_
  refine L.al fun b4 => ?_
  refine Wg ?_
  refine L.bsM fun b7 M7 hp7 hb7 => ?_
  refine Wg ?_
  refine L.bsM fun b9 M9 hp9 hb9 => ?_
  refine Wg ?_
  exact Hands.ofT ([]) (rs := [.cell 4 87]) rfl (.cell rfl BoxIs.aggA .nil) rfl (⟨rfl, _, rfl, _, rfl, ⟨_, SlM.ofRow (sz := 35) hb9 rfl (by decide) (by decide), _, [], rfl, ⟨_, rfl, (IntsM.row (ns := [key]) hb7 (by simpa using hk)).up.rep, ⟨by simp, by simp⟩, ⟨by simp, by simp⟩⟩, rfl⟩, ha⟩)

theorem idx_int (M : Mem) (v : Value) (xs : List Int) (n : Int) (hv : IntsM M v xs) : Fnv Try.prog 248 [v, int64 n] M (int64 (idxFrom (fun x => decide (n = x)) 0 xs)) := by
  have hs := hv.1
  have hle := hs.le
  unfold maxLen at hle
  have i1 := hs.one
  have c1 := hs.cells
  refine Fnv.of (Fn.enter Try.func248 Try.ntmps248 rfl rfl (by simp only [initEnv, List.zipIdx_cons, List.zipIdx_nil, List.map_cons, List.map_nil, Nat.zero_add, Nat.reduceAdd]; rfl) fun w0 hw => ?_)
  refine Wg ?_
  refine C.loopF (σ := Nat) (fun s => [(0, v), (1, int64 n), (7, int64 xs.length), (8, int64 s)]) (fun s => []) (fun s M' => idxFrom (fun x => decide (n = x)) s (xs.drop s) = idxFrom (fun x => decide (n = x)) 0 xs ∧ s ≤ xs.length) (fun s => xs.length - s) 0 ?_ ?_ ?_ ?_
  · exact (.cons rfl rfl (.cons rfl rfl (.cons rfl rfl (.cons rfl rfl .nil))))
  · first | exact Forget.rf | ((try dsimp only); exact Forget.go)
  · exact ⟨rfl, by simp⟩
  · rintro i M2 hM2 ⟨hgo, hi⟩
    try dsimp only at hgo hi
    refine C.as [(0, v), (1, int64 n), (7, int64 xs.length), (8, int64 i)] ([]) ?_
    refine Wg ?_
    refine C.cond rfl (fun hlt => ?_) (fun hlt => ?_)
    · have hlt := of_decide_eq_true hlt
      have hlt' : i < xs.length := by omega
      have hel := hv.el hlt'
      have e1 : xs.getD i 0 = xs[i] := by simp [hlt']
      rw [List.drop_eq_getElem_cons hlt', idxFrom, ← e1] at hgo
      refine Wg ?_
      refine C.cond rfl (fun hp => ?_) (fun hp => ?_)
      · rw [if_pos hp] at hgo
        refine Wg ?_
        exact Hands.ofT ([]) (rs := [.tmp 4]) rfl (.tmp rfl .nil) rfl (⟨rfl, by rw [← hgo]; rfl⟩)
      rw [if_neg (by rw [hp]; exact Bool.false_ne_true)] at hgo
      refine Wg ?_
      refine Wo ?_
      refine Wg ?_
      refine ⟨i + 1, (.cons rfl rfl (.cons rfl rfl (.cons rfl rfl (.cons rfl rfl .nil)))), (by first | exact Forget.rf | ((try dsimp only); exact Forget.go)), inferInstance, ⟨hgo, (by first | omega | (dsimp only; omega))⟩, (by first | omega | (dsimp only; omega))⟩
    have hlt := of_decide_eq_false hlt
    have e1 : i = xs.length := by omega
    subst e1
    rw [List.drop_length] at hgo
    refine Wg ?_
    exact Hands.ofT ([]) (rs := [.tmp 4]) rfl (.tmp rfl .nil) rfl (⟨rfl, by rw [← hgo]; rfl⟩)

theorem con_int (M : Mem) (v : Value) (xs : List Int) (n : Int) (hv : IntsM M v xs) : Fnv Try.prog 192 [v, int64 n] M (.bool (xs.any fun x => decide (n = x))) := by
  have i1 := hv.1.one
  have c1 := hv.1.cells
  refine Fnv.of (Fn.enter Try.func192 Try.ntmps192 rfl rfl (by simp only [initEnv, List.zipIdx_cons, List.zipIdx_nil, List.map_cons, List.map_nil, Nat.zero_add, Nat.reduceAdd]; rfl) fun w0 hw => ?_)
  refine Wg ?_
  refine L.cv (idx_int _ v xs n hv.up) fun M1 hM1 => ?_
  refine Wg ?_
  exact Hands.ofT ([]) (rs := [.tmp 4]) rfl (.tmp rfl .nil) rfl (⟨rfl, by rw [← idxFrom_any _ xs 0]; rfl⟩)

end Go.Proofs.Ytdgdigliepncpaa
