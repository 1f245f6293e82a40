/-
  This text proves what an eye's other methods read.
  Conditions: none.
-/
import Derived.Test.YtdgdigliepncpaaEye
namespace Go.Proofs.Ytdgdigliepncpaa
open Go

def Ey.raw (y : Ey) (n : Int) : List UInt8 × Ey := if y.e ≠ 0 then ([], y) else if n < 0 ∨ n > y.b.length then ([], y.fail 2) else (y.b.take n.toNat, ⟨y.b.drop n.toNat, 0⟩)

theorem BytesM.nil {M : Mem} : BytesM M (.slice none 0 0) [] := SlM.nil
theorem BytesM.take {M : Mem} {v : Value} {l : List UInt8} (h : BytesM M v l) {k : Nat} (hk : k ≤ l.length) : BytesM M (subV v 0 k 1) (l.take k) := by
  have := SlM.sub h (lo := 0) (hi := k) (by omega) hk
  unfold BytesM
  rw [List.length_take, Nat.min_eq_left hk]
  simpa [bytesC, List.map_take] using this
theorem BytesM.drop {M : Mem} {v : Value} {l : List UInt8} (h : BytesM M v l) {k : Nat} (hk : k ≤ l.length) : BytesM M (subV v k l.length 1) (l.drop k) := by
  have := SlM.sub h (lo := k) (hi := l.length) hk (Nat.le_refl _)
  unfold BytesM
  rw [List.length_drop]
  rw [Nat.mul_one, Nat.mul_one, List.take_of_length_le (by simp)] at this
  simpa [bytesC, List.map_drop] using this

theorem eye_raw (yb : Nat) (n : Int) (s : Ey) (M : Mem) (H : Hp) (hy : EyeH yb s M H) (hn : -9223372036854775808 ≤ n ∧ n ≤ 9223372036854775807) (hb : s.b.length ≤ 1099511627776) :
    Fn Try.prog 233 [ptr yb 0, int64 n] M H fun r M' H' => BytesM M' r (s.raw n).1 ∧ EyeH yb (s.raw n).2 M' H' := by
  refine Fn.enter Try.func233 Try.ntmps233 rfl rfl (by simp only [initEnv, List.zipIdx_cons, List.zipIdx_nil, List.map_cons, List.map_nil, Nat.zero_add, Nat.reduceAdd]; rfl) fun w0 hw => ?_
  refine Ww ?_
  refine L.call rfl (eye_err yb s M _ hy) rfl rfl fun r M1 H1 hM1 hR => ?_
  obtain ⟨rfl, rfl, rfl⟩ := hR
  clear hM1
  refine Ww ?_
  refine C.cond rfl (fun h => ?_) (fun h => ?_)
  · have h : s.e ≠ 0 := of_decide_eq_true h
    refine Ww ?_
    refine Hands.one rfl rfl (List.Perm.refl _) ?_
    simp only [Ey.raw, if_pos h]
    exact ⟨BytesM.nil, by simpa using hy⟩
  · have h0 : s.e = 0 := Decidable.of_not_not (of_decide_eq_false h)
    have hy0 := hy
    obtain ⟨v, hv, he1, he2, rfl⟩ := hy
    have hs : SlM M 1 v s.b.length (bytesC s.b) := hv
    have i1 := hs.one
    have i2 := hs.cells
    have bad : n < 0 ∨ n > s.b.length → s.raw n = ([], s.fail 2) := fun hc => by simp only [Ey.raw, h0]; rw [if_neg (by simp), if_pos hc]
    refine Ww ?_
    refine L.split 11 rfl (fun hz => ?_) (fun hz => ?_)
    · have hz := of_decide_eq_true hz
      refine Ww ?_
      refine L.call rfl (eye_fail yb 2 s M _ hy0 (by omega)) rfl rfl fun r M2 H2 hM2 hR => ?_
      obtain ⟨rfl, rfl, hy2⟩ := hR
      refine Ww ?_
      refine Hands.one rfl rfl (List.Perm.refl _) ?_
      rw [bad (by omega)]
      exact ⟨BytesM.nil, by simpa using hy2⟩
    · have hz := of_decide_eq_false hz
      refine Ww ?_
      refine C.cond rfl (fun hz2 => ?_) (fun hz2 => ?_)
      · have hz2 := of_decide_eq_true hz2
        refine Ww ?_
        refine L.call rfl (eye_fail yb 2 s M _ hy0 (by omega)) rfl rfl fun r M2 H2 hM2 hR => ?_
        obtain ⟨rfl, rfl, hy2⟩ := hR
        refine Ww ?_
        refine Hands.one rfl rfl (List.Perm.refl _) ?_
        rw [bad (by omega)]
        exact ⟨BytesM.nil, by simpa using hy2⟩
      · have hz2 := of_decide_eq_false hz2
        obtain ⟨k, rfl⟩ := Int.eq_ofNat_of_zero_le (by omega : 0 ≤ n)
        have hk : k ≤ s.b.length := by omega
        have good : s.raw k = (s.b.take k, ⟨s.b.drop k, 0⟩) := by
          simp only [Ey.raw, h0]; rw [if_neg (by simp), if_neg (by omega)]; simp
        have ht := hv.take hk
        have hd := hv.drop hk
        have j1 := hd.one
        have j2 := hd.cells
        refine Ww ?_
        refine L.qh ?_ (Qt.sliceHi rfl rfl hs hk)
        refine L.append rfl rfl OwnS.nil ht.rd ?_ rfl rfl rfl fun v' H' ho' => ?_
        · simp; omega
        refine OwnS.freeze ho' fun M1 hM1 hv1 => ?_
        refine Ww ?_
        refine L.qh ?_ (Qt.sliceLo rfl rfl hs hk)
        refine Ww ?_
        refine Hands.one rfl rfl (List.Perm.refl _) ?_
        rw [good]
        refine ⟨?_, _, hd.up, by simp, by simp, by simp [h0]⟩
        simp only [List.nil_append] at hv1
        exact SlM.ofOwn (by simp) (by decide) hv1

def Ey.text (y : Ey) (most : Int) : List UInt8 × Ey := (y.upto most).2.raw (y.upto most).1
def sumOf (l : List UInt8) : Sm := if h : l.length = 32 then ⟨l, h⟩ else zsum
def Ey.sum (y : Ey) : Sm × Ey := (sumOf (y.raw 32).1, (y.raw 32).2)
def Ey.done (y : Ey) : Int × Ey := let y1 := if y.e = 0 ∧ y.b.length > 0 then y.fail 3 else y; (y1.e, y1)

theorem numGo_len : ∀ (k i v : Nat) (l : List UInt8) (n : Nat) (r : List UInt8), numGo k i v l = .ok n r → r.length ≤ l.length := by
  intro k
  induction k with
  | zero => intro i v l n r h; simp [numGo] at h
  | succ k ih =>
    intro i v l n r h
    cases l with
    | nil => simp [numGo] at h
    | cons c cs =>
      rw [numGo] at h
      split at h
      · split at h
        · cases h
        · cases h; simp
      · have := ih _ _ _ _ _ h; simp; omega
theorem Ey.fail_b (y : Ey) (c : Int) : (y.fail c).b = y.b := by unfold Ey.fail; split <;> rfl
theorem Ey.num_len (y : Ey) : y.num.2.b.length ≤ y.b.length := by
  unfold Ey.num
  split
  · simp
  · split
    · rename_i n r h; exact numGo_len _ _ _ _ _ _ h
    · simp
theorem Ey.upto_len (y : Ey) (m : Int) : (y.upto m).2.b.length ≤ y.b.length := by
  have := y.num_len
  unfold Ey.upto
  simp only
  split
  · rw [Ey.fail_b]; exact this
  · exact this
theorem Ey.upto_range (y : Ey) (m : Int) : 0 ≤ (y.upto m).1 ∧ (y.upto m).1 ≤ 9223372036854775807 := by
  have := y.num_range
  unfold Ey.upto
  simp only
  split <;> simp <;> omega
theorem Ey.raw_len (y : Ey) (n : Int) : (y.raw n).2.b.length ≤ y.b.length := by
  unfold Ey.raw
  split
  · simp
  · split
    · simp [Ey.fail_b]
    · simp
theorem raw32 (y : Ey) : (y.raw 32).1 = [] ∨ (y.raw 32).1.length = 32 := by
  unfold Ey.raw
  split
  · simp
  · split
    · simp
    · rename_i h; right; simp at h ⊢; omega

theorem eye_text (yb : Nat) (most : Int) (s : Ey) (M : Mem) (H : Hp) (hy : EyeH yb s M H) (hn : -9223372036854775808 ≤ most ∧ most ≤ 9223372036854775807) (hb : s.b.length ≤ 1099511627776) :
    Fn Try.prog 148 [ptr yb 0, int64 most] M H fun r M' H' => BytesM M' r (s.text most).1 ∧ EyeH yb (s.text most).2 M' H' := by
  refine Fn.enter Try.func148 Try.ntmps148 rfl rfl (by simp only [initEnv, List.zipIdx_cons, List.zipIdx_nil, List.map_cons, List.map_nil, Nat.zero_add, Nat.reduceAdd]; rfl) fun w0 hw => ?_
  refine Ww ?_
  refine L.call rfl (eye_upto yb most s M _ hy hn) rfl rfl fun r M1 H1 hM1 hR => ?_
  obtain ⟨rfl, rfl, hy1⟩ := hR
  clear hM1
  have h1 := s.upto_len most
  have h2 := s.upto_range most
  refine L.call rfl (eye_raw yb _ _ M _ hy1 (by omega) (by omega)) rfl rfl fun r M2 H2 hM2 hR => ?_
  obtain ⟨hv, hy2⟩ := hR
  refine Ww ?_
  exact Hands.one rfl rfl (H := H2) (by simp) ⟨hv, hy2⟩

theorem eye_sum (yb : Nat) (s : Ey) (M : Mem) (H : Hp) (hy : EyeH yb s M H) (hb : s.b.length ≤ 1099511627776) :
    Fn Try.prog 147 [ptr yb 0] M H fun r M' H' => r = aggv (sumC s.sum.1) ∧ EyeH yb s.sum.2 M' H' := by
  refine Fn.enter Try.func147 Try.ntmps147 rfl rfl (by simp only [initEnv, List.zipIdx_cons, List.zipIdx_nil, List.map_cons, List.map_nil, Nat.zero_add, Nat.reduceAdd]; rfl) fun w0 hw => ?_
  refine C.seq (C.region ?_)
  refine L.alloc rfl rfl fun b2 => ?_
  refine Ww ?_
  refine L.alloc rfl rfl fun b3 => ?_
  refine Ww ?_
  refine C.draw [3] [] _ mixed rfl (by simp) ?_ (fun _ _ _ h => h)
  refine LA.ta 0 ?_
  refine LA.ta 1 ?_
  refine LA.e1 2 ?_
  refine L.call rfl (eye_raw yb 32 s M _ hy (by omega) hb) rfl rfl fun r M1 H1 hM1 hR => ?_
  obtain ⟨hv, hy1⟩ := hR
  refine L.nil ⟨fun _ => ⟨hM1.le, by simp⟩, ?_⟩
  refine LA.e1 3 ?_
  have hl := raw32 s
  have hput : Put (sumC zsum) 0 (bytesC (s.raw 32).1) (sumC s.sum.1) := by
    unfold Ey.sum sumOf
    refine ⟨?_, by rcases hl with h | h <;> simp [h]⟩
    rcases hl with h | h
    · simp [h, bytesC]
    · rw [dif_pos h]; simp [h, sumC, zsum.h]
  refine L.copy rfl rfl (SlM.rd hv) (by rcases hl with h | h <;> simp [h]) hput Ones.bytes rfl rfl ?_
  refine L.nil ⟨fun h => by simp at h, ?_⟩
  refine LA.done (by kernel_rfl) ?_
  dsimp only
  refine Ww ?_
  exact Hands.cellT H1 rfl rfl BoxIs.aggA ⟨rfl, hy1⟩

theorem eye_done (yb : Nat) (s : Ey) (M : Mem) (H : Hp) (hy : EyeH yb s M H) :
    Fn Try.prog 150 [ptr yb 0] M H fun r M' H' => r = int64 s.done.1 ∧ M = M' ∧ EyeH yb s.done.2 M H' := by
  have hy0 := hy
  obtain ⟨v, hv, he1, he2, rfl⟩ := hy
  have hs : SlM M 1 v s.b.length (bytesC s.b) := hv
  refine Fn.enter Try.func150 Try.ntmps150 rfl rfl (by simp only [initEnv, List.zipIdx_cons, List.zipIdx_nil, List.map_cons, List.map_nil, Nat.zero_add, Nat.reduceAdd]; rfl) fun w0 hw => ?_
  refine Ww ?_
  refine L.call rfl (eye_err yb s M _ hy0) rfl rfl fun r M1 H1 hM1 hR => ?_
  obtain ⟨rfl, rfl, rfl⟩ := hR
  clear hM1
  refine Ww ?_
  refine L.split 6 rfl (fun hz => ?_) (fun hz => ?_)
  · have hz := of_decide_eq_true hz
    refine Ww ?_
    refine C.cond rfl (fun hz2 => ?_) (fun hz2 => ?_)
    · have hz2 := of_decide_eq_true hz2
      have hd : s.done = ((s.fail 3).e, s.fail 3) := by unfold Ey.done; rw [if_pos ⟨hz, by omega⟩]
      refine Ww ?_
      refine L.call rfl (eye_fail yb 3 s M _ hy0 (by omega)) rfl rfl fun r M2 H2 hM2 hR => ?_
      obtain ⟨rfl, rfl, hy2⟩ := hR
      clear hM2
      refine Ww ?_
      refine L.call rfl (eye_err yb _ M _ hy2) rfl rfl fun r M3 H3 hM3 hR => ?_
      obtain ⟨rfl, rfl, rfl⟩ := hR
      refine Ww ?_
      refine Hands.one rfl rfl (H := H2) (by simp) ?_
      rw [hd]; exact ⟨rfl, rfl, hy2⟩
    · have hz2 := of_decide_eq_false hz2
      have hd : s.done = (s.e, s) := by unfold Ey.done; rw [if_neg (by rintro ⟨_, h⟩; omega)]
      refine Ww ?_
      refine L.call rfl (eye_err yb _ M _ hy0) rfl rfl fun r M3 H3 hM3 hR => ?_
      obtain ⟨rfl, rfl, rfl⟩ := hR
      refine Ww ?_
      refine Hands.one rfl rfl (List.Perm.refl _) ?_
      rw [hd]; exact ⟨rfl, rfl, hy0⟩
  · have hz := of_decide_eq_false hz
    have hd : s.done = (s.e, s) := by unfold Ey.done; rw [if_neg (by rintro ⟨h, _⟩; exact hz h)]
    refine Ww ?_
    refine L.call rfl (eye_err yb _ M _ hy0) rfl rfl fun r M3 H3 hM3 hR => ?_
    obtain ⟨rfl, rfl, rfl⟩ := hR
    refine Ww ?_
    refine Hands.one rfl rfl (List.Perm.refl _) ?_
    rw [hd]; exact ⟨rfl, rfl, hy0⟩

theorem eye_look (v : Value) (l : List UInt8) (M : Mem) (hv : BytesM M v l) :
    Fn Try.prog 145 [v] M [] fun r M' H' => M = M' ∧ ∃ yb, r = ptr yb 0 ∧ EyeH yb ⟨l, 0⟩ M H' := by
  have i1 := SlM.one hv
  have i2 := SlM.cells hv
  refine Fn.enter Try.func145 Try.ntmps145 rfl rfl (by simp only [initEnv, List.zipIdx_cons, List.zipIdx_nil, List.map_cons, List.map_nil, Nat.zero_add, Nat.reduceAdd]; rfl) fun w0 hw => ?_
  refine Ww ?_
  refine L.box rfl rfl rfl fun b => ?_
  refine Ww ?_
  exact Hands.oneT [(b, _)] rfl rfl ⟨rfl, b, rfl, v, hv, by simp, by simp, rfl⟩
end Go.Proofs.Ytdgdigliepncpaa
