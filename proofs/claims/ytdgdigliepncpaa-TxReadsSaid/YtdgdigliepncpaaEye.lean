/-
  This text proves what an eye's methods read.
  Conditions: none.
-/
import Derived.Test.YtdgdigliepncpaaPen
namespace Go.Proofs.Ytdgdigliepncpaa
open Go
set_option maxRecDepth 4000

/-- What an eye sees, and its first error. -/
structure Ey where
  b : List UInt8
  e : Int
def Ey.fail (y : Ey) (c : Int) : Ey := if y.e = 0 then ⟨y.b, c⟩ else y
inductive NumR where
  | ok (n : Nat) (r : List UInt8)
  | bad (c : Int)
def numGo : Nat → Nat → Nat → List UInt8 → NumR
  | 0, _, _, _ => .bad 5
  | _ + 1, _, _, [] => .bad 2
  | k + 1, i, v, c :: cs => if c.toNat < 128 then (if c.toNat = 0 ∧ 0 < i then .bad 4 else .ok (v + c.toNat * 128 ^ i) cs) else numGo k (i + 1) (v + (c.toNat - 128) * 128 ^ i) cs
def Ey.num (y : Ey) : Int × Ey := if y.e ≠ 0 then (0, y) else match numGo 9 0 0 y.b with
  | .ok n r => (n, ⟨r, 0⟩)
  | .bad c => (0, ⟨y.b, c⟩)
def EyeH (yb : Nat) (s : Ey) (M : Mem) (H : Hp) : Prop := ∃ v, BytesM M v s.b ∧ -9223372036854775808 ≤ s.e ∧ s.e ≤ 9223372036854775807 ∧ H = [(yb, row [v, int64 s.e] 332)]

theorem eye_err (yb : Nat) (s : Ey) (M : Mem) (H : Hp) (hy : EyeH yb s M H) :
    Fn Try.prog 232 [ptr yb 0] M H fun r M' H' => r = int64 s.e ∧ M = M' ∧ H = H' := by
  obtain ⟨v, hv, he1, he2, rfl⟩ := hy
  refine Fn.enter Try.func232 Try.ntmps232 rfl rfl (by simp only [initEnv, List.zipIdx_cons, List.zipIdx_nil, List.map_cons, List.map_nil, Nat.zero_add, Nat.reduceAdd]; rfl) fun w0 hw => ?_
  refine Ww ?_
  exact Hands.one rfl rfl (H := [(yb, row [v, int64 s.e] 332)]) (by simp) ⟨rfl, rfl, rfl⟩

theorem eye_fail (yb : Nat) (c : Int) (s : Ey) (M : Mem) (H : Hp) (hy : EyeH yb s M H) (hc : -9223372036854775808 ≤ c ∧ c ≤ 9223372036854775807) :
    Fn Try.prog 231 [ptr yb 0, int64 c] M H fun r M' H' => r = .tuple #[] ∧ M = M' ∧ EyeH yb (s.fail c) M H' := by
  obtain ⟨v, hv, he1, he2, rfl⟩ := hy
  have i1 := hv.one
  have i2 := hv.cells
  refine Fn.enter Try.func231 Try.ntmps231 rfl rfl (by simp only [initEnv, List.zipIdx_cons, List.zipIdx_nil, List.map_cons, List.map_nil, Nat.zero_add, Nat.reduceAdd]; rfl) fun w0 hw => ?_
  refine Ww ?_
  refine C.cond rfl (fun h => ?_) (fun h => ?_)
  · have h0 : s.e = 0 := of_decide_eq_true h
    refine Ww ?_
    exact Hands.zero rfl (List.Perm.refl _) ⟨rfl, rfl, v, by simpa [Ey.fail, h0] using hv, by simp [Ey.fail, h0]; omega, by simp [Ey.fail, h0]; omega, by simp [Ey.fail, h0]⟩
  · have h0 : ¬ s.e = 0 := of_decide_eq_false h
    refine Ww ?_
    exact Hands.zero rfl (List.Perm.refl _) ⟨rfl, rfl, v, by simpa [Ey.fail, h0] using hv, by simp [Ey.fail, h0]; omega, by simp [Ey.fail, h0]; omega, by simp [Ey.fail, h0]⟩

theorem and127 : ∀ y : Nat, y < 256 → y &&& 127 = y % 128 := by decide +kernel
theorem byte_and (c : UInt8) : IntKind.u8.wrap (BitVec.ofInt IntKind.u8.bits (c.toNat : Int) &&& BitVec.ofInt IntKind.u8.bits 127).toNat = ((c.toNat % 128 : Nat) : Int) := by
  have hc := c.toNat_lt
  have h : (BitVec.ofInt IntKind.u8.bits (c.toNat : Int) &&& BitVec.ofInt IntKind.u8.bits 127).toNat = c.toNat &&& 127 := by
    rw [BitVec.toNat_and]
    have h1 : (BitVec.ofInt IntKind.u8.bits (c.toNat : Int)).toNat = c.toNat := by simp [IntKind.bits]
    rw [h1]; rfl
  rw [h, and127 _ (by omega), wrap_u8]
  congr 1
  omega
theorem shl_64 (x i : Nat) (hx : x < 128) (hi : i ≤ 8) : IntKind.u64.wrap ((x : Int) * 2 ^ min ((7 * (i : Int)).toNat) IntKind.u64.bits) = ((x * 128 ^ i : Nat) : Int) := by
  have h1 : min ((7 * (i : Int)).toNat) IntKind.u64.bits = 7 * i := by
    have : IntKind.u64.bits = 64 := rfl
    omega
  have h2 : (2 : Nat) ^ (7 * i) = 128 ^ i := by rw [Nat.pow_mul]
  have h3 : 128 ^ i ≤ 128 ^ 8 := Nat.pow_le_pow_right (by decide) hi
  have h4 : x * 128 ^ i ≤ 127 * 128 ^ 8 := Nat.mul_le_mul (by omega) h3
  rw [h1, ← h2]
  rw [← h2] at h4
  have h5 : ((x * 2 ^ (7 * i) : Nat) : Int) = (x : Int) * 2 ^ (7 * i) := by simp
  rw [← h5]
  exact wrap_u64 (by omega)
theorem or_64 (a x i : Nat) (ha : a < 128 ^ i) (hx : x < 128) (hi : i ≤ 8) : IntKind.u64.wrap (BitVec.ofInt IntKind.u64.bits (a : Int) ||| BitVec.ofInt IntKind.u64.bits ((x * 128 ^ i : Nat) : Int)).toNat = ((a + x * 128 ^ i : Nat) : Int) := by
  have h2 : (2 : Nat) ^ (7 * i) = 128 ^ i := by rw [Nat.pow_mul]
  have h3 : 128 ^ i ≤ 128 ^ 8 := Nat.pow_le_pow_right (by decide) hi
  have h4 : x * 128 ^ i ≤ 127 * 128 ^ 8 := Nat.mul_le_mul (by omega) h3
  have h5 : (BitVec.ofInt IntKind.u64.bits (a : Int) ||| BitVec.ofInt IntKind.u64.bits ((x * 128 ^ i : Nat) : Int)).toNat = a + x * 128 ^ i := by
    rw [BitVec.toNat_or]
    have e1 : (BitVec.ofInt IntKind.u64.bits (a : Int)).toNat = a := by
      show (BitVec.ofInt 64 (a : Int)).toNat = a
      simp; omega
    have e2 : (BitVec.ofInt IntKind.u64.bits ((x * 128 ^ i : Nat) : Int)).toNat = x * 128 ^ i := by
      show (BitVec.ofInt 64 ((x * 128 ^ i : Nat) : Int)).toNat = _
      rw [BitVec.toNat_ofInt]; omega
    rw [e1, e2, ← h2, ← Nat.shiftLeft_eq, Nat.or_comm, ← Nat.shiftLeft_add_eq_or_of_lt (by rw [h2]; exact ha)]
    omega
  rw [h5]
  exact wrap_u64 (by omega)

theorem Ey.num_ok {s : Ey} {n : Nat} {r : List UInt8} (h : s.e = 0) (h2 : numGo 9 0 0 s.b = .ok n r) : s.num = ((n : Int), ⟨r, 0⟩) := by simp [Ey.num, h, h2]
theorem Ey.num_bad {s : Ey} {c : Int} (h : s.e = 0) (h2 : numGo 9 0 0 s.b = .bad c) : s.num = (0, s.fail c) := by simp [Ey.num, h, h2, Ey.fail]

theorem eye_num (yb : Nat) (s : Ey) (M : Mem) (H : Hp) (hy : EyeH yb s M H) :
    Fn Try.prog 230 [ptr yb 0] M H fun r M' H' => r = int64 s.num.1 ∧ M = M' ∧ EyeH yb s.num.2 M H' := by
  have hy0 := hy
  obtain ⟨v, hv, he1, he2, rfl⟩ := hy
  have i1 := hv.one
  have i2 := hv.cells
  have hs : SlM M 1 v s.b.length (bytesC s.b) := hv
  have hmax := hs.le
  unfold maxLen at hmax
  refine Fn.enter Try.func230 Try.ntmps230 rfl rfl (by simp only [initEnv, List.zipIdx_cons, List.zipIdx_nil, List.map_cons, List.map_nil, Nat.zero_add, Nat.reduceAdd]; rfl) fun w0 hw => ?_
  refine Ww ?_
  refine L.call rfl (eye_err yb s M _ hy0) rfl rfl fun r M1 H1 hM1 hR => ?_
  obtain ⟨rfl, rfl, rfl⟩ := hR
  refine Ww ?_
  refine C.cond rfl (fun h => ?_) (fun h => ?_)
  · have h0 : s.e ≠ 0 := of_decide_eq_true h
    have hn : s.num = (0, s) := by simp [Ey.num, h0]
    refine Ww ?_
    refine Hands.one rfl rfl (List.Perm.refl _) ?_
    rw [hn]
    exact ⟨rfl, rfl, by simpa using hy0⟩
  · have h0 : s.e = 0 := Decidable.of_not_not (of_decide_eq_false h)
    refine Ww ?_
    refine C.loop (σ := Nat × Nat) (fun s => [(0, ptr yb 0), (3, .int .u64 s.2), (9, int64 s.1)]) (fun _ => [[(yb, row [v, int64 s.e] 332)]])
      (fun t M' => M = M' ∧ t.1 ≤ 9 ∧ t.1 ≤ s.b.length ∧ t.2 < 128 ^ t.1 ∧ numGo 9 0 0 s.b = numGo (9 - t.1) t.1 t.2 (s.b.drop t.1)) (fun t => 9 - t.1) (0, 0) ?_ ?_ ?_ ?_
    · exact .cons rfl rfl (.cons rfl rfl (.cons rfl rfl .nil))
    · exact List.Perm.refl _
    · exact ⟨rfl, by simp⟩
    · rintro ⟨i, a⟩ M1 hM1 ⟨rfl, hi9, hib, ha, hgo⟩
      dsimp only at *
      refine Ww ?_
      refine C.cond rfl (fun h => ?_) (fun h => ?_)
      · have hi := of_decide_eq_true h
        refine Ww ?_
        refine C.cond rfl (fun h => ?_) (fun h => ?_)
        · have hge := of_decide_eq_true h
          have hnum : s.num = (0, s.fail 2) := by
            have e1 : s.b.drop i = [] := List.drop_eq_nil_iff.2 (by omega)
            have e2 : 9 - i = (8 - i) + 1 := by omega
            simp [Ey.num, h0, hgo, e1, e2, numGo, Ey.fail]
          refine Ww ?_
          refine L.call rfl (eye_fail yb 2 s M _ hy0 (by omega)) rfl rfl fun r M2 H2 hM2 hR => ?_
          obtain ⟨rfl, rfl, hy2⟩ := hR
          refine Ww ?_
          refine Hands.one rfl rfl (List.Perm.refl _) ?_
          rw [hnum]
          exact ⟨rfl, rfl, by simpa using hy2⟩
        · have hlt := of_decide_eq_false h
          have hlt' : i < s.b.length := by omega
          obtain ⟨b, o, c, cl, T, fr, rfl, hb1, -, -, hget⟩ := hs.at_ hlt'
          have hg1 : cl[o + i * 1]? = some (u8v s.b[i]) := by rw [hget (by decide)]; simp [bytesC, hlt']
          refine Ww ?_
          have hc256 := s.b[i].toNat_lt
          refine L.qh ?_ (Qt.bin rfl rfl (BinRun.and (byte_and s.b[i])))
          refine L.qh ?_ (Qt.convInt (r := ((s.b[i].toNat % 128 : Nat) : Int)) rfl (wrap_u64 (by omega)))
          refine Ww ?_
          refine L.qh ?_ (Qt.bin rfl rfl (BinRun.mul (wrap_in64 (by omega))))
          refine L.qh ?_ (Qt.bin rfl rfl (BinRun.shl (by omega) (shl_64 _ i (Nat.mod_lt _ (by decide)) (by omega))))
          refine L.qh ?_ (Qt.bin rfl rfl (BinRun.or (or_64 a _ i ha (Nat.mod_lt _ (by decide)) (by omega))))
          refine Ww ?_
          have e2 : 9 - i = (8 - i) + 1 := by omega
          have hdrop : s.b.drop i = s.b[i] :: s.b.drop (i + 1) := List.drop_eq_getElem_cons hlt'
          rw [e2, hdrop] at hgo
          have hp9 : 128 ^ (i + 1) ≤ 128 ^ 9 := Nat.pow_le_pow_right (by decide) (by omega)
          have hnew : a + s.b[i].toNat % 128 * 128 ^ i < 128 ^ (i + 1) := by
            have : s.b[i].toNat % 128 * 128 ^ i ≤ 127 * 128 ^ i := Nat.mul_le_mul (by omega) (Nat.le_refl _)
            rw [Nat.pow_succ]; omega
          refine C.cond rfl (fun h => ?_) (fun h => ?_)
          · have hc := of_decide_eq_true h
            have hc' : s.b[i].toNat < 128 := by omega
            have hmod : s.b[i].toNat % 128 = s.b[i].toNat := Nat.mod_eq_of_lt hc'
            have hs2 := hs.sub (lo := i + 1) (hi := s.b.length) (by omega) (Nat.le_refl _)
            have j1 := hs2.one
            have j2 := hs2.cells
            have hy2 : ∀ e : Int, -9223372036854775808 ≤ e → e ≤ 9223372036854775807 → EyeH yb ⟨s.b.drop (i + 1), e⟩ M [(yb, row [subV (.slice (some ⟨b, o, none⟩) s.b.length c) (i + 1) s.b.length 1, int64 e] 332)] := by
              intro e h1 h2
              refine ⟨_, ?_, h1, h2, rfl⟩
              have hx := hs2
              rw [Nat.mul_one, Nat.mul_one, List.take_of_length_le (by simp)] at hx
              simpa [BytesM, bytesC, List.map_drop] using hx
            refine Ww ?_
            refine L.split 40 rfl (fun hz => ?_) (fun hz => ?_)
            · have hz := of_decide_eq_true hz
              refine Ww ?_
              refine C.cond rfl (fun hi0 => ?_) (fun hi0 => ?_)
              · have hi0 := of_decide_eq_true hi0
                have hnum : s.num = (0, s.fail 4) := Ey.num_bad h0 (by rw [hgo, numGo, if_pos hc', if_pos (by omega)])
                refine Ww ?_
                refine L.call rfl (eye_fail yb 4 s M _ hy0 (by omega)) rfl rfl fun r M2 H2 hM2 hR => ?_
                obtain ⟨rfl, rfl, hy3⟩ := hR
                refine Ww ?_
                refine Hands.one rfl rfl (List.Perm.refl _) ?_
                rw [hnum]
                exact ⟨rfl, rfl, by simpa using hy3⟩
              · have hi0 := of_decide_eq_false hi0
                have hnum : s.num = (((a + s.b[i].toNat % 128 * 128 ^ i : Nat) : Int), ⟨s.b.drop (i + 1), 0⟩) := Ey.num_ok h0 (by rw [hgo, numGo, if_pos hc', if_neg (by omega), hmod])
                refine Ww ?_
                refine L.qh ?_ (Qt.sliceLo rfl rfl hs (by omega))
                refine Ww ?_
                refine L.qh ?_ (Qt.convInt rfl (wrap_in64 (by omega)))
                refine Ww ?_
                refine Hands.one rfl rfl (List.Perm.refl _) ?_
                rw [hnum]
                refine ⟨rfl, rfl, ?_⟩
                rw [h0]
                simpa using hy2 0 (by decide) (by decide)
            · have hz := of_decide_eq_false hz
              have hnum : s.num = (((a + s.b[i].toNat % 128 * 128 ^ i : Nat) : Int), ⟨s.b.drop (i + 1), 0⟩) := Ey.num_ok h0 (by rw [hgo, numGo, if_pos hc', if_neg (by omega), hmod])
              refine Ww ?_
              refine L.qh ?_ (Qt.sliceLo rfl rfl hs (by omega))
              refine Ww ?_
              refine L.qh ?_ (Qt.convInt rfl (wrap_in64 (by omega)))
              refine Ww ?_
              refine Hands.one rfl rfl (List.Perm.refl _) ?_
              rw [hnum]
              refine ⟨rfl, rfl, ?_⟩
              rw [h0]
              simpa using hy2 0 (by decide) (by decide)
          · have hc := of_decide_eq_false h
            have hc' : ¬ s.b[i].toNat < 128 := by omega
            have hmod : s.b[i].toNat % 128 = s.b[i].toNat - 128 := by omega
            refine Ww ?_
            refine ⟨(i + 1, a + s.b[i].toNat % 128 * 128 ^ i), .cons rfl rfl (.cons rfl rfl (.cons rfl rfl .nil)), List.Perm.refl _, inferInstance, ⟨rfl, ?_, ?_, hnew, ?_⟩, ?_⟩
            · dsimp only; omega
            · dsimp only; omega
            · show _ = numGo (9 - (i + 1)) (i + 1) (a + s.b[i].toNat % 128 * 128 ^ i) (s.b.drop (i + 1))
              rw [hgo, numGo, if_neg hc', hmod, show 9 - (i + 1) = 8 - i from by omega]
            · dsimp only; omega
      · have hge := of_decide_eq_false h
        have e9 : i = 9 := by omega
        subst e9
        have hnum : s.num = (0, s.fail 5) := by
          simp [Ey.num, h0, hgo, numGo, Ey.fail]
        refine Ww ?_
        refine L.call rfl (eye_fail yb 5 s M _ hy0 (by omega)) rfl rfl fun r M2 H2 hM2 hR => ?_
        obtain ⟨rfl, rfl, hy2⟩ := hR
        refine Ww ?_
        refine Hands.one rfl rfl (List.Perm.refl _) ?_
        rw [hnum]
        exact ⟨rfl, rfl, by simpa using hy2⟩

def Ey.upto (y : Ey) (most : Int) : Int × Ey :=
  let y1 := if y.num.1 > most then y.num.2.fail 5 else y.num.2
  (if y1.e ≠ 0 then 0 else y.num.1, y1)

theorem numGo_lt : ∀ (k i v : Nat) (l : List UInt8) (n : Nat) (r : List UInt8), v < 128 ^ i → numGo k i v l = .ok n r → n < 128 ^ (i + k) := by
  intro k
  induction k with
  | zero => intro i v l n r _ h; simp [numGo] at h
  | succ k ih =>
    intro i v l n r hv h
    cases l with
    | nil => simp [numGo] at h
    | cons c cs =>
      have hc := c.toNat_lt
      rw [numGo] at h
      split at h
      · rename_i h1
        split at h
        · cases h
        · cases h
          have h2 : c.toNat * 128 ^ i ≤ 127 * 128 ^ i := Nat.mul_le_mul (by omega) (Nat.le_refl _)
          have h3 : 128 ^ (i + 1) ≤ 128 ^ (i + (k + 1)) := Nat.pow_le_pow_right (by decide) (by omega)
          rw [Nat.pow_succ] at h3
          omega
      · rename_i h1
        have := ih (i + 1) _ cs n r (by
          have h2 : (c.toNat - 128) * 128 ^ i ≤ 127 * 128 ^ i := Nat.mul_le_mul (by omega) (Nat.le_refl _)
          rw [Nat.pow_succ]; omega) h
        rw [show i + 1 + k = i + (k + 1) from by omega] at this
        exact this
theorem Ey.num_range (y : Ey) : 0 ≤ y.num.1 ∧ y.num.1 ≤ 9223372036854775807 := by
  unfold Ey.num
  split
  · simp
  · split
    · rename_i n r h
      have := numGo_lt 9 0 0 y.b n r (by simp) h
      simp only
      omega
    · simp

theorem eye_upto (yb : Nat) (most : Int) (s : Ey) (M : Mem) (H : Hp) (hy : EyeH yb s M H) (hm : -9223372036854775808 ≤ most ∧ most ≤ 9223372036854775807) :
    Fn Try.prog 146 [ptr yb 0, int64 most] M H fun r M' H' => r = int64 (s.upto most).1 ∧ M = M' ∧ EyeH yb (s.upto most).2 M H' := by
  refine Fn.enter Try.func146 Try.ntmps146 rfl rfl (by simp only [initEnv, List.zipIdx_cons, List.zipIdx_nil, List.map_cons, List.map_nil, Nat.zero_add, Nat.reduceAdd]; rfl) fun w0 hw => ?_
  have hr := s.num_range
  have fin : ∀ (y1 : Ey) (M2 : Mem) (H2 : Hp), s.upto most = (if y1.e ≠ 0 then 0 else s.num.1, y1) → M = M2 → EyeH yb y1 M H2 → True := fun _ _ _ _ _ _ => trivial
  refine Ww ?_
  refine L.call rfl (eye_num yb s M _ hy) rfl rfl fun r M1 H1 hM1 hR => ?_
  obtain ⟨rfl, rfl, hy1⟩ := hR
  refine Ww ?_
  refine C.cut (fun e1 M1 A1 => M = M1 ∧ ∃ y1 H1, A1 = [H1] ∧ e1 = [(0, ptr yb 0), (5, int64 s.num.1)] ∧ s.upto most = (if y1.e ≠ 0 then 0 else s.num.1, y1) ∧ EyeH yb y1 M H1) ?_ ?_
  · refine C.cond rfl (fun h => ?_) (fun h => ?_)
    · have h := of_decide_eq_true h
      refine Ww ?_
      refine L.call rfl (eye_fail yb 5 _ M _ hy1 (by omega)) rfl rfl fun r M2 H2 hM2 hR => ?_
      obtain ⟨rfl, rfl, hy2⟩ := hR
      refine L.keep [(0, ptr yb 0), (5, int64 s.num.1)] (.cons rfl rfl (.cons rfl rfl .nil)) ?_
      refine L.nil ⟨rfl, _, _, rfl, rfl, ?_, hy2⟩
      simp [Ey.upto, h]
    · have h := of_decide_eq_false h
      refine C.keep [(0, ptr yb 0), (5, int64 s.num.1)] (.cons rfl rfl (.cons rfl rfl .nil)) ?_
      refine C.skip ⟨rfl, _, _, rfl, rfl, ?_, hy1⟩
      simp [Ey.upto, h]
  · rintro e1 M1 A1 ⟨rfl, y1, H1, rfl, rfl, hu, hy1⟩
    refine Ww ?_
    refine L.call rfl (eye_err yb y1 M _ hy1) rfl rfl fun r M2 H2 hM2 hR => ?_
    obtain ⟨rfl, rfl, rfl⟩ := hR
    refine Ww ?_
    refine C.cond rfl (fun h => ?_) (fun h => ?_)
    · have h : y1.e ≠ 0 := of_decide_eq_true h
      refine Ww ?_
      refine Hands.one rfl rfl (List.Perm.refl _) ?_
      rw [hu]
      exact ⟨by simp [h], rfl, by simpa using hy1⟩
    · have h : ¬ y1.e ≠ 0 := of_decide_eq_false h
      refine Ww ?_
      refine Hands.one rfl rfl (List.Perm.refl _) ?_
      rw [hu]
      exact ⟨by rw [if_neg h], rfl, by simpa using hy1⟩
end Go.Proofs.Ytdgdigliepncpaa
