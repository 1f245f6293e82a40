/-
  This text proves, in plain Lean, that what a pen wrote an eye reads again, and that what an eye reads is what a pen would have written.
  Conditions: none; nothing here runs the program.
-/
import Derived.Test.YtdgdigliepncpaaEye2
namespace Go.Proofs.Ytdgdigliepncpaa

abbrev I64 (n : Int) : Prop := -9223372036854775808 ≤ n ∧ n ≤ 9223372036854775807
/-- A reader: what it reads, and the eye behind it. -/
abbrev Rdr (α : Type) := Ey → α × Ey
def Rdr.pure {α : Type} (a : α) : Rdr α := fun y => (a, y)
def Rdr.bind {α β : Type} (f : Rdr α) (g : α → Rdr β) : Rdr β := fun y => g (f y).1 (f y).2
def Rdr.rep {α : Type} (f : Rdr α) : Nat → Rdr (List α)
  | 0 => Rdr.pure []
  | n + 1 => Rdr.bind f fun x => Rdr.bind (Rdr.rep f n) fun xs => Rdr.pure (x :: xs)

/-- f reads what g writes, of things that are ok, and of them alone. -/
structure Codec {α : Type} (f : Rdr α) (g : α → List UInt8) (ok : α → Prop) : Prop where
  stick : ∀ y, y.e ≠ 0 → (f y).2.e ≠ 0
  sound : ∀ y, y.e = 0 → (f y).2.e = 0 → y.b = g (f y).1 ++ (f y).2.b ∧ ok (f y).1
  full : ∀ a rest, ok a → f ⟨g a ++ rest, 0⟩ = (a, ⟨rest, 0⟩)

theorem Codec.ret {α : Type} (a : α) : Codec (Rdr.pure a) (fun _ => []) (fun x => x = a) :=
  ⟨fun _ h => h, fun y _ _ => ⟨rfl, rfl⟩, fun x rest h => by subst h; rfl⟩
theorem Codec.congr {α : Type} {f : Rdr α} {g g' : α → List UInt8} {ok ok' : α → Prop} (h : Codec f g ok) (hg : ∀ a, g a = g' a) (hok : ∀ a, ok a ↔ ok' a) : Codec f g' ok' :=
  ⟨h.stick, fun y h0 h1 => by rw [← hg, ← hok]; exact h.sound y h0 h1, fun a rest ha => by rw [← hg]; exact h.full a rest ((hok a).2 ha)⟩
theorem Codec.bind {α β : Type} {f : Rdr α} {k : α → Rdr β} {g : α → List UInt8} {g2 : β → List UInt8} {ok : α → Prop} {ok2 : β → Prop} (p : β → α) (hf : Codec f g ok) (hk : ∀ a, ok a → Codec (k a) g2 (fun x => ok2 x ∧ p x = a)) (hs : ∀ a y, y.e ≠ 0 → (k a y).2.e ≠ 0) :
    Codec (Rdr.bind f k) (fun x => g (p x) ++ g2 x) (fun x => ok (p x) ∧ ok2 x) where
  stick y h := hs _ _ (hf.stick y h)
  sound y h0 h1 := by
    have e1 : (f y).2.e = 0 := Decidable.of_not_not fun h => hs _ _ h h1
    obtain ⟨s1, s2⟩ := hf.sound y h0 e1
    obtain ⟨s3, s4, s5⟩ := (hk _ s2).sound (f y).2 e1 h1
    have s5' : p (Rdr.bind f k y).1 = (f y).1 := s5
    refine ⟨?_, s5' ▸ s2, s4⟩
    rw [s1, s3, s5', List.append_assoc]
    rfl
  full x rest h := by
    show k (f ⟨g (p x) ++ g2 x ++ rest, 0⟩).1 (f ⟨g (p x) ++ g2 x ++ rest, 0⟩).2 = _
    rw [List.append_assoc, hf.full (p x) _ h.1]
    exact (hk _ h.1).full x rest ⟨h.2, rfl⟩
theorem Codec.stickB {α β : Type} {f : Rdr α} {k : α → Rdr β} (hf : ∀ y : Ey, y.e ≠ 0 → (f y).2.e ≠ 0) (hs : ∀ a y, y.e ≠ 0 → (k a y).2.e ≠ 0) (y : Ey) (h : y.e ≠ 0) : (Rdr.bind f k y).2.e ≠ 0 := hs _ _ (hf y h)
theorem Codec.stickP {α : Type} (a : α) (y : Ey) (h : y.e ≠ 0) : (Rdr.pure a y).2.e ≠ 0 := h
theorem Codec.stickR {α : Type} {f : Rdr α} (hf : ∀ y : Ey, y.e ≠ 0 → (f y).2.e ≠ 0) : ∀ (n : Nat) (y : Ey), y.e ≠ 0 → (Rdr.rep f n y).2.e ≠ 0
  | 0 => fun _ h => h
  | n + 1 => Codec.stickB hf fun _ => Codec.stickB (Codec.stickR hf n) fun _ => Codec.stickP _

theorem Codec.rep {α : Type} {f : Rdr α} {g : α → List UInt8} {ok : α → Prop} (hf : Codec f g ok) : ∀ n, Codec (Rdr.rep f n) (fun l => l.flatMap g) (fun l => l.length = n ∧ ∀ x ∈ l, ok x)
  | 0 => ⟨fun _ h => h, fun y _ _ => ⟨rfl, rfl, by simp [Rdr.rep, Rdr.pure]⟩, fun l rest h => by
      have : l = [] := List.eq_nil_of_length_eq_zero h.1
      subst this; rfl⟩
  | n + 1 => by
    have ih := Codec.rep hf n
    refine ⟨Codec.stickR hf.stick (n + 1), fun y h0 h1 => ?_, fun l rest h => ?_⟩
    · have h1' : ((Rdr.rep f n) (f y).2).2.e = 0 := h1
      have e1 : (f y).2.e = 0 := Decidable.of_not_not fun h => Codec.stickR hf.stick n _ h h1'
      obtain ⟨s1, s2⟩ := hf.sound y h0 e1
      obtain ⟨s3, s4, s5⟩ := ih.sound _ e1 h1'
      refine ⟨?_, ?_, ?_⟩
      · show y.b = (((f y).1 :: ((Rdr.rep f n) (f y).2).1).flatMap g) ++ _
        rw [List.flatMap_cons, List.append_assoc, s1, s3]; rfl
      · show ((f y).1 :: ((Rdr.rep f n) (f y).2).1).length = _
        simp [s4]
      · intro x hx
        rcases List.mem_cons.1 (show x ∈ ((f y).1 :: ((Rdr.rep f n) (f y).2).1) from hx) with rfl | hx
        · exact s2
        · exact s5 x hx
    · obtain ⟨h1, h2⟩ := h
      cases l with
      | nil => simp at h1
      | cons x xs =>
        show ((f ⟨(x :: xs).flatMap g ++ rest, 0⟩).1 :: ((Rdr.rep f n) (f ⟨(x :: xs).flatMap g ++ rest, 0⟩).2).1, ((Rdr.rep f n) (f ⟨(x :: xs).flatMap g ++ rest, 0⟩).2).2) = _
        rw [List.flatMap_cons, List.append_assoc, hf.full x _ (h2 x (by simp))]
        rw [ih.full xs rest ⟨by simpa using h1, fun z hz => h2 z (by simp [hz])⟩]

/-! ## Numbers -/
theorem encNat_lt {v : Nat} (h : v < 128) : encNat v = [UInt8.ofNat v] := by rw [encNat, dif_pos h]
theorem encNat_ge {v : Nat} (h : ¬ v < 128) : encNat v = UInt8.ofNat (v % 128 + 128) :: encNat (v / 128) := by rw [encNat, dif_neg h]
theorem ofNat_toNat {v : Nat} (h : v < 256) : (UInt8.ofNat v).toNat = v := by simp; omega

/-- What was written is read. -/
theorem numGo_enc : ∀ (k i v a : Nat) (rest : List UInt8), v < 128 ^ k → (0 < i → 0 < v) → 0 < k → numGo k i a (encNat v ++ rest) = .ok (a + v * 128 ^ i) rest := by
  intro k
  induction k with
  | zero => intro i v a rest _ _ h; omega
  | succ k ih =>
    intro i v a rest hv hz _
    by_cases h : v < 128
    · rw [encNat_lt h]
      simp only [List.cons_append, List.nil_append, numGo, ofNat_toNat (show v < 256 by omega)]
      rw [if_pos h, if_neg (by rintro ⟨h1, h2⟩; have := hz h2; omega)]
    · rw [encNat_ge h]
      simp only [List.cons_append, numGo, ofNat_toNat (show v % 128 + 128 < 256 by omega)]
      rw [if_neg (by omega)]
      have hk : 0 < k := by
        rcases Nat.eq_zero_or_pos k with rfl | h'
        · simp at hv; omega
        · exact h'
      rw [ih (i + 1) (v / 128) _ rest (by rw [Nat.pow_succ] at hv; omega) (fun _ => by omega) hk]
      congr 1
      rw [Nat.add_sub_cancel, Nat.pow_succ]
      have : v * 128 ^ i = (v % 128) * 128 ^ i + (v / 128) * (128 ^ i * 128) := by
        rw [Nat.mul_comm (128 ^ i) 128, ← Nat.mul_assoc, ← Nat.add_mul]
        congr 1; omega
      omega
/-- What is read was written. -/
theorem numGo_sound : ∀ (k i a : Nat) (l : List UInt8) (n : Nat) (r : List UInt8), numGo k i a l = .ok n r → ∃ v, n = a + v * 128 ^ i ∧ l = encNat v ++ r ∧ v < 128 ^ k ∧ (0 < i → 0 < v) := by
  intro k
  induction k with
  | zero => intro i a l n r h; simp [numGo] at h
  | succ k ih =>
    intro i a l n r h
    cases l with
    | nil => simp [numGo] at h
    | cons c cs =>
      rw [numGo] at h
      split at h
      · rename_i hc
        split at h
        · cases h
        · rename_i hz
          simp only [NumR.ok.injEq] at h
          obtain ⟨rfl, rfl⟩ := h
          refine ⟨c.toNat, rfl, by rw [encNat_lt hc]; simp, ?_, fun hi => by rcases Nat.eq_zero_or_pos c.toNat with h | h; exact absurd ⟨h, hi⟩ hz; exact h⟩
          have : 1 ≤ 128 ^ k := Nat.one_le_pow _ _ (by decide)
          rw [Nat.pow_succ]; omega
      · rename_i hc
        obtain ⟨v, h1, h2, h3, h4⟩ := ih _ _ _ _ _ h
        have hv := h4 (by omega)
        have hcl := c.toNat_lt
        refine ⟨(c.toNat - 128) + v * 128, ?_, ?_, ?_, fun _ => by omega⟩
        · rw [h1, Nat.add_mul, Nat.pow_succ, Nat.mul_assoc, Nat.mul_comm (128 ^ i) 128]; omega
        · rw [encNat_ge (by omega), h2]
          have e1 : ((c.toNat - 128) + v * 128) % 128 + 128 = c.toNat := by omega
          have e2 : ((c.toNat - 128) + v * 128) / 128 = v := by omega
          rw [e1, e2]; simp
        · rw [Nat.pow_succ]; omega

theorem codec_num : Codec Ey.num numB (fun n => 0 ≤ n ∧ n < 9223372036854775808) where
  stick y h := by simp [Ey.num, h]
  sound y h0 h1 := by
    unfold Ey.num at *
    rw [if_neg (by simp [h0])] at *
    split at h1
    · rename_i n r hn
      obtain ⟨v, e1, e2, e3, _⟩ := numGo_sound _ _ _ _ _ _ hn
      simp only [Nat.pow_zero, Nat.mul_one, Nat.zero_add] at e1
      subst e1
      refine ⟨e2, by simp, ?_⟩
      have : (128 : Nat) ^ 9 = 9223372036854775808 := by decide
      simp only; omega
    · rename_i c hc
      exfalso
      simp only at h1
      subst h1
      have bad : ∀ k i v l, numGo k i v l ≠ .bad 0 := by
        intro k
        induction k with
        | zero => intro i v l h; simp [numGo] at h
        | succ k ih =>
          intro i v l h
          cases l with
          | nil => simp [numGo] at h
          | cons c cs =>
            rw [numGo] at h
            split at h
            · split at h <;> simp at h
            · exact ih _ _ _ h
      exact bad _ _ _ _ hc
  full n rest h := by
    obtain ⟨k, rfl⟩ := Int.eq_ofNat_of_zero_le h.1
    have hk : k < 128 ^ 9 := by
      have : (128 : Nat) ^ 9 = 9223372036854775808 := by decide
      omega
    have := numGo_enc 9 0 k 0 rest hk (fun h => by omega) (by decide)
    simp only [Nat.pow_zero, Nat.mul_one, Nat.zero_add] at this
    simp only [Ey.num, numB, Int.toNat_natCast, this]
    simp

theorem fail_ne {y : Ey} {c : Int} (h : c ≠ 0) : (y.fail c).e ≠ 0 := by unfold Ey.fail; split <;> simp_all
theorem codec_upto (m : Int) (hm : m < 9223372036854775808) : Codec (fun y => y.upto m) numB (fun n => 0 ≤ n ∧ n ≤ m) where
  stick y h := by
    have := codec_num.stick y h
    unfold Ey.upto
    simp only
    split
    · exact fail_ne (by decide)
    · exact this
  sound y h0 h1 := by
    unfold Ey.upto at *
    simp only at *
    split at h1
    · exact absurd h1 (fail_ne (by decide))
    · rename_i hle
      rw [if_neg hle]
      obtain ⟨s1, s2⟩ := codec_num.sound y h0 h1
      simp only [h1, ne_eq, not_true_eq_false, if_false]
      exact ⟨s1, s2.1, by omega⟩
  full n rest h := by
    have := codec_num.full n rest ⟨h.1, by omega⟩
    have hn : ¬ n > m := by omega
    simp [Ey.upto, this, hn]
theorem codec_raw (n : Nat) : Codec (fun y => y.raw n) (fun l => l) (fun l => l.length = n) where
  stick y h := by simp [Ey.raw, h]
  sound y h0 h1 := by
    unfold Ey.raw at *
    rw [if_neg (by simp [h0])] at *
    split at h1
    · exact absurd h1 (fail_ne (by decide))
    · rename_i h
      rw [if_neg h]
      simp at h ⊢
      omega
  full l rest h := by
    subst h
    simp only [Ey.raw]
    rw [if_neg (by simp), if_neg (by simp; omega)]
    simp
theorem codec_text (m : Int) (hm : m < 9223372036854775808) : Codec (fun y => y.text m) (fun l => numB l.length ++ l) (fun l => (l.length : Int) ≤ m) where
  stick y h := by
    unfold Ey.text
    have := (codec_upto m hm).stick y h
    simp [Ey.raw, this]
  sound y h0 h1 := by
    unfold Ey.text at *
    have e1 : (y.upto m).2.e = 0 := Decidable.of_not_not fun h => by simp [Ey.raw, h] at h1
    obtain ⟨s1, s2⟩ := (codec_upto m hm).sound y h0 e1
    obtain ⟨k, hk⟩ := Int.eq_ofNat_of_zero_le s2.1
    rw [hk] at s1 s2 h1 ⊢
    obtain ⟨s3, s4⟩ := (codec_raw k).sound _ e1 h1
    rw [s4]
    exact ⟨by rw [s1, s3, List.append_assoc], s2.2⟩
  full l rest h := by
    unfold Ey.text
    have := (codec_upto m hm).full (l.length : Int) (l ++ rest) ⟨by omega, h⟩
    rw [List.append_assoc, this]
    exact (codec_raw l.length).full l rest rfl
theorem codec_sum : Codec Ey.sum (fun s => s.l) (fun _ => True) where
  stick y h := by unfold Ey.sum; exact (codec_raw 32).stick y h
  sound y h0 h1 := by
    unfold Ey.sum at *
    obtain ⟨s1, s2⟩ := (codec_raw 32).sound y h0 h1
    refine ⟨?_, trivial⟩
    have s2' : ((y.raw 32).1).length = 32 := s2
    unfold sumOf
    simp only
    rw [dif_pos s2']
    exact s1
  full s rest _ := by
    unfold Ey.sum
    have := (codec_raw 32).full s.l rest s.h
    have this' : (⟨s.l ++ rest, 0⟩ : Ey).raw 32 = (s.l, ⟨rest, 0⟩) := this
    rw [this']
    simp only [sumOf]
    rw [dif_pos s.h]
theorem done_iff (y : Ey) : y.done.1 = 0 ↔ y.e = 0 ∧ y.b = [] := by
  unfold Ey.done
  simp only
  split
  · rename_i h
    constructor
    · intro h2; exact absurd h2 (fail_ne (by decide))
    · rintro ⟨_, h2⟩; rw [h2] at h; simp at h
  · rename_i h
    constructor
    · intro h2
      refine ⟨h2, ?_⟩
      cases hb : y.b with
      | nil => rfl
      | cons c cs => exact absurd ⟨h2, by simp [hb]⟩ h
    · exact fun h2 => h2.1
/-- What bytes are read as, the whole of them. -/
def Rdr.all {α : Type} (f : Rdr α) (b : List UInt8) : α × Int := ((f ⟨b, 0⟩).1, (f ⟨b, 0⟩).2.done.1)
theorem Codec.all_sound {α : Type} {f : Rdr α} {g : α → List UInt8} {ok : α → Prop} (h : Codec f g ok) {b : List UInt8} (h1 : (Rdr.all f b).2 = 0) : b = g (Rdr.all f b).1 ∧ ok (Rdr.all f b).1 := by
  obtain ⟨e1, e2⟩ := (done_iff _).1 h1
  obtain ⟨s1, s2⟩ := h.sound ⟨b, 0⟩ rfl e1
  rw [e2, List.append_nil] at s1
  exact ⟨s1, s2⟩
theorem Codec.all_full {α : Type} {f : Rdr α} {g : α → List UInt8} {ok : α → Prop} (h : Codec f g ok) {a : α} (ha : ok a) : Rdr.all f (g a) = (a, 0) := by
  have := h.full a [] ha
  rw [List.append_nil] at this
  unfold Rdr.all
  rw [this]
  rfl
end Go.Proofs.Ytdgdigliepncpaa
