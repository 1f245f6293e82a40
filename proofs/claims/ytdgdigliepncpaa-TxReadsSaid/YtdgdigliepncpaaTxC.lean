/-
  This text proves, in plain Lean, that a transaction's bytes are read as that transaction, and that bytes are read as the transaction whose bytes they are, or as none.
  Conditions: none; nothing here runs the program.
-/
import Derived.Test.YtdgdigliepncpaaTx4
namespace Go.Proofs.Ytdgdigliepncpaa
attribute [local irreducible] numB

theorem up_stick (m : Int) (hm : m < 9223372036854775808) : ∀ y : Ey, y.e ≠ 0 → ((fun y => y.upto m) y : Int × Ey).2.e ≠ 0 := (codec_upto m hm).stick
def okWay (w : Way) : Prop := (w.keys.length : Int) ≤ 16 ∧ (∀ k ∈ w.keys, 0 ≤ k ∧ k ≤ 255) ∧ (0 ≤ w.after ∧ w.after ≤ 1073741824) ∧ (0 ≤ w.wait ∧ w.wait ≤ 1073741824)
theorem codec_way : Codec getWay wayB okWay := by
  have c30 := codec_upto 1073741824 (by decide)
  have k5 : ∀ (ks : List Int) (h : Sm) (a w : Int), Codec (Rdr.pure (⟨ks, h, a, w⟩ : Way)) (fun _ => []) (fun x => (((x.keys = ks ∧ x.hash = h) ∧ x.after = a) ∧ x.wait = w)) := fun ks h a w =>
    (Codec.ret _).congr (fun _ => rfl) fun x => by cases x; simp [and_assoc]
  have k4 : ∀ (ks : List Int) (h : Sm) (a : Int), Codec (Rdr.bind (fun y => y.upto 1073741824) fun w => Rdr.pure (⟨ks, h, a, w⟩ : Way)) (fun x => numB x.wait ++ []) (fun x => ((0 ≤ x.wait ∧ x.wait ≤ 1073741824) ∧ (x.keys = ks ∧ x.hash = h)) ∧ x.after = a) := fun ks h a =>
    (Codec.bind (fun x : Way => x.wait) c30 (fun w _ => k5 ks h a w) (fun _ => Codec.stickP _)).congr (fun _ => rfl) fun x => by simp only [and_assoc]
  have s4 : ∀ (ks : List Int) (h : Sm) (a : Int) (y : Ey), y.e ≠ 0 → (Rdr.bind (fun y => y.upto 1073741824) (fun w => Rdr.pure (⟨ks, h, a, w⟩ : Way)) y).2.e ≠ 0 := fun ks h a => (k4 ks h a).stick
  have k3 : ∀ (ks : List Int) (h : Sm), Codec (Rdr.bind (fun y => y.upto 1073741824) fun a => Rdr.bind (fun y => y.upto 1073741824) fun w => Rdr.pure (⟨ks, h, a, w⟩ : Way)) (fun x => numB x.after ++ (numB x.wait ++ [])) (fun x => ((0 ≤ x.after ∧ x.after ≤ 1073741824) ∧ (0 ≤ x.wait ∧ x.wait ≤ 1073741824) ∧ x.keys = ks) ∧ x.hash = h) := fun ks h =>
    (Codec.bind (fun x : Way => x.after) c30 (fun a _ => k4 ks h a) (fun a => s4 ks h a)).congr (fun _ => rfl) fun x => by simp only [and_assoc]
  have k2 : ∀ (ks : List Int), Codec (Rdr.bind Ey.sum fun h => Rdr.bind (fun y => y.upto 1073741824) fun a => Rdr.bind (fun y => y.upto 1073741824) fun w => Rdr.pure (⟨ks, h, a, w⟩ : Way)) (fun x => x.hash.l ++ (numB x.after ++ (numB x.wait ++ []))) (fun x => ((0 ≤ x.after ∧ x.after ≤ 1073741824) ∧ (0 ≤ x.wait ∧ x.wait ≤ 1073741824)) ∧ x.keys = ks) := fun ks =>
    (Codec.bind (fun x : Way => x.hash) codec_sum (fun h _ => k3 ks h) (fun h => (k3 ks h).stick)).congr (fun _ => rfl) fun x => by simp only [true_and, and_assoc]
  have k1 : ∀ (n : Int), 0 ≤ n ∧ n ≤ 16 → Codec (Rdr.bind (getKeys n) fun ks => Rdr.bind Ey.sum fun h => Rdr.bind (fun y => y.upto 1073741824) fun a => Rdr.bind (fun y => y.upto 1073741824) fun w => Rdr.pure (⟨ks, h, a, w⟩ : Way)) (fun x => x.keys.flatMap numB ++ (x.hash.l ++ (numB x.after ++ (numB x.wait ++ [])))) (fun x => ((∀ k ∈ x.keys, 0 ≤ k ∧ k ≤ 255) ∧ (0 ≤ x.after ∧ x.after ≤ 1073741824) ∧ (0 ≤ x.wait ∧ x.wait ≤ 1073741824)) ∧ (x.keys.length : Int) = n) := fun n hn =>
    (Codec.bind (fun x : Way => x.keys) (Codec.rep (codec_upto 255 (by decide)) n.toNat) (fun ks _ => k2 ks) (fun ks => (k2 ks).stick)).congr (fun _ => rfl) fun x => by
      constructor
      · rintro ⟨⟨h1, h2⟩, h3⟩; exact ⟨⟨h2, h3⟩, by omega⟩
      · rintro ⟨⟨h2, h3⟩, h1⟩; exact ⟨⟨by omega, h2⟩, h3⟩
  refine (Codec.bind (fun x : Way => (x.keys.length : Int)) (codec_upto 16 (by decide)) k1 (fun n => ?_)).congr (fun x => by simp [wayB]) fun x => ?_
  · exact Codec.stickB (Codec.stickR (up_stick 255 (by decide)) _) fun ks => (k2 ks).stick
  · unfold okWay
    constructor
    · rintro ⟨⟨_, h1⟩, h2, h3, h4⟩; exact ⟨h1, h2, h3, h4⟩
    · rintro ⟨h1, h2, h3, h4⟩; exact ⟨⟨by omega, h1⟩, h2, h3, h4⟩
theorem okWay_of {w : Way} (h : wayRight w = true) : okWay w := by
  unfold wayRight at h
  simp only [Bool.and_eq_true, decide_eq_true_eq] at h
  exact ⟨by omega, rise_le _ _ h.2, ⟨by omega, by omega⟩, ⟨by omega, by omega⟩⟩

theorem codec_out : Codec getOut outB (fun o => outRight o = true) := by
  let body : Int → List Way → Rdr Out := fun a ws y => (⟨a, ws⟩, if outRight ⟨a, ws⟩ then y else y.fail 4)
  have k3 : ∀ (a : Int) (ws : List Way), Codec (body a ws) (fun _ => []) (fun x => (outRight x = true ∧ x.amount = a) ∧ x.ways = ws) := fun a ws => by
    refine ⟨fun y h => ?_, fun y h0 h1 => ?_, fun x rest h => ?_⟩
    · show (ite _ _ _ : Ey).e ≠ 0
      split
      · exact h
      · unfold Ey.fail; rw [if_neg h]; exact h
    · show _ = [] ++ (ite _ _ _ : Ey).b ∧ _
      have h1' : (ite (outRight ⟨a, ws⟩ = true) y (y.fail 4) : Ey).e = 0 := h1
      by_cases hr : outRight ⟨a, ws⟩ = true
      · rw [if_pos hr]; exact ⟨rfl, ⟨hr, rfl⟩, rfl⟩
      · rw [if_neg hr] at h1'; exact absurd h1' (fail_ne (by decide))
    · obtain ⟨⟨h1, rfl⟩, rfl⟩ := h
      show ((⟨x.amount, x.ways⟩ : Out), _) = _
      rw [if_pos h1]; rfl
  have k2 : ∀ (a n : Int), 0 ≤ n ∧ n ≤ 16 → Codec (Rdr.bind (Rdr.rep getWay n.toNat) fun ws => body a ws) (fun x => x.ways.flatMap wayB ++ []) (fun x => (outRight x = true ∧ x.amount = a) ∧ (x.ways.length : Int) = n) := fun a n hn =>
    (Codec.bind (fun x : Out => x.ways) (Codec.rep codec_way n.toNat) (fun ws _ => k3 a ws) (fun ws => (k3 a ws).stick)).congr (fun _ => rfl) fun x => by
      constructor
      · rintro ⟨⟨h1, h2⟩, h3⟩; exact ⟨h3, by omega⟩
      · rintro ⟨h3, h1⟩
        refine ⟨⟨by omega, fun w hw => okWay_of ?_⟩, h3⟩
        have := h3.1
        unfold outRight at this
        simp only [Bool.and_eq_true, List.all_eq_true] at this
        exact this.2 w hw
  have s2 : ∀ (a n : Int) (y : Ey), y.e ≠ 0 → (Rdr.bind (Rdr.rep getWay n.toNat) (fun ws => body a ws) y).2.e ≠ 0 := fun a n => Codec.stickB (Codec.stickR codec_way.stick _) fun ws => (k3 a ws).stick
  have k1 : ∀ (a : Int), 0 ≤ a ∧ a ≤ 1125899906842624 → Codec (Rdr.bind (fun y => y.upto 16) fun n => Rdr.bind (Rdr.rep getWay n.toNat) fun ws => body a ws) (fun x => numB x.ways.length ++ (x.ways.flatMap wayB ++ [])) (fun x => outRight x = true ∧ x.amount = a) := fun a _ =>
    (Codec.bind (fun x : Out => (x.ways.length : Int)) (codec_upto 16 (by decide)) (k2 a) (fun n => s2 a n)).congr (fun _ => rfl) fun x => by
      constructor
      · rintro ⟨_, h⟩; exact h
      · intro h
        refine ⟨?_, h⟩
        have := h.1
        unfold outRight at this
        simp only [Bool.and_eq_true, decide_eq_true_eq] at this
        omega
  refine (Codec.bind (fun x : Out => x.amount) (codec_upto 1125899906842624 (by decide)) k1 (fun a => Codec.stickB (up_stick 16 (by decide)) fun n => s2 a n)).congr (fun x => by simp [outB]) fun x => ?_
  constructor
  · exact fun h => h.2
  · intro h
    refine ⟨?_, h⟩
    unfold outRight at h
    simp only [Bool.and_eq_true, decide_eq_true_eq] at h
    omega

def okIn (x : Inp) : Prop := (0 ≤ x.ref.at_ ∧ x.ref.at_ ≤ 16) ∧ (0 ≤ x.way ∧ x.way ≤ 16) ∧ (x.pre.length : Int) ≤ 64
theorem codec_in : Codec getIn (inB true) okIn := by
  have k4 : ∀ (h : Sm) (a w : Int) (p : List UInt8), Codec (Rdr.pure (⟨⟨h, a⟩, w, p⟩ : Inp)) (fun _ => []) (fun x => ((x.ref.tx = h ∧ x.ref.at_ = a) ∧ x.way = w) ∧ x.pre = p) := fun h a w p =>
    (Codec.ret _).congr (fun _ => rfl) fun x => by cases x with | mk r _ _ => cases r; simp [and_assoc]
  have k3 : ∀ (h : Sm) (a w : Int), Codec (Rdr.bind (fun y => y.text 64) fun p => Rdr.pure (⟨⟨h, a⟩, w, p⟩ : Inp)) (fun x => (numB x.pre.length ++ x.pre) ++ []) (fun x => ((x.pre.length : Int) ≤ 64 ∧ (x.ref.tx = h ∧ x.ref.at_ = a)) ∧ x.way = w) := fun h a w =>
    (Codec.bind (fun x : Inp => x.pre) (codec_text 64 (by decide)) (fun p _ => k4 h a w p) (fun _ => Codec.stickP _)).congr (fun _ => rfl) fun x => by simp only [and_assoc]
  have k2 : ∀ (h : Sm) (a : Int), Codec (Rdr.bind (fun y => y.upto 16) fun w => Rdr.bind (fun y => y.text 64) fun p => Rdr.pure (⟨⟨h, a⟩, w, p⟩ : Inp)) (fun x => numB x.way ++ ((numB x.pre.length ++ x.pre) ++ [])) (fun x => ((0 ≤ x.way ∧ x.way ≤ 16) ∧ (x.pre.length : Int) ≤ 64 ∧ x.ref.tx = h) ∧ x.ref.at_ = a) := fun h a =>
    (Codec.bind (fun x : Inp => x.way) (codec_upto 16 (by decide)) (fun w _ => k3 h a w) (fun w => (k3 h a w).stick)).congr (fun _ => rfl) fun x => by simp only [and_assoc]
  have k1 : ∀ (h : Sm), Codec (Rdr.bind (fun y => y.upto 16) fun a => Rdr.bind (fun y => y.upto 16) fun w => Rdr.bind (fun y => y.text 64) fun p => Rdr.pure (⟨⟨h, a⟩, w, p⟩ : Inp)) (fun x => numB x.ref.at_ ++ (numB x.way ++ ((numB x.pre.length ++ x.pre) ++ []))) (fun x => ((0 ≤ x.ref.at_ ∧ x.ref.at_ ≤ 16) ∧ (0 ≤ x.way ∧ x.way ≤ 16) ∧ (x.pre.length : Int) ≤ 64) ∧ x.ref.tx = h) := fun h =>
    (Codec.bind (fun x : Inp => x.ref.at_) (codec_upto 16 (by decide)) (fun a _ => k2 h a) (fun a => (k2 h a).stick)).congr (fun _ => rfl) fun x => by simp only [and_assoc]
  exact (Codec.bind (fun x : Inp => x.ref.tx) codec_sum (fun h _ => k1 h) (fun h => (k1 h).stick)).congr (fun x => by simp [inB]) fun x => by simp only [true_and, and_assoc, okIn]
theorem okIn_of {x : Inp} (h : inRight x = true) : okIn x := by
  unfold inRight at h
  simp only [Bool.and_eq_true, decide_eq_true_eq] at h
  exact ⟨⟨by omega, by omega⟩, ⟨by omega, by omega⟩, by omega⟩

def okOp (o : Opn) : Prop := (0 ≤ o.kind ∧ o.kind ≤ 7) ∧ (0 ≤ o.tower ∧ o.tower ≤ 16) ∧ (0 ≤ o.channel ∧ o.channel ≤ 1048576) ∧ (0 ≤ o.amount ∧ o.amount ≤ 1125899906842624) ∧ (o.data.length : Int) ≤ 65536
theorem codec_op : Codec getOp opB okOp := by
  have k6 : ∀ (a b c d : Int) (h : Sm) (p : List UInt8), Codec (Rdr.pure (⟨a, b, c, d, h, p⟩ : Opn)) (fun _ => []) (fun x => ((((x.kind = a ∧ x.tower = b) ∧ x.channel = c) ∧ x.amount = d) ∧ x.root = h) ∧ x.data = p) := fun a b c d h p =>
    (Codec.ret _).congr (fun _ => rfl) fun x => by cases x; simp [and_assoc]
  have k5 : ∀ (a b c d : Int) (h : Sm), Codec (Rdr.bind (fun y => y.text 65536) fun p => Rdr.pure (⟨a, b, c, d, h, p⟩ : Opn)) (fun x => (numB x.data.length ++ x.data) ++ []) (fun x => ((x.data.length : Int) ≤ 65536 ∧ ((x.kind = a ∧ x.tower = b) ∧ x.channel = c) ∧ x.amount = d) ∧ x.root = h) := fun a b c d h =>
    (Codec.bind (fun x : Opn => x.data) (codec_text 65536 (by decide)) (fun p _ => k6 a b c d h p) (fun _ => Codec.stickP _)).congr (fun _ => rfl) fun x => by simp only [and_assoc]
  have k4 : ∀ (a b c d : Int), Codec (Rdr.bind Ey.sum fun h => Rdr.bind (fun y => y.text 65536) fun p => Rdr.pure (⟨a, b, c, d, h, p⟩ : Opn)) (fun x => x.root.l ++ ((numB x.data.length ++ x.data) ++ [])) (fun x => ((x.data.length : Int) ≤ 65536 ∧ (x.kind = a ∧ x.tower = b) ∧ x.channel = c) ∧ x.amount = d) := fun a b c d =>
    (Codec.bind (fun x : Opn => x.root) codec_sum (fun h _ => k5 a b c d h) (fun h => (k5 a b c d h).stick)).congr (fun _ => rfl) fun x => by simp only [true_and, and_assoc]
  have k3 : ∀ (a b c : Int), Codec (Rdr.bind (fun y => y.upto 1125899906842624) fun d => Rdr.bind Ey.sum fun h => Rdr.bind (fun y => y.text 65536) fun p => Rdr.pure (⟨a, b, c, d, h, p⟩ : Opn)) (fun x => numB x.amount ++ (x.root.l ++ ((numB x.data.length ++ x.data) ++ []))) (fun x => ((0 ≤ x.amount ∧ x.amount ≤ 1125899906842624) ∧ (x.data.length : Int) ≤ 65536 ∧ x.kind = a ∧ x.tower = b) ∧ x.channel = c) := fun a b c =>
    (Codec.bind (fun x : Opn => x.amount) (codec_upto 1125899906842624 (by decide)) (fun d _ => k4 a b c d) (fun d => (k4 a b c d).stick)).congr (fun _ => rfl) fun x => by simp only [and_assoc]
  have k2 : ∀ (a b : Int), Codec (Rdr.bind (fun y => y.upto 1048576) fun c => Rdr.bind (fun y => y.upto 1125899906842624) fun d => Rdr.bind Ey.sum fun h => Rdr.bind (fun y => y.text 65536) fun p => Rdr.pure (⟨a, b, c, d, h, p⟩ : Opn)) (fun x => numB x.channel ++ (numB x.amount ++ (x.root.l ++ ((numB x.data.length ++ x.data) ++ [])))) (fun x => ((0 ≤ x.channel ∧ x.channel ≤ 1048576) ∧ (0 ≤ x.amount ∧ x.amount ≤ 1125899906842624) ∧ (x.data.length : Int) ≤ 65536 ∧ x.kind = a) ∧ x.tower = b) := fun a b =>
    (Codec.bind (fun x : Opn => x.channel) (codec_upto 1048576 (by decide)) (fun c _ => k3 a b c) (fun c => (k3 a b c).stick)).congr (fun _ => rfl) fun x => by simp only [and_assoc]
  have k1 : ∀ (a : Int), Codec (Rdr.bind (fun y => y.upto 16) fun b => Rdr.bind (fun y => y.upto 1048576) fun c => Rdr.bind (fun y => y.upto 1125899906842624) fun d => Rdr.bind Ey.sum fun h => Rdr.bind (fun y => y.text 65536) fun p => Rdr.pure (⟨a, b, c, d, h, p⟩ : Opn)) (fun x => numB x.tower ++ (numB x.channel ++ (numB x.amount ++ (x.root.l ++ ((numB x.data.length ++ x.data) ++ []))))) (fun x => ((0 ≤ x.tower ∧ x.tower ≤ 16) ∧ (0 ≤ x.channel ∧ x.channel ≤ 1048576) ∧ (0 ≤ x.amount ∧ x.amount ≤ 1125899906842624) ∧ (x.data.length : Int) ≤ 65536) ∧ x.kind = a) := fun a =>
    (Codec.bind (fun x : Opn => x.tower) (codec_upto 16 (by decide)) (fun b _ => k2 a b) (fun b => (k2 a b).stick)).congr (fun _ => rfl) fun x => by simp only [and_assoc]
  exact (Codec.bind (fun x : Opn => x.kind) (codec_upto 7 (by decide)) (fun a _ => k1 a) (fun a => (k1 a).stick)).congr (fun x => by simp [opB]) fun x => by simp only [and_assoc, okOp]
theorem okOp_of {o : Opn} (h : opRight o = true) : okOp o := by
  by_cases h0 : o.kind = 0
  · rw [opRight_0 h0] at h
    simp only [Bool.and_eq_true, decide_eq_true_eq] at h
    refine ⟨⟨by omega, by omega⟩, ⟨by omega, by omega⟩, ⟨by omega, by omega⟩, ⟨by omega, by omega⟩, by omega⟩
  · rw [opRight_1 h0] at h
    simp only [Bool.and_eq_true, decide_eq_true_eq] at h
    refine ⟨⟨by omega, by omega⟩, ⟨by omega, by omega⟩, ⟨by omega, by omega⟩, ⟨by omega, by omega⟩, by omega⟩

theorem codec_sign : Codec getSign signB (fun s => 0 ≤ s.key ∧ s.key ≤ 255) := by
  have k2 : ∀ (k : Int) (h : Sm), Codec (Rdr.pure (⟨k, h⟩ : Sgn)) (fun _ => []) (fun x => x.key = k ∧ x.of = h) := fun k h => (Codec.ret _).congr (fun _ => rfl) fun x => by cases x; simp
  have k1 : ∀ (k : Int), Codec (Rdr.bind Ey.sum fun h => Rdr.pure (⟨k, h⟩ : Sgn)) (fun x => x.of.l ++ []) (fun x => True ∧ x.key = k) := fun k =>
    (Codec.bind (fun x : Sgn => x.of) codec_sum (fun h _ => k2 k h) (fun _ => Codec.stickP _)).congr (fun _ => rfl) fun x => by simp
  exact (Codec.bind (fun x : Sgn => x.key) (codec_upto 255 (by decide)) (fun k _ => k1 k) (fun k => (k1 k).stick)).congr (fun x => by simp [signB]) fun x => by simp

def okTx (t : Txn) : Prop := (t.ins.length : Int) ≤ 16 ∧ (∀ x ∈ t.ins, okIn x) ∧ (t.outs.length : Int) ≤ 16 ∧ (∀ o ∈ t.outs, outRight o = true) ∧ okOp t.op ∧ (t.signs.length : Int) ≤ 16 ∧ ∀ s ∈ t.signs, 0 ≤ s.key ∧ s.key ≤ 255
theorem codec_tx : Codec getTx txB okTx := by
  have k7 : ∀ (i : List Inp) (o : List Out) (p : Opn) (s : List Sgn), Codec (Rdr.pure (⟨i, o, p, s⟩ : Txn)) (fun _ => []) (fun x => (((x.ins = i ∧ x.outs = o) ∧ x.op = p) ∧ x.signs = s)) := fun i o p s =>
    (Codec.ret _).congr (fun _ => rfl) fun x => by cases x; simp [and_assoc]
  have k6 : ∀ (i : List Inp) (o : List Out) (p : Opn) (n : Int), 0 ≤ n ∧ n ≤ 16 → Codec (Rdr.bind (Rdr.rep getSign n.toNat) fun s => Rdr.pure (⟨i, o, p, s⟩ : Txn)) (fun x => x.signs.flatMap signB ++ []) (fun x => ((∀ s ∈ x.signs, 0 ≤ s.key ∧ s.key ≤ 255) ∧ (x.ins = i ∧ x.outs = o) ∧ x.op = p) ∧ (x.signs.length : Int) = n) := fun i o p n hn =>
    (Codec.bind (fun x : Txn => x.signs) (Codec.rep codec_sign n.toNat) (fun s _ => k7 i o p s) (fun _ => Codec.stickP _)).congr (fun _ => rfl) fun x => by
      constructor
      · rintro ⟨⟨h1, h2⟩, h3⟩; exact ⟨⟨h2, h3⟩, by omega⟩
      · rintro ⟨⟨h2, h3⟩, h1⟩; exact ⟨⟨by omega, h2⟩, h3⟩
  have s6 : ∀ (i : List Inp) (o : List Out) (p : Opn) (n : Int) (y : Ey), y.e ≠ 0 → (Rdr.bind (Rdr.rep getSign n.toNat) (fun s => Rdr.pure (⟨i, o, p, s⟩ : Txn)) y).2.e ≠ 0 := fun i o p n => Codec.stickB (Codec.stickR codec_sign.stick _) fun _ => Codec.stickP _
  have k5 : ∀ (i : List Inp) (o : List Out) (p : Opn), Codec (Rdr.bind (fun y => y.upto 16) fun n => Rdr.bind (Rdr.rep getSign n.toNat) fun s => Rdr.pure (⟨i, o, p, s⟩ : Txn)) (fun x => numB x.signs.length ++ (x.signs.flatMap signB ++ [])) (fun x => ((x.signs.length : Int) ≤ 16 ∧ (∀ s ∈ x.signs, 0 ≤ s.key ∧ s.key ≤ 255) ∧ (x.ins = i ∧ x.outs = o)) ∧ x.op = p) := fun i o p =>
    (Codec.bind (fun x : Txn => (x.signs.length : Int)) (codec_upto 16 (by decide)) (k6 i o p) (fun n => s6 i o p n)).congr (fun _ => rfl) fun x => by
      constructor
      · rintro ⟨⟨_, h1⟩, h2, h3, h4⟩; exact ⟨⟨h1, h2, h3⟩, h4⟩
      · rintro ⟨⟨h1, h2, h3⟩, h4⟩; exact ⟨⟨by omega, h1⟩, h2, h3, h4⟩
  have k4 : ∀ (i : List Inp) (o : List Out), Codec (Rdr.bind getOp fun p => Rdr.bind (fun y => y.upto 16) fun n => Rdr.bind (Rdr.rep getSign n.toNat) fun s => Rdr.pure (⟨i, o, p, s⟩ : Txn)) (fun x => opB x.op ++ (numB x.signs.length ++ (x.signs.flatMap signB ++ []))) (fun x => (okOp x.op ∧ (x.signs.length : Int) ≤ 16 ∧ (∀ s ∈ x.signs, 0 ≤ s.key ∧ s.key ≤ 255) ∧ x.ins = i) ∧ x.outs = o) := fun i o =>
    (Codec.bind (fun x : Txn => x.op) codec_op (fun p _ => k5 i o p) (fun p => (k5 i o p).stick)).congr (fun _ => rfl) fun x => by simp only [and_assoc]
  have k3 : ∀ (i : List Inp) (n : Int), 0 ≤ n ∧ n ≤ 16 → Codec (Rdr.bind (Rdr.rep getOut n.toNat) fun o => Rdr.bind getOp fun p => Rdr.bind (fun y => y.upto 16) fun n => Rdr.bind (Rdr.rep getSign n.toNat) fun s => Rdr.pure (⟨i, o, p, s⟩ : Txn)) (fun x => x.outs.flatMap outB ++ (opB x.op ++ (numB x.signs.length ++ (x.signs.flatMap signB ++ [])))) (fun x => ((∀ o ∈ x.outs, outRight o = true) ∧ okOp x.op ∧ (x.signs.length : Int) ≤ 16 ∧ (∀ s ∈ x.signs, 0 ≤ s.key ∧ s.key ≤ 255) ∧ x.ins = i) ∧ (x.outs.length : Int) = n) := fun i n hn =>
    (Codec.bind (fun x : Txn => x.outs) (Codec.rep codec_out n.toNat) (fun o _ => k4 i o) (fun o => (k4 i o).stick)).congr (fun _ => rfl) fun x => by
      constructor
      · rintro ⟨⟨h1, h2⟩, h3⟩; exact ⟨⟨h2, h3⟩, by omega⟩
      · rintro ⟨⟨h2, h3⟩, h1⟩; exact ⟨⟨by omega, h2⟩, h3⟩
  have s3 : ∀ (i : List Inp) (n : Int) (y : Ey), y.e ≠ 0 → (Rdr.bind (Rdr.rep getOut n.toNat) (fun o => Rdr.bind getOp fun p => Rdr.bind (fun y => y.upto 16) fun n => Rdr.bind (Rdr.rep getSign n.toNat) fun s => Rdr.pure (⟨i, o, p, s⟩ : Txn)) y).2.e ≠ 0 := fun i n => Codec.stickB (Codec.stickR codec_out.stick _) fun o => (k4 i o).stick
  have k2 : ∀ (i : List Inp), Codec (Rdr.bind (fun y => y.upto 16) fun n => Rdr.bind (Rdr.rep getOut n.toNat) fun o => Rdr.bind getOp fun p => Rdr.bind (fun y => y.upto 16) fun n => Rdr.bind (Rdr.rep getSign n.toNat) fun s => Rdr.pure (⟨i, o, p, s⟩ : Txn)) (fun x => numB x.outs.length ++ (x.outs.flatMap outB ++ (opB x.op ++ (numB x.signs.length ++ (x.signs.flatMap signB ++ []))))) (fun x => ((x.outs.length : Int) ≤ 16 ∧ (∀ o ∈ x.outs, outRight o = true) ∧ okOp x.op ∧ (x.signs.length : Int) ≤ 16 ∧ (∀ s ∈ x.signs, 0 ≤ s.key ∧ s.key ≤ 255)) ∧ x.ins = i) := fun i =>
    (Codec.bind (fun x : Txn => (x.outs.length : Int)) (codec_upto 16 (by decide)) (k3 i) (fun n => s3 i n)).congr (fun _ => rfl) fun x => by
      constructor
      · rintro ⟨⟨_, h1⟩, h2, h3, h4, h5, h6⟩; exact ⟨⟨h1, h2, h3, h4, h5⟩, h6⟩
      · rintro ⟨⟨h1, h2, h3, h4, h5⟩, h6⟩; exact ⟨⟨by omega, h1⟩, h2, h3, h4, h5, h6⟩
  have k1 : ∀ (n : Int), 0 ≤ n ∧ n ≤ 16 → Codec (Rdr.bind (Rdr.rep getIn n.toNat) fun i => Rdr.bind (fun y => y.upto 16) fun n => Rdr.bind (Rdr.rep getOut n.toNat) fun o => Rdr.bind getOp fun p => Rdr.bind (fun y => y.upto 16) fun n => Rdr.bind (Rdr.rep getSign n.toNat) fun s => Rdr.pure (⟨i, o, p, s⟩ : Txn)) (fun x => x.ins.flatMap (inB true) ++ (numB x.outs.length ++ (x.outs.flatMap outB ++ (opB x.op ++ (numB x.signs.length ++ (x.signs.flatMap signB ++ [])))))) (fun x => ((∀ y ∈ x.ins, okIn y) ∧ (x.outs.length : Int) ≤ 16 ∧ (∀ o ∈ x.outs, outRight o = true) ∧ okOp x.op ∧ (x.signs.length : Int) ≤ 16 ∧ (∀ s ∈ x.signs, 0 ≤ s.key ∧ s.key ≤ 255)) ∧ (x.ins.length : Int) = n) := fun n hn =>
    (Codec.bind (fun x : Txn => x.ins) (Codec.rep codec_in n.toNat) (fun i _ => k2 i) (fun i => (k2 i).stick)).congr (fun _ => rfl) fun x => by
      constructor
      · rintro ⟨⟨h1, h2⟩, h3⟩; exact ⟨⟨h2, h3⟩, by omega⟩
      · rintro ⟨⟨h2, h3⟩, h1⟩; exact ⟨⟨by omega, h2⟩, h3⟩
  refine (Codec.bind (fun x : Txn => (x.ins.length : Int)) (codec_upto 16 (by decide)) k1 (fun n => Codec.stickB (Codec.stickR codec_in.stick _) fun i => (k2 i).stick)).congr (fun x => by simp [txB, bodyB]) fun x => ?_
  unfold okTx
  constructor
  · rintro ⟨⟨_, h1⟩, h2, h3, h4, h5, h6, h7⟩; exact ⟨h1, h2, h3, h4, h5, h6, h7⟩
  · rintro ⟨h1, h2, h3, h4, h5, h6, h7⟩; exact ⟨⟨by omega, h1⟩, h2, h3, h4, h5, h6, h7⟩
theorem okTx_of {t : Txn} (h : txRight t = true) : okTx t := by
  obtain ⟨h1, h2, h3, h4, _, h6, h7, h8⟩ := txRight_parts h
  exact ⟨by omega, fun x hx => okIn_of (h6 x hx), by omega, h8, okOp_of h4, by omega, fun s hs => rise_le _ _ h7 s.key (List.mem_map.2 ⟨s, hs, rfl⟩)⟩

theorem txRead_full {t : Txn} (h : txRight t = true) : txRead (txB t) = (t, 0) := by
  have := codec_tx.all_full (okTx_of h)
  unfold txRead
  rw [this]
  simp [h]
theorem txRead_ok {b : List UInt8} (h : (txRead b).2 = 0) : txRight (txRead b).1 = true ∧ txB (txRead b).1 = b := by
  unfold txRead at *
  by_cases h1 : (Rdr.all getTx b).2 ≠ 0
  · rw [if_pos h1] at h; exact absurd h h1
  · rw [if_neg h1] at h ⊢
    have h1' : (Rdr.all getTx b).2 = 0 := Decidable.of_not_not h1
    by_cases h2 : txRight (Rdr.all getTx b).1 = false
    · rw [if_pos h2] at h; simp at h
    · rw [if_neg h2]
      refine ⟨by simpa using h2, ?_⟩
      exact (codec_tx.all_sound h1').1.symm
theorem txRead_bad {b : List UInt8} (h : (txRead b).2 ≠ 0) : (txRead b).1 = txn0 := by
  unfold txRead at *
  by_cases h1 : (Rdr.all getTx b).2 ≠ 0
  · rw [if_pos h1]
  · rw [if_neg h1] at h ⊢
    by_cases h2 : txRight (Rdr.all getTx b).1 = false
    · rw [if_pos h2]
    · rw [if_neg h2] at h; simp at h
end Go.Proofs.Ytdgdigliepncpaa
