/-
  This text names the program's structs that have lists in them, says how each lies among cells, and what a pen writes of it.
  Conditions: none.
-/
import Derived.Test.YtdgdigliepncpaaCodec
import Derived.Test.YtdgdigliepncpaaVals
namespace Go.Proofs.Ytdgdigliepncpaa
open Go

structure Way where
  keys : List Int
  hash : Sm
  after : Int
  wait : Int
deriving DecidableEq
structure Out where
  amount : Int
  ways : List Way
deriving DecidableEq
structure Inp where
  ref : Rf
  way : Int
  pre : List UInt8
deriving DecidableEq
structure Opn where
  kind : Int
  tower : Int
  channel : Int
  amount : Int
  root : Sm
  data : List UInt8
deriving DecidableEq
structure Txn where
  ins : List Inp
  outs : List Out
  op : Opn
  signs : List Sgn
deriving DecidableEq

instance : Rep Int where
  sz := 1
  R _ cs x := cs = [int64 x] ∧ I64 x
  len h := by rw [h.1]; rfl
  up h _ := h
  ones h := by rw [h.1]; infer_instance
instance : Rep Sgn where
  sz := 33
  R _ cs x := cs = sgnC x ∧ I64 x.key
  len h := by rw [h.1]; simp
  up h _ := h
  ones h := by rw [h.1]; infer_instance
instance : Rep Sm where
  sz := 32
  R _ cs x := cs = sumC x
  len h := by rw [h]; simp
  up h _ := h
  ones h := by rw [h]; infer_instance
instance : Rep Way where
  sz := 35
  R M cs w := ∃ v, cs = v :: (sumC w.hash ++ int64 w.after :: int64 w.wait :: []) ∧ SlR M v w.keys ∧ I64 w.after ∧ I64 w.wait
  len h := by obtain ⟨v, h, _⟩ := h; rw [h]; simp
  up h s := by obtain ⟨v, h1, h2, h3⟩ := h; exact ⟨v, h1, h2.up, h3⟩
  ones h := by obtain ⟨v, h, h2, _⟩ := h; have := h2.one; rw [h]; infer_instance
instance : Rep Out where
  sz := 2
  R M cs o := ∃ v, cs = [int64 o.amount, v] ∧ SlR M v o.ways ∧ I64 o.amount
  len h := by obtain ⟨v, h, _⟩ := h; rw [h]; simp
  up h s := by obtain ⟨v, h1, h2, h3⟩ := h; exact ⟨v, h1, h2.up, h3⟩
  ones h := by obtain ⟨v, h, h2, _⟩ := h; have := h2.one; rw [h]; infer_instance
instance : Rep Inp where
  sz := 35
  R M cs x := ∃ v, cs = sumC x.ref.tx ++ int64 x.ref.at_ :: int64 x.way :: v :: [] ∧ BytesM M v x.pre ∧ I64 x.ref.at_ ∧ I64 x.way
  len h := by obtain ⟨v, h, _⟩ := h; rw [h]; simp
  up h s := by obtain ⟨v, h1, h2, h3⟩ := h; exact ⟨v, h1, h2.up, h3⟩
  ones h := by obtain ⟨v, h, h2, _⟩ := h; have := SlM.one h2; rw [h]; infer_instance
abbrev opC (o : Opn) (v : Value) : List Value := int64 o.kind :: int64 o.tower :: int64 o.channel :: int64 o.amount :: (sumC o.root ++ v :: [])
def opWide (o : Opn) : Prop := I64 o.kind ∧ I64 o.tower ∧ I64 o.channel ∧ I64 o.amount
instance : Rep Opn where
  sz := 37
  R M cs o := ∃ v, cs = opC o v ∧ BytesM M v o.data ∧ opWide o
  len h := by obtain ⟨v, h, _⟩ := h; rw [h]; simp
  up h s := by obtain ⟨v, h1, h2, h3⟩ := h; exact ⟨v, h1, h2.up, h3⟩
  ones h := by obtain ⟨v, h, h2, _⟩ := h; have := SlM.one h2; rw [h]; infer_instance
abbrev txC (o : Opn) (vi vo vd vs : Value) : List Value := vi :: vo :: int64 o.kind :: int64 o.tower :: int64 o.channel :: int64 o.amount :: (sumC o.root ++ vd :: vs :: [])
instance : Rep Txn where
  sz := 40
  R M cs t := ∃ vi vo vd vs, cs = txC t.op vi vo vd vs ∧ SlR M vi t.ins ∧ SlR M vo t.outs ∧ BytesM M vd t.op.data ∧ SlR M vs t.signs ∧ opWide t.op
  len h := by obtain ⟨vi, vo, vd, vs, h, _⟩ := h; rw [h]; simp
  up h s := by obtain ⟨vi, vo, vd, vs, h, h1, h2, h3, h4, h5⟩ := h; exact ⟨vi, vo, vd, vs, h, h1.up, h2.up, h3.up, h4.up, h5⟩
  ones h := by obtain ⟨vi, vo, vd, vs, h, h1, h2, h3, h4, h5⟩ := h; have := h1.one; have := h2.one; have := SlM.one h3; have := h4.one; rw [h]; infer_instance

theorem RepL.int {M : Mem} {cs : List Value} {xs : List Int} (h : RepL M cs xs) : cs = xs.map int64 ∧ ∀ n ∈ xs, I64 n := by
  induction xs generalizing cs with
  | nil => exact ⟨h, by simp⟩
  | cons x xs ih =>
    obtain ⟨c1, c2, h1, ⟨h2, h3⟩, h4⟩ := h
    obtain ⟨h5, h6⟩ := ih h4
    refine ⟨by rw [h1, h2, h5]; rfl, fun n hn => ?_⟩
    rcases List.mem_cons.1 hn with rfl | hn
    · exact h3
    · exact h6 n hn
theorem RepL.ofInt {M : Mem} : ∀ {xs : List Int}, (∀ n ∈ xs, I64 n) → RepL M (xs.map int64) xs
  | [], _ => rfl
  | x :: xs, h => ⟨[int64 x], xs.map int64, rfl, ⟨rfl, h x (by simp)⟩, RepL.ofInt fun n hn => h n (by simp [hn])⟩
theorem SlR.ints {M : Mem} {v : Value} {xs : List Int} (h : SlR M v xs) : IntsM M v xs := by
  obtain ⟨cs, h1, h2⟩ := h
  obtain ⟨rfl, h3⟩ := h2.int
  exact ⟨h1, h3⟩
theorem IntsM.rep {M : Mem} {v : Value} {xs : List Int} (h : IntsM M v xs) : SlR M v xs := ⟨_, h.1, RepL.ofInt h.2⟩

/-! ## What a pen writes of it -/
def wayB (w : Way) : List UInt8 := numB w.keys.length ++ w.keys.flatMap numB ++ w.hash.l ++ numB w.after ++ numB w.wait
def outB (o : Out) : List UInt8 := numB o.amount ++ numB o.ways.length ++ o.ways.flatMap wayB
def inB (shown : Bool) (x : Inp) : List UInt8 := x.ref.tx.l ++ numB x.ref.at_ ++ numB x.way ++ (if shown then numB x.pre.length ++ x.pre else [])
def opB (o : Opn) : List UInt8 := numB o.kind ++ numB o.tower ++ numB o.channel ++ numB o.amount ++ o.root.l ++ (numB o.data.length ++ o.data)
def bodyB (t : Txn) (shown : Bool) : List UInt8 := numB t.ins.length ++ t.ins.flatMap (inB shown) ++ numB t.outs.length ++ t.outs.flatMap outB ++ opB t.op
def signB (s : Sgn) : List UInt8 := numB s.key ++ s.of.l
def txB (t : Txn) : List UInt8 := bodyB t true ++ (numB t.signs.length ++ t.signs.flatMap signB)

/-! ## Which may be -/
def rise : Option Int → List Int → Bool
  | _, [] => true
  | p, k :: ks => decide (0 ≤ k) && decide (k ≤ 255) && (match p with | none => true | some q => decide (q < k)) && rise (some k) ks
def keysOk (l : List Int) : Bool := rise none l
def wayRight (w : Way) : Bool := decide (w.keys.length ≤ 16) && decide (0 ≤ w.after) && decide (w.after ≤ 1073741824) && decide (0 ≤ w.wait) && decide (w.wait ≤ 1073741824) && keysOk w.keys
def outRight (o : Out) : Bool := decide (0 ≤ o.amount) && decide (o.amount ≤ 1125899906842624) && decide (1 ≤ o.ways.length) && decide (o.ways.length ≤ 16) && o.ways.all wayRight
def opRight (o : Opn) : Bool :=
  if o.kind = 0 then decide (o.tower = 0) && decide (o.channel = 0) && decide (o.amount = 0) && decide (o.root = zsum) && decide (o.data.length = 0)
  else decide (1 ≤ o.kind) && decide (o.kind ≤ 7) && decide (0 ≤ o.tower) && decide (o.tower < 16) && decide (0 ≤ o.channel) && decide (o.channel ≤ 1048576) && decide (0 ≤ o.amount) && decide (o.amount ≤ 1125899906842624) && decide (o.data.length ≤ 65536)
def inRight (x : Inp) : Bool := decide (0 ≤ x.ref.at_) && decide (x.ref.at_ < 16) && decide (0 ≤ x.way) && decide (x.way < 16) && decide (x.pre.length ≤ 64)
def insOk : List Inp → List Inp → Bool
  | _, [] => true
  | pre, x :: xs => inRight x && !(pre.any fun y => decide (y.ref = x.ref)) && insOk (pre ++ [x]) xs
def txRight (t : Txn) : Bool := decide (t.ins.length ≤ 16) && decide (t.outs.length ≤ 16) && decide (t.signs.length ≤ 16) && opRight t.op && !(decide (t.ins.length = 0) && decide (t.op.kind = 0)) && insOk [] t.ins && keysOk (t.signs.map (·.key)) && t.outs.all outRight
end Go.Proofs.Ytdgdigliepncpaa
