/-
  This text says how a list of things lies in memory that stays as a slice, and proves how an element of it is read, wherever the slice lies.
  Conditions: none; nothing here names the program.
-/
import Derived.Test.YtdgdigliepncpaaAuto
namespace Go.Proofs.Ytdgdigliepncpaa
open Go
attribute [local semireducible] C L Qt BinRun Fn Fn0 Hands SlM

/-- The place that lies off cells behind cell k of what a slice shows. -/
def elP (v : Value) (k off : Nat) : Value :=
  match v with
  | .slice (some a) _ _ => .pointer (some (a.add (k + off)))
  | _ => .pointer none
/-- The cells cs lie at cell k of what the slice v shows. -/
structure El (M : Mem) (v : Value) (k : Nat) (cs : List Value) : Prop where
  ex : ∃ (b o n c : Nat) (cl : List Value) (T : TypeId) (fr : Nat × Nat), v = .slice (some ⟨b, o, none⟩) n c ∧ At M b (.cells cl.toArray T fr) ∧ (cl.drop (o + k)).take cs.length = cs ∧ o + k + cs.length ≤ cl.length
theorem El.up {M M' : Mem} {v : Value} {k : Nat} {cs : List Value} (h : El M v k cs) [s : Sub M M'] : El M' v k cs := by
  obtain ⟨b, o, n, c, cl, T, fr, h1, h2, h3⟩ := h.ex
  exact ⟨b, o, n, c, cl, T, fr, h1, h2.up, h3⟩
theorem SlM.el {M : Mem} {sz n : Nat} {v : Value} {cs : List Value} (h : SlM M sz v n cs) {i : Nat} (hi : i < n) : El M v (i * sz) ((cs.drop (i * sz)).take sz) := by
  obtain ⟨b, o, c, cl, T, fr, hv, hb, h1, h2, _⟩ := h.at_ hi
  have hl : ((cs.drop (i * sz)).take sz).length = sz := by
    rw [← h1]; simp; omega
  exact ⟨b, o, n, c, cl, T, fr, hv, hb, by rw [hl]; exact h1, by rw [hl]; exact h2⟩

section
variable {P : Program} {N : Nat} {X : Cx} {Q : Post} {K : Kont} {e : Env} {M M1 : Mem} {A : Segs} {ops : Array Oper} {rest : List Oper}
variable {d : Nat} {ty : TypeId} {pos : String} {aft : Array Edge} {g : Option (Nat × Bool)}

theorem Qt.idxEl {t el : TypeId} {x y : Operand} {v : Value} {k : IntKind} {n sz i : Nat} {cs : List Value} [hu : Und P t (.slice el)] [hz : Siz P el sz] (hx : e.ev x = some v) (hy : e.ev y = some (.int k (i : Int))) (hs : SlM M1 sz v n cs) (hi : i < n) : Qt P N e M A ⟨some d, .indexAddr t x y, ty, pos, aft, g⟩ (elP v (i * sz) 0) := by
  rcases hs.2 with ⟨_, _, rfl⟩ | ⟨b, o, c, cl, T, fr, rfl, _⟩
  · omega
  · have := Qt.indexAddr (P := P) (N := N) (M := M) (A := A) (d := d) (ty := ty) (pos := pos) (aft := aft) (g := g) (t := t) (el := el) (o' := o + i * sz) hx hy ⟨by omega, by omega⟩ (by simp)
    simpa [elP, add_none] using this
theorem Qt.idxEl0 {t el : TypeId} {x y : Operand} {v : Value} {k : IntKind} {n sz : Nat} {cs : List Value} [hu : Und P t (.slice el)] [hz : Siz P el sz] (hx : e.ev x = some v) (hy : e.ev y = some (.int k 0)) (hs : SlM M1 sz v n cs) (hi : 0 < n) : Qt P N e M A ⟨some d, .indexAddr t x y, ty, pos, aft, g⟩ (elP v (0 * sz) 0) := Qt.idxEl (i := 0) hx hy hs hi
theorem Qt.fieldEl {s f k off off' fo : Nat} {x : Operand} {v : Value} {cs : List Value} [hF : Fld P s f fo] (hx : e.ev x = some (elP v k off)) (he : El M1 v k cs) (ho : off' = off + fo) : Qt P N e M A ⟨some d, .fieldAddr s x f, ty, pos, aft, g⟩ (elP v k off') := by
  obtain ⟨b, o, n, c, cl, T, fr, rfl, _⟩ := he.ex
  subst ho
  simp only [elP, add_none] at hx ⊢
  exact Qt.fieldAddr hx (by omega)
theorem El.cellsAt {v : Value} {k : Nat} {cs : List Value} (he : El M1 v k cs) (off : Nat) : ∃ (b o n c : Nat) (cl : List Value) (T : TypeId) (fr : Nat × Nat), v = .slice (some ⟨b, o, none⟩) n c ∧ At M1 b (.cells cl.toArray T fr) ∧ (cl.drop (o + (k + off))).take (cs.length - off) = cs.drop off ∧ o + k + cs.length ≤ cl.length := by
  obtain ⟨b, o, n, c, cl, T, fr, hv, hb, h1, h2⟩ := he.ex
  refine ⟨b, o, n, c, cl, T, fr, hv, hb, ?_, h2⟩
  have := congrArg (List.drop off) h1
  rw [List.drop_take, List.drop_drop] at this
  rw [← Nat.add_assoc]
  exact this
theorem Qt.loadEl1 {t : TypeId} {x : Operand} {v u : Value} {k off : Nat} {cs c1 : List Value} (hx : e.ev x = some (elP v k off)) [ha : IsOne P t] (he : El M1 v k cs) [hs : Sub M1 M] [hd : Drop cs off (u :: c1)] : Qt P N e M A ⟨some d, .load t x, ty, pos, aft, g⟩ u := by
  obtain ⟨b, o, n, c, cl, T, fr, rfl, hb, h1, h2⟩ := he.cellsAt off
  simp only [elP, add_none] at hx
  refine Qt.loadMi hx hb ?_
  have h3 : cs.drop off = u :: c1 := hd.eq
  rw [h3] at h1
  have h4 : ((cl.drop (o + (k + off))).take (cs.length - off))[0]? = some u := by rw [h1]; rfl
  rw [List.getElem?_take] at h4
  split at h4
  · rw [List.getElem?_drop] at h4; simpa using h4
  · cases h4
theorem Qt.loadEl {t : TypeId} {x : Operand} {v : Value} {k off m : Nat} {cs c1 out : List Value} (hx : e.ev x = some (elP v k off)) [ha : IsAgg P t m] (he : El M1 v k cs) [hs : Sub M1 M] [hd : Drop cs off c1] [ht : Fst c1 m out] : Qt P N e M A ⟨some d, .load t x, ty, pos, aft, g⟩ (aggv out) := by
  obtain ⟨b, o, n, c, cl, T, fr, rfl, hb, h1, h2⟩ := he.cellsAt off
  simp only [elP, add_none] at hx
  have h3 : cs.drop off = c1 := hd.eq
  have h4 := ht.le
  have h6 := hd.le
  have h5 : c1.length = cs.length - off := by rw [← h3]; simp
  refine Qt.loadMs hx hb ?_ (n := m) (by omega)
  rw [← ht.eq, ← h3, ← h1, List.take_take, Nat.min_eq_left (by omega)]
end

attribute [irreducible] elP
/-! ## Lists of things -/
class Rep (α : Type) where
  sz : Nat
  R : Mem → List Value → α → Prop
  len : ∀ {M : Mem} {cs : List Value} {x : α}, R M cs x → cs.length = sz
  up : ∀ {M M' : Mem} {cs : List Value} {x : α}, R M cs x → Sub M M' → R M' cs x
  ones : ∀ {M : Mem} {cs : List Value} {x : α}, R M cs x → Ones cs

section
variable {α : Type} [Rep α] {M M' : Mem}
def RepL (M : Mem) : List Value → List α → Prop
  | cs, [] => cs = []
  | cs, x :: xs => ∃ c1 c2, cs = c1 ++ c2 ∧ Rep.R M c1 x ∧ RepL M c2 xs
theorem RepL.up {cs : List Value} {xs : List α} (h : RepL M cs xs) [s : Sub M M'] : RepL M' cs xs := by
  induction xs generalizing cs with
  | nil => exact h
  | cons x xs ih => obtain ⟨c1, c2, h1, h2, h3⟩ := h; exact ⟨c1, c2, h1, Rep.up h2 s, ih h3⟩
theorem RepL.len {cs : List Value} {xs : List α} (h : RepL M cs xs) : cs.length = xs.length * Rep.sz α := by
  induction xs generalizing cs with
  | nil => rw [show cs = [] from h]; simp
  | cons x xs ih =>
    obtain ⟨c1, c2, h1, h2, h3⟩ := h
    have := Rep.len h2
    have := ih h3
    rw [h1]; simp [Nat.add_mul]; omega
theorem RepL.ones {cs : List Value} {xs : List α} (h : RepL M cs xs) : Ones cs := by
  induction xs generalizing cs with
  | nil => rw [show cs = [] from h]; infer_instance
  | cons x xs ih =>
    obtain ⟨c1, c2, h1, h2, h3⟩ := h
    have := Rep.ones h2
    have := ih h3
    rw [h1]; infer_instance
theorem RepL.nil : RepL M [] ([] : List α) := rfl
theorem RepL.one {cs : List Value} {x : α} (h : Rep.R M cs x) : RepL M cs [x] := ⟨cs, [], by simp, h, rfl⟩
theorem RepL.app {a b : List Value} {xs ys : List α} (h : RepL M a xs) (k : RepL M b ys) : RepL M (a ++ b) (xs ++ ys) := by
  induction xs generalizing a with
  | nil => rw [show a = [] from h]; exact k
  | cons x xs ih => obtain ⟨c1, c2, h1, h2, h3⟩ := h; exact ⟨c1, c2 ++ b, by rw [h1, List.append_assoc], h2, ih h3⟩
theorem RepL.snoc {a c : List Value} {xs : List α} {x : α} (h : RepL M a xs) (k : Rep.R M c x) : RepL M (a ++ c) (xs ++ [x]) := h.app (RepL.one k)
theorem RepL.drop {cs : List Value} {xs : List α} (h : RepL M cs xs) : ∀ (i : Nat), RepL M (cs.drop (i * Rep.sz α)) (xs.drop i) := by
  intro i
  induction xs generalizing cs i with
  | nil => rw [show cs = [] from h]; simp; rfl
  | cons x xs ih =>
    cases i with
    | zero => simpa using h
    | succ i =>
      obtain ⟨c1, c2, h1, h2, h3⟩ := h
      have hl := Rep.len h2
      rw [h1, Nat.add_mul, Nat.one_mul, Nat.add_comm, ← List.drop_drop, ← hl, List.drop_left, hl]
      exact ih h3 i
theorem RepL.take {cs : List Value} {xs : List α} (h : RepL M cs xs) : ∀ (i : Nat), RepL M (cs.take (i * Rep.sz α)) (xs.take i) := by
  intro i
  induction xs generalizing cs i with
  | nil => rw [show cs = [] from h]; simp; rfl
  | cons x xs ih =>
    cases i with
    | zero => simp; rfl
    | succ i =>
      obtain ⟨c1, c2, h1, h2, h3⟩ := h
      have hl := Rep.len h2
      refine ⟨c1, c2.take (i * Rep.sz α), ?_, h2, ih h3 i⟩
      rw [h1, Nat.add_mul, Nat.one_mul, List.take_append, List.take_of_length_le (by omega), hl, Nat.add_sub_cancel]
theorem RepL.el {cs : List Value} {xs : List α} (h : RepL M cs xs) {i : Nat} (hi : i < xs.length) : Rep.R M ((cs.drop (i * Rep.sz α)).take (Rep.sz α)) xs[i] := by
  have := h.drop i
  rw [List.drop_eq_getElem_cons hi] at this
  obtain ⟨c1, c2, h1, h2, _⟩ := this
  rw [h1, ← Rep.len h2, List.take_left]
  exact h2
/-- A list of things lies as a slice in memory that stays. -/
def SlR (M : Mem) (v : Value) (xs : List α) : Prop := ∃ cs, SlM M (Rep.sz α) v xs.length cs ∧ RepL M cs xs
theorem SlR.up {v : Value} {xs : List α} (h : SlR M v xs) [s : Sub M M'] : SlR M' v xs := by
  obtain ⟨cs, h1, h2⟩ := h
  exact ⟨cs, h1.up, h2.up⟩
theorem SlR.nil {a : Option Addr} : SlR M (.slice a 0 0) ([] : List α) := ⟨[], SlM.nil, rfl⟩
theorem SlR.one {v : Value} {xs : List α} (h : SlR M v xs) : One1 v := by obtain ⟨cs, h1, _⟩ := h; exact h1.one
theorem SlR.cells {v : Value} {xs : List α} (h : SlR M v xs) : Cells v [v] := by obtain ⟨cs, h1, _⟩ := h; exact h1.cells
theorem SlR.le {v : Value} {xs : List α} (h : SlR M v xs) : xs.length ≤ 9223372036854775807 := by
  obtain ⟨cs, h1, _⟩ := h
  have := h1.le
  unfold maxLen at this
  omega
/-- One element of it: its cells, where they lie, and what they are. -/
theorem SlR.el {v : Value} {xs : List α} (h : SlR M v xs) {i : Nat} (hi : i < xs.length) : ∃ ci, El M v (i * Rep.sz α) ci ∧ Rep.R M ci xs[i] := by
  obtain ⟨cs, h1, h2⟩ := h
  exact ⟨_, h1.el hi, h2.el hi⟩
theorem SlR.sub {v : Value} {xs : List α} (h : SlR M v xs) {lo hi : Nat} (h1 : lo ≤ hi) (h2 : hi ≤ xs.length) : SlR M (subV v lo hi (Rep.sz α)) ((xs.drop lo).take (hi - lo)) := by
  obtain ⟨cs, h3, h4⟩ := h
  have hs := SlM.sub h3 h1 h2
  have hr := (h4.drop lo).take (hi - lo)
  refine ⟨_, ?_, hr⟩
  rw [List.length_take, List.length_drop, Nat.min_eq_left (by omega)]
  exact hs
theorem SlR.ofOwn {el : TypeId} {v : Value} {cs : List Value} {xs : List α} (hpos : 0 < Rep.sz α) (hr : RepL M cs xs) (h : v = .slice none 0 0 ∧ cs = [] ∨ ∃ b n cap spare, v = .slice (some ⟨b, 0, none⟩) n cap ∧ cs.length = n * Rep.sz α ∧ n ≤ cap ∧ cap ≤ maxLen ∧ cs.length + spare.length = cap * Rep.sz α ∧ At M b (row (cs ++ spare) el)) : SlR M v xs :=
  ⟨cs, SlM.ofOwn hr.len hpos h, hr⟩
end
end Go.Proofs.Ytdgdigliepncpaa
