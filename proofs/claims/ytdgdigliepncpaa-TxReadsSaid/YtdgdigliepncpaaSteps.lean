/-
  This text proves one rule for each kind of operation, over whatever program.
  Conditions: none; nothing here names the program.
-/
import Derived.Test.YtdgdigliepncpaaCore
namespace Go.Proofs.Ytdgdigliepncpaa
open Go
attribute [local semireducible] C L

/-! ## Facts on types, found by their numbers -/

class Und (P : Program) (t : TypeId) (d : outParam TypeDesc) : Prop where
  eq : P.underlying t = some d
class Siz (P : Program) (t : TypeId) (n : outParam Nat) : Prop where
  eq : (P.info? t).map (·.size) = some n
class Byt (P : Program) (t : TypeId) (n : outParam Nat) : Prop where
  eq : (P.info? t).map (·.bytes) = some n
class Zer (P : Program) (t : TypeId) (z : outParam (List Value)) : Prop where
  eq : ∃ v, (P.info? t).bind (·.zero) = some v ∧ v.cells.toList = z
class IsAgg (P : Program) (t : TypeId) (n : outParam Nat) : Prop where
  agg : ∃ d, P.underlying t = some d ∧ (match d with | .struct _ | .array _ _ => True | _ => False)
  siz : (P.info? t).map (·.size) = some n
class IsOne (P : Program) (t : TypeId) : Prop where
  one : ∃ d, P.underlying t = some d ∧ (match d with | .struct _ | .array _ _ => False | _ => True)
  siz : (P.info? t).map (·.size) = some 1
class Fld (P : Program) (s f : Nat) (off : outParam Nat) : Prop where
  eq : ∃ fs fd, P.underlying s = some (.struct fs) ∧ fs[f]? = some fd ∧ fd.offset = off ∧ (P.info? fd.type).any (fun i => decide (i.size ≠ 0)) = true
class Callable (P : Program) (f : FuncId) : Prop where
  eq : ∃ fn c, P.funcs[f]? = some fn ∧ fn.body = some c ∧ (fn.name == "runtime.NumGoroutine") = false

theorem info_of_size {P : Program} {t : TypeId} {n : Nat} (h : (P.info? t).map (·.size) = some n) : ∃ i, P.info? t = some i ∧ i.size = n := by
  cases hi : P.info? t with
  | none => simp [hi] at h
  | some i => simp [hi] at h; exact ⟨i, rfl, h⟩

/-! ## Cells -/

abbrev row (cl : List Value) (t : TypeId) : Obj := .cells cl.toArray t (0, 0)
abbrev aggv (cl : List Value) : Value := .agg cl.toArray
abbrev ptr (b o : Nat) : Value := .pointer (some ⟨b, o, none⟩)
abbrev int64 (n : Int) : Value := .int .i64 n

/-- What is left behind k cells. -/
class Drop (cs : List Value) (k : Nat) (out : outParam (List Value)) : Prop where
  eq : cs.drop k = out
  le : k ≤ cs.length
/-- The first n cells. -/
class Fst (cs : List Value) (n : Nat) (out : outParam (List Value)) : Prop where
  eq : cs.take n = out
  le : n ≤ cs.length
class Len (cs : List Value) (n : outParam Nat) : Prop where
  eq : cs.length = n
/-- Cells are put over others. -/
class Put (cs : List Value) (off : Nat) (new : List Value) (out : outParam (List Value)) : Prop where
  eq : cs.take off ++ new ++ cs.drop (off + new.length) = out
  le : off + new.length ≤ cs.length
instance Drop.zero {cs : List Value} : Drop cs 0 cs := ⟨rfl, Nat.zero_le _⟩
instance Drop.succ {v : Value} {cs out : List Value} {k : Nat} [d : Drop cs k out] : Drop (v :: cs) (k + 1) out := ⟨d.eq, by have := d.le; simp; omega⟩
instance Fst.zero {cs : List Value} : Fst cs 0 [] := ⟨rfl, Nat.zero_le _⟩
instance Fst.succ {v : Value} {cs out : List Value} {k : Nat} [d : Fst cs k out] : Fst (v :: cs) (k + 1) (v :: out) := ⟨by simp [d.eq], by simp [d.le]⟩
instance Len.nil : Len [] 0 := ⟨rfl⟩
instance Len.cons {v : Value} {cs : List Value} {n : Nat} [d : Len cs n] : Len (v :: cs) (n + 1) := ⟨by simp [d.eq]⟩
instance Put.nil {cs : List Value} : Put cs 0 [] cs := ⟨by simp, by simp⟩
instance Put.cons {v x : Value} {cs new out : List Value} [d : Put cs 0 new out] : Put (v :: cs) 0 (x :: new) (x :: out) := by
  have h1 := d.eq; have h2 := d.le
  refine ⟨?_, by simp at h2 ⊢; omega⟩
  simp at h1 ⊢; exact h1
instance Put.skip {v : Value} {cs new out : List Value} {k : Nat} [d : Put cs k new out] : Put (v :: cs) (k + 1) new (v :: out) := by
  have h1 := d.eq; have h2 := d.le
  refine ⟨?_, by simp at h2 ⊢; omega⟩
  rw [show k + 1 + new.length = (k + new.length) + 1 from by omega]; simpa using h1

theorem cell_row {w : World} {b o : Nat} {cs : Array Value} {t : TypeId} {fr : Nat × Nat} (h : w.heap[b]? = some (.cells cs t fr)) : w.cell? ⟨b, o, none⟩ = cs[o]? := cell_of_row w b o cs t fr h

theorem add_none (b o k : Nat) : (⟨b, o, none⟩ : Addr).add k = ⟨b, o + k, none⟩ := by
  unfold Addr.add; split
  · rename_i h; subst h; rfl
  · rfl

theorem take_drop_get {cs : List Value} {o n : Nat} (j : Nat) (u : Value) (h : ((cs.drop o).take n)[j]? = some u) : cs[o + j]? = some u := by
  rw [List.getElem?_take] at h
  split at h
  · rw [List.getElem?_drop] at h; exact h
  · cases h

theorem run_loadAgg {P : Program} {w : World} {b o n : Nat} {cl out : List Value} {t ty : TypeId} {fr : Nat × Nat} (hb : w.heap[b]? = some (.cells cl.toArray ty fr)) [ha : IsAgg P t n] (hd : (cl.drop o).take n = out) (hle : o + n ≤ cl.length) :
    (loadVar t ⟨b, o, none⟩).run P w = .ok (aggv out) w := by
  obtain ⟨d, hu, hm⟩ := ha.agg
  obtain ⟨i, hi, hs⟩ := info_of_size ha.siz
  have hlen : out.length = n := by rw [← hd]; simp; omega
  have hl := run_loadCells_list (P := P) w ⟨b, o, none⟩ out (fun j v hv => by
    rw [add_none, cell_row hb]
    rw [← hd] at hv
    have := take_drop_get j v hv
    simpa using this)
  have hagg : (isAgg t).run P w = .ok true w := by
    simp only [isAgg, run_underlying hu, Sem.run_bind, Result.andThen_ok]
    cases d <;> first | rfl | exact hm.elim
  simp only [loadVar, Sem.run_bind, hagg, Result.andThen_ok, if_true, sizeOf, typeInfo, run_program, hi, Sem.run_pure, hs]
  rw [← hlen, hl]
  rfl

theorem run_loadOne {P : Program} {w : World} {b o : Nat} {cl : List Value} {v : Value} {t ty : TypeId} {fr : Nat × Nat} (hb : w.heap[b]? = some (.cells cl.toArray ty fr)) [ha : IsOne P t] (hd : cl[o]? = some v) :
    (loadVar t ⟨b, o, none⟩).run P w = .ok v w := by
  obtain ⟨d, hu, hm⟩ := ha.one
  have hagg : (isAgg t).run P w = .ok false w := by
    simp only [isAgg, run_underlying hu, Sem.run_bind, Result.andThen_ok]
    cases d <;> first | rfl | exact hm.elim
  have hc : w.cell? ⟨b, o, none⟩ = some v := by rw [cell_row hb]; simpa using hd
  simp only [loadVar, Sem.run_bind, hagg, Result.andThen_ok, Bool.false_eq_true, if_false, run_load, hc]

/-! ## Region rules -/

section
variable {P : Program} {N : Nat} {X : Cx} {Q : Post} {K : Kont} {e : Env} {M : Mem} {A : Segs} {ops : Array Oper} {rest : List Oper} {o : Oper}

theorem C.region {id : Nat} {l : List Oper} (h : L P N X l.toArray l Q.norm e M A) : C P N X (.region id l.toArray false) Q e M A := fun a w hf hs =>
  wp_mono (wp_region_lit (h a w hf hs)) fun ex a' w' hq => by
    cases ex with
    | normal => exact hq
    | _ => exact hq.elim
theorem L.nil (h : K e M A) : L P N X ops [] K e M A := fun _ _ hf hs => ⟨e, M, A, hf, hs, h⟩
theorem L.keep (e' : Env) (hh : Env.Has e' e) (h : L P N X ops rest K e' M A) : L P N X ops rest K e M A := fun a w hf hs => h a w (hf.has hh) hs
theorem L.perm (A' : Segs) (p : A.flatten.Perm A'.flatten) (h : L P N X ops rest K e M A') : L P N X ops rest K e M A := fun a w hf hs => h a w hf (hs.perm p)

def Env.want (e : Env) (ops : Array Oper) : Option (Nat × Bool) → Option Bool
  | none => some true
  | some (j, b) => match (ops[j]?).bind (·.dst) with
    | some d => match e.get d with
      | some (.bool b') => some (b' == b)
      | some (.tuple _) => some false
      | _ => none
    | none => none

theorem want_wanted {n : Nat} {a : Act} {t : Bool} (hf : Fr n e a) (h : e.want ops o.guard = some t) : Region.wanted o (yielded ops a.tmps) = t := by
  unfold Region.wanted
  cases hg : o.guard with
  | none => rw [hg] at h; simp only [Env.want, Option.some.injEq] at h; rw [← h]
  | some jb =>
    obtain ⟨j, b⟩ := jb
    rw [hg] at h
    simp only [Env.want] at h
    simp only [yielded]
    cases hd : (ops[j]?).bind (·.dst) with
    | none => simp [hd] at h
    | some d =>
      rw [hd] at h
      simp only at h
      cases he : e.get d with
      | none => simp [he] at h
      | some v =>
        rw [he] at h
        cases v <;> simp at h
        · rename_i b'
          simp only [Option.bind_some, hf.at_ d _ he]
          rw [← h]; cases b' <;> cases b <;> rfl
        · simp only [Option.bind_some, hf.at_ d _ he]
          rw [h]; rfl

/-- An operation that leaves a value. -/
theorem L.step {d : Nat} (hg : e.want ops o.guard = some true) (hd : o.dst = some d) (hn : Nat.blt d N = true)
    (h : ∀ a w, Fr N e a → St X M A w → ∃ v w' M' A', (execOp a.eval o).run P w = .ok (.value v) w' ∧ St X M' A' w' ∧ L P N X ops rest K ((d, v) :: e) M' A') : L P N X ops (o :: rest) K e M A := fun a w hf hs => by
  obtain ⟨v, w', M', A', hr, hs', hl⟩ := h a w hf hs
  unfold wpList
  rw [if_pos (want_wanted hf hg)]
  refine .inl ?_
  unfold Oper.wp
  rw [hr]
  simp only [Oper.upon, hd]
  exact hl _ _ (hf.put d v hn) hs'

/-- An operation that leaves nothing. -/
theorem L.effect (hg : e.want ops o.guard = some true) (hd : o.dst = none)
    (h : ∀ a w, Fr N e a → St X M A w → ∃ w' M' A', (execOp a.eval o).run P w = .ok .skip w' ∧ St X M' A' w' ∧ L P N X ops rest K e M' A') : L P N X ops (o :: rest) K e M A := fun a w hf hs => by
  obtain ⟨w', M', A', hr, hs', hl⟩ := h a w hf hs
  unfold wpList
  rw [if_pos (want_wanted hf hg)]
  refine .inl ?_
  unfold Oper.wp
  rw [hr]
  simp only [Oper.upon, hd]
  exact hl _ _ hf hs'

/-- A guarded operation that is passed over. -/
theorem L.off {d : Nat} (hg : e.want ops o.guard = some false) (hd : o.dst = some d) (hn : Nat.blt d N = true) (h : L P N X ops rest K ((d, undef) :: e) M A) : L P N X ops (o :: rest) K e M A := fun a w hf hs => by
  unfold wpList
  rw [if_neg (by rw [want_wanted hf hg]; simp), hd]
  exact h _ _ (hf.put d _ hn) hs
theorem L.offNone (hg : e.want ops o.guard = some false) (hd : o.dst = none) (h : L P N X ops rest K e M A) : L P N X ops (o :: rest) K e M A := fun a w hf hs => by
  unfold wpList
  rw [if_neg (by rw [want_wanted hf hg]; simp), hd]
  exact h _ _ hf hs

/-- Which of two ways a test goes, ahead of what it guards. -/
theorem L.split (d : Nat) {t : Bool} (hd : e.get d = some (.bool t)) (h1 : t = true → L P N X ops rest K ((d, .bool true) :: e) M A) (h2 : t = false → L P N X ops rest K ((d, .bool false) :: e) M A) : L P N X ops rest K e M A := by
  have key : ∀ b, t = b → ∀ a, Fr N e a → Fr N ((d, .bool b) :: e) a := fun b hb a hf => ⟨hf.sz, hf.df, fun k v hk => by
    simp only [Env.get] at hk
    cases hbq : Nat.beq d k with
    | true =>
      have : d = k := Nat.eq_of_beq_eq_true hbq
      subst this
      simp only [hbq, cond_true, Option.some.injEq] at hk
      rw [← hk, ← hb]; exact hf.at_ d _ hd
    | false => simp only [hbq, cond_false] at hk; exact hf.at_ k v hk⟩
  intro a w hf hs
  cases t with
  | true => exact h1 rfl a w (key true rfl a hf) hs
  | false => exact h2 rfl a w (key false rfl a hf) hs

/-- An operation that touches no memory: its value hangs on the slots alone. -/
theorem L.pure {d : Nat} {v : Value} (hg : e.want ops o.guard = some true) (hd : o.dst = some d) (hn : Nat.blt d N = true)
    (hr : ∀ a w, Fr N e a → (execOp a.eval o).run P w = .ok (.value v) w) (h : L P N X ops rest K ((d, v) :: e) M A) : L P N X ops (o :: rest) K e M A :=
  L.step hg hd hn fun a w hf hs => ⟨v, w, M, A, hr a w hf, hs, h⟩
/-- WHAT ONLY READS: in every world that has the memory M and the rows A, the operation leaves v and the world as it is. -/
def Qt (P : Program) (n : Nat) (e : Env) (M : Mem) (A : Segs) (o : Oper) (v : Value) : Prop :=
  ∀ a w, Fr n e a → (∀ b o, M b = some o → w.heap[b]? = some o) → (∀ b o, (b, o) ∈ A.flatten → w.heap[b]? = some o) → (execOp a.eval o).run P w = .ok (.value v) w
theorem L.q {d : Nat} {v : Value} (hq : Qt P N e M A o v) (hg : e.want ops o.guard = some true) (hd : o.dst = some d) (hn : Nat.blt d N = true) (h : L P N X ops rest K ((d, v) :: e) M A) : L P N X ops (o :: rest) K e M A :=
  L.step hg hd hn fun a w hf hs => ⟨v, w, M, A, hq a w hf hs.mem hs.own, hs, h⟩
end
attribute [irreducible] Qt
end Go.Proofs.Ytdgdigliepncpaa
