/-
  This text proves the rules by which the later texts step through a function's code: a state is a frame's known slots, a memory that stays as it is, and rows of cells that the call owns.
  Conditions: none; nothing here names the program.
-/
import Derived.WalkKit
import Derived.KernelRfl
import Derived.OrdersHeld
namespace Go.Proofs.Ytdgdigliepncpaa
open Go

/-! ## Memory that stays -/

abbrev Mem := Nat → Option Obj
class Prev (M' : Mem) (M : outParam Mem) : Prop where
  le : ∀ b o, M b = some o → M' b = some o
class Sub (M M' : Mem) : Prop where
  le : ∀ b o, M b = some o → M' b = some o
instance Sub.step {M M1 M' : Mem} [p : Prev M' M1] [s : Sub M M1] : Sub M M' := ⟨fun b o h => p.le b o (s.le b o h)⟩
instance Sub.same {M : Mem} : Sub M M := ⟨fun _ _ h => h⟩
theorem Sub.trans' {A B D : Mem} (h : Sub A B) (k : Sub B D) : Sub A D := ⟨fun b o x => k.le b o (h.le b o x)⟩

/-- What lies in a block of memory that stays. -/
structure At (M : Mem) (b : Nat) (o : Obj) : Prop where
  eq : M b = some o
theorem At.up {M M' : Mem} {b : Nat} {o : Obj} (h : At M b o) [s : Sub M M'] : At M' b o := ⟨s.le _ _ h.eq⟩

abbrev Hp := List (Nat × Obj)
abbrev keys (H : Hp) : List Nat := H.map Prod.fst

structure Ok (M : Mem) (H : Hp) (w : World) : Prop where
  nd : (keys H).Nodup
  own : ∀ b o, (b, o) ∈ H → w.heap[b]? = some o
  mem : ∀ b o, M b = some o → w.heap[b]? = some o
  dis : ∀ b o, (b, o) ∈ H → M b = none

structure Done (M0 : Mem) (H0 : Hp) (w0 : World) (M : Mem) (H : Hp) (w : World) : Prop extends Ok M H w where
  sub : ∀ b o, M0 b = some o → M b = some o
  newM : ∀ b o, M b = some o → M0 b = some o ∨ b ∈ keys H0 ∨ w0.heap.size ≤ b
  newH : ∀ b o, (b, o) ∈ H → b ∈ keys H0 ∨ w0.heap.size ≤ b
  frame : ∀ b, b < w0.heap.size → b ∉ keys H0 → w.heap[b]? = w0.heap[b]?
  size : w0.heap.size ≤ w.heap.size
  os : w.os = w0.os
  tape : w.tape = w0.tape
  output : w.output = w0.output

theorem Ok.perm {M : Mem} {H H' : Hp} {w : World} (h : Ok M H w) (p : H.Perm H') : Ok M H' w :=
  ⟨(p.map Prod.fst).nodup_iff.1 h.nd, fun b o hm => h.own b o (p.mem_iff.2 hm), h.mem, fun b o hm => h.dis b o (p.mem_iff.2 hm)⟩

theorem Done.perm {M0 M : Mem} {H0 H H' : Hp} {w0 w : World} (h : Done M0 H0 w0 M H w) (p : H.Perm H') : Done M0 H0 w0 M H' w :=
  { h.toOk.perm p with sub := h.sub, newM := h.newM, newH := fun b o hm => h.newH b o (p.mem_iff.2 hm), frame := h.frame, size := h.size, os := h.os, tape := h.tape, output := h.output }

theorem lt_size {w : World} {b : Nat} {o : Obj} (h : w.heap[b]? = some o) : b < w.heap.size := (Array.getElem?_eq_some_iff.1 h).1

theorem key_of_mem {H : Hp} {b : Nat} {o : Obj} (h : (b, o) ∈ H) : b ∈ keys H := List.mem_map.2 ⟨(b, o), h, rfl⟩
theorem mem_of_key {H : Hp} {b : Nat} (h : b ∈ keys H) : ∃ o, (b, o) ∈ H := by
  obtain ⟨⟨b', o⟩, hm, rfl⟩ := List.mem_map.1 h
  exact ⟨o, hm⟩

theorem Ok.lt {M : Mem} {H : Hp} {w : World} (h : Ok M H w) {b : Nat} (hb : b ∈ keys H) : b < w.heap.size := by
  obtain ⟨o, ho⟩ := mem_of_key hb
  exact lt_size (h.own b o ho)

theorem Done.start {M : Mem} {H : Hp} {w : World} (h : Ok M H w) : Done M H w M H w :=
  { h with sub := fun _ _ h => h, newM := fun _ _ h => .inl h, newH := fun _ _ h => .inl (key_of_mem h), frame := fun _ _ _ => rfl, size := Nat.le_refl _, os := rfl, tape := rfl, output := rfl }

/-- THE FRAME: a callee that was handed a part of what the caller owns. -/
theorem Done.call {M0 M M' : Mem} {H0 H F H' : Hp} {w0 w w' : World} (h : Done M0 H0 w0 M (H ++ F) w) (k : Done M H w M' H' w') : Done M0 H0 w0 M' (H' ++ F) w' := by
  have hnd := h.nd
  simp only [keys, List.map_append, List.nodup_append] at hnd
  obtain ⟨n1, n2, n3⟩ := hnd
  have ltF : ∀ b o, (b, o) ∈ F → b < w.heap.size := fun b o hb => lt_size (h.own b o (List.mem_append_right _ hb))
  have notH : ∀ b o, (b, o) ∈ F → b ∉ keys H := fun b o hb hk => n3 b hk b (key_of_mem hb) rfl
  refine { nd := ?_, own := ?_, mem := k.mem, dis := ?_, sub := fun b o x => k.sub b o (h.sub b o x), newM := ?_, newH := ?_, frame := ?_, size := Nat.le_trans h.size k.size,
           os := k.os.trans h.os, tape := k.tape.trans h.tape, output := k.output.trans h.output }
  · simp only [keys, List.map_append, List.nodup_append]
    refine ⟨k.nd, n2, fun a ha b hb hab => ?_⟩
    subst hab
    obtain ⟨o, ho⟩ := mem_of_key ha
    obtain ⟨o', ho'⟩ := mem_of_key hb
    rcases k.newH a o ho with hh | hh
    · exact notH a o' ho' hh
    · have := ltF a o' ho'; omega
  · intro b o hb
    rcases List.mem_append.1 hb with hb | hb
    · exact k.own b o hb
    · rw [k.frame b (ltF b o hb) (notH b o hb)]; exact h.own b o (List.mem_append_right _ hb)
  · intro b o hb
    rcases List.mem_append.1 hb with hb | hb
    · exact k.dis b o hb
    · cases hM : M' b with
      | none => rfl
      | some o' =>
        rcases k.newM b o' hM with hh | hh | hh
        · have := h.dis b o (List.mem_append_right _ hb); rw [this] at hh; cases hh
        · exact absurd hh (notH b o hb)
        · have := ltF b o hb; omega
  · intro b o hb
    rcases k.newM b o hb with hh | hh | hh
    · exact h.newM b o hh
    · obtain ⟨o', ho'⟩ := mem_of_key hh
      exact .inr (h.newH b o' (List.mem_append_left _ ho'))
    · exact .inr (.inr (Nat.le_trans h.size hh))
  · intro b o hb
    rcases List.mem_append.1 hb with hb | hb
    · rcases k.newH b o hb with hh | hh
      · obtain ⟨o', ho'⟩ := mem_of_key hh
        exact h.newH b o' (List.mem_append_left _ ho')
      · exact .inr (Nat.le_trans h.size hh)
    · exact h.newH b o (List.mem_append_right _ hb)
  · intro b hb hn
    rw [k.frame b (Nat.lt_of_lt_of_le hb h.size) ?_]
    · exact h.frame b hb hn
    · intro hk
      obtain ⟨o', ho'⟩ := mem_of_key hk
      rcases h.newH b o' (List.mem_append_left _ ho') with hh | hh
      · exact hn hh
      · omega

/-- A new block. -/
theorem Done.alloc {M0 M : Mem} {H0 H : Hp} {w0 w : World} (h : Done M0 H0 w0 M H w) (o : Obj) : Done M0 H0 w0 M ((w.heap.size, o) :: H) (w.alloc o) := by
  have old : ∀ b : Nat, b < w.heap.size → (w.alloc o).heap[b]? = w.heap[b]? := fun b hb => by
    show (w.heap.push o)[b]? = _
    rw [Array.getElem?_push, if_neg (by omega)]
  have nk : w.heap.size ∉ keys H := fun hk => Nat.lt_irrefl _ (h.toOk.lt hk)
  refine { nd := ?_, own := ?_, mem := ?_, dis := ?_, sub := h.sub, newM := h.newM, newH := ?_, frame := ?_, size := ?_, os := h.os, tape := h.tape, output := h.output }
  · simp only [keys, List.map_cons, List.nodup_cons]; exact ⟨nk, h.nd⟩
  · intro b o' hb
    rcases List.mem_cons.1 hb with hb | hb
    · cases hb; exact heap_alloc_new w o
    · rw [old b (lt_size (h.own b o' hb))]; exact h.own b o' hb
  · intro b o' hb
    rw [old b (lt_size (h.mem b o' hb))]; exact h.mem b o' hb
  · intro b o' hb
    rcases List.mem_cons.1 hb with hb | hb
    · cases hb
      cases hM : M w.heap.size with
      | none => rfl
      | some x => exact absurd (lt_size (h.mem _ x hM)) (Nat.lt_irrefl _)
    · exact h.dis b o' hb
  · intro b o' hb
    rcases List.mem_cons.1 hb with hb | hb
    · cases hb; exact .inr h.size
    · exact h.newH b o' hb
  · intro b hb hn
    rw [old b (Nat.lt_of_lt_of_le hb h.size)]; exact h.frame b hb hn
  · simp; exact Nat.le_succ_of_le h.size

theorem Done.drew {M0 M : Mem} {H0 H : Hp} {w0 w : World} (h : Done M0 H0 w0 M H w) : Done M0 H0 w0 M H w.drew :=
  { nd := h.nd, own := h.own, mem := h.mem, dis := h.dis, sub := h.sub, newM := h.newM, newH := h.newH, frame := h.frame, size := h.size, os := h.os, tape := h.tape, output := h.output }

/-- An owned block is written: the new world differs from the old one there alone. -/
theorem Done.write {M0 M : Mem} {H0 H : Hp} {w0 w w' : World} {b : Nat} {o o' : Obj} (h : Done M0 H0 w0 M ((b, o) :: H) w) (hb : w'.heap[b]? = some o')
    (hs : w'.heap.size = w.heap.size) (hk : ∀ k, k ≠ b → w'.heap[k]? = w.heap[k]?) (hos : w'.os = w.os) (ht : w'.tape = w.tape) (hout : w'.output = w.output) : Done M0 H0 w0 M ((b, o') :: H) w' := by
  have hnd := h.nd
  simp only [keys, List.map_cons, List.nodup_cons] at hnd
  have ne : ∀ c x, (c, x) ∈ H → c ≠ b := fun c x hc e => hnd.1 (e ▸ key_of_mem hc)
  refine { nd := ?_, own := ?_, mem := ?_, dis := ?_, sub := h.sub, newM := h.newM, newH := ?_, frame := ?_, size := by rw [hs]; exact h.size, os := hos.trans h.os, tape := ht.trans h.tape, output := hout.trans h.output }
  · simp only [keys, List.map_cons, List.nodup_cons]; exact hnd
  · intro c x hc
    rcases List.mem_cons.1 hc with hc | hc
    · cases hc; exact hb
    · rw [hk c (ne c x hc)]; exact h.own c x (List.mem_cons_of_mem _ hc)
  · intro c x hc
    rw [hk c ?_]
    · exact h.mem c x hc
    · intro e; rw [e] at hc
      have := h.dis _ o (List.mem_cons_self ..); rw [this] at hc; cases hc
  · intro c x hc
    rcases List.mem_cons.1 hc with hc | hc
    · cases hc; exact h.dis _ o (List.mem_cons_self ..)
    · exact h.dis c x (List.mem_cons_of_mem _ hc)
  · intro c x hc
    rcases List.mem_cons.1 hc with hc | hc
    · cases hc; exact h.newH _ o (List.mem_cons_self ..)
    · exact h.newH c x (List.mem_cons_of_mem _ hc)
  · intro c hc hn
    rw [hk c ?_]
    · exact h.frame c hc hn
    · intro e
      rcases h.newH _ o (List.mem_cons_self ..) with hh | hh
      · exact hn (e ▸ hh)
      · omega

/-- An owned block stays as it is from here on. -/
theorem Done.freeze {M0 M : Mem} {H0 H : Hp} {w0 w : World} {b : Nat} {o : Obj} (h : Done M0 H0 w0 M ((b, o) :: H) w) :
    Done M0 H0 w0 (fun k => if k = b then some o else M k) H w := by
  have hnd := h.nd
  simp only [keys, List.map_cons, List.nodup_cons] at hnd
  have ne : ∀ c x, (c, x) ∈ H → c ≠ b := fun c x hc e => hnd.1 (e ▸ key_of_mem hc)
  have hMb : M b = none := h.dis b o (List.mem_cons_self ..)
  refine { nd := hnd.2, own := fun c x hc => h.own c x (List.mem_cons_of_mem _ hc), mem := ?_, dis := ?_, sub := ?_, newM := ?_, newH := fun c x hc => h.newH c x (List.mem_cons_of_mem _ hc), frame := h.frame, size := h.size, os := h.os, tape := h.tape, output := h.output }
  · intro c x hc
    split at hc
    · rename_i e; subst e; cases hc; exact h.own c o (List.mem_cons_self ..)
    · exact h.mem c x hc
  · intro c x hc
    rw [if_neg (ne c x hc)]
    exact h.dis c x (List.mem_cons_of_mem _ hc)
  · intro c x hc
    split
    · rename_i e; subst e
      have := h.sub c x hc; rw [hMb] at this; cases this
    · exact h.sub c x hc
  · intro c x hc
    split at hc
    · rename_i e; subst e; cases hc
      exact .inr (h.newH c o (List.mem_cons_self ..))
    · exact h.newM c x hc

/-- What is owned is forgotten. -/
theorem Done.drop {M0 M : Mem} {H0 H K : Hp} {w0 w : World} (h : Done M0 H0 w0 M (K ++ H) w) : Done M0 H0 w0 M H w := by
  have hnd := h.nd
  simp only [keys, List.map_append, List.nodup_append] at hnd
  exact { nd := hnd.2.1, own := fun c x hc => h.own c x (List.mem_append_right _ hc), mem := h.mem, dis := fun c x hc => h.dis c x (List.mem_append_right _ hc), sub := h.sub, newM := h.newM,
          newH := fun c x hc => h.newH c x (List.mem_append_right _ hc), frame := h.frame, size := h.size, os := h.os, tape := h.tape, output := h.output }

/-! ## Finding what is owned -/

abbrev Segs := List Hp
class Take (A : Segs) (H : Hp) (A' : outParam Segs) : Prop where
  perm : A.flatten.Perm (H ++ A'.flatten)
instance Take.next {A A' : Segs} {H K : Hp} [t : Take A H A'] : Take (K :: A) H (K :: A') where
  perm := by
    have h := t.perm
    simp only [List.flatten_cons]
    refine (List.Perm.append_left K h).trans ?_
    rw [← List.append_assoc, ← List.append_assoc]
    exact List.Perm.append_right _ List.perm_append_comm
instance Take.here {A : Segs} {H : Hp} : Take (H :: A) H A where
  perm := by simp
instance Take.none {A : Segs} : Take A [] A where
  perm := by simp
class TakeB (A : Segs) (b : Nat) (o : outParam Obj) (A' : outParam Segs) : Prop where
  perm : A.flatten.Perm ((b, o) :: A'.flatten)
instance TakeB.next {A A' : Segs} {b : Nat} {o : Obj} {K : Hp} [t : TakeB A b o A'] : TakeB (K :: A) b o (K :: A') where
  perm := (Take.next (K := K) (t := (⟨t.perm⟩ : Take A [(b, o)] A'))).perm
instance TakeB.here {A : Segs} {b : Nat} {o : Obj} : TakeB ([(b, o)] :: A) b o A where
  perm := by simp

/-! ## The frame -/

abbrev Env := List (Nat × Value)
def Env.get : Env → Nat → Option Value
  | [], _ => none
  | (t', v) :: e, t => bif Nat.beq t' t then some v else Env.get e t
def Env.ev (e : Env) : Operand → Option Value
  | .tmp t => e.get t
  | .const v => some v
  | .global g => some (.pointer (some ⟨g, 0, none⟩))
  | .func f => some (.func (.func f) #[] #[])
def Env.evs (e : Env) : List Operand → Option (List Value)
  | [] => some []
  | x :: xs => match e.ev x, e.evs xs with
    | some v, some vs => some (v :: vs)
    | _, _ => none

structure Fr (n : Nat) (e : Env) (a : Act) : Prop where
  sz : a.tmps.size = n
  df : a.defers = []
  at_ : ∀ t v, e.get t = some v → a.tmps[t]? = some v

theorem Fr.ev {n : Nat} {e : Env} {a : Act} (h : Fr n e a) {x : Operand} {v : Value} (hx : e.ev x = some v) : a.eval x = v := by
  cases x with
  | tmp t => simp only [Env.ev] at hx; simp [Act.eval, h.at_ t v hx]
  | const u => simp only [Env.ev, Option.some.injEq] at hx; exact hx
  | global g => simp only [Env.ev, Option.some.injEq] at hx; exact hx
  | func f => simp only [Env.ev, Option.some.injEq] at hx; exact hx

theorem Fr.evs {n : Nat} {e : Env} {a : Act} (h : Fr n e a) : ∀ {xs : List Operand} {vs : List Value}, e.evs xs = some vs → xs.map a.eval = vs
  | [], vs, hx => by simp only [Env.evs, Option.some.injEq] at hx; simp [hx]
  | x :: xs, vs, hx => by
    simp only [Env.evs] at hx
    cases h1 : e.ev x with
    | none => simp [h1] at hx
    | some v =>
      cases h2 : e.evs xs with
      | none => simp [h1, h2] at hx
      | some us =>
        simp only [h1, h2, Option.some.injEq] at hx
        subst hx
        simp [h.ev h1, h.evs h2]

theorem Fr.put {n : Nat} {e : Env} {a : Act} (h : Fr n e a) (d : Nat) (v : Value) (hd : Nat.blt d n = true) : Fr n ((d, v) :: e) (a.put (some d) v) := by
  have hd' : d < n := by simpa [Nat.blt_eq] using hd
  refine ⟨by simp [Act.put, h.sz], h.df, fun t u ht => ?_⟩
  simp only [Env.get] at ht
  cases hb : Nat.beq d t with
  | true =>
    have : d = t := Nat.eq_of_beq_eq_true hb
    subst this
    simp only [hb, cond_true, Option.some.injEq] at ht
    subst ht
    simp [Act.put, h.sz, hd']
  | false =>
    simp only [hb, cond_false] at ht
    have hne : d ≠ t := fun e => by subst e; simp at hb
    simp only [Act.put]
    rw [Array.getElem?_setIfInBounds_ne hne]
    exact h.at_ t u ht

theorem Fr.putNone {n : Nat} {e : Env} {a : Act} (h : Fr n e a) (v : Value) : Fr n e (a.put none v) := h

/-- The slots that are kept. -/
inductive Env.Has : Env → Env → Prop
  | nil {e : Env} : Env.Has [] e
  | cons {e e' : Env} {t : Nat} {v v' : Value} (h : e.get t = some v') (hv : v = v') (hs : Env.Has e' e) : Env.Has ((t, v) :: e') e
theorem Env.Has.get {e' e : Env} (h : Env.Has e' e) : ∀ t v, e'.get t = some v → e.get t = some v := by
  induction h with
  | nil => intro t v h; simp [Env.get] at h
  | cons h hv _ ih =>
    intro t v ht
    simp only [Env.get] at ht
    rename_i t' v1 v2 _
    cases hb : Nat.beq t' t with
    | true =>
      have : t' = t := Nat.eq_of_beq_eq_true hb
      subst this
      simp only [hb, cond_true, Option.some.injEq] at ht
      rw [h, ← hv, ht]
    | false => simp only [hb, cond_false] at ht; exact ih t v ht
theorem Fr.has {n : Nat} {e e' : Env} {a : Act} (h : Fr n e a) (hh : Env.Has e' e) : Fr n e' a := ⟨h.sz, h.df, fun t v ht => h.at_ t v (hh.get t v ht)⟩

/-! ## Judgements -/

structure Cx where
  M0 : Mem
  H0 : Hp
  w0 : World
abbrev St (X : Cx) (M : Mem) (A : Segs) (w : World) : Prop := Done X.M0 X.H0 X.w0 M A.flatten w
abbrev Kont := Env → Mem → Segs → Prop
def Cx.In (N : Nat) (X : Cx) (K : Kont) (a : Act) (w : World) : Prop := ∃ e M A, Fr N e a ∧ St X M A w ∧ K e M A
structure Post where
  norm : Kont
  ret : Kont
  exit : Nat → Kont
def Post.lift (N : Nat) (X : Cx) (Q : Post) : Exit → Act → World → Prop
  | .normal => Cx.In N X Q.norm
  | .ret => Cx.In N X Q.ret
  | .exit i => Cx.In N X (Q.exit i)
  | _ => fun _ _ => False
def C (P : Program) (N : Nat) (X : Cx) (c : Code) (Q : Post) : Kont := fun e M A => ∀ a w, Fr N e a → St X M A w → c.wp P (Q.lift N X) a w
def normOnly (N : Nat) (X : Cx) (K : Kont) : Exit → Act → World → Prop
  | .normal => Cx.In N X K
  | _ => fun _ _ => False
def L (P : Program) (N : Nat) (X : Cx) (ops : Array Oper) (l : List Oper) (K : Kont) : Kont := fun e M A => ∀ a w, Fr N e a → St X M A w → wpList P ops (normOnly N X K) l a w

section rules
variable {P : Program} {N : Nat} {X : Cx} {Q : Post} {e : Env} {M : Mem} {A : Segs}

theorem C.skip (h : Q.norm e M A) : C P N X .skip Q e M A := fun _ _ hf hs => wp_skip ⟨e, M, A, hf, hs, h⟩
theorem C.ret (h : Q.ret e M A) : C P N X .ret Q e M A := fun _ _ hf hs => wp_ret ⟨e, M, A, hf, hs, h⟩
theorem C.exit {i : Nat} (h : Q.exit i e M A) : C P N X (.exit i) Q e M A := fun _ _ hf hs => wp_exit ⟨e, M, A, hf, hs, h⟩
theorem C.label {l : Nat} (h : Q.norm e M A) : C P N X (.label l) Q e M A := fun _ _ hf hs => wp_label ⟨e, M, A, hf, hs, h⟩
theorem C.seq {x y : Code} (h : C P N X x { Q with norm := C P N X y Q } e M A) : C P N X (.seq x y) Q e M A := fun a w hf hs =>
  wp_seq (wp_mono (h a w hf hs) fun ex a' w' hq => by
    cases ex with
    | normal => obtain ⟨e', M', A', hf', hs', hk⟩ := hq; exact hk a' w' hf' hs'
    | ret => exact hq
    | exit i => exact hq
    | goto l => exact hq.elim
    | panic c => exact hq.elim
    | outgrown => exact hq.elim)
theorem C.block {i : Nat} {c : Code} (h : C P N X c { Q with exit := fun j => if j = i then Q.norm else Q.exit j } e M A) : C P N X (.block i c) Q e M A := fun a w hf hs =>
  wp_block (wp_mono (h a w hf hs) fun ex a' w' hq => by
    cases ex with
    | normal => exact hq
    | ret => exact hq
    | exit j =>
      simp only [Exit.inBlock]
      simp only [Post.lift] at hq
      split
      · rename_i hj; rw [if_pos hj] at hq; exact hq
      · rename_i hj; rw [if_neg hj] at hq; exact hq
    | goto l => exact hq.elim
    | panic c => exact hq.elim
    | outgrown => exact hq.elim)
theorem C.condT {c : Operand} {x y : Code} (hc : e.ev c = some (.bool true)) (h : C P N X x Q e M A) : C P N X (.cond c x y) Q e M A :=
  fun a w hf hs => wp_cond_true (hf.ev hc) (h a w hf hs)
theorem C.condF {c : Operand} {x y : Code} (hc : e.ev c = some (.bool false)) (h : C P N X y Q e M A) : C P N X (.cond c x y) Q e M A :=
  fun a w hf hs => wp_cond_false (hf.ev hc) (h a w hf hs)
theorem C.cond {c : Operand} {x y : Code} {t : Bool} (hc : e.ev c = some (.bool t)) (ht : t = true → C P N X x Q e M A) (hf' : t = false → C P N X y Q e M A) : C P N X (.cond c x y) Q e M A :=
  fun a w hf hs => wp_cond_split (hf.ev hc) (fun h => ht h a w hf hs) (fun h => hf' h a w hf hs)
theorem C.condT' {c : Operand} {x y : Code} {v : Value} (hc : e.ev c = some v) (hv : v = .bool true) (h : C P N X x Q e M A) : C P N X (.cond c x y) Q e M A := C.condT (hv ▸ hc) h
theorem C.condF' {c : Operand} {x y : Code} {v : Value} (hc : e.ev c = some v) (hv : v = .bool false) (h : C P N X y Q e M A) : C P N X (.cond c x y) Q e M A := C.condF (hv ▸ hc) h
theorem C.mono {c : Code} {Q Q' : Post} (hn : ∀ e M A, Q'.norm e M A → Q.norm e M A) (hr : ∀ e M A, Q'.ret e M A → Q.ret e M A) (hx : ∀ i e M A, Q'.exit i e M A → Q.exit i e M A)
    (h : C P N X c Q' e M A) : C P N X c Q e M A := fun a w hf hs => wp_mono (h a w hf hs) fun ex a' w' hq => by
  cases ex with
  | normal => obtain ⟨e', M', A', hf', hs', hk⟩ := hq; exact ⟨e', M', A', hf', hs', hn _ _ _ hk⟩
  | ret => obtain ⟨e', M', A', hf', hs', hk⟩ := hq; exact ⟨e', M', A', hf', hs', hr _ _ _ hk⟩
  | exit i => obtain ⟨e', M', A', hf', hs', hk⟩ := hq; exact ⟨e', M', A', hf', hs', hx i _ _ _ hk⟩
  | goto l => exact hq.elim
  | panic c => exact hq.elim
  | outgrown => exact hq.elim
/-- A cut: what stands behind c is proved once, whichever way c went. -/
theorem C.cut {c : Code} (K : Kont) (h : C P N X c { Q with norm := K } e M A) (hk : ∀ e M A, K e M A → Q.norm e M A) : C P N X c Q e M A :=
  C.mono (Q' := { Q with norm := K }) hk (fun _ _ _ h => h) (fun _ _ _ _ h => h) h
theorem C.keep {c : Code} (e' : Env) (hh : Env.Has e' e) (h : C P N X c Q e' M A) : C P N X c Q e M A := fun a w hf hs => h a w (hf.has hh) hs
theorem C.perm {c : Code} (A' : Segs) (p : A.flatten.Perm A'.flatten) (h : C P N X c Q e M A') : C P N X c Q e M A := fun a w hf hs => h a w hf (hs.perm p)
theorem C.drop {c : Code} (H : Hp) {A' : Segs} [t : Take A H A'] (h : C P N X c Q e M A') : C P N X c Q e M A := fun a w hf hs => h a w hf (hs.perm t.perm).drop
theorem C.freeze {c : Code} (b : Nat) {o : Obj} {A' : Segs} [t : TakeB A b o A'] (h : ∀ M', [Prev M' M] → At M' b o → C P N X c Q e M' A') : C P N X c Q e M A := fun a w hf hs => by
  have hd := (hs.perm t.perm)
  have hp : Prev (fun k => if k = b then some o else M k) M := ⟨fun k x hk => by
    split
    · rename_i e; subst e; have := hd.dis k o (List.mem_cons_self ..); rw [this] at hk; cases hk
    · exact hk⟩
  exact h _ ⟨by simp⟩ a w hf hd.freeze

/-- THE LOOP: s says how far it has come. -/
theorem C.loop {σ : Type} {c : Code} (E : σ → Env) (F : σ → Segs) (J : σ → Mem → Prop) (μ : σ → Nat) (s0 : σ) (he : Env.Has (E s0) e) (ha : A.flatten.Perm (F s0).flatten) (hj : J s0 M)
    (round : ∀ s M', Prev M' M → J s M' →
      C P N X c { Q with norm := fun e1 M1 A1 => ∃ s1, Env.Has (E s1) e1 ∧ A1.flatten.Perm (F s1).flatten ∧ Sub M M1 ∧ J s1 M1 ∧ μ s1 < μ s } (E s) M' (F s)) : C P N X (.loop c) Q e M A := by
  intro a w hf hs b k cs
  have key : ∀ n s M' a w, μ s = n → Prev M' M → J s M' → Fr N (E s) a → St X M' (F s) w →
      ∃ ex a' w', Q.lift N X ex a' w' ∧ Arrives P (lone (b.at a (.code c :: .inLoop c :: k)) cs w) b k cs ex a' w' := by
    intro n
    induction n using Nat.strongRecOn with
    | _ n ih =>
      intro s M' a w hn hp hj hf hs
      obtain ⟨ex, a1, w1, hq, harr⟩ := round s M' hp hj a w hf hs b (.inLoop c :: k) cs
      cases ex with
      | normal =>
        obtain ⟨e1, M1, A1, hf1, hs1, s1, he1, ha1, hp1, hj1, hlt⟩ := hq
        obtain ⟨ex2, a2, w2, hq2, harr2⟩ := ih (μ s1) (hn ▸ hlt) s1 M1 a1 w1 rfl ⟨hp1.le⟩ hj1 (hf1.has he1) (hs1.perm ha1)
        exact ⟨ex2, a2, w2, hq2, .of_steps (Steps.trans harr (.one step_inLoop)) harr2⟩
      | exit id => exact ⟨.exit id, a1, w1, hq, .pass (x := .inLoop c) rfl (fun _ _ => .inl (by simp)) harr⟩
      | goto l => exact hq.elim
      | ret => exact ⟨.ret, a1, w1, hq, .pass (x := .inLoop c) rfl (fun _ _ => .inl (by simp)) harr⟩
      | panic ch => exact hq.elim
      | outgrown => exact hq.elim
  obtain ⟨ex, a', w', hq, harr⟩ := key _ s0 M a w rfl ⟨fun _ _ h => h⟩ hj (hf.has he) (hs.perm ha)
  exact ⟨ex, a', w', hq, .of_steps (.one step_loop) harr⟩
end rules
attribute [irreducible] C L
end Go.Proofs.Ytdgdigliepncpaa
