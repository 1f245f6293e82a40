/-
  This text proves one rule for each operation that makes or writes memory, for calls, and for the entry into a function, over whatever program.
  Conditions: none; nothing here names the program.
-/
import Derived.Test.YtdgdigliepncpaaOps
namespace Go.Proofs.Ytdgdigliepncpaa
open Go
attribute [local semireducible] C L Qt BinRun

/-- A value of one cell. -/
class One1 (v : Value) : Prop where
  eq : v.oneCell' = true
class Ones (cl : List Value) : Prop where
  eq : ∀ v ∈ cl, v.oneCell' = true
instance {k : IntKind} {n : Int} : One1 (.int k n) := ⟨rfl⟩
instance {b : Bool} : One1 (.bool b) := ⟨rfl⟩
instance {s : ByteArray} : One1 (.string s) := ⟨rfl⟩
instance {p : Option Addr} : One1 (.pointer p) := ⟨rfl⟩
instance {p : Option Addr} {n c : Nat} : One1 (.slice p n c) := ⟨rfl⟩
instance {p : Option Nat} : One1 (.map p) := ⟨rfl⟩
instance {f : Go.Fn} {a b : Array Value} : One1 (.func f a b) := ⟨rfl⟩
instance : One1 .nilFunc := ⟨rfl⟩
instance : One1 .nilIface := ⟨rfl⟩
instance {t : TypeId} {v : Value} : One1 (.iface t v) := ⟨rfl⟩
instance : Ones [] := ⟨fun _ h => by cases h⟩
instance {v : Value} {cl : List Value} [a : One1 v] [b : Ones cl] : Ones (v :: cl) := ⟨fun u hu => by
  rcases List.mem_cons.1 hu with h | h
  · rw [h]; exact a.eq
  · exact b.eq u h⟩
instance {a b : List Value} [x : Ones a] [y : Ones b] : Ones (a ++ b) := ⟨fun u hu => by
  rcases List.mem_append.1 hu with h | h
  · exact x.eq u h
  · exact y.eq u h⟩

/-- The cells of a value. -/
class Cells (v : Value) (cl : outParam (List Value)) : Prop where
  eq : v.cells = cl.toArray
instance Cells.agg {cl : List Value} : Cells (aggv cl) cl := ⟨rfl⟩
theorem cells_one {v : Value} (h : v.oneCell' = true) : v.cells = [v].toArray := by
  cases v <;> first | rfl | cases h
instance {k : IntKind} {n : Int} : Cells (.int k n) [.int k n] := ⟨rfl⟩
instance {b : Bool} : Cells (.bool b) [.bool b] := ⟨rfl⟩
instance {s : ByteArray} : Cells (.string s) [.string s] := ⟨rfl⟩
instance {p : Option Addr} : Cells (.pointer p) [.pointer p] := ⟨rfl⟩
instance {p : Option Addr} {n c : Nat} : Cells (.slice p n c) [.slice p n c] := ⟨rfl⟩
instance {p : Option Nat} : Cells (.map p) [.map p] := ⟨rfl⟩
instance {f : Go.Fn} {a b : Array Value} : Cells (.func f a b) [.func f a b] := ⟨rfl⟩
instance : Cells .nilFunc [.nilFunc] := ⟨rfl⟩
instance : Cells .nilIface [.nilIface] := ⟨rfl⟩
instance {t : TypeId} {v : Value} : Cells (.iface t v) [.iface t v] := ⟨rfl⟩

theorem Done.setRow {M0 M : Mem} {H0 H : Hp} {w0 w : World} {b : Nat} {cl cl' : List Value} {T : TypeId} (h : Done M0 H0 w0 M ((b, row cl T) :: H) w) :
    Done M0 H0 w0 M ((b, row cl' T) :: H) (w.setRow b cl'.toArray) := by
  have hb := h.own b _ (List.mem_cons_self ..)
  exact h.write (setRow_heap w b _ _ T _ hb) (by simp) (fun k hk => setRow_other w b k _ hk) rfl rfl rfl

theorem run_storeRow {P : Program} {w : World} {b o n : Nat} {cl new out : List Value} {t T : TypeId} {v : Value} (hb : w.heap[b]? = some (row cl T)) [hc : Cells v new] [h1 : Ones new] (hs : (P.info? t).map (·.size) = some n) (hl : new.length = n) [hp : Put cl o new out] :
    (storeVar t ⟨b, o, none⟩ v).run P w = .ok () (w.setRow b out.toArray) := by
  obtain ⟨i, hi, hsz⟩ := info_of_size hs
  have hst := run_storeCells_at P b o T new 0 cl.toArray w hb (by have := hp.le; simp; omega) h1.eq
  have he := hp.eq
  simp only [Nat.add_zero] at hst
  rw [he] at hst
  simp only [storeVar, Sem.run_bind, sizeOf, typeInfo, run_program, hi, Result.andThen_ok, Sem.run_pure, hc.eq, hsz]
  rw [if_neg (by simp [hl])]
  simpa using hst

section
variable {P : Program} {N : Nat} {X : Cx} {Q : Post} {K : Kont} {e : Env} {M : Mem} {A : Segs} {ops : Array Oper} {rest : List Oper}
variable {d : Nat} {ty : TypeId} {pos : String} {aft : Array Edge} {g : Option (Nat × Bool)}

theorem L.store {t T : TypeId} {x y : Operand} {v : Value} {b o n : Nat} {cl new out : List Value} {A' : Segs} (hx : e.ev x = some (ptr b o)) (hy : e.ev y = some v) [hb : TakeB A b (row cl T) A'] [hc : Cells v new] [h1 : Ones new] [hz : Siz P t n] [hl : Len new n] [hp : Put cl o new out]
    (hg : e.want ops g = some true) (h : L P N X ops rest K e M ([(b, row out T)] :: A')) : L P N X ops (⟨none, .store t x y, ty, pos, aft, g⟩ :: rest) K e M A :=
  L.effect hg rfl fun a w hf hs => by
    have hs' := hs.perm hb.perm
    exact ⟨w.setRow b out.toArray, M, [(b, row out T)] :: A', run_u (by
      show (Instr.storeAt t (a.eval x) (a.eval y)).run P w = _
      rw [hf.ev hx, hf.ev hy]
      simp only [Instr.storeAt, Instr.sureAddr, Sem.run_bind, Sem.run_pure, Result.andThen_ok]
      exact run_storeRow (hs'.own _ _ (List.mem_cons_self ..)) hz.eq hl.eq), hs'.setRow, h⟩
/-- The whole of a block. -/
theorem L.storeAll {t T : TypeId} {x y : Operand} {v : Value} {b n : Nat} {cl new : List Value} {A' : Segs} (hx : e.ev x = some (ptr b 0)) (hy : e.ev y = some v) [hb : TakeB A b (row cl T) A'] [hc : Cells v new] [h1 : Ones new] [hz : Siz P t n] [hl : Len new n] [hl2 : Len cl n]
    (hg : e.want ops g = some true) (h : L P N X ops rest K e M ([(b, row new T)] :: A')) : L P N X ops (⟨none, .store t x y, ty, pos, aft, g⟩ :: rest) K e M A :=
  have : Put cl 0 new new := ⟨by simp [hl.eq, ← hl2.eq], by simp [hl.eq, hl2.eq]⟩
  L.store hx hy hg h

theorem run_newVar {P : Program} {w : World} {t : TypeId} {v : Value} : (newVar t v).run P w = .ok ⟨w.heap.size, 0, none⟩ (w.alloc (.cells v.cells t)) := by
  simp [newVar, newRow]

theorem L.box {t : TypeId} {x : Operand} {v : Value} {cl : List Value} (hx : e.ev x = some v) [hc : Cells v cl] (hg : e.want ops g = some true) (hn : Nat.blt d N = true)
    (h : ∀ b, L P N X ops rest K ((d, ptr b 0) :: e) M ([(b, row cl t)] :: A)) : L P N X ops (⟨some d, .box t x, ty, pos, aft, g⟩ :: rest) K e M A :=
  L.step hg rfl hn fun a w hf hs => ⟨_, _, M, _, run_v (by
    show (Instr.box t (a.eval x)).run P w = _
    rw [hf.ev hx]
    simp only [Instr.box, Sem.run_bind, run_newVar, Result.andThen_ok, Sem.run_pure]; rfl), by
      have := hs.alloc (.cells v.cells t)
      rw [hc.eq] at this ⊢
      exact this, h w.heap.size⟩
theorem freeze_alloc {w1 : World} {b : Nat} {ob : Obj} (hs : Done X.M0 X.H0 X.w0 M ((b, ob) :: A.flatten) w1) :
    ∃ M', Prev M' M ∧ At M' b ob ∧ St X M' A w1 := by
  refine ⟨fun k => if k = b then some ob else M k, ⟨fun k x hk => ?_⟩, ⟨by simp⟩, hs.freeze⟩
  split
  · rename_i e; subst e; have := hs.dis k ob (List.mem_cons_self ..); rw [this] at hk; cases hk
  · exact hk
/-- A box that stays as it is. -/
theorem L.boxM {t : TypeId} {x : Operand} {v : Value} {cl : List Value} (hx : e.ev x = some v) [hc : Cells v cl] (hg : e.want ops g = some true) (hn : Nat.blt d N = true)
    (h : ∀ b M', Prev M' M → At M' b (row cl t) → L P N X ops rest K ((d, ptr b 0) :: e) M' A) : L P N X ops (⟨some d, .box t x, ty, pos, aft, g⟩ :: rest) K e M A :=
  L.step hg rfl hn fun a w hf hs => by
    have hal := hs.alloc (.cells v.cells t)
    rw [hc.eq] at hal
    obtain ⟨M', hp, hM, hst⟩ := freeze_alloc (X := X) (A := A) hal
    exact ⟨_, _, M', _, run_v (by
      show (Instr.box t (a.eval x)).run P w = _
      rw [hf.ev hx]
      simp only [Instr.box, Sem.run_bind, run_newVar, Result.andThen_ok, Sem.run_pure, hc.eq]), hst, h _ M' hp hM⟩
theorem L.alloc {t : TypeId} {z : List Value} [hz : Zer P t z] (hg : e.want ops g = some true) (hn : Nat.blt d N = true)
    (h : ∀ b, L P N X ops rest K ((d, ptr b 0) :: e) M ([(b, row z t)] :: A)) : L P N X ops (⟨some d, .alloc t, ty, pos, aft, g⟩ :: rest) K e M A :=
  L.step hg rfl hn fun a w hf hs => by
    obtain ⟨v, hv, hvz⟩ := hz.eq
    have hi : ∃ i, P.info? t = some i ∧ i.zero = some v := by
      cases hi : P.info? t with
      | none => rw [hi] at hv; cases hv
      | some i => rw [hi] at hv; exact ⟨i, rfl, hv⟩
    obtain ⟨i, hi, hiz⟩ := hi
    have hc : v.cells = z.toArray := by rw [← hvz]
    refine ⟨_, _, M, _, run_v (v := ptr w.heap.size 0) (w' := w.alloc (.cells v.cells t)) ?_, ?_, h w.heap.size⟩
    · show (Instr.alloc t true (.tuple #[])).run P w = _
      simp [Instr.alloc, zeroValue, typeInfo, hi, hiz, run_newVar]
    · have := hs.alloc (.cells v.cells t)
      rw [hc] at this ⊢
      exact this

/-! ### Slices -/

theorem Qt.len {t el : TypeId} {x : Operand} {p : Option Addr} {n c : Nat} [hu : Und P t (.slice el)] (hx : e.ev x = some (.slice p n c)) : Qt P N e M A ⟨some d, .call { callee := .builtin .len, args := #[x], argTypes := #[t] }, ty, pos, aft, g⟩ (int64 n) := fun a w hf _ _ => by
    have := hf.ev hx
    simp [execOp, resolve, invoke, builtin, Builtin.len_, this, run_underlying hu.eq, goInt]
theorem Qt.max {x y : Operand} {k : IntKind} {a b r : Int} {t1 t2 : TypeId} (hx : e.ev x = some (.int k a)) (hy : e.ev y = some (.int k b)) (hr : (if b > a then b else a) = r) : Qt P N e M A ⟨some d, .call { callee := .builtin .max, args := #[x, y], argTypes := #[t1, t2] }, ty, pos, aft, g⟩ (.int k r) := fun a w hf _ _ => by
    have h1 := hf.ev hx
    have h2 := hf.ev hy
    simp [execOp, resolve, invoke, builtin, Builtin.max_, Builtin.max2, h1, h2, hr]
theorem Qt.min {x y : Operand} {k : IntKind} {a b r : Int} {t1 t2 : TypeId} (hx : e.ev x = some (.int k a)) (hy : e.ev y = some (.int k b)) (hr : (if b < a then b else a) = r) : Qt P N e M A ⟨some d, .call { callee := .builtin .min, args := #[x, y], argTypes := #[t1, t2] }, ty, pos, aft, g⟩ (.int k r) := fun a w hf _ _ => by
    have h1 := hf.ev hx
    have h2 := hf.ev hy
    simp [execOp, resolve, invoke, builtin, Builtin.min_, Builtin.min2, h1, h2, hr]
theorem Qt.indexAddr {t el : TypeId} {x y : Operand} {b o n c sz o' : Nat} {k : IntKind} {i : Int} [hu : Und P t (.slice el)] [hz : Siz P el sz] (hx : e.ev x = some (.slice (some ⟨b, o, none⟩) n c)) (hy : e.ev y = some (.int k i)) (hi : 0 ≤ i ∧ i < n) (ho : o' = o + i.toNat * sz) : Qt P N e M A ⟨some d, .indexAddr t x y, ty, pos, aft, g⟩ (ptr b o') := fun a w hf _ _ => run_v (by
    show (Instr.indexAt t (a.eval x) (a.eval y)).run P w = _
    obtain ⟨ii, hii, hsz⟩ := info_of_size hz.eq
    rw [hf.ev hx, hf.ev hy]
    subst ho
    simp [Instr.indexAt, asIntOf, run_underlying hu.eq, hi, sizeOf, typeInfo, hii, hsz, add_none])
theorem Qt.indexArr {t el : TypeId} {x y : Operand} {b o n sz o' : Nat} {k : IntKind} {i : Int} [hu : Und P t (.array n el)] [hz : Siz P el sz] (hx : e.ev x = some (ptr b o)) (hy : e.ev y = some (.int k i)) (hi : 0 ≤ i ∧ i < n) (ho : o' = o + i.toNat * sz) : Qt P N e M A ⟨some d, .indexAddr t x y, ty, pos, aft, g⟩ (ptr b o') := fun a w hf _ _ => run_v (by
    show (Instr.indexAt t (a.eval x) (a.eval y)).run P w = _
    obtain ⟨ii, hii, hsz⟩ := info_of_size hz.eq
    rw [hf.ev hx, hf.ev hy]
    subst ho
    simp [Instr.indexAt, asIntOf, run_underlying hu.eq, hi, Instr.sureAddr, sizeOf, typeInfo, hii, hsz, add_none])
end

/-! ## Functions -/

/-- WHAT A CALL DOES: handed memory M and rows H of its own, it returns v, and leaves M' and H'. -/
def Fn (P : Program) (f : FuncId) (args : List Value) (M : Mem) (H : Hp) (R : Value → Mem → Hp → Prop) : Prop :=
  ∀ w, Ok M H w → Calls P f args.toArray w fun ex w' => ∃ v M' H', ex = .returned v ∧ R v M' H' ∧ Done M H w M' H' w'
/-- The same, without rows. -/
def Fn0 (P : Program) (f : FuncId) (args : List Value) (M : Mem) (R : Value → Mem → Prop) : Prop :=
  Fn P f args M [] fun v M' H' => H' = [] ∧ R v M'
/-- A call that makes nothing that lasts, and answers v. -/
def Fnv (P : Program) (f : FuncId) (args : List Value) (M : Mem) (v : Value) : Prop := Fn0 P f args M fun u _ => u = v

theorem Fn.mono {P : Program} {f : FuncId} {args : List Value} {M : Mem} {H : Hp} {R R' : Value → Mem → Hp → Prop} (h : Fn P f args M H R) (hr : ∀ v M' H', R v M' H' → R' v M' H') : Fn P f args M H R' :=
  fun w hw => (h w hw).mono fun _ _ ⟨v, M', H', he, hR, hd⟩ => ⟨v, M', H', he, hr _ _ _ hR, hd⟩

def initEnv (args : List Value) : Env := (args.zipIdx).map fun p => (p.2, p.1)
def resEv (e : Env) : List ResultVar → Option (List Value)
  | [] => some []
  | .tmp t :: rs => match e.get t, resEv e rs with
    | some v, some vs => some (v :: vs)
    | _, _ => none
  | .cell _ _ :: _ => none
def resVal : List Value → Value
  | [v] => v
  | vs => .tuple vs.toArray

theorem get_map_zipIdx (args : List Value) : ∀ (k : Nat) (t : Nat) (v : Value), Env.get ((args.zipIdx k).map fun p => (p.2, p.1)) t = some v → k ≤ t ∧ args[t - k]? = some v := by
  induction args with
  | nil => intro k t v h; simp [Env.get] at h
  | cons x xs ih =>
    intro k t v h
    simp only [List.zipIdx_cons, List.map_cons, Env.get] at h
    cases hb : Nat.beq k t with
    | true =>
      have : k = t := Nat.eq_of_beq_eq_true hb
      subst this
      simp only [hb, cond_true, Option.some.injEq] at h
      simp [h]
    | false =>
      simp only [hb, cond_false] at h
      obtain ⟨h1, h2⟩ := ih (k + 1) t v h
      refine ⟨by omega, ?_⟩
      rw [show t - k = (t - (k + 1)) + 1 from by omega]
      simpa using h2

theorem Fr.init {n : Nat} (args : List Value) (h : args.length ≤ n) : Fr n (initEnv args) { tmps := args.toArray ++ Array.replicate (n - args.length) undef, defers := [] } := by
  refine ⟨by simp; omega, rfl, fun t v ht => ?_⟩
  obtain ⟨_, h2⟩ := get_map_zipIdx args 0 t v ht
  simp only [Nat.sub_zero] at h2
  have hlt : t < args.length := (List.getElem?_eq_some_iff.1 h2).1
  rw [Array.getElem?_append_left (by simpa using hlt)]
  simpa using h2

/-- What is handed back, out of slots and boxes. -/
def Hands (P : Program) (N : Nat) (X : Cx) (fn : Func) (R : Value → Mem → Hp → Prop) : Kont := fun e M A =>
  ∃ v, (∀ a w, Fr N e a → St X M A w → (results fn a.tmps).run P w = .ok v w) ∧ ∃ J H, A.flatten.Perm (J ++ H) ∧ R v M H

theorem Fn.enter {P : Program} {f : FuncId} {fn : Func} {c : Code} {args : List Value} {M : Mem} {H : Hp} {R : Value → Mem → Hp → Prop} {N : Nat} {e0 : Env} (hf : P.funcs[f]? = some fn) (hn : fn.ntmps = N) (hb : fn.body = some c) (hl : Nat.ble args.length N = true) (he : initEnv args = e0)
    (h : ∀ w0, Ok M H w0 → C P N ⟨M, H, w0⟩ c ⟨Hands P N ⟨M, H, w0⟩ fn R, Hands P N ⟨M, H, w0⟩ fn R, fun _ _ _ _ => False⟩ e0 M [H]) : Fn P f args M H R := fun w hw => by
  subst hn; subst he
  refine calls_of_wp hf hb ?_
  have hl' : args.length ≤ fn.ntmps := Nat.le_of_ble_eq_true hl
  have hfr := Fr.init (n := fn.ntmps) args hl'
  have := h w hw _ w (by simpa using hfr) (by show Done _ _ _ _ [H].flatten _; rw [show [H].flatten = H from by simp]; exact Done.start hw)
  refine wp_mono this fun ex a' w' hq => ?_
  cases ex with
  | normal =>
    obtain ⟨e', M', A', hf', hs', v, hv, J, H', hp, hR⟩ := hq
    exact ⟨hf'.df, v, hv a' w' hf' hs', v, M', H', rfl, hR, (hs'.perm hp).drop⟩
  | ret =>
    obtain ⟨e', M', A', hf', hs', v, hv, J, H', hp, hR⟩ := hq
    exact ⟨hf'.df, v, hv a' w' hf' hs', v, M', H', rfl, hR, (hs'.perm hp).drop⟩
  | exit i => obtain ⟨_, _, _, _, _, hfalse⟩ := hq; exact hfalse.elim
  | goto l => exact hq.elim
  | panic c => exact hq.elim
  | outgrown => exact hq.elim

section
variable {P : Program} {N : Nat} {X : Cx} {Q : Post} {K : Kont} {e : Env} {M : Mem} {A : Segs} {ops : Array Oper} {rest : List Oper}
variable {d : Nat} {ty : TypeId} {pos : String} {aft : Array Edge} {g : Option (Nat × Bool)}

theorem run_callFunc {P : Program} {f : FuncId} {args : Array Value} {w : World} [hc : Callable P f] : (callFunc f args).run P w = .ok (.enter f args) w := by
  obtain ⟨fn, c, hf, hb, hnm⟩ := hc.eq
  have hnm' : ¬ fn.name = "runtime.NumGoroutine" := by simpa using hnm
  simp [callFunc, hf, hb, hnm']

/-- A CALL of a function that is named, by its contract. -/
theorem L.call {f : FuncId} {xs : List Operand} {vs : List Value} {ts : Array TypeId} {H : Hp} {A' : Segs} {R : Value → Mem → Hp → Prop} (hx : e.evs xs = some vs) [hc : Callable P f] (hfn : Fn P f vs M H R) [ht : Take A H A'] (hg : e.want ops g = some true) (hn : Nat.blt d N = true)
    (h : ∀ v M' H', Prev M' M → R v M' H' → L P N X ops rest K ((d, v) :: e) M' (H' :: A')) : L P N X ops (⟨some d, .call { callee := .value (.func f), args := xs.toArray, argTypes := ts }, ty, pos, aft, g⟩ :: rest) K e M A := fun a w hf hs => by
  have hs' := hs.perm ht.perm
  have hok : Ok M H w := by
    have := hs'.toOk
    refine ⟨?_, fun b o hm => this.own b o (List.mem_append_left _ hm), this.mem, fun b o hm => this.dis b o (List.mem_append_left _ hm)⟩
    have hnd := this.nd
    simp only [keys, List.map_append, List.nodup_append] at hnd
    exact hnd.1
  have hcall := hfn w hok
  unfold wpList
  rw [if_pos (want_wanted hf hg)]
  refine .inl ?_
  have hrun : (execOp a.eval ⟨some d, .call { callee := .value (.func f), args := xs.toArray, argTypes := ts }, ty, pos, aft, g⟩).run P w = .ok (.enter f vs.toArray) w := by
    have := hf.evs hx
    simp [execOp, resolve, invoke, Act.eval, Deferred.ofValue, run_callFunc, this]
  unfold Oper.wp
  rw [hrun]
  simp only [Oper.upon]
  refine hcall.mono fun ex w' ⟨v, M', H', he, hR, hd⟩ => ?_
  subst he
  have hdone := hs'.call hd
  exact h v M' H' ⟨hd.sub⟩ hR _ _ (hf.put d v hn) hdone
theorem L.call0 {f : FuncId} {xs : List Operand} {vs : List Value} {ts : Array TypeId} {R : Value → Mem → Prop} (hx : e.evs xs = some vs) [hc : Callable P f] (hfn : Fn0 P f vs M R) (hg : e.want ops g = some true) (hn : Nat.blt d N = true)
    (h : ∀ v M', Prev M' M → R v M' → L P N X ops rest K ((d, v) :: e) M' A) : L P N X ops (⟨some d, .call { callee := .value (.func f), args := xs.toArray, argTypes := ts }, ty, pos, aft, g⟩ :: rest) K e M A :=
  L.call (H := []) (A' := A) hx hfn hg hn fun v M' H' hp ⟨hH, hR⟩ => by
    subst hH
    exact L.perm A (by simp) (h v M' hp hR)
theorem L.callv {f : FuncId} {xs : List Operand} {vs : List Value} {ts : Array TypeId} {v : Value} (hx : e.evs xs = some vs) [hc : Callable P f] (hfn : Fnv P f vs M v) (hg : e.want ops g = some true) (hn : Nat.blt d N = true)
    (h : ∀ M', Prev M' M → L P N X ops rest K ((d, v) :: e) M' A) : L P N X ops (⟨some d, .call { callee := .value (.func f), args := xs.toArray, argTypes := ts }, ty, pos, aft, g⟩ :: rest) K e M A :=
  L.call0 hx hfn hg hn fun u M' hp hu => by subst hu; exact h M' hp
end
attribute [irreducible] Fn Fn0 Hands
end Go.Proofs.Ytdgdigliepncpaa
