/-
  This text proves one rule for each kind of operation, over whatever program.
  Conditions: none; nothing here names the program.
-/
import Derived.Test.YtdgdigliepncpaaTy
namespace Go.Proofs.Ytdgdigliepncpaa
open Go
attribute [local semireducible] C L Qt

theorem run_v {P : Program} {s : Sem Value} {v : Value} {w w' : World} (h : s.run P w = .ok v w') : (do pure (Next.value (← s)) : Sem Next).run P w = .ok (.value v) w' := by
  simp only [Sem.run_bind, h, Result.andThen_ok, Sem.run_pure]
theorem run_u {P : Program} {s : Sem Unit} {w w' : World} (h : s.run P w = .ok () w') : (do s; pure Next.skip : Sem Next).run P w = .ok .skip w' := by
  simp only [Sem.run_bind, h, Result.andThen_ok, Sem.run_pure]

section
variable {P : Program} {N : Nat} {X : Cx} {Q : Post} {K : Kont} {e : Env} {M : Mem} {A : Segs} {ops : Array Oper} {rest : List Oper}
variable {d : Nat} {ty : TypeId} {pos : String} {aft : Array Edge} {g : Option (Nat × Bool)}

theorem Qt.move {x : Operand} {v : Value} (hx : e.ev x = some v) : Qt P N e M A ⟨some d, .move x, ty, pos, aft, g⟩ (v) := fun a w hf _ _ => by show Result.ok (Next.value (a.eval x)) w = _; rw [hf.ev hx]
theorem Qt.assign {x : Operand} {v : Value} (hx : e.ev x = some v) : Qt P N e M A ⟨some d, .assign x, ty, pos, aft, g⟩ (v) := fun a w hf _ _ => by show Result.ok (Next.value (a.eval x)) w = _; rw [hf.ev hx]
theorem Qt.pick {c x y : Operand} {t : Bool} {v v1 v2 : Value} (hc : e.ev c = some (.bool t)) (hx : e.ev x = some v1) (hy : e.ev y = some v2) (hv : (bif t then v1 else v2) = v) : Qt P N e M A ⟨some d, .pick c x y, ty, pos, aft, g⟩ (v) := fun a w hf _ _ => by
    show (do Pure.pure (Next.value (if ← asBool (a.eval c) then a.eval x else a.eval y)) : Sem Next).run P w = _
    rw [hf.ev hc, hf.ev hx, hf.ev hy, ← hv]; cases t <;> rfl
theorem Qt.pickT {c x y : Operand} {v : Value} (hc : e.ev c = some (.bool true)) (hx : e.ev x = some v) : Qt P N e M A ⟨some d, .pick c x y, ty, pos, aft, g⟩ v := fun a w hf _ _ => by
  show (do Pure.pure (Next.value (if ← asBool (a.eval c) then a.eval x else a.eval y)) : Sem Next).run P w = _
  rw [hf.ev hc, hf.ev hx]; rfl
theorem Qt.pickF {c x y : Operand} {v : Value} (hc : e.ev c = some (.bool false)) (hy : e.ev y = some v) : Qt P N e M A ⟨some d, .pick c x y, ty, pos, aft, g⟩ v := fun a w hf _ _ => by
  show (do Pure.pure (Next.value (if ← asBool (a.eval c) then a.eval x else a.eval y)) : Sem Next).run P w = _
  rw [hf.ev hc, hf.ev hy]; rfl
theorem Qt.extract {x : Operand} {vs : List Value} {i : Nat} {v : Value} (hx : e.ev x = some (.tuple vs.toArray)) (hv : vs[i]? = some v) : Qt P N e M A ⟨some d, .extract x i, ty, pos, aft, g⟩ (v) := fun a w hf _ _ => run_v (by
    show (Instr.extract (a.eval x) i).run P w = _
    rw [hf.ev hx]; simp [Instr.extract, hv])
theorem Qt.nilCheck {x : Operand} {ad : Addr} (hx : e.ev x = some (.pointer (some ad))) : Qt P N e M A ⟨some d, .nilCheck x, ty, pos, aft, g⟩ (.pointer (some ad)) := fun a w hf _ _ => by
    have := hf.ev hx
    simp only [execOp, this, Sem.run_pure]
theorem Qt.fieldAddr {s f b o off o' : Nat} {x : Operand} [hF : Fld P s f off] (hx : e.ev x = some (ptr b o)) (ho : o' = o + off)  : Qt P N e M A ⟨some d, .fieldAddr s x f, ty, pos, aft, g⟩ (ptr b o') := fun a w hf _ _ => run_v (by
    show (Instr.fieldAt s (a.eval x) f).run P w = _
    obtain ⟨fs, fd, hu, hfd, hoff, hsz⟩ := hF.eq
    rw [hf.ev hx]
    cases hi : P.info? fd.type with
    | none => rw [hi] at hsz; cases hsz
    | some i =>
      rw [hi] at hsz
      have hne : i.size ≠ 0 := by simpa using hsz
      subst ho
      simp [Instr.fieldAt, run_underlying hu, hfd, Instr.sureAddr, fieldPlace, sizeOf, typeInfo, hi, hne, hoff, add_none])

/-! ### Arithmetic and tests -/

def BinRun (P : Program) (op : BinOp) (xt : TypeId) (x y : Operand) (vx vy v : Value) : Prop :=
  ∀ w, (do eqGuard op xt x y vx vy; binOp op xt vx vy : Sem Value).run P w = .ok v w
theorem Qt.bin {op : BinOp} {xt yt : TypeId} {x y : Operand} {vx vy v : Value} (hx : e.ev x = some vx) (hy : e.ev y = some vy) (hr : BinRun P op xt x y vx vy v) : Qt P N e M A ⟨some d, .binOp op xt x y yt, ty, pos, aft, g⟩ (v) := fun a w hf _ _ => run_v (by
    show (do eqGuard op xt x y (a.eval x) (a.eval y); binOp op xt (a.eval x) (a.eval y) : Sem Value).run P w = _
    rw [hf.ev hx, hf.ev hy]; exact hr w)
end

section
variable {P : Program} {xt : TypeId} {x y : Operand} {k : IntKind} {a b r : Int}
theorem BinRun.lss : BinRun P .lss xt x y (.int k a) (.int k b) (.bool (decide (a < b))) := fun w => by simp [eqGuard, binOp, Op.intCmp]
theorem BinRun.leq : BinRun P .leq xt x y (.int k a) (.int k b) (.bool (decide (a ≤ b))) := fun w => by simp [eqGuard, binOp, Op.intCmp]
theorem BinRun.gtr : BinRun P .gtr xt x y (.int k a) (.int k b) (.bool (decide (b < a))) := fun w => by simp [eqGuard, binOp, Op.intCmp]
theorem BinRun.geq : BinRun P .geq xt x y (.int k a) (.int k b) (.bool (decide (b ≤ a))) := fun w => by simp [eqGuard, binOp, Op.intCmp]
theorem BinRun.eql : BinRun P .eql xt x y (.int k a) (.int k b) (.bool (decide (a = b))) := fun w => by
  simp [eqGuard, binOp, Op.intCmp, BEq.beq]
theorem BinRun.neq : BinRun P .neq xt x y (.int k a) (.int k b) (.bool (decide (a ≠ b))) := fun w => by
  simp [eqGuard, binOp, Op.intCmp, bne, BEq.beq]
theorem BinRun.add (h : k.wrap (a + b) = r) : BinRun P .add xt x y (.int k a) (.int k b) (.int k r) := fun w => by simp [eqGuard, binOp, Op.intArith, h]
theorem BinRun.sub (h : k.wrap (a - b) = r) : BinRun P .sub xt x y (.int k a) (.int k b) (.int k r) := fun w => by simp [eqGuard, binOp, Op.intArith, h]
theorem BinRun.mul (h : k.wrap (a * b) = r) : BinRun P .mul xt x y (.int k a) (.int k b) (.int k r) := fun w => by simp [eqGuard, binOp, Op.intArith, h]
theorem BinRun.and (hr : k.wrap (BitVec.ofInt k.bits a &&& BitVec.ofInt k.bits b).toNat = r) : BinRun P .and xt x y (.int k a) (.int k b) (.int k r) := fun w => by simp [eqGuard, binOp, Op.intBits, ← hr]
theorem BinRun.or (hr : k.wrap (BitVec.ofInt k.bits a ||| BitVec.ofInt k.bits b).toNat = r) : BinRun P .or xt x y (.int k a) (.int k b) (.int k r) := fun w => by simp [eqGuard, binOp, Op.intBits, ← hr]
theorem BinRun.xor (hr : k.wrap (BitVec.ofInt k.bits a ^^^ BitVec.ofInt k.bits b).toNat = r) : BinRun P .xor xt x y (.int k a) (.int k b) (.int k r) := fun w => by simp [eqGuard, binOp, Op.intBits, ← hr]
theorem BinRun.shr {k2 : IntKind} (h : 0 ≤ b) (hr : a.fdiv (2 ^ min b.toNat k.bits) = r) : BinRun P .shr xt x y (.int k a) (.int k2 b) (.int k r) := fun w => by
  simp [eqGuard, binOp, Op.shift, Int.not_lt.2 h, hr]
theorem BinRun.shl {k2 : IntKind} (h : 0 ≤ b) (hr : k.wrap (a * 2 ^ min b.toNat k.bits) = r) : BinRun P .shl xt x y (.int k a) (.int k2 b) (.int k r) := fun w => by
  simp [eqGuard, binOp, Op.shift, Int.not_lt.2 h, hr]
theorem BinRun.quo (h : b ≠ 0) (hr : k.wrap (a.tdiv b) = r) : BinRun P .quo xt x y (.int k a) (.int k b) (.int k r) := fun w => by
  simp [eqGuard, binOp, Op.intDiv, h, hr]
theorem BinRun.rem (h : b ≠ 0) (hr : a.tmod b = r) : BinRun P .rem xt x y (.int k a) (.int k b) (.int k r) := fun w => by
  simp [eqGuard, binOp, Op.intDiv, h, hr]
theorem BinRun.beq [hu : Und P xt .bool] {s t : Bool} : BinRun P .eql xt x y (.bool s) (.bool t) (.bool (s == t)) := fun w => by
  simp [eqGuard, binOp, run_equal_bool w xt s t hu.eq]
theorem equal_of {t : TypeId} {u v : Value} {r : Bool} {w : World} (h : ∀ dp, (Op.equalIn (dp + 1) t u v).run P w = .ok r w) : (Op.equal t u v).run P w = .ok r w := h 9999
theorem BinRun.ofEq {u v : Value} {r : Bool} (hg : eqGuard .eql xt x y u v = pure ()) (hb : binOp .eql xt u v = (do pure (.bool (← Op.equal xt u v)))) (h : ∀ dp w, (Op.equalIn (dp + 1) xt u v).run P w = .ok r w) : BinRun P .eql xt x y u v (.bool r) := fun w => by
  rw [hg, hb]
  simp only [Sem.run_bind, Sem.run_pure, Result.andThen_ok, equal_of fun dp => h dp w]
theorem BinRun.ofNe {u v : Value} {r : Bool} (hg : eqGuard .neq xt x y u v = pure ()) (hb : binOp .neq xt u v = (do pure (.bool (!(← Op.equal xt u v))))) (h : ∀ dp w, (Op.equalIn (dp + 1) xt u v).run P w = .ok r w) : BinRun P .neq xt x y u v (.bool (!r)) := fun w => by
  rw [hg, hb]
  simp only [Sem.run_bind, Sem.run_pure, Result.andThen_ok, equal_of fun dp => h dp w]
theorem BinRun.bne [hu : Und P xt .bool] {s t : Bool} : BinRun P .neq xt x y (.bool s) (.bool t) (.bool (!(s == t))) :=
  BinRun.ofNe rfl rfl fun dp w => run_equalIn_bool w dp xt s t hu.eq
theorem equalIn_ptr {el t : TypeId} (hu : P.underlying t = some (.pointer el)) (dp : Nat) (p : Option Addr) (w : World) : (Op.equalIn (dp + 1) t (.pointer p) (.pointer none)).run P w = .ok p.isNone w := by
  cases p <;> simp [Op.equalIn, run_underlying hu]
theorem equalIn_map {kt et t : TypeId} (hu : P.underlying t = some (.map kt et)) (dp : Nat) (p : Option Nat) (w : World) : (Op.equalIn (dp + 1) t (.map p) (.map none)).run P w = .ok p.isNone w := by
  cases p <;> simp [Op.equalIn, run_underlying hu]
theorem BinRun.peq {el : TypeId} [hu : Und P xt (.pointer el)] {p : Option Addr} : BinRun P .eql xt x y (.pointer p) (.pointer none) (.bool p.isNone) :=
  BinRun.ofEq (by cases p <;> rfl) (by cases p <;> rfl) fun dp w => equalIn_ptr hu.eq dp p w
theorem BinRun.pne {el : TypeId} [hu : Und P xt (.pointer el)] {p : Option Addr} : BinRun P .neq xt x y (.pointer p) (.pointer none) (.bool (!p.isNone)) :=
  BinRun.ofNe (by cases p <;> rfl) (by cases p <;> rfl) fun dp w => equalIn_ptr hu.eq dp p w
theorem BinRun.peqF {el : TypeId} [hu : Und P xt (.pointer el)] {a : Addr} : BinRun P .eql xt x y (.pointer (some a)) (.pointer none) (.bool false) := BinRun.peq
theorem BinRun.pneF {el : TypeId} [hu : Und P xt (.pointer el)] {a : Addr} : BinRun P .neq xt x y (.pointer (some a)) (.pointer none) (.bool true) := BinRun.pne
theorem BinRun.peqT {el : TypeId} [hu : Und P xt (.pointer el)] : BinRun P .eql xt x y (.pointer none) (.pointer none) (.bool true) := BinRun.peq
theorem BinRun.pneT {el : TypeId} [hu : Und P xt (.pointer el)] : BinRun P .neq xt x y (.pointer none) (.pointer none) (.bool false) := BinRun.pne
theorem BinRun.meq {kt et : TypeId} [hu : Und P xt (.map kt et)] {p : Option Nat} : BinRun P .eql xt x y (.map p) (.map none) (.bool p.isNone) :=
  BinRun.ofEq (by cases p <;> rfl) (by cases p <;> rfl) fun dp w => equalIn_map hu.eq dp p w
theorem BinRun.mne {kt et : TypeId} [hu : Und P xt (.map kt et)] {p : Option Nat} : BinRun P .neq xt x y (.map p) (.map none) (.bool (!p.isNone)) :=
  BinRun.ofNe (by cases p <;> rfl) (by cases p <;> rfl) fun dp w => equalIn_map hu.eq dp p w
end

theorem wrap_succ {i : Nat} (h : i + 1 ≤ 9223372036854775807) : IntKind.i64.wrap ((i : Int) + 1) = ((i + 1 : Nat) : Int) := IntWalk.i64_in _ (by omega)
theorem wrap_in64 {n : Int} (h : -9223372036854775808 ≤ n ∧ n ≤ 9223372036854775807) : IntKind.i64.wrap n = n := IntWalk.i64_in n h

section
variable {P : Program} {N : Nat} {X : Cx} {Q : Post} {K : Kont} {e : Env} {M : Mem} {A : Segs} {ops : Array Oper} {rest : List Oper}
variable {d : Nat} {ty : TypeId} {pos : String} {aft : Array Edge} {g : Option (Nat × Bool)}

theorem Qt.not {xt : TypeId} {x : Operand} {t : Bool} (hx : e.ev x = some (.bool t)) : Qt P N e M A ⟨some d, .unOp .not xt x, ty, pos, aft, g⟩ (.bool (!t)) := fun a w hf _ _ => run_v (by show (Op.unary .not (a.eval x)).run P w = _; rw [hf.ev hx]; rfl)
theorem Qt.convInt {src dst : TypeId} {x : Operand} {k k2 : IntKind} {n r : Int} [hs : Und P src (.int k)] [hd : Und P dst (.int k2)] (hx : e.ev x = some (.int k n)) (hr : k2.wrap n = r) : Qt P N e M A ⟨some d, .convert src dst x, ty, pos, aft, g⟩ (.int k2 r) := fun a w hf _ _ => run_v (by
    show (convert src dst (a.eval x)).run P w = _
    rw [hf.ev hx]
    simp [convert, run_underlying hs.eq, run_underlying hd.eq, Conv.intToInt, hr])

/-! ### Memory -/

/-- A block of memory that stays. -/
theorem Qt.loadM {t : TypeId} {x : Operand} {b o n : Nat} {M1 : Mem} {cl c1 out : List Value} {T : TypeId} {fr : Nat × Nat} (hx : e.ev x = some (ptr b o)) [ha : IsAgg P t n] (hb : At M1 b (.cells cl.toArray T fr)) [hs : Sub M1 M] [hd : Drop cl o c1] [ht : Fst c1 n out] :
    Qt P N e M A ⟨some d, .load t x, ty, pos, aft, g⟩ (aggv out) := fun a w hf hm _ => run_v (by
    show (Instr.loadAt t (a.eval x)).run P w = _
    rw [hf.ev hx]
    simp only [Instr.loadAt, Instr.sureAddr, Sem.run_bind, Sem.run_pure, Result.andThen_ok]
    refine run_loadAgg (n := n) (hm _ _ (hs.le _ _ hb.eq)) ?_ ?_
    · rw [hd.eq]; exact ht.eq
    · have h1 := ht.le; have h2 := hd.le; rw [← hd.eq] at h1; simp at h1; omega)
theorem Qt.loadM1 {t : TypeId} {x : Operand} {b o : Nat} {M1 : Mem} {cl c1 : List Value} {v : Value} {T : TypeId} {fr : Nat × Nat} (hx : e.ev x = some (ptr b o)) [ha : IsOne P t] (hb : At M1 b (.cells cl.toArray T fr)) [hs : Sub M1 M] [hd : Drop cl o (v :: c1)] :
    Qt P N e M A ⟨some d, .load t x, ty, pos, aft, g⟩ v := fun a w hf hm _ => run_v (by
    show (Instr.loadAt t (a.eval x)).run P w = _
    rw [hf.ev hx]
    simp only [Instr.loadAt, Instr.sureAddr, Sem.run_bind, Sem.run_pure, Result.andThen_ok]
    refine run_loadOne (hm _ _ (hs.le _ _ hb.eq)) ?_
    have := hd.eq
    rw [← List.head?_drop, this]; rfl)
/-- The same where the value at a place is found by an equation. -/
theorem Qt.loadMi {t : TypeId} {x : Operand} {b o : Nat} {M1 : Mem} {cl : List Value} {v : Value} {T : TypeId} {fr : Nat × Nat} (hx : e.ev x = some (ptr b o)) [ha : IsOne P t] (hb : At M1 b (.cells cl.toArray T fr)) [hs : Sub M1 M] (hd : cl[o]? = some v) :
    Qt P N e M A ⟨some d, .load t x, ty, pos, aft, g⟩ v := fun a w hf hm _ => run_v (by
    show (Instr.loadAt t (a.eval x)).run P w = _
    rw [hf.ev hx]
    simp only [Instr.loadAt, Instr.sureAddr, Sem.run_bind, Sem.run_pure, Result.andThen_ok]
    exact run_loadOne (hm _ _ (hs.le _ _ hb.eq)) hd)
theorem Qt.loadMs {t : TypeId} {x : Operand} {b o n : Nat} {M1 : Mem} {cl out : List Value} {T : TypeId} {fr : Nat × Nat} (hx : e.ev x = some (ptr b o)) [ha : IsAgg P t n] (hb : At M1 b (.cells cl.toArray T fr)) [hs : Sub M1 M] (hd : (cl.drop o).take n = out) (hl : o + n ≤ cl.length) :
    Qt P N e M A ⟨some d, .load t x, ty, pos, aft, g⟩ (aggv out) := fun a w hf hm _ => run_v (by
    show (Instr.loadAt t (a.eval x)).run P w = _
    rw [hf.ev hx]
    simp only [Instr.loadAt, Instr.sureAddr, Sem.run_bind, Sem.run_pure, Result.andThen_ok]
    exact run_loadAgg (n := n) (hm _ _ (hs.le _ _ hb.eq)) hd hl)
/-- A block that is owned. -/
theorem Qt.loadA {t : TypeId} {x : Operand} {b o n : Nat} {cl c1 out : List Value} {T : TypeId} {fr : Nat × Nat} {A' : Segs} (hx : e.ev x = some (ptr b o)) [ha : IsAgg P t n] [hb : TakeB A b (.cells cl.toArray T fr) A'] [hd : Drop cl o c1] [ht : Fst c1 n out] :
    Qt P N e M A ⟨some d, .load t x, ty, pos, aft, g⟩ (aggv out) := fun a w hf _ hm => run_v (by
    show (Instr.loadAt t (a.eval x)).run P w = _
    rw [hf.ev hx]
    simp only [Instr.loadAt, Instr.sureAddr, Sem.run_bind, Sem.run_pure, Result.andThen_ok]
    refine run_loadAgg (n := n) (hm _ _ (hb.perm.mem_iff.2 (List.mem_cons_self ..))) ?_ ?_
    · rw [hd.eq]; exact ht.eq
    · have h1 := ht.le; have h2 := hd.le; rw [← hd.eq] at h1; simp at h1; omega)
theorem Qt.loadA1 {t : TypeId} {x : Operand} {b o : Nat} {cl c1 : List Value} {v : Value} {T : TypeId} {fr : Nat × Nat} {A' : Segs} (hx : e.ev x = some (ptr b o)) [ha : IsOne P t] [hb : TakeB A b (.cells cl.toArray T fr) A'] [hd : Drop cl o (v :: c1)] :
    Qt P N e M A ⟨some d, .load t x, ty, pos, aft, g⟩ v := fun a w hf _ hm => run_v (by
    show (Instr.loadAt t (a.eval x)).run P w = _
    rw [hf.ev hx]
    simp only [Instr.loadAt, Instr.sureAddr, Sem.run_bind, Sem.run_pure, Result.andThen_ok]
    refine run_loadOne (hm _ _ (hb.perm.mem_iff.2 (List.mem_cons_self ..))) ?_
    have := hd.eq
    rw [← List.head?_drop, this]; rfl)
theorem Qt.loadAi {t : TypeId} {x : Operand} {b o : Nat} {cl : List Value} {v : Value} {T : TypeId} {fr : Nat × Nat} {A' : Segs} (hx : e.ev x = some (ptr b o)) [ha : IsOne P t] [hb : TakeB A b (.cells cl.toArray T fr) A'] (hd : cl[o]? = some v) :
    Qt P N e M A ⟨some d, .load t x, ty, pos, aft, g⟩ v := fun a w hf _ hm => run_v (by
    show (Instr.loadAt t (a.eval x)).run P w = _
    rw [hf.ev hx]
    simp only [Instr.loadAt, Instr.sureAddr, Sem.run_bind, Sem.run_pure, Result.andThen_ok]
    exact run_loadOne (hm _ _ (hb.perm.mem_iff.2 (List.mem_cons_self ..))) hd)
theorem Qt.loadAs {t : TypeId} {x : Operand} {b o n : Nat} {cl out : List Value} {T : TypeId} {fr : Nat × Nat} {A' : Segs} (hx : e.ev x = some (ptr b o)) [ha : IsAgg P t n] [hb : TakeB A b (.cells cl.toArray T fr) A'] (hd : (cl.drop o).take n = out) (hl : o + n ≤ cl.length) :
    Qt P N e M A ⟨some d, .load t x, ty, pos, aft, g⟩ (aggv out) := fun a w hf _ hm => run_v (by
    show (Instr.loadAt t (a.eval x)).run P w = _
    rw [hf.ev hx]
    simp only [Instr.loadAt, Instr.sureAddr, Sem.run_bind, Sem.run_pure, Result.andThen_ok]
    exact run_loadAgg (n := n) (hm _ _ (hb.perm.mem_iff.2 (List.mem_cons_self ..))) hd hl)
end
attribute [irreducible] BinRun
end Go.Proofs.Ytdgdigliepncpaa
