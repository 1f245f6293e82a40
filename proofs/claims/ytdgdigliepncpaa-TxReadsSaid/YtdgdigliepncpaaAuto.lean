/-
  This text gives the rules again with the usual proofs of their premises as default arguments, so that a walk is short; and the rule for a call of a function value.
  Conditions: none; nothing here names the program.
-/
import Derived.Test.YtdgdigliepncpaaMap
import Derived.Test.YtdgdigliepncpaaSl
import Derived.KernelRfl
namespace Go.Proofs.Ytdgdigliepncpaa
open Go
attribute [local semireducible] C L Qt BinRun Fn Fn0 Hands LA

section
variable {P : Program} {N : Nat} {e : Env} {M : Mem} {A : Segs} {d i : Nat} {v : Value} {ty t t2 : TypeId} {pos : String} {aft : Array Edge} {g : Option (Nat × Bool)} {x y z : Operand} {as vs ws : Array Operand} {ts : Array TypeId} {ps : Array (Nat × Operand)} {fn : Go.Fn}
theorem Sh.move (h : Qt P N e M A ⟨some d, .move x, ty, pos, aft, g⟩ v) : Qt P N e M A ⟨some d, .move x, ty, pos, aft, g⟩ v := h
theorem Sh.assign (h : Qt P N e M A ⟨some d, .assign x, ty, pos, aft, g⟩ v) : Qt P N e M A ⟨some d, .assign x, ty, pos, aft, g⟩ v := h
theorem Sh.fieldAddr (h : Qt P N e M A ⟨some d, .fieldAddr t x i, ty, pos, aft, g⟩ v) : Qt P N e M A ⟨some d, .fieldAddr t x i, ty, pos, aft, g⟩ v := h
theorem Sh.nilCheck (h : Qt P N e M A ⟨some d, .nilCheck x, ty, pos, aft, g⟩ v) : Qt P N e M A ⟨some d, .nilCheck x, ty, pos, aft, g⟩ v := h
theorem Sh.load (h : Qt P N e M A ⟨some d, .load t x, ty, pos, aft, g⟩ v) : Qt P N e M A ⟨some d, .load t x, ty, pos, aft, g⟩ v := h
theorem Sh.indexAddr (h : Qt P N e M A ⟨some d, .indexAddr t x y, ty, pos, aft, g⟩ v) : Qt P N e M A ⟨some d, .indexAddr t x y, ty, pos, aft, g⟩ v := h
theorem Sh.extract (h : Qt P N e M A ⟨some d, .extract x i, ty, pos, aft, g⟩ v) : Qt P N e M A ⟨some d, .extract x i, ty, pos, aft, g⟩ v := h
theorem Sh.unOp_not (h : Qt P N e M A ⟨some d, .unOp .not t x, ty, pos, aft, g⟩ v) : Qt P N e M A ⟨some d, .unOp .not t x, ty, pos, aft, g⟩ v := h
theorem Sh.unOp_xor (h : Qt P N e M A ⟨some d, .unOp .xor t x, ty, pos, aft, g⟩ v) : Qt P N e M A ⟨some d, .unOp .xor t x, ty, pos, aft, g⟩ v := h
theorem Sh.pick (h : Qt P N e M A ⟨some d, .pick x y z, ty, pos, aft, g⟩ v) : Qt P N e M A ⟨some d, .pick x y z, ty, pos, aft, g⟩ v := h
theorem Sh.len (h : Qt P N e M A ⟨some d, .call { callee := .builtin .len, args := as, argTypes := ts }, ty, pos, aft, g⟩ v) : Qt P N e M A ⟨some d, .call { callee := .builtin .len, args := as, argTypes := ts }, ty, pos, aft, g⟩ v := h
theorem Sh.min (h : Qt P N e M A ⟨some d, .call { callee := .builtin .min, args := as, argTypes := ts }, ty, pos, aft, g⟩ v) : Qt P N e M A ⟨some d, .call { callee := .builtin .min, args := as, argTypes := ts }, ty, pos, aft, g⟩ v := h
theorem Sh.max (h : Qt P N e M A ⟨some d, .call { callee := .builtin .max, args := as, argTypes := ts }, ty, pos, aft, g⟩ v) : Qt P N e M A ⟨some d, .call { callee := .builtin .max, args := as, argTypes := ts }, ty, pos, aft, g⟩ v := h
theorem Sh.slice (h : Qt P N e M A ⟨some d, .slice t x none none none, ty, pos, aft, g⟩ v) : Qt P N e M A ⟨some d, .slice t x none none none, ty, pos, aft, g⟩ v := h
theorem Sh.build (h : Qt P N e M A ⟨some d, .build t ps, ty, pos, aft, g⟩ v) : Qt P N e M A ⟨some d, .build t ps, ty, pos, aft, g⟩ v := h
theorem Sh.convert (h : Qt P N e M A ⟨some d, .convert t t2 x, ty, pos, aft, g⟩ v) : Qt P N e M A ⟨some d, .convert t t2 x, ty, pos, aft, g⟩ v := h
theorem Sh.makeFunc (h : Qt P N e M A ⟨some d, .makeFunc fn vs ws, ty, pos, aft, g⟩ v) : Qt P N e M A ⟨some d, .makeFunc fn vs ws, ty, pos, aft, g⟩ v := h
theorem Sh.binOp_lss (h : Qt P N e M A ⟨some d, .binOp .lss t x y t2, ty, pos, aft, g⟩ v) : Qt P N e M A ⟨some d, .binOp .lss t x y t2, ty, pos, aft, g⟩ v := h
theorem Sh.binOp_leq (h : Qt P N e M A ⟨some d, .binOp .leq t x y t2, ty, pos, aft, g⟩ v) : Qt P N e M A ⟨some d, .binOp .leq t x y t2, ty, pos, aft, g⟩ v := h
theorem Sh.binOp_gtr (h : Qt P N e M A ⟨some d, .binOp .gtr t x y t2, ty, pos, aft, g⟩ v) : Qt P N e M A ⟨some d, .binOp .gtr t x y t2, ty, pos, aft, g⟩ v := h
theorem Sh.binOp_geq (h : Qt P N e M A ⟨some d, .binOp .geq t x y t2, ty, pos, aft, g⟩ v) : Qt P N e M A ⟨some d, .binOp .geq t x y t2, ty, pos, aft, g⟩ v := h
theorem Sh.binOp_eql (h : Qt P N e M A ⟨some d, .binOp .eql t x y t2, ty, pos, aft, g⟩ v) : Qt P N e M A ⟨some d, .binOp .eql t x y t2, ty, pos, aft, g⟩ v := h
theorem Sh.binOp_neq (h : Qt P N e M A ⟨some d, .binOp .neq t x y t2, ty, pos, aft, g⟩ v) : Qt P N e M A ⟨some d, .binOp .neq t x y t2, ty, pos, aft, g⟩ v := h
theorem Sh.binOp_add (h : Qt P N e M A ⟨some d, .binOp .add t x y t2, ty, pos, aft, g⟩ v) : Qt P N e M A ⟨some d, .binOp .add t x y t2, ty, pos, aft, g⟩ v := h
theorem Sh.binOp_sub (h : Qt P N e M A ⟨some d, .binOp .sub t x y t2, ty, pos, aft, g⟩ v) : Qt P N e M A ⟨some d, .binOp .sub t x y t2, ty, pos, aft, g⟩ v := h
theorem Sh.binOp_or (h : Qt P N e M A ⟨some d, .binOp .or t x y t2, ty, pos, aft, g⟩ v) : Qt P N e M A ⟨some d, .binOp .or t x y t2, ty, pos, aft, g⟩ v := h
theorem Sh.binOp_and (h : Qt P N e M A ⟨some d, .binOp .and t x y t2, ty, pos, aft, g⟩ v) : Qt P N e M A ⟨some d, .binOp .and t x y t2, ty, pos, aft, g⟩ v := h
theorem Sh.binOp_xor (h : Qt P N e M A ⟨some d, .binOp .xor t x y t2, ty, pos, aft, g⟩ v) : Qt P N e M A ⟨some d, .binOp .xor t x y t2, ty, pos, aft, g⟩ v := h
theorem Sh.binOp_shl (h : Qt P N e M A ⟨some d, .binOp .shl t x y t2, ty, pos, aft, g⟩ v) : Qt P N e M A ⟨some d, .binOp .shl t x y t2, ty, pos, aft, g⟩ v := h
theorem Sh.binOp_shr (h : Qt P N e M A ⟨some d, .binOp .shr t x y t2, ty, pos, aft, g⟩ v) : Qt P N e M A ⟨some d, .binOp .shr t x y t2, ty, pos, aft, g⟩ v := h
theorem Sh.binOp_mul (h : Qt P N e M A ⟨some d, .binOp .mul t x y t2, ty, pos, aft, g⟩ v) : Qt P N e M A ⟨some d, .binOp .mul t x y t2, ty, pos, aft, g⟩ v := h
end
/-- A segment of one row. -/
class MemB (A : Segs) (b : Nat) (o : outParam Obj) : Prop where
  mem : [(b, o)] ∈ A
instance MemB.next {A : Segs} {b : Nat} {o : Obj} {K : Hp} [t : MemB A b o] : MemB (K :: A) b o := ⟨List.mem_cons_of_mem _ t.mem⟩
instance MemB.here {A : Segs} {b : Nat} {o : Obj} : MemB ([(b, o)] :: A) b o := ⟨List.mem_cons_self ..⟩
class Keep (A : Segs) (bs : List Nat) (AB : outParam Segs) : Prop where
  all : ∀ s ∈ AB, s ∈ A
instance Keep.nil {A : Segs} : Keep A [] [] := ⟨fun _ h => by cases h⟩
instance Keep.cons {A AB : Segs} {b : Nat} {bs : List Nat} {o : Obj} [t : MemB A b o] [k : Keep A bs AB] : Keep A (b :: bs) ([(b, o)] :: AB) := ⟨fun s h => by
  rcases List.mem_cons.1 h with rfl | h
  · exact t.mem
  · exact k.all s h⟩

section
variable {P : Program} {N : Nat} {X : Cx} {Q : Post} {K : Kont} {e : Env} {M : Mem} {A : Segs} {ops : Array Oper} {rest : List Oper} {o : Oper} {d : Nat} {v : Value}
variable {ty : TypeId} {pos : String} {aft : Array Edge} {g : Option (Nat × Bool)}
theorem L.qa (h : L P N X ops rest K ((d, v) :: e) M A) (hq : Qt P N e M A o v := by first | (apply Sh.move; exact Qt.move rfl) | (apply Sh.assign; exact Qt.assign rfl) | (apply Sh.fieldAddr; first | exact Qt.fieldAddr rfl (by first | (simp only [Nat.reduceAdd]; rfl) | rfl) | exact Qt.fieldEl rfl (by assumption) (by first | (simp only [Nat.reduceAdd]; rfl) | rfl)) | (apply Sh.nilCheck; exact Qt.nilCheck rfl) | (apply Sh.load; first | exact Qt.loadA1 rfl | exact Qt.loadA rfl | exact Qt.loadM1 rfl (by assumption) | exact Qt.loadM rfl (by assumption) | exact Qt.loadEl1 rfl (by assumption) | exact Qt.loadEl rfl (by assumption) | exact Qt.loadMi rfl (by assumption) (by assumption) | exact Qt.loadMs rfl (by assumption) (by assumption) (by assumption)) | (apply Sh.indexAddr; first | exact Qt.indexArr0 rfl rfl rfl | exact Qt.indexArr1 rfl rfl rfl (by first | (simp only [Nat.reduceAdd]; rfl) | rfl) | exact Qt.indexAddr rfl rfl ⟨by omega, by omega⟩ (by first | (simp only [Int.toNat_natCast]; rfl) | (simp only [Int.reduceToNat, Nat.reduceMul, Nat.reduceAdd]; rfl)) | exact Qt.idxEl0 rfl rfl (by assumption) (by omega) | exact Qt.idxEl rfl rfl (by assumption) (by omega) | exact Qt.indexArr rfl rfl ⟨by omega, by omega⟩ (by first | (simp only [Int.toNat_natCast]; rfl) | (simp only [Int.reduceToNat, Nat.reduceMul, Nat.reduceAdd]; rfl))) | (apply Sh.extract; exact Qt.extract rfl rfl) | (apply Sh.unOp_not; first | exact Qt.notT rfl | exact Qt.notF rfl | exact Qt.not rfl) | (apply Sh.pick; first | exact Qt.pickT rfl rfl | exact Qt.pickF rfl rfl) | (apply Sh.len; first | exact Qt.len rfl | exact Qt.lenS rfl (by assumption)) | (apply Sh.slice; exact Qt.sliceArr rfl) | (apply Sh.build; first | exact Qt.build rfl | exact Qt.buildA rfl) | (apply Sh.binOp_lss; exact Qt.bin rfl rfl BinRun.lss) | (apply Sh.binOp_leq; exact Qt.bin rfl rfl BinRun.leq) | (apply Sh.binOp_gtr; exact Qt.bin rfl rfl BinRun.gtr) | (apply Sh.binOp_geq; exact Qt.bin rfl rfl BinRun.geq) | (apply Sh.binOp_eql; first | exact Qt.bin rfl rfl BinRun.eql | exact Qt.bin rfl rfl BinRun.peqF | exact Qt.bin rfl rfl BinRun.peqT | exact Qt.bin rfl rfl BinRun.beq) | (apply Sh.binOp_neq; first | exact Qt.bin rfl rfl BinRun.neq | exact Qt.bin rfl rfl BinRun.pneF | exact Qt.bin rfl rfl BinRun.pneT | exact Qt.bin rfl rfl BinRun.bne) | (apply Sh.makeFunc; exact Qt.closure rfl) | (apply Sh.binOp_add; first | exact Qt.bin rfl rfl (BinRun.add (wrap_succ (by omega))) | exact Qt.bin rfl rfl (BinRun.add (wrap_in64 (by omega)))) | (apply Sh.binOp_sub; exact Qt.bin rfl rfl (BinRun.sub (wrap_in64 (by omega)))))
    (hg : e.want ops o.guard = some true := by rfl) (hd : o.dst = some d := by rfl) (hn : Nat.blt d N = true := by rfl) : L P N X ops (o :: rest) K e M A := L.q hq hg hd hn h
theorem L.qg (h : L P N X ops rest K ((d, v) :: e) M A) (hq : Qt P N e M A o v := by first | (apply Sh.move; exact Qt.move rfl) | (apply Sh.assign; exact Qt.assign rfl) | (apply Sh.fieldAddr; first | exact Qt.fieldAddr rfl (by first | (simp only [Nat.reduceAdd]; rfl) | rfl) | exact Qt.fieldEl rfl (by assumption) (by first | (simp only [Nat.reduceAdd]; rfl) | rfl)) | (apply Sh.nilCheck; exact Qt.nilCheck rfl) | (apply Sh.load; first | exact Qt.loadA1 rfl | exact Qt.loadA rfl | exact Qt.loadM1 rfl (by assumption) | exact Qt.loadM rfl (by assumption) | exact Qt.loadEl1 rfl (by assumption) | exact Qt.loadEl rfl (by assumption) | exact Qt.loadMi rfl (by assumption) (by assumption) | exact Qt.loadMs rfl (by assumption) (by assumption) (by assumption)) | (apply Sh.indexAddr; first | exact Qt.indexArr0 rfl rfl rfl | exact Qt.indexArr1 rfl rfl rfl (by first | (simp only [Nat.reduceAdd]; rfl) | rfl) | exact Qt.indexAddr rfl rfl ⟨by omega, by omega⟩ (by first | (simp only [Int.toNat_natCast]; rfl) | (simp only [Int.reduceToNat, Nat.reduceMul, Nat.reduceAdd]; rfl)) | exact Qt.idxEl0 rfl rfl (by assumption) (by omega) | exact Qt.idxEl rfl rfl (by assumption) (by omega) | exact Qt.indexArr rfl rfl ⟨by omega, by omega⟩ (by first | (simp only [Int.toNat_natCast]; rfl) | (simp only [Int.reduceToNat, Nat.reduceMul, Nat.reduceAdd]; rfl))) | (apply Sh.extract; exact Qt.extract rfl rfl) | (apply Sh.unOp_not; first | exact Qt.notT rfl | exact Qt.notF rfl | exact Qt.not rfl) | (apply Sh.pick; first | exact Qt.pickT rfl rfl | exact Qt.pickF rfl rfl) | (apply Sh.len; first | exact Qt.len rfl | exact Qt.lenS rfl (by assumption)) | (apply Sh.slice; exact Qt.sliceArr rfl) | (apply Sh.build; first | exact Qt.build rfl | exact Qt.buildA rfl) | (apply Sh.binOp_lss; exact Qt.bin rfl rfl BinRun.lss) | (apply Sh.binOp_leq; exact Qt.bin rfl rfl BinRun.leq) | (apply Sh.binOp_gtr; exact Qt.bin rfl rfl BinRun.gtr) | (apply Sh.binOp_geq; exact Qt.bin rfl rfl BinRun.geq) | (apply Sh.binOp_eql; first | exact Qt.bin rfl rfl BinRun.eql | exact Qt.bin rfl rfl BinRun.peqF | exact Qt.bin rfl rfl BinRun.peqT | exact Qt.bin rfl rfl BinRun.beq) | (apply Sh.binOp_neq; first | exact Qt.bin rfl rfl BinRun.neq | exact Qt.bin rfl rfl BinRun.pneF | exact Qt.bin rfl rfl BinRun.pneT | exact Qt.bin rfl rfl BinRun.bne) | (apply Sh.makeFunc; exact Qt.closure rfl))
    (hg : e.want ops o.guard = some true := by rfl) (hd : o.dst = some d := by rfl) (hn : Nat.blt d N = true := by rfl) : L P N X ops (o :: rest) K e M A := L.q hq hg hd hn h
theorem L.qf (h : L P N X ops rest K ((d, v) :: e) M A) (hq : Qt P N e M A o v := by first | (apply Sh.move; exact Qt.move rfl) | (apply Sh.assign; exact Qt.assign rfl) | (apply Sh.fieldAddr; first | exact Qt.fieldAddr rfl (by first | (simp only [Nat.reduceAdd]; rfl) | rfl) | exact Qt.fieldEl rfl (by assumption) (by first | (simp only [Nat.reduceAdd]; rfl) | rfl)) | (apply Sh.nilCheck; exact Qt.nilCheck rfl) | (apply Sh.load; first | exact Qt.loadA1 rfl | exact Qt.loadA rfl | exact Qt.loadM1 rfl (by assumption) | exact Qt.loadM rfl (by assumption) | exact Qt.loadEl1 rfl (by assumption) | exact Qt.loadEl rfl (by assumption) | exact Qt.loadMi rfl (by assumption) (by assumption) | exact Qt.loadMs rfl (by assumption) (by assumption) (by assumption)) | (apply Sh.indexAddr; first | exact Qt.indexArr0 rfl rfl rfl | exact Qt.indexArr1 rfl rfl rfl (by first | (simp only [Nat.reduceAdd]; rfl) | rfl) | exact Qt.indexAddr rfl rfl ⟨by omega, by omega⟩ (by first | (simp only [Int.toNat_natCast]; rfl) | (simp only [Int.reduceToNat, Nat.reduceMul, Nat.reduceAdd]; rfl)) | exact Qt.idxEl0 rfl rfl (by assumption) (by omega) | exact Qt.idxEl rfl rfl (by assumption) (by omega) | exact Qt.indexArr rfl rfl ⟨by omega, by omega⟩ (by first | (simp only [Int.toNat_natCast]; rfl) | (simp only [Int.reduceToNat, Nat.reduceMul, Nat.reduceAdd]; rfl))) | (apply Sh.extract; exact Qt.extract rfl rfl) | (apply Sh.unOp_not; first | exact Qt.notT rfl | exact Qt.notF rfl | exact Qt.not rfl) | (apply Sh.pick; first | exact Qt.pickT rfl rfl | exact Qt.pickF rfl rfl) | (apply Sh.len; first | exact Qt.len rfl | exact Qt.lenS rfl (by assumption)) | (apply Sh.slice; exact Qt.sliceArr rfl) | (apply Sh.build; first | exact Qt.build rfl | exact Qt.buildA rfl) | (apply Sh.binOp_lss; exact Qt.bin rfl rfl BinRun.lss) | (apply Sh.binOp_leq; exact Qt.bin rfl rfl BinRun.leq) | (apply Sh.binOp_gtr; exact Qt.bin rfl rfl BinRun.gtr) | (apply Sh.binOp_geq; exact Qt.bin rfl rfl BinRun.geq) | (apply Sh.binOp_eql; first | exact Qt.bin rfl rfl BinRun.eql | exact Qt.bin rfl rfl BinRun.peqF | exact Qt.bin rfl rfl BinRun.peqT | exact Qt.bin rfl rfl BinRun.beq) | (apply Sh.binOp_neq; first | exact Qt.bin rfl rfl BinRun.neq | exact Qt.bin rfl rfl BinRun.pneF | exact Qt.bin rfl rfl BinRun.pneT | exact Qt.bin rfl rfl BinRun.bne) | (apply Sh.makeFunc; exact Qt.closure rfl) | (apply Sh.min; exact Qt.min rfl rfl rfl) | (apply Sh.max; exact Qt.max rfl rfl rfl) | (apply Sh.binOp_add; first | exact Qt.bin rfl rfl (BinRun.add (wrap_succ (by omega))) | exact Qt.bin rfl rfl (BinRun.add (wrap_in64 (by omega))) | exact Qt.bin rfl rfl BinRun.add32 | exact Qt.bin rfl rfl (BinRun.add (k := .u64) rfl)) | (apply Sh.binOp_sub; first | exact Qt.bin rfl rfl (BinRun.sub (wrap_in64 (by omega))) | exact Qt.bin rfl rfl (BinRun.sub (k := .u64) rfl)) | (apply Sh.binOp_or; first | exact Qt.bin rfl rfl BinRun.or32 | exact Qt.bin rfl rfl (BinRun.or rfl)) | (apply Sh.binOp_and; first | exact Qt.bin rfl rfl BinRun.and32 | exact Qt.bin rfl rfl (BinRun.and rfl)) | (apply Sh.binOp_xor; first | exact Qt.bin rfl rfl BinRun.xor32 | exact Qt.bin rfl rfl (BinRun.xor rfl)) | (apply Sh.binOp_shl; first | exact Qt.bin rfl rfl (BinRun.shl32 (by first | decide | omega)) | exact Qt.bin rfl rfl (BinRun.shl (by first | decide | omega) rfl)) | (apply Sh.binOp_shr; first | exact Qt.bin rfl rfl (BinRun.shr32 (by first | decide | omega)) | exact Qt.bin rfl rfl (BinRun.shr (by first | decide | omega) rfl)) | (apply Sh.binOp_mul; first | exact Qt.bin rfl rfl (BinRun.mul (wrap_in64 (by omega))) | exact Qt.bin rfl rfl (BinRun.mul (k := .u64) rfl)) | (apply Sh.convert; first | exact Qt.convInt rfl (wrap_in64 (by omega)) | exact Qt.conv8 rfl | exact Qt.conv32 rfl | exact Qt.convInt (k2 := .u64) rfl rfl) | (apply Sh.unOp_xor; exact Qt.not32 rfl))
    (hg : e.want ops o.guard = some true := by rfl) (hd : o.dst = some d := by rfl) (hn : Nat.blt d N = true := by rfl) : L P N X ops (o :: rest) K e M A := L.q hq hg hd hn h
theorem L.qh (h : L P N X ops rest K ((d, v) :: e) M A) (hq : Qt P N e M A o v)
    (hg : e.want ops o.guard = some true := by rfl) (hd : o.dst = some d := by rfl) (hn : Nat.blt d N = true := by rfl) : L P N X ops (o :: rest) K e M A := L.q hq hg hd hn h
theorem L.ofa (h : L P N X ops rest K ((d, undef) :: e) M A) (hg : e.want ops o.guard = some false := by rfl) (hd : o.dst = some d := by rfl) (hn : Nat.blt d N = true := by rfl) : L P N X ops (o :: rest) K e M A := L.off hg hd hn h
theorem L.ofn (h : L P N X ops rest K e M A) (hg : e.want ops o.guard = some false := by rfl) (hd : o.dst = none := by rfl) : L P N X ops (o :: rest) K e M A := L.offNone hg hd h
theorem L.st {t : TypeId} {x y : Operand} (h : L P N X ops (⟨none, .store t x y, ty, pos, aft, g⟩ :: rest) K e M A) : L P N X ops (⟨none, .store t x y, ty, pos, aft, g⟩ :: rest) K e M A := h
theorem LA.ta {Fs : List Nat} {MB : Mem} {AB : Segs} {listed : Array Bool} {fuel : Nat} (i : Nat) {oi : Oper}
    (h : LA P ops Fs MB AB N X K fuel (listed.setIfInBounds i true) ((d, v) :: e) M A) (hi : ops[i]? = some oi := by rfl) (hs : Region.noSelect ops = true := by kernel_rfl) (hfree : Region.free .any ops listed i = true := by kernel_rfl) (hr : (Region.ready .any ops listed).contains i = true := by kernel_rfl) (hw : waited ops Fs i = true := by kernel_rfl)
    (hq : Qt P N e MB AB oi v := by first | (apply Sh.move; exact Qt.move rfl) | (apply Sh.assign; exact Qt.assign rfl) | (apply Sh.fieldAddr; first | exact Qt.fieldAddr rfl (by first | (simp only [Nat.reduceAdd]; rfl) | rfl) | exact Qt.fieldEl rfl (by assumption) (by first | (simp only [Nat.reduceAdd]; rfl) | rfl)) | (apply Sh.nilCheck; exact Qt.nilCheck rfl) | (apply Sh.load; first | exact Qt.loadA1 rfl | exact Qt.loadA rfl | exact Qt.loadM1 rfl (by assumption) | exact Qt.loadM rfl (by assumption) | exact Qt.loadEl1 rfl (by assumption) | exact Qt.loadEl rfl (by assumption) | exact Qt.loadMi rfl (by assumption) (by assumption) | exact Qt.loadMs rfl (by assumption) (by assumption) (by assumption)) | (apply Sh.indexAddr; first | exact Qt.indexArr0 rfl rfl rfl | exact Qt.indexArr1 rfl rfl rfl (by first | (simp only [Nat.reduceAdd]; rfl) | rfl) | exact Qt.indexAddr rfl rfl ⟨by omega, by omega⟩ (by first | (simp only [Int.toNat_natCast]; rfl) | (simp only [Int.reduceToNat, Nat.reduceMul, Nat.reduceAdd]; rfl)) | exact Qt.idxEl0 rfl rfl (by assumption) (by omega) | exact Qt.idxEl rfl rfl (by assumption) (by omega) | exact Qt.indexArr rfl rfl ⟨by omega, by omega⟩ (by first | (simp only [Int.toNat_natCast]; rfl) | (simp only [Int.reduceToNat, Nat.reduceMul, Nat.reduceAdd]; rfl))) | (apply Sh.extract; exact Qt.extract rfl rfl) | (apply Sh.unOp_not; first | exact Qt.notT rfl | exact Qt.notF rfl | exact Qt.not rfl) | (apply Sh.pick; first | exact Qt.pickT rfl rfl | exact Qt.pickF rfl rfl) | (apply Sh.len; first | exact Qt.len rfl | exact Qt.lenS rfl (by assumption)) | (apply Sh.slice; exact Qt.sliceArr rfl) | (apply Sh.build; first | exact Qt.build rfl | exact Qt.buildA rfl) | (apply Sh.binOp_lss; exact Qt.bin rfl rfl BinRun.lss) | (apply Sh.binOp_leq; exact Qt.bin rfl rfl BinRun.leq) | (apply Sh.binOp_gtr; exact Qt.bin rfl rfl BinRun.gtr) | (apply Sh.binOp_geq; exact Qt.bin rfl rfl BinRun.geq) | (apply Sh.binOp_eql; first | exact Qt.bin rfl rfl BinRun.eql | exact Qt.bin rfl rfl BinRun.peqF | exact Qt.bin rfl rfl BinRun.peqT | exact Qt.bin rfl rfl BinRun.beq) | (apply Sh.binOp_neq; first | exact Qt.bin rfl rfl BinRun.neq | exact Qt.bin rfl rfl BinRun.pneF | exact Qt.bin rfl rfl BinRun.pneT | exact Qt.bin rfl rfl BinRun.bne) | (apply Sh.makeFunc; exact Qt.closure rfl) | (apply Sh.min; exact Qt.min rfl rfl rfl) | (apply Sh.max; exact Qt.max rfl rfl rfl) | (apply Sh.binOp_add; first | exact Qt.bin rfl rfl (BinRun.add (wrap_succ (by omega))) | exact Qt.bin rfl rfl (BinRun.add (wrap_in64 (by omega))) | exact Qt.bin rfl rfl BinRun.add32 | exact Qt.bin rfl rfl (BinRun.add (k := .u64) rfl)) | (apply Sh.binOp_sub; first | exact Qt.bin rfl rfl (BinRun.sub (wrap_in64 (by omega))) | exact Qt.bin rfl rfl (BinRun.sub (k := .u64) rfl)) | (apply Sh.binOp_or; first | exact Qt.bin rfl rfl BinRun.or32 | exact Qt.bin rfl rfl (BinRun.or rfl)) | (apply Sh.binOp_and; first | exact Qt.bin rfl rfl BinRun.and32 | exact Qt.bin rfl rfl (BinRun.and rfl)) | (apply Sh.binOp_xor; first | exact Qt.bin rfl rfl BinRun.xor32 | exact Qt.bin rfl rfl (BinRun.xor rfl)) | (apply Sh.binOp_shl; first | exact Qt.bin rfl rfl (BinRun.shl32 (by first | decide | omega)) | exact Qt.bin rfl rfl (BinRun.shl (by first | decide | omega) rfl)) | (apply Sh.binOp_shr; first | exact Qt.bin rfl rfl (BinRun.shr32 (by first | decide | omega)) | exact Qt.bin rfl rfl (BinRun.shr (by first | decide | omega) rfl)) | (apply Sh.binOp_mul; first | exact Qt.bin rfl rfl (BinRun.mul (wrap_in64 (by omega))) | exact Qt.bin rfl rfl (BinRun.mul (k := .u64) rfl)) | (apply Sh.convert; first | exact Qt.convInt rfl (wrap_in64 (by omega)) | exact Qt.conv8 rfl | exact Qt.conv32 rfl | exact Qt.convInt (k2 := .u64) rfl rfl) | (apply Sh.unOp_xor; exact Qt.not32 rfl)) (hg : e.want ops oi.guard = some true := by rfl) (hd : oi.dst = some d := by rfl) (hn : Nat.blt d N = true := by rfl)
    : LA P ops Fs MB AB N X K (fuel + 1) listed e M A := LA.take i hi hs hfree hr hw hq hg hd hn h
theorem LA.th {Fs : List Nat} {MB : Mem} {AB : Segs} {listed : Array Bool} {fuel : Nat} (i : Nat) {oi : Oper} (hi : ops[i]? = some oi)
    (h : LA P ops Fs MB AB N X K fuel (listed.setIfInBounds i true) ((d, v) :: e) M A) (hq : Qt P N e MB AB oi v) (hs : Region.noSelect ops = true := by kernel_rfl) (hfree : Region.free .any ops listed i = true := by kernel_rfl) (hr : (Region.ready .any ops listed).contains i = true := by kernel_rfl) (hw : waited ops Fs i = true := by kernel_rfl)
    (hg : e.want ops oi.guard = some true := by rfl) (hd : oi.dst = some d := by rfl) (hn : Nat.blt d N = true := by rfl)
    : LA P ops Fs MB AB N X K (fuel + 1) listed e M A := LA.take i hi hs hfree hr hw hq hg hd hn h
theorem LA.to {Fs : List Nat} {MB : Mem} {AB : Segs} {listed : Array Bool} {fuel : Nat} (i : Nat) {oi : Oper}
    (h : LA P ops Fs MB AB N X K fuel (listed.setIfInBounds i true) ((d, undef) :: e) M A) (hi : ops[i]? = some oi := by rfl) (hs : Region.noSelect ops = true := by kernel_rfl) (hfree : Region.free .any ops listed i = true := by kernel_rfl) (hr : (Region.ready .any ops listed).contains i = true := by kernel_rfl) (hw : Fs.contains i = false := by rfl)
    (hg : e.want ops oi.guard = some false := by rfl) (hd : oi.dst = some d := by rfl) (hn : Nat.blt d N = true := by rfl)
    : LA P ops Fs MB AB N X K (fuel + 1) listed e M A := LA.takeOff i hi hs hfree hr hw hg hd hn h
theorem LA.e1 {Fs : List Nat} {MB : Mem} {AB : Segs} {listed : Array Bool} {fuel : Nat} (i : Nat) {oi : Oper}
    (h : L P N X ops [oi] (fun e' M' A' => ((Fs.all fun f => !(listed.setIfInBounds i true).getD f false) = true → (∀ b o, MB b = some o → M' b = some o) ∧ (∀ s ∈ AB, s ∈ A')) ∧
      LA P ops Fs MB AB N X K fuel (listed.setIfInBounds i true) e' M' A') e M A) (hi : ops[i]? = some oi := by rfl) (hr : Region.ready .any ops listed = [i] := by kernel_rfl)
    : LA P ops Fs MB AB N X K (fuel + 1) listed e M A := LA.all [i] hr (by simp) ⟨⟨_, hi, h⟩, trivial⟩
theorem LA.dn {Fs : List Nat} {MB : Mem} {AB : Segs} {listed : Array Bool} {fuel : Nat} (h : K e M A) (hr : Region.ready .any ops listed = [] := by kernel_rfl) : LA P ops Fs MB AB N X K fuel listed e M A := LA.done hr h
theorem LA.split {Fs : List Nat} {MB : Mem} {AB : Segs} {listed : Array Bool} {fuel : Nat} (d : Nat) {t : Bool} (hd : e.get d = some (.bool t))
    (h1 : t = true → LA P ops Fs MB AB N X K fuel listed ((d, .bool true) :: e) M A) (h2 : t = false → LA P ops Fs MB AB N X K fuel listed ((d, .bool false) :: e) M A) : LA P ops Fs MB AB N X K fuel listed e M A := by
  have key : ∀ b, t = b → ∀ a, Fr N e a → Fr N ((d, .bool b) :: e) a := fun b hb a hf => ⟨hf.sz, hf.df, fun k v hk => by
    simp only [Env.get] at hk
    cases hbq : Nat.beq d k with
    | true =>
      have : d = k := Nat.eq_of_beq_eq_true hbq
      subst this
      simp only [hbq, cond_true, Option.some.injEq] at hk
      rw [← hk, ← hb]; exact hf.at_ d _ hd
    | false => simp only [hbq, cond_false] at hk; exact hf.at_ k v hk⟩
  intro a w hf hs
  cases t with
  | true => exact h1 rfl a w (key true rfl a hf) hs
  | false => exact h2 rfl a w (key false rfl a hf) hs
theorem C.drw {id n : Nat} (Fs : List Nat) (bs : List Nat) {AB : Segs} [hk : Keep A bs AB] (h : LA P ops Fs M AB N X Q.norm n (Array.replicate n false) e M A) (hops : ops.size = n := by rfl) (hm : P.follows .mixedOrders = true := by exact mixed) : C P N X (.region id ops true) Q e M A :=
  C.draw Fs AB _ hm hops hk.all h (fun _ _ _ h => h)

theorem L.al {t : TypeId} {z : List Value} [hz : Zer P t z] (h : ∀ b, L P N X ops rest K ((d, ptr b 0) :: e) M ([(b, row z t)] :: A)) (hg : e.want ops g = some true := by rfl) (hn : Nat.blt d N = true := by rfl)
    : L P N X ops (⟨some d, .alloc t, ty, pos, aft, g⟩ :: rest) K e M A := L.alloc hg hn h
theorem L.bx {t : TypeId} {x : Operand} {cl : List Value} [hc : Cells v cl] (h : ∀ b, L P N X ops rest K ((d, ptr b 0) :: e) M ([(b, row cl t)] :: A)) (hx : e.ev x = some v := by rfl) (hg : e.want ops g = some true := by rfl) (hn : Nat.blt d N = true := by rfl)
    : L P N X ops (⟨some d, .box t x, ty, pos, aft, g⟩ :: rest) K e M A := L.box hx hg hn h
theorem L.bxM {t : TypeId} {x : Operand} {cl : List Value} [hc : Cells v cl] (h : ∀ b M', Prev M' M → At M' b (row cl t) → L P N X ops rest K ((d, ptr b 0) :: e) M' A) (hx : e.ev x = some v := by rfl) (hg : e.want ops g = some true := by rfl) (hn : Nat.blt d N = true := by rfl)
    : L P N X ops (⟨some d, .box t x, ty, pos, aft, g⟩ :: rest) K e M A := L.boxM hx hg hn h
theorem L.bs {t el : TypeId} {n sz : Nat} {ps : List (Nat × Operand)} {us z out : List Value} [hu : Und P t (.slice el)] [hz : Zer P el z] [hs : Siz P el sz] [hc : CellsAll us sz out]
    (h : ∀ b, L P N X ops rest K ((d, .slice (some ⟨b, 0, none⟩) n n) :: e) M ([(b, row out el)] :: A)) (hx : e.evs (ps.map (·.2)) = some us := by rfl) (hi : (ps.map (·.1)) = List.range n := by rfl) (hl : ps.length = n := by rfl) (hsm : Nat.ble (n * sz) (2 ^ 24) = true := by rfl)
    (hpos : Nat.beq (n * sz) 0 = false := by rfl) (hg : e.want ops g = some true := by rfl) (hn : Nat.blt d N = true := by rfl) : L P N X ops (⟨some d, .buildSlice t n ps.toArray, ty, pos, aft, g⟩ :: rest) K e M A := L.buildSlice hx hi hl hsm hpos hg hn h
theorem L.bsM {t el : TypeId} {n sz : Nat} {ps : List (Nat × Operand)} {us z out : List Value} [hu : Und P t (.slice el)] [hz : Zer P el z] [hs : Siz P el sz] [hc : CellsAll us sz out]
    (h : ∀ b M', Prev M' M → At M' b (row out el) → L P N X ops rest K ((d, .slice (some ⟨b, 0, none⟩) n n) :: e) M' A) (hx : e.evs (ps.map (·.2)) = some us := by rfl) (hi : (ps.map (·.1)) = List.range n := by rfl) (hl : ps.length = n := by rfl) (hsm : Nat.ble (n * sz) (2 ^ 24) = true := by rfl)
    (hpos : Nat.beq (n * sz) 0 = false := by rfl) (hg : e.want ops g = some true := by rfl) (hn : Nat.blt d N = true := by rfl) : L P N X ops (⟨some d, .buildSlice t n ps.toArray, ty, pos, aft, g⟩ :: rest) K e M A := L.buildSliceM hx hi hl hsm hpos hg hn h
theorem L.cv {f : FuncId} {xs : List Operand} {vs : List Value} {ts : Array TypeId} [hc : Callable P f] (hfn : Fnv P f vs M v)
    (h : ∀ M', Prev M' M → L P N X ops rest K ((d, v) :: e) M' A) (hx : e.evs xs = some vs := by rfl) (hg : e.want ops g = some true := by rfl) (hn : Nat.blt d N = true := by rfl) : L P N X ops (⟨some d, .call { callee := .value (.func f), args := xs.toArray, argTypes := ts }, ty, pos, aft, g⟩ :: rest) K e M A := L.callv hx hfn hg hn h
theorem L.c0 {f : FuncId} {xs : List Operand} {vs : List Value} {ts : Array TypeId} {R : Value → Mem → Prop} [hc : Callable P f] (hfn : Fn0 P f vs M R)
    (h : ∀ v M', Prev M' M → R v M' → L P N X ops rest K ((d, v) :: e) M' A) (hx : e.evs xs = some vs := by rfl) (hg : e.want ops g = some true := by rfl) (hn : Nat.blt d N = true := by rfl) : L P N X ops (⟨some d, .call { callee := .value (.func f), args := xs.toArray, argTypes := ts }, ty, pos, aft, g⟩ :: rest) K e M A := L.call0 hx hfn hg hn h
theorem L.cl {f : FuncId} {xs : List Operand} {vs : List Value} {ts : Array TypeId} {H : Hp} {A' : Segs} {R : Value → Mem → Hp → Prop} [hc : Callable P f] (hfn : Fn P f vs M H R) [ht : Take A H A']
    (h : ∀ v M' H', Prev M' M → R v M' H' → L P N X ops rest K ((d, v) :: e) M' (H' :: A')) (hx : e.evs xs = some vs := by rfl) (hg : e.want ops g = some true := by rfl) (hn : Nat.blt d N = true := by rfl) : L P N X ops (⟨some d, .call { callee := .value (.func f), args := xs.toArray, argTypes := ts }, ty, pos, aft, g⟩ :: rest) K e M A := L.call hx hfn hg hn h
theorem L.ap {t el : TypeId} {x y : Operand} {src : Value} {sz by_ m : Nat} {z xs news : List Value} {H : Hp} {A' : Segs} (hv : OwnS el sz v xs H) [hu : Und P t (.slice el)] [hz : Zer P el z] [hsz : Siz P el sz] [hby : Byt P el by_] [hzl : Len z sz] [ht : Take A H A'] (hsrc : Rd X M A src m sz news) [h1 : Ones news]
    (hb : xs.length + news.length ≤ 70368744177664 ∧ (xs.length + news.length) * by_ ≤ 140737488355328)
    (h : ∀ v' H', OwnS el sz v' (xs ++ news) H' → L P N X ops rest K ((d, v') :: e) M (H' :: A')) (hx : e.ev x = some v := by rfl) (hy : e.ev y = some src := by rfl) (hpos : Nat.blt 0 sz = true := by rfl) (hg : e.want ops g = some true := by rfl) (hn : Nat.blt d N = true := by rfl) : L P N X ops (⟨some d, .call { callee := .builtin .append, args := #[x, y], argTypes := #[t, t] }, ty, pos, aft, g⟩ :: rest) K e M A := L.append hx hy hv hsrc hb hpos hg hn h

/-- The order of what is owned does not count for the rule that walks: a walk, as far as it goes by itself. -/
structure Held (q : Prop) : Prop where
  h : q
theorem Ww {p q : Prop} (h : q) (f : Held q → p := by intro h; (repeat (first | refine C.seq ?_ | (refine C.exit ?_; dsimp only; first | rw [if_pos rfl] | (rw [if_neg (by decide), if_pos rfl]) | (rw [if_neg (by decide), if_neg (by decide), if_pos rfl]) | (rw [if_neg (by decide), if_neg (by decide), if_neg (by decide), if_pos rfl])) | refine C.region ?_ | refine C.block ?_ | refine C.skip ?_ | refine C.ret ?_ | (refine L.nil ?_; try dsimp only) | (apply C.condF'; rfl; with_reducible rfl) | (apply C.condT'; rfl; with_reducible rfl) | refine L.qa ?_ | (first | refine L.storeAll rfl rfl rfl ?_ | refine L.store rfl rfl rfl ?_) | refine L.ofa ?_ | refine L.ofn ?_)); exact h.h) : p := f ⟨h⟩
theorem Wg {p q : Prop} (h : q) (f : Held q → p := by intro h; (repeat (first | refine C.seq ?_ | (refine C.exit ?_; dsimp only; first | rw [if_pos rfl] | (rw [if_neg (by decide), if_pos rfl]) | (rw [if_neg (by decide), if_neg (by decide), if_pos rfl]) | (rw [if_neg (by decide), if_neg (by decide), if_neg (by decide), if_pos rfl])) | refine C.region ?_ | refine C.block ?_ | refine C.skip ?_ | refine C.ret ?_ | (refine L.nil ?_; try dsimp only) | (apply C.condF'; rfl; with_reducible rfl) | (apply C.condT'; rfl; with_reducible rfl) | refine L.qg ?_ | (first | refine L.storeAll rfl rfl rfl ?_ | refine L.store rfl rfl rfl ?_) | refine L.ofa ?_ | refine L.ofn ?_)); exact h.h) : p := f ⟨h⟩
theorem Wf {p q : Prop} (h : q) (f : Held q → p := by intro h; (repeat (first | refine C.seq ?_ | (refine C.exit ?_; dsimp only; first | rw [if_pos rfl] | (rw [if_neg (by decide), if_pos rfl]) | (rw [if_neg (by decide), if_neg (by decide), if_pos rfl]) | (rw [if_neg (by decide), if_neg (by decide), if_neg (by decide), if_pos rfl])) | refine C.region ?_ | refine C.block ?_ | refine C.skip ?_ | refine C.ret ?_ | (refine L.nil ?_; try dsimp only) | (apply C.condF'; rfl; with_reducible rfl) | (apply C.condT'; rfl; with_reducible rfl) | refine L.qf ?_ | (first | refine L.storeAll rfl rfl rfl ?_ | refine L.store rfl rfl rfl ?_) | refine L.ofa ?_ | refine L.ofn ?_)); exact h.h) : p := f ⟨h⟩
theorem Wo {p q : Prop} (h : q) (f : Held q → p := by intro h; (first | refine L.qf ?_ | (first | refine L.storeAll rfl rfl rfl ?_ | refine L.store rfl rfl rfl ?_) | refine L.ofa ?_ | refine L.ofn ?_); exact h.h) : p := f ⟨h⟩

/-! ### A call of a function value -/
theorem Qt.closure {f : FuncId} {xs : List Operand} {vs : List Value} (hx : e.evs xs = some vs) : Qt P N e M A ⟨some d, .makeFunc (.func f) #[] xs.toArray, ty, pos, aft, g⟩ (.func (.func f) #[] vs.toArray) := fun a w hf _ _ => run_v (by
  have := hf.evs hx
  simp [Instr.makeFunc, this])
theorem L.fv {f : FuncId} {y : Operand} {xs : List Operand} {vs caps : List Value} {ts : Array TypeId} {H : Hp} {A' : Segs} {R : Value → Mem → Hp → Prop} (hy : e.ev y = some (.func (.func f) #[] caps.toArray)) [hc : Callable P f] (hfn : Fn P f (vs ++ caps) M H R) [ht : Take A H A']
    (h : ∀ v M' H', Prev M' M → R v M' H' → L P N X ops rest K ((d, v) :: e) M' (H' :: A')) (hx : e.evs xs = some vs := by rfl) (hg : e.want ops g = some true := by rfl) (hn : Nat.blt d N = true := by rfl) : L P N X ops (⟨some d, .call { callee := .value y, args := xs.toArray, argTypes := ts }, ty, pos, aft, g⟩ :: rest) K e M A := fun a w hf hs => by
  have hs' := hs.perm ht.perm
  have hok : Ok M H w := by
    have := hs'.toOk
    refine ⟨?_, fun b o hm => this.own b o (List.mem_append_left _ hm), this.mem, fun b o hm => this.dis b o (List.mem_append_left _ hm)⟩
    have hnd := this.nd
    simp only [keys, List.map_append, List.nodup_append] at hnd
    exact hnd.1
  have hcall := hfn w hok
  unfold wpList
  rw [if_pos (want_wanted hf hg)]
  refine .inl ?_
  have hrun : (execOp a.eval ⟨some d, .call { callee := .value y, args := xs.toArray, argTypes := ts }, ty, pos, aft, g⟩).run P w = .ok (.enter f (vs ++ caps).toArray) w := by
    have := hf.evs hx
    have hy' := hf.ev hy
    simp [execOp, resolve, invoke, Deferred.ofValue, run_callFunc, this, hy']
  unfold Oper.wp
  rw [hrun]
  simp only [Oper.upon]
  refine hcall.mono fun ex w' ⟨v, M', H', he, hR, hd⟩ => ?_
  subst he
  have hdone := hs'.call hd
  exact h v M' H' ⟨hd.sub⟩ hR _ _ (hf.put d v hn) hdone
theorem L.fvv {f : FuncId} {y : Operand} {xs : List Operand} {vs caps : List Value} {ts : Array TypeId} (hy : e.ev y = some (.func (.func f) #[] caps.toArray)) [hc : Callable P f] (hfn : Fnv P f (vs ++ caps) M v)
    (h : ∀ M', Prev M' M → L P N X ops rest K ((d, v) :: e) M' A) (hx : e.evs xs = some vs := by rfl) (hg : e.want ops g = some true := by rfl) (hn : Nat.blt d N = true := by rfl) : L P N X ops (⟨some d, .call { callee := .value y, args := xs.toArray, argTypes := ts }, ty, pos, aft, g⟩ :: rest) K e M A :=
  L.fv (H := []) (A' := A) hy hfn (fun u M' H' hp ⟨hH, hu⟩ => by
    subst hH; subst hu
    exact L.perm A (by simp) (h M' hp)) hx hg hn
end

/-! ### Tests that hang on tests -/
inductive Ext (e : Env) : Env → Prop
  | refl : Ext e e
  | cons {e1 : Env} {k : Nat} {v : Value} (hk : e.get k = none) (h : Ext e e1) : Ext e ((k, v) :: e1)
theorem Ext.get {e e1 : Env} (h : Ext e e1) {k : Nat} {v : Value} (hk : e.get k = some v) : e1.get k = some v := by
  induction h with
  | refl => exact hk
  | @cons e1 k' v' hn _ ih =>
    simp only [Env.get]
    cases hb : Nat.beq k' k with
    | true =>
      have : k' = k := Nat.eq_of_beq_eq_true hb
      subst this
      rw [hn] at hk; cases hk
    | false => exact ih
theorem wpList_app {P : Program} {N : Nat} {X : Cx} {K1 K : Kont} {ops : Array Oper} {l2 : List Oper} (h2 : ∀ a w, normOnly N X K1 .normal a w → wpList P ops (normOnly N X K) l2 a w) :
    ∀ (l1 : List Oper) (a : Act) (w : World), wpList P ops (normOnly N X K1) l1 a w → wpList P ops (normOnly N X K) (l1 ++ l2) a w := by
  intro l1
  induction l1 with
  | nil => intro a w h; exact h2 a w h
  | cons o l1 ih =>
    intro a w h
    unfold wpList at h
    show wpList P ops (normOnly N X K) (o :: (l1 ++ l2)) a w
    unfold wpList
    by_cases hw : Region.wanted o (yielded ops a.tmps) = true
    · rw [if_pos hw] at h ⊢
      rcases h with h | ⟨_, a0, w0, h⟩
      · exact .inl (wp_post (Oper.wp_mono (K' := wpList P ops (normOnly N X K) (l1 ++ l2)) (fun a' w' h' => ih a' w' h') h))
      · exact h.elim
    · rw [if_neg hw] at h ⊢
      exact ih _ _ h
/-- What stands behind a part that is guarded, up to the pick: the slots that were there, and the pick's. -/
def Kj (d : Nat) (b : Bool) (e : Env) (M : Mem) (A : Segs) : Kont := fun e1 M1 A1 => Ext e e1 ∧ e1.get d = some (.bool b) ∧ M1 = M ∧ A1 = A
def KjM (d : Nat) (b : Bool) (e : Env) (M : Mem) (A : Segs) : Kont := fun e1 M1 A1 => Ext e e1 ∧ e1.get d = some (.bool b) ∧ Sub M M1 ∧ A1 = A
section
variable {P : Program} {N : Nat} {X : Cx} {K : Kont} {e : Env} {M : Mem} {A : Segs} {ops : Array Oper} {l : List Oper}
theorem L.lgM (n d dj : Nat) {t on b c : Bool} (hd : e.get dj = some (.bool t))
    (hon : t = on → L P N X ops (l.take n) (KjM d b ((dj, .bool on) :: e) M A) ((dj, .bool on) :: e) M A)
    (hoff : t = !on → L P N X ops (l.take n) (KjM d c ((dj, .bool !on) :: e) M A) ((dj, .bool !on) :: e) M A)
    (hr : ∀ M', Prev M' M → L P N X ops (l.drop n) K ((d, .bool (bif t == on then b else c)) :: e) M' A) : L P N X ops l K e M A := by
  have fr : ∀ {e1 : Env} {a : Act} {s r : Bool}, t = s → Ext ((dj, .bool s) :: e) e1 → e1.get d = some (.bool r) → Fr N e1 a → Fr N ((d, .bool r) :: e) a := fun {e1 a s r} hs hx hg hf => ⟨hf.sz, hf.df, fun k v hk => by
    simp only [Env.get] at hk
    cases hb : Nat.beq d k with
    | true =>
      have : d = k := Nat.eq_of_beq_eq_true hb
      subst this
      simp only [hb, cond_true, Option.some.injEq] at hk
      rw [← hk]; exact hf.at_ d _ hg
    | false =>
      simp only [hb, cond_false] at hk
      refine hf.at_ k v (hx.get ?_)
      simp only [Env.get]
      cases hb2 : Nat.beq dj k with
      | true =>
        have : dj = k := Nat.eq_of_beq_eq_true hb2
        subst this
        rw [hd] at hk
        rw [← hs]; exact hk
      | false => exact hk⟩
  have key : ∀ b', t = b' → ∀ a, Fr N e a → Fr N ((dj, .bool b') :: e) a := fun b' hb a hf => ⟨hf.sz, hf.df, fun k v hk => by
    simp only [Env.get] at hk
    cases hbq : Nat.beq dj k with
    | true =>
      have : dj = k := Nat.eq_of_beq_eq_true hbq
      subst this
      simp only [hbq, cond_true, Option.some.injEq] at hk
      rw [← hk, ← hb]; exact hf.at_ dj _ hd
    | false => simp only [hbq, cond_false] at hk; exact hf.at_ k v hk⟩
  intro a w hf hs
  rw [← List.take_append_drop n l]
  by_cases ht : t = on
  · refine wpList_app (K1 := KjM d b ((dj, .bool on) :: e) M A) (fun a' w' h => ?_) _ a w (hon ht a w (key on ht a hf) hs)
    obtain ⟨e1, M1, A1, hf1, hs1, hx, hg, hm, rfl⟩ := h
    have hbc : (bif t == on then b else c) = b := by rw [ht]; cases on <;> rfl
    rw [hbc] at hr
    exact hr M1 ⟨hm.le⟩ a' w' (fr ht hx hg hf1) hs1
  · have ht' : t = !on := by cases t <;> cases on <;> simp_all
    refine wpList_app (K1 := KjM d c ((dj, .bool !on) :: e) M A) (fun a' w' h => ?_) _ a w (hoff ht' a w (key _ ht' a hf) hs)
    obtain ⟨e1, M1, A1, hf1, hs1, hx, hg, hm, rfl⟩ := h
    have hbc : (bif t == on then b else c) = c := by rw [ht']; cases on <;> rfl
    rw [hbc] at hr
    exact hr M1 ⟨hm.le⟩ a' w' (fr ht' hx hg hf1) hs1
theorem L.lgE (n d dj : Nat) {t on b c : Bool} (hd : e.get dj = some (.bool t))
    (hon : t = on → L P N X ops (l.take n) (Kj d b ((dj, .bool on) :: e) M A) ((dj, .bool on) :: e) M A)
    (hoff : t = !on → L P N X ops (l.take n) (Kj d c ((dj, .bool !on) :: e) M A) ((dj, .bool !on) :: e) M A)
    (hr : L P N X ops (l.drop n) K ((d, .bool (bif t == on then b else c)) :: e) M A) : L P N X ops l K e M A := by
  have hr' : ∀ M', M' = M → L P N X ops (l.drop n) K ((d, .bool (bif t == on then b else c)) :: e) M' A := fun M' h => h ▸ hr
  have fr : ∀ {e1 : Env} {a : Act} {s r : Bool}, t = s → Ext ((dj, .bool s) :: e) e1 → e1.get d = some (.bool r) → Fr N e1 a → Fr N ((d, .bool r) :: e) a := fun {e1 a s r} hs hx hg hf => ⟨hf.sz, hf.df, fun k v hk => by
    simp only [Env.get] at hk
    cases hb : Nat.beq d k with
    | true =>
      have : d = k := Nat.eq_of_beq_eq_true hb
      subst this
      simp only [hb, cond_true, Option.some.injEq] at hk
      rw [← hk]; exact hf.at_ d _ hg
    | false =>
      simp only [hb, cond_false] at hk
      refine hf.at_ k v (hx.get ?_)
      simp only [Env.get]
      cases hb2 : Nat.beq dj k with
      | true =>
        have : dj = k := Nat.eq_of_beq_eq_true hb2
        subst this
        rw [hd] at hk
        rw [← hs]; exact hk
      | false => exact hk⟩
  have key : ∀ b', t = b' → ∀ a, Fr N e a → Fr N ((dj, .bool b') :: e) a := fun b' hb a hf => ⟨hf.sz, hf.df, fun k v hk => by
    simp only [Env.get] at hk
    cases hbq : Nat.beq dj k with
    | true =>
      have : dj = k := Nat.eq_of_beq_eq_true hbq
      subst this
      simp only [hbq, cond_true, Option.some.injEq] at hk
      rw [← hk, ← hb]; exact hf.at_ dj _ hd
    | false => simp only [hbq, cond_false] at hk; exact hf.at_ k v hk⟩
  intro a w hf hs
  rw [← List.take_append_drop n l]
  by_cases ht : t = on
  · refine wpList_app (K1 := Kj d b ((dj, .bool on) :: e) M A) (fun a' w' h => ?_) _ a w (hon ht a w (key on ht a hf) hs)
    obtain ⟨e1, M1, A1, hf1, hs1, hx, hg, rfl, rfl⟩ := h
    have hbc : (bif t == on then b else c) = b := by rw [ht]; cases on <;> rfl
    rw [hbc] at hr'
    exact hr' M1 rfl a' w' (fr ht hx hg hf1) hs1
  · have ht' : t = !on := by cases t <;> cases on <;> simp_all
    refine wpList_app (K1 := Kj d c ((dj, .bool !on) :: e) M A) (fun a' w' h => ?_) _ a w (hoff ht' a w (key _ ht' a hf) hs)
    obtain ⟨e1, M1, A1, hf1, hs1, hx, hg, rfl, rfl⟩ := h
    have hbc : (bif t == on then b else c) = c := by rw [ht']; cases on <;> rfl
    rw [hbc] at hr'
    exact hr' M1 rfl a' w' (fr ht' hx hg hf1) hs1
theorem Kj.mk {d : Nat} {b : Bool} {e e1 : Env} {M : Mem} {A : Segs} (hg : e1.get d = some (.bool b) := by rfl) (h : Ext e e1 := by repeat (first | exact Ext.refl | refine Ext.cons rfl ?_)) : Kj d b e M A e1 M A := ⟨h, hg, rfl, rfl⟩
theorem KjM.mk {d : Nat} {b : Bool} {e e1 : Env} {M M1 : Mem} {A : Segs} [s : Sub M M1] (hg : e1.get d = some (.bool b) := by rfl) (h : Ext e e1 := by repeat (first | exact Ext.refl | refine Ext.cons rfl ?_)) : KjM d b e M A e1 M1 A := ⟨h, hg, s, rfl⟩
/-- and: what stands behind is looked at only where t is true. -/
theorem L.and (n d dj : Nat) {t b : Bool} (hr : L P N X ops (l.drop n) K ((d, .bool (t && b)) :: e) M A) (hon : t = true → L P N X ops (l.take n) (Kj d b ((dj, .bool true) :: e) M A) ((dj, .bool true) :: e) M A := by intro h; (try simp only [Bool.and_eq_true, Bool.or_eq_false_iff, decide_eq_true_eq, decide_eq_false_iff_not] at h); (repeat (first | refine C.seq ?_ | (refine C.exit ?_; dsimp only; first | rw [if_pos rfl] | (rw [if_neg (by decide), if_pos rfl]) | (rw [if_neg (by decide), if_neg (by decide), if_pos rfl]) | (rw [if_neg (by decide), if_neg (by decide), if_neg (by decide), if_pos rfl])) | refine C.region ?_ | refine C.block ?_ | refine C.skip ?_ | refine C.ret ?_ | (refine L.nil ?_; try dsimp only) | (apply C.condF'; rfl; with_reducible rfl) | (apply C.condT'; rfl; with_reducible rfl) | refine L.qf ?_ | (first | refine L.storeAll rfl rfl rfl ?_ | refine L.store rfl rfl rfl ?_) | refine L.ofa ?_ | refine L.ofn ?_)); exact Kj.mk)
    (hoff : t = false → L P N X ops (l.take n) (Kj d false ((dj, .bool false) :: e) M A) ((dj, .bool false) :: e) M A := by intro h; (try simp only [Bool.and_eq_true, Bool.or_eq_false_iff, decide_eq_true_eq, decide_eq_false_iff_not] at h); (repeat (first | refine C.seq ?_ | (refine C.exit ?_; dsimp only; first | rw [if_pos rfl] | (rw [if_neg (by decide), if_pos rfl]) | (rw [if_neg (by decide), if_neg (by decide), if_pos rfl]) | (rw [if_neg (by decide), if_neg (by decide), if_neg (by decide), if_pos rfl])) | refine C.region ?_ | refine C.block ?_ | refine C.skip ?_ | refine C.ret ?_ | (refine L.nil ?_; try dsimp only) | (apply C.condF'; rfl; with_reducible rfl) | (apply C.condT'; rfl; with_reducible rfl) | refine L.qf ?_ | (first | refine L.storeAll rfl rfl rfl ?_ | refine L.store rfl rfl rfl ?_) | refine L.ofa ?_ | refine L.ofn ?_)); exact Kj.mk) (hd : e.get dj = some (.bool t) := by rfl) : L P N X ops l K e M A :=
  L.lgE (on := true) n d dj hd hon hoff (by have : (bif t == true then b else false) = (t && b) := by cases t <;> rfl
                                            rw [this]; exact hr)
/-- or: what stands behind is looked at only where t is false. -/
theorem L.or (n d dj : Nat) {t b : Bool} (hr : L P N X ops (l.drop n) K ((d, .bool (t || b)) :: e) M A) (hon : t = false → L P N X ops (l.take n) (Kj d b ((dj, .bool false) :: e) M A) ((dj, .bool false) :: e) M A := by intro h; (try simp only [Bool.and_eq_true, Bool.or_eq_false_iff, decide_eq_true_eq, decide_eq_false_iff_not] at h); (repeat (first | refine C.seq ?_ | (refine C.exit ?_; dsimp only; first | rw [if_pos rfl] | (rw [if_neg (by decide), if_pos rfl]) | (rw [if_neg (by decide), if_neg (by decide), if_pos rfl]) | (rw [if_neg (by decide), if_neg (by decide), if_neg (by decide), if_pos rfl])) | refine C.region ?_ | refine C.block ?_ | refine C.skip ?_ | refine C.ret ?_ | (refine L.nil ?_; try dsimp only) | (apply C.condF'; rfl; with_reducible rfl) | (apply C.condT'; rfl; with_reducible rfl) | refine L.qf ?_ | (first | refine L.storeAll rfl rfl rfl ?_ | refine L.store rfl rfl rfl ?_) | refine L.ofa ?_ | refine L.ofn ?_)); exact Kj.mk)
    (hoff : t = true → L P N X ops (l.take n) (Kj d true ((dj, .bool true) :: e) M A) ((dj, .bool true) :: e) M A := by intro h; (try simp only [Bool.and_eq_true, Bool.or_eq_false_iff, decide_eq_true_eq, decide_eq_false_iff_not] at h); (repeat (first | refine C.seq ?_ | (refine C.exit ?_; dsimp only; first | rw [if_pos rfl] | (rw [if_neg (by decide), if_pos rfl]) | (rw [if_neg (by decide), if_neg (by decide), if_pos rfl]) | (rw [if_neg (by decide), if_neg (by decide), if_neg (by decide), if_pos rfl])) | refine C.region ?_ | refine C.block ?_ | refine C.skip ?_ | refine C.ret ?_ | (refine L.nil ?_; try dsimp only) | (apply C.condF'; rfl; with_reducible rfl) | (apply C.condT'; rfl; with_reducible rfl) | refine L.qf ?_ | (first | refine L.storeAll rfl rfl rfl ?_ | refine L.store rfl rfl rfl ?_) | refine L.ofa ?_ | refine L.ofn ?_)); exact Kj.mk) (hd : e.get dj = some (.bool t) := by rfl) : L P N X ops l K e M A :=
  L.lgE (on := false) n d dj hd hon hoff (by have : (bif t == false then b else true) = (t || b) := by cases t <;> rfl
                                             rw [this]; exact hr)
theorem L.andH (n d dj : Nat) {t b : Bool} (hd : e.get dj = some (.bool t)) (hon : t = true → L P N X ops (l.take n) (Kj d b ((dj, .bool true) :: e) M A) ((dj, .bool true) :: e) M A) (hr : L P N X ops (l.drop n) K ((d, .bool (t && b)) :: e) M A)
    (hoff : t = false → L P N X ops (l.take n) (Kj d false ((dj, .bool false) :: e) M A) ((dj, .bool false) :: e) M A := by intro h; (try simp only [Bool.and_eq_true, Bool.or_eq_false_iff, decide_eq_true_eq, decide_eq_false_iff_not] at h); (repeat (first | refine C.seq ?_ | (refine C.exit ?_; dsimp only; first | rw [if_pos rfl] | (rw [if_neg (by decide), if_pos rfl]) | (rw [if_neg (by decide), if_neg (by decide), if_pos rfl]) | (rw [if_neg (by decide), if_neg (by decide), if_neg (by decide), if_pos rfl])) | refine C.region ?_ | refine C.block ?_ | refine C.skip ?_ | refine C.ret ?_ | (refine L.nil ?_; try dsimp only) | (apply C.condF'; rfl; with_reducible rfl) | (apply C.condT'; rfl; with_reducible rfl) | refine L.qf ?_ | (first | refine L.storeAll rfl rfl rfl ?_ | refine L.store rfl rfl rfl ?_) | refine L.ofa ?_ | refine L.ofn ?_)); exact Kj.mk) : L P N X ops l K e M A := L.and n d dj hr hon hoff hd
theorem L.orH (n d dj : Nat) {t b : Bool} (hd : e.get dj = some (.bool t)) (hon : t = false → L P N X ops (l.take n) (Kj d b ((dj, .bool false) :: e) M A) ((dj, .bool false) :: e) M A) (hr : L P N X ops (l.drop n) K ((d, .bool (t || b)) :: e) M A)
    (hoff : t = true → L P N X ops (l.take n) (Kj d true ((dj, .bool true) :: e) M A) ((dj, .bool true) :: e) M A := by intro h; (try simp only [Bool.and_eq_true, Bool.or_eq_false_iff, decide_eq_true_eq, decide_eq_false_iff_not] at h); (repeat (first | refine C.seq ?_ | (refine C.exit ?_; dsimp only; first | rw [if_pos rfl] | (rw [if_neg (by decide), if_pos rfl]) | (rw [if_neg (by decide), if_neg (by decide), if_pos rfl]) | (rw [if_neg (by decide), if_neg (by decide), if_neg (by decide), if_pos rfl])) | refine C.region ?_ | refine C.block ?_ | refine C.skip ?_ | refine C.ret ?_ | (refine L.nil ?_; try dsimp only) | (apply C.condF'; rfl; with_reducible rfl) | (apply C.condT'; rfl; with_reducible rfl) | refine L.qf ?_ | (first | refine L.storeAll rfl rfl rfl ?_ | refine L.store rfl rfl rfl ?_) | refine L.ofa ?_ | refine L.ofn ?_)); exact Kj.mk) : L P N X ops l K e M A := L.or n d dj hr hon hoff hd
theorem L.andM (n d dj : Nat) {t b : Bool} (hd : e.get dj = some (.bool t)) (hon : t = true → L P N X ops (l.take n) (KjM d b ((dj, .bool true) :: e) M A) ((dj, .bool true) :: e) M A) (hr : ∀ M', Prev M' M → L P N X ops (l.drop n) K ((d, .bool (t && b)) :: e) M' A)
    (hoff : t = false → L P N X ops (l.take n) (KjM d false ((dj, .bool false) :: e) M A) ((dj, .bool false) :: e) M A := by intro h; (repeat (first | refine C.seq ?_ | (refine C.exit ?_; dsimp only; first | rw [if_pos rfl] | (rw [if_neg (by decide), if_pos rfl]) | (rw [if_neg (by decide), if_neg (by decide), if_pos rfl]) | (rw [if_neg (by decide), if_neg (by decide), if_neg (by decide), if_pos rfl])) | refine C.region ?_ | refine C.block ?_ | refine C.skip ?_ | refine C.ret ?_ | (refine L.nil ?_; try dsimp only) | (apply C.condF'; rfl; with_reducible rfl) | (apply C.condT'; rfl; with_reducible rfl) | refine L.qf ?_ | (first | refine L.storeAll rfl rfl rfl ?_ | refine L.store rfl rfl rfl ?_) | refine L.ofa ?_ | refine L.ofn ?_)); exact KjM.mk) : L P N X ops l K e M A :=
  L.lgM (on := true) n d dj hd hon hoff (by have : (bif t == true then b else false) = (t && b) := by cases t <;> rfl
                                            rw [this]; exact hr)
theorem L.orM (n d dj : Nat) {t b : Bool} (hd : e.get dj = some (.bool t)) (hon : t = false → L P N X ops (l.take n) (KjM d b ((dj, .bool false) :: e) M A) ((dj, .bool false) :: e) M A) (hr : ∀ M', Prev M' M → L P N X ops (l.drop n) K ((d, .bool (t || b)) :: e) M' A)
    (hoff : t = true → L P N X ops (l.take n) (KjM d true ((dj, .bool true) :: e) M A) ((dj, .bool true) :: e) M A := by intro h; (repeat (first | refine C.seq ?_ | (refine C.exit ?_; dsimp only; first | rw [if_pos rfl] | (rw [if_neg (by decide), if_pos rfl]) | (rw [if_neg (by decide), if_neg (by decide), if_pos rfl]) | (rw [if_neg (by decide), if_neg (by decide), if_neg (by decide), if_pos rfl])) | refine C.region ?_ | refine C.block ?_ | refine C.skip ?_ | refine C.ret ?_ | (refine L.nil ?_; try dsimp only) | (apply C.condF'; rfl; with_reducible rfl) | (apply C.condT'; rfl; with_reducible rfl) | refine L.qf ?_ | (first | refine L.storeAll rfl rfl rfl ?_ | refine L.store rfl rfl rfl ?_) | refine L.ofa ?_ | refine L.ofn ?_)); exact KjM.mk) : L P N X ops l K e M A :=
  L.lgM (on := false) n d dj hd hon hoff (by have : (bif t == false then b else true) = (t || b) := by cases t <;> rfl
                                             rw [this]; exact hr)
/-- A round of a loop is about to begin. -/
def CB (P : Program) (N : Nat) (X : Cx) (c : Code) (Q : Post) : Kont := fun e M A => ∀ a w, Fr N e a → St X M A w → ∀ b k cs, ∃ ex a' w', Q.lift N X ex a' w' ∧ Arrives P (lone (b.at a (.code c :: .inLoop c :: k)) cs w) b k cs ex a' w'
theorem C.loopB {Q : Post} {c : Code} (h : CB P N X c Q e M A) : C P N X (.loop c) Q e M A := fun a w hf hs b k cs => by
  obtain ⟨ex, a', w', hq, harr⟩ := h a w hf hs b k cs
  exact ⟨ex, a', w', hq, .of_steps (.one step_loop) harr⟩
theorem CB.next {Q : Post} {c : Code} (h : C P N X c { Q with norm := CB P N X c Q } e M A) : CB P N X c Q e M A := fun a w hf hs b k cs => by
  obtain ⟨ex, a1, w1, hq, harr⟩ := h a w hf hs b (.inLoop c :: k) cs
  cases ex with
  | normal =>
    obtain ⟨e1, M1, A1, hf1, hs1, hk⟩ := hq
    obtain ⟨ex2, a2, w2, hq2, harr2⟩ := hk a1 w1 hf1 hs1 b k cs
    exact ⟨ex2, a2, w2, hq2, .of_steps (Steps.trans harr (.one step_inLoop)) harr2⟩
  | exit id => exact ⟨.exit id, a1, w1, hq, .pass (x := .inLoop c) rfl (fun _ _ => .inl (by simp)) harr⟩
  | goto l => exact hq.elim
  | ret => exact ⟨.ret, a1, w1, hq, .pass (x := .inLoop c) rfl (fun _ _ => .inl (by simp)) harr⟩
  | panic ch => exact hq.elim
  | outgrown => exact hq.elim
end

attribute [irreducible] CB

/-! ### What is owned, in another order -/
class PermS (A B : Segs) : Prop where
  perm : A.flatten.Perm B.flatten
instance PermS.nil : PermS [] [] := ⟨List.Perm.refl _⟩
instance PermS.cons {A A' B : Segs} {H : Hp} [t : Take A H A'] [h : PermS A' B] : PermS A (H :: B) := ⟨t.perm.trans (by simpa using List.Perm.append_left H h.perm)⟩
instance (priority := high) PermS.same {A : Segs} : PermS A A := ⟨List.Perm.refl _⟩
theorem PermS.go {A B : Segs} [h : PermS A B] : A.flatten.Perm B.flatten := h.perm
theorem Rd.row {X : Cx} {M M1 : Mem} {A : Segs} {b n c sz : Nat} {cl : List Value} {T : TypeId} {fr : Nat × Nat} (hb : At M1 b (.cells cl.toArray T fr)) [s : Sub M1 M] (hl : cl.length = n * sz := by first | rfl | simp) : Rd X M A (.slice (some ⟨b, 0, none⟩) n c) n sz cl :=
  Rd.ofM hb (by rw [List.drop_zero, ← hl, List.take_length]) (by omega)

/-- What is owned, in another order, and some of it forgotten. -/
class Forget (A B : Segs) : Prop where
  perm : ∃ J : Hp, A.flatten.Perm (J ++ B.flatten)
instance Forget.nil {A : Segs} : Forget A [] := ⟨A.flatten, by simp⟩
instance Forget.cons {A A' B : Segs} {H : Hp} [t : Take A H A'] [h : Forget A' B] : Forget A (H :: B) := ⟨by
  obtain ⟨J, hp⟩ := h.perm
  refine ⟨J, t.perm.trans ((List.Perm.append_left H hp).trans ?_)⟩
  rw [List.flatten_cons, ← List.append_assoc, ← List.append_assoc]
  exact List.Perm.append_right _ List.perm_append_comm⟩
instance (priority := high) Forget.same {A : Segs} : Forget A A := ⟨[], List.Perm.refl _⟩
theorem Forget.go {A B : Segs} [h : Forget A B] : ∃ J : Hp, A.flatten.Perm (J ++ B.flatten) := h.perm
theorem Forget.rf {A : Segs} : ∃ J : Hp, A.flatten.Perm (J ++ A.flatten) := ⟨[], List.Perm.refl _⟩
theorem Cx.In.mono {N : Nat} {X : Cx} {K K' : Kont} {a : Act} {w : World} (h : ∀ e M A, K' e M A → ∃ A2, (∃ J : Hp, A.flatten.Perm (J ++ A2.flatten)) ∧ K e M A2) (hi : Cx.In N X K' a w) : Cx.In N X K a w := by
  obtain ⟨e, M, A, hf, hs, hk⟩ := hi
  obtain ⟨A2, ⟨J, hp⟩, hk2⟩ := h e M A hk
  exact ⟨e, M, A2, hf, (hs.perm hp).drop, hk2⟩
/-- THE LOOP: s says how far it has come; what is owned beside it is forgotten. -/
theorem C.loopF {P : Program} {N : Nat} {X : Cx} {Q : Post} {e : Env} {M : Mem} {A : Segs} {σ : Type} {c : Code} (E : σ → Env) (F : σ → Segs) (J : σ → Mem → Prop) (μ : σ → Nat) (s0 : σ) (he : Env.Has (E s0) e) (ha : ∃ J : Hp, A.flatten.Perm (J ++ (F s0).flatten)) (hj : J s0 M)
    (round : ∀ s M', Prev M' M → J s M' →
      C P N X c { Q with norm := fun e1 M1 A1 => ∃ s1, Env.Has (E s1) e1 ∧ (∃ J : Hp, A1.flatten.Perm (J ++ (F s1).flatten)) ∧ Sub M M1 ∧ J s1 M1 ∧ μ s1 < μ s } (E s) M' (F s)) : C P N X (.loop c) Q e M A := fun a w hf hs => by
  obtain ⟨JJ, hp⟩ := ha
  refine (show C P N X (.loop c) Q e M (F s0) from ?_) a w hf (hs.perm hp).drop
  refine C.loop E F J μ s0 he (List.Perm.refl _) hj fun s M' hM hJ a w hf hs => ?_
  refine wp_mono (round s M' hM hJ a w hf hs) fun ex a' w' hq => ?_
  cases ex with
  | normal =>
    refine Cx.In.mono (fun e1 M1 A1 hk => ?_) hq
    obtain ⟨s1, h1, h2, h3, h4, h5⟩ := hk
    exact ⟨F s1, h2, s1, h1, List.Perm.refl _, h3, h4, h5⟩
  | ret => exact hq
  | exit i => exact hq
  | goto l => exact hq.elim
  | panic c => exact hq.elim
  | outgrown => exact hq.elim

theorem C.as {P : Program} {N : Nat} {X : Cx} {Q : Post} {e : Env} {M : Mem} {A : Segs} {c : Code} (e2 : Env) (A2 : Segs) (h : C P N X c Q e2 M A2) (he : e2 = e := by rfl) (hA : A2 = A := by rfl) : C P N X c Q e M A := by subst he; subst hA; exact h
/-- A cut that keeps the slots: what stands behind is proved once. -/
theorem C.cutE {P : Program} {N : Nat} {X : Cx} {Q : Post} {e : Env} {M : Mem} {A : Segs} {c : Code} (Kc : Mem → Segs → Prop)
    (h : C P N X c { Q with norm := fun e' M' A' => Ext e e' ∧ Sub M M' ∧ ∃ A2 : Segs, (∃ J : Hp, A'.flatten.Perm (J ++ A2.flatten)) ∧ Kc M' A2 } e M A) (hr : ∀ M' A2, Prev M' M → Kc M' A2 → Q.norm e M' A2) : C P N X c Q e M A := fun a w hf hs => by
  refine wp_mono (h a w hf hs) fun ex a' w' hq => ?_
  cases ex with
  | normal =>
    obtain ⟨e', M', A', hf', hs', hx, hm, A2, ⟨J, hp⟩, hk⟩ := hq
    exact ⟨e, M', A2, ⟨hf'.sz, hf'.df, fun t v ht => hf'.at_ t v (hx.get ht)⟩, (hs'.perm hp).drop, hr M' A2 ⟨hm.le⟩ hk⟩
  | ret => exact hq
  | exit i => exact hq
  | goto l => exact hq.elim
  | panic c => exact hq.elim
  | outgrown => exact hq.elim

/-! ### What was owned stays from here on -/
section
variable {P : Program} {N : Nat} {X : Cx} {Q : Post} {K : Kont} {e : Env} {M : Mem} {A A' : Segs} {ops : Array Oper} {l : List Oper}
theorem OwnS.frzW {el : TypeId} {sz n : Nat} {v : Value} {xs : List Value} {H : Hp} {w : World} (hv : OwnS el sz v xs H) [t : Take A H A'] (hn : xs.length = n * sz) (hpos : 0 < sz) (hst : St X M A w) :
    ∃ M', Prev M' M ∧ SlM M' sz v n xs ∧ St X M' A' w := by
  have hst' : Done X.M0 X.H0 X.w0 M (H ++ A'.flatten) w := hst.perm t.perm
  rcases hv with ⟨rfl, rfl, rfl⟩ | ⟨b, m, cap, spare, rfl, h1, h2, h3, h4, rfl⟩
  · exact ⟨M, ⟨fun _ _ h => h⟩, SlM.ofOwn (el := el) hn hpos (.inl ⟨rfl, rfl⟩), hst'⟩
  · obtain ⟨M', hp, hM, hst2⟩ := freeze_alloc (X := X) (A := A') hst'
    exact ⟨M', hp, SlM.ofOwn (el := el) hn hpos (.inr ⟨b, m, cap, spare, rfl, h1, h2, h3, h4, hM⟩), hst2⟩
theorem OwnS.frzC {c : Code} {el : TypeId} {sz : Nat} {v : Value} {xs : List Value} {H : Hp} (n : Nat) (hv : OwnS el sz v xs H) [t : Take A H A'] (hn : xs.length = n * sz) (hpos : 0 < sz) (h : ∀ M', Prev M' M → SlM M' sz v n xs → C P N X c Q e M' A') : C P N X c Q e M A := fun a w hf hs => by
  obtain ⟨M', hp, hv', hs'⟩ := hv.frzW hn hpos hs
  exact h M' hp hv' a w hf hs'
theorem OwnS.frzL {el : TypeId} {sz : Nat} {v : Value} {xs : List Value} {H : Hp} (n : Nat) (hv : OwnS el sz v xs H) [t : Take A H A'] (hn : xs.length = n * sz) (hpos : 0 < sz) (h : ∀ M', Prev M' M → SlM M' sz v n xs → L P N X ops l K e M' A') : L P N X ops l K e M A := fun a w hf hs => by
  obtain ⟨M', hp, hv', hs'⟩ := hv.frzW hn hpos hs
  exact h M' hp hv' a w hf hs'
theorem L.frz (b : Nat) {o : Obj} [t : TakeB A b o A'] (h : ∀ M', Prev M' M → At M' b o → L P N X ops l K e M' A') : L P N X ops l K e M A := fun a w hf hs => by
  obtain ⟨M', hp, hM, hst2⟩ := freeze_alloc (X := X) (A := A') (hs.perm t.perm)
  exact h M' hp hM a w hf hst2
theorem Qt.lenOwn {t el el' : TypeId} {x : Operand} {v : Value} {sz n d : Nat} {xs : List Value} {H : Hp} {ty : TypeId} {pos : String} {aft : Array Edge} {g : Option (Nat × Bool)} (hx : e.ev x = some v) (h : OwnS el sz v xs H) (hn : xs.length = n * sz) (hpos : 0 < sz) [hu : Und P t (.slice el')] : Qt P N e M A ⟨some d, .call { callee := .builtin .len, args := #[x], argTypes := #[t] }, ty, pos, aft, g⟩ (int64 n) := by
  rcases h with ⟨rfl, rfl, _⟩ | ⟨b, m, c, sp, rfl, h1, _⟩
  · have : n = 0 := by
      rcases Nat.eq_zero_or_pos n with h | h
      · exact h
      · have := Nat.mul_pos h hpos; simp at hn; omega
    subst this
    exact Qt.len hx
  · have : m = n := Nat.eq_of_mul_eq_mul_right hpos (by omega)
    subst this
    exact Qt.len hx
end
/-! ### Words of 32 bits -/
def or32 (x y : Int) : Int := IntKind.u32.wrap (BitVec.ofInt IntKind.u32.bits x ||| BitVec.ofInt IntKind.u32.bits y).toNat
def xor32 (x y : Int) : Int := IntKind.u32.wrap (BitVec.ofInt IntKind.u32.bits x ^^^ BitVec.ofInt IntKind.u32.bits y).toNat
def and32 (x y : Int) : Int := IntKind.u32.wrap (BitVec.ofInt IntKind.u32.bits x &&& BitVec.ofInt IntKind.u32.bits y).toNat
def not32 (x : Int) : Int := IntKind.u32.wrap (BitVec.ofInt IntKind.u32.bits (if IntKind.u32.signed then -1 else IntKind.u32.max) ^^^ BitVec.ofInt IntKind.u32.bits x).toNat
def shl32 (x s : Int) : Int := IntKind.u32.wrap (x * 2 ^ min s.toNat IntKind.u32.bits)
def shr32 (x s : Int) : Int := x.fdiv (2 ^ min s.toNat IntKind.u32.bits)
def add32 (x y : Int) : Int := IntKind.u32.wrap (x + y)
def c32 (x : Int) : Int := IntKind.u32.wrap x
def c8 (x : Int) : Int := IntKind.u8.wrap x
section
variable {P : Program} {N : Nat} {e : Env} {M : Mem} {A : Segs} {d : Nat} {ty : TypeId} {pos : String} {aft : Array Edge} {g : Option (Nat × Bool)}
variable {xt : TypeId} {x y : Operand} {a b : Int} {k2 : IntKind}
theorem BinRun.add32 : BinRun P .add xt x y (.int .u32 a) (.int .u32 b) (.int .u32 (add32 a b)) := BinRun.add rfl
theorem BinRun.or32 : BinRun P .or xt x y (.int .u32 a) (.int .u32 b) (.int .u32 (or32 a b)) := BinRun.or rfl
theorem BinRun.xor32 : BinRun P .xor xt x y (.int .u32 a) (.int .u32 b) (.int .u32 (xor32 a b)) := BinRun.xor rfl
theorem BinRun.and32 : BinRun P .and xt x y (.int .u32 a) (.int .u32 b) (.int .u32 (and32 a b)) := BinRun.and rfl
theorem BinRun.shl32 (h : 0 ≤ b) : BinRun P .shl xt x y (.int .u32 a) (.int k2 b) (.int .u32 (shl32 a b)) := BinRun.shl h rfl
theorem BinRun.shr32 (h : 0 ≤ b) : BinRun P .shr xt x y (.int .u32 a) (.int k2 b) (.int .u32 (shr32 a b)) := BinRun.shr h rfl
theorem Qt.not32 {xt : TypeId} {x : Operand} {n : Int} (hx : e.ev x = some (.int .u32 n)) : Qt P N e M A ⟨some d, .unOp .xor xt x, ty, pos, aft, g⟩ (.int .u32 (not32 n)) := Qt.unXor hx rfl
theorem Qt.conv32 {src dst : TypeId} {k : IntKind} {n : Int} [hs : Und P src (.int k)] [hd : Und P dst (.int .u32)] (hx : e.ev x = some (.int k n)) : Qt P N e M A ⟨some d, .convert src dst x, ty, pos, aft, g⟩ (.int .u32 (c32 n)) := Qt.convInt hx rfl
theorem Qt.conv8 {src dst : TypeId} {k : IntKind} {n : Int} [hs : Und P src (.int k)] [hd : Und P dst (.int .u8)] (hx : e.ev x = some (.int k n)) : Qt P N e M A ⟨some d, .convert src dst x, ty, pos, aft, g⟩ (.int .u8 (c8 n)) := Qt.convInt hx rfl
end
attribute [irreducible] or32 xor32 and32 not32 shl32 shr32 add32 c32
end Go.Proofs.Ytdgdigliepncpaa
