/-
  This text proves one rule for each operation on a map that the call owns or that is nil: make, look up, store, delete, and the walk over its entries in whatever order.
  Conditions: none; nothing here names the program.
-/
import Derived.Test.YtdgdigliepncpaaEq
import Derived.Test.YtdgdigliepncpaaApp
namespace Go.Proofs.Ytdgdigliepncpaa
open Go
attribute [local semireducible] C L Qt BinRun

variable {κ : Type}

/-- A map's entries: when each was born, its key, its element. -/
def entO (enc : κ → Value) (x : Nat × κ × Value) : MapEntry := ⟨enc x.2.1, x.2.2, x.1⟩
def mapO (enc : κ → Value) (l : List (Nat × κ × Value)) (c : Nat) : Obj := .map (l.map (entO enc)).toArray c

section
variable [DecidableEq κ]
variable {ν : Type}
def findM (k : κ) : List (Nat × κ × ν) → Nat → Option (Nat × ν)
  | [], _ => none
  | x :: l, i => if k = x.2.1 then some (i, x.2.2) else findM k l (i + 1)
def lookM (k : κ) : List (Nat × κ × ν) → Option ν
  | [] => none
  | x :: l => if k = x.2.1 then some x.2.2 else lookM k l
def putM (k : κ) (v : ν) (c : Nat) : List (Nat × κ × ν) → List (Nat × κ × ν)
  | [] => [(c, k, v)]
  | x :: l => if k = x.2.1 then (x.1, k, v) :: l else x :: putM k v c l
def delM (k : κ) : List (Nat × κ × ν) → List (Nat × κ × ν)
  | [] => []
  | x :: l => if k = x.2.1 then l else x :: delM k l
/-- The clock behind a store. -/
def clockM (k : κ) (l : List (Nat × κ × ν)) (c : Nat) : Nat := if (lookM k l).isSome then c else c + 1

theorem findM_look (k : κ) : ∀ (l : List (Nat × κ × ν)) (i : Nat), (findM k l i).map (·.2) = lookM k l
  | [], _ => rfl
  | x :: l, i => by
    unfold findM lookM
    split
    · rfl
    · exact findM_look k l (i + 1)
end

/-- The keys' type: how a key is checked and found. -/
class KeyT (P : Program) (kt : TypeId) (enc : κ → Value) [DecidableEq κ] : Prop where
  check : ∀ b k w, (Instr.checkKey b 10000 kt (enc k)).run P w = .ok () w
  find : ∀ k (l : List (Nat × κ × Value)) w, (Instr.findKey kt (enc k) (l.map (entO enc))).run P w = .ok (findM k l 0) w
  bits : ∀ k, Instr.sameBits 10000 (enc k) (enc k) = true

/-- The zero of a map's elements. -/
class Zv (P : Program) (t : TypeId) (v : outParam Value) : Prop where
  eq : (P.info? t).bind (·.zero) = some v

theorem run_zeroV {P : Program} {t : TypeId} {v : Value} [h : Zv P t v] (w : World) : (zeroValue t).run P w = .ok v w := by
  have hh := h.eq
  cases hi : P.info? t with
  | none => rw [hi] at hh; cases hh
  | some i =>
    rw [hi] at hh
    simp only [Option.bind_some] at hh
    simp [zeroValue, typeInfo, hi, hh]

def intK (k : IntKind) (n : Int) : Value := .int k n
def pairK (p : Int × Int) : Value := aggv [.int .i64 p.1, .int .i64 p.2]

theorem findNow_int {k : IntKind} (n : Int) : ∀ (l : List (Nat × Int × Value)) (i : Nat), Instr.findNow (.int k) (intK k n) (l.map (entO (intK k))) i = some (findM n l i)
  | [], _ => rfl
  | x :: l, i => by
    simp only [List.map_cons, Instr.findNow, entO, intK, Instr.sameNow, if_true, findM]
    by_cases h : n = x.2.1
    · simp [h]
    · simp only [h, if_false]
      rw [show (n == x.2.1) = false by simp [h]]
      exact findNow_int n l (i + 1)
theorem checkKey_int {P : Program} {kt : TypeId} {k : IntKind} [hu : Und P kt (.int k)] (b : Bool) (d : Nat) (n : Int) (w : World) : (Instr.checkKey b (d + 1) kt (.int k n)).run P w = .ok () w := by
  simp [Instr.checkKey, run_underlying hu.eq]
instance KeyT.int {P : Program} {kt : TypeId} {k : IntKind} [hu : Und P kt (.int k)] : KeyT P kt (intK k) where
  check b n w := checkKey_int b 9999 n w
  find n l w := by
    simp only [Instr.findKey, Sem.run_bind, run_underlying hu.eq, Result.andThen_ok]
    rw [findNow_int]; rfl
  bits n := by simp [intK, Instr.sameBits]

theorem findAsking_of {P : Program} {kt : TypeId} {enc : κ → Value} [DecidableEq κ] (he : ∀ a b w, (Op.equal kt (enc a) (enc b)).run P w = .ok (decide (a = b)) w) (k : κ) :
    ∀ (l : List (Nat × κ × Value)) (i : Nat) (w : World), (Instr.findAsking kt (enc k) (l.map (entO enc)) i).run P w = .ok (findM k l i) w
  | [], _, _ => rfl
  | x :: l, i, w => by
    simp only [List.map_cons, Instr.findAsking, entO, Sem.run_bind, he, Result.andThen_ok, findM]
    by_cases h : k = x.2.1
    · simp [h]
    · simp only [h, decide_false, Bool.false_eq_true, if_false]
      exact findAsking_of he k l (i + 1) w

theorem pairK_eq {P : Program} {kt : TypeId} [hl : Lvs P kt [.int .i64, .int .i64]] (a b : Int × Int) (w : World) : (Op.equal kt (pairK a) (pairK b)).run P w = .ok (decide (a = b)) w := by
  refine Lvs.run (Fits.i (Fits.i .nil)) (Fits.i (Fits.i .nil)) ?_ w
  obtain ⟨a1, a2⟩ := a; obtain ⟨b1, b2⟩ := b
  simp
theorem checkKey_pair {P : Program} {kt el : TypeId} [hu : Und P kt (.array 2 el)] [hv : Und P el (.int .i64)] [hz : Siz P el 1] (b : Bool) (d : Nat) (k : Int × Int) (w : World) : (Instr.checkKey b (d + 1 + 1) kt (pairK k)).run P w = .ok () w := by
  obtain ⟨i, hi, hsz⟩ := info_of_size hz.eq
  have hag : (isAgg el).run P w = .ok false w := by simp [isAgg, run_underlying hv.eq]
  have h1 := fun n => checkKey_int (P := P) (kt := el) (k := .i64) b d n w
  rw [Instr.checkKey]
  simp only [pairK, aggv, Sem.run_bind, run_underlying hu.eq, Result.andThen_ok]
  simp only [Std.Legacy.Range.forIn_eq_forIn_range', Std.Legacy.Range.size, show List.range' 0 ((2 - 0 + 1 - 1) / 1) 1 = [0, 1] from rfl, List.forIn_cons, List.forIn_nil]
  simp [sizeOf, typeInfo, hi, hsz, part, hag, h1]
instance KeyT.pair {P : Program} {kt el : TypeId} [hu : Und P kt (.array 2 el)] [hv : Und P el (.int .i64)] [hz : Siz P el 1] [hl : Lvs P kt [.int .i64, .int .i64]] : KeyT P kt pairK where
  check b k w := checkKey_pair b 9998 k w
  find k l w := by
    simp only [Instr.findKey, Sem.run_bind, run_underlying hu.eq, Result.andThen_ok]
    cases l with
    | nil => rfl
    | cons x l =>
      have : Instr.findNow (.array 2 el) (pairK k) ((x :: l).map (entO pairK)) 0 = none := by
        simp [Instr.findNow, Instr.sameNow]
      rw [this]
      exact findAsking_of (fun a b w => pairK_eq a b w) k (x :: l) 0 w
  bits k := by simp [pairK, aggv, Instr.sameBits]

def notCells : Obj → Bool
  | .cells _ _ _ => false
  | _ => true
theorem run_getO {P : Program} {w : World} {b : Nat} {o : Obj} (h : w.heap[b]? = some o) (hn : notCells o = true := by rfl) : (getObj b).run P w = .ok o w := by
  cases o <;> first | (simp [getObj, Sem.run, h]; done) | cases hn
def setW (w : World) (b : Nat) (o : Obj) : World := { w with heap := w.heap.setIfInBounds b o }
theorem run_setO {P : Program} {w : World} {b : Nat} {o o' : Obj} (h : w.heap[b]? = some o) (hn : notCells o = true := by rfl) : (setObj b o').run P w = .ok () (setW w b o') := by
  cases o <;> first | (simp only [setObj, Sem.run, h, setW]; done) | cases hn
theorem Done.setO {M0 M : Mem} {H0 H : Hp} {w0 w : World} {b : Nat} {o o' : Obj} (h : Done M0 H0 w0 M ((b, o) :: H) w) : Done M0 H0 w0 M ((b, o') :: H) (setW w b o') := by
  have hb := h.own b _ (List.mem_cons_self ..)
  have hlt : b < w.heap.size := (Array.getElem?_eq_some_iff.1 hb).1
  refine h.write (by simp [setW, hlt]) (by simp [setW]) (fun k hk => ?_) rfl rfl rfl
  simp only [setW]
  rw [Array.getElem?_setIfInBounds]
  simp [Ne.symm hk]

theorem modify_map (enc : κ → Value) [DecidableEq κ] (k : κ) (v : Value) (c : Nat) : ∀ (l : List (Nat × κ × Value)) (i j : Nat) (u : Value), findM k l j = some (i, u) → j ≤ i ∧ (putM k v c l).map (entO enc) = (l.map (entO enc)).modify (i - j) (fun e => { e with key := enc k, val := v }) ∧ ((l.map (entO enc))[i - j]?).map (·.key) = some (enc k)
  | [], _, _, _, h => by cases h
  | x :: l, i, j, u, h => by
    unfold findM at h
    unfold putM
    split at h
    · rename_i hk
      obtain ⟨rfl, rfl⟩ := Prod.mk.inj (Option.some.inj h)
      rw [if_pos hk]
      simp [entO, hk]
    · rename_i hk
      obtain ⟨h1, h2, h3⟩ := modify_map enc k v c l i (j + 1) u h
      rw [if_neg hk]
      obtain ⟨n, rfl⟩ : ∃ n, i = n + (j + 1) := ⟨i - (j + 1), by omega⟩
      refine ⟨by omega, ?_, ?_⟩
      · rw [show n + (j + 1) - j = n + 1 by omega]
        rw [show n + (j + 1) - (j + 1) = n by omega] at h2
        simp [h2]
      · rw [show n + (j + 1) - j = n + 1 by omega]
        rw [show n + (j + 1) - (j + 1) = n by omega] at h3
        simpa using h3
theorem push_map (enc : κ → Value) [DecidableEq κ] (k : κ) (v : Value) (c : Nat) : ∀ (l : List (Nat × κ × Value)) (j : Nat), findM k l j = none → (putM k v c l).map (entO enc) = l.map (entO enc) ++ [⟨enc k, v, c⟩]
  | [], _, _ => rfl
  | x :: l, j, h => by
    unfold findM at h
    unfold putM
    split at h
    · cases h
    · rename_i hk
      rw [if_neg hk]
      simp [push_map enc k v c l (j + 1) h]
theorem erase_map (enc : κ → Value) [DecidableEq κ] (k : κ) : ∀ (l : List (Nat × κ × Value)) (i j : Nat) (u : Value), findM k l j = some (i, u) → j ≤ i ∧ i - j < l.length ∧ (delM k l).map (entO enc) = (l.map (entO enc)).eraseIdx (i - j)
  | [], _, _, _, h => by cases h
  | x :: l, i, j, u, h => by
    unfold findM at h
    unfold delM
    split at h
    · rename_i hk
      obtain ⟨rfl, rfl⟩ := Prod.mk.inj (Option.some.inj h)
      rw [if_pos hk]
      simp
    · rename_i hk
      obtain ⟨h1, h2, h3⟩ := erase_map enc k l i (j + 1) u h
      rw [if_neg hk]
      obtain ⟨n, rfl⟩ : ∃ n, i = n + (j + 1) := ⟨i - (j + 1), by omega⟩
      rw [show n + (j + 1) - j = n + 1 by omega]
      rw [show n + (j + 1) - (j + 1) = n by omega] at h2 h3
      refine ⟨by omega, by simpa using h2, by simp [h3]⟩
theorem del_none [DecidableEq κ] (k : κ) : ∀ (l : List (Nat × κ × Value)) (j : Nat), findM k l j = none → delM k l = l
  | [], _, _ => rfl
  | x :: l, j, h => by
    unfold findM at h
    unfold delM
    split at h
    · cases h
    · rename_i hk
      rw [if_neg hk, del_none k l (j + 1) h]

section
variable {P : Program} {N : Nat} {X : Cx} {Q : Post} {K : Kont} {e : Env} {M : Mem} {A : Segs} {ops : Array Oper} {rest : List Oper}
variable {d : Nat} {ty : TypeId} {pos : String} {aft : Array Edge} {g : Option (Nat × Bool)} [DecidableEq κ] {enc : κ → Value}

omit [DecidableEq κ] in
theorem L.makeMap (enc : κ → Value) {t : TypeId} (hg : e.want ops g = some true) (hn : Nat.blt d N = true)
    (h : ∀ b, L P N X ops rest K ((d, .map (some b)) :: e) M ([(b, mapO enc [] 0)] :: A)) : L P N X ops (⟨some d, .makeMap t none, ty, pos, aft, g⟩ :: rest) K e M A :=
  L.step hg rfl hn fun a w hf hs => ⟨.map (some w.heap.size), w.alloc (.map #[] 0), M, [(w.heap.size, mapO enc [] 0)] :: A, run_v (by
    show (Instr.makeMap t none).run P w = _
    simp only [Instr.makeMap, Sem.run_bind, run_newObj_alloc, Sem.run_pure, Result.andThen_ok]), by exact hs.alloc (.map #[] 0), h w.heap.size⟩

theorem run_lookup {t kt et : TypeId} {w : World} {b : Nat} {l : List (Nat × κ × Value)} {c : Nat} {z : Value} (hb : w.heap[b]? = some (mapO enc l c)) (hu : P.underlying t = some (.map kt et)) [hk : KeyT P kt enc] [hz : Zv P et z] (k : κ) (ok : Bool) :
    (Instr.lookup t (.map (some b)) (enc k) ok).run P w = .ok (if ok then .tuple #[(lookM k l).getD z, .bool (lookM k l).isSome] else (lookM k l).getD z) w := by
  have hf := hk.find k l w
  have hlk := findM_look k l 0
  simp only [Instr.lookup, Sem.run_bind, run_underlying hu, Result.andThen_ok, run_getO hb, mapO, Sem.run_pure, hk.check, hf]
  cases hfm : findM k l 0 with
  | none =>
    rw [hfm] at hlk
    simp only [Option.map_none] at hlk
    simp [← hlk, run_zeroV (P := P) (t := et)]
  | some p =>
    rw [hfm] at hlk
    simp only [Option.map_some] at hlk
    obtain ⟨i, v⟩ := p
    simp [← hlk]
/-- Looking up in an owned map. -/
theorem Qt.lookupM {t kt et : TypeId} {x y : Operand} {b : Nat} {l : List (Nat × κ × Value)} {c : Nat} {A' : Segs} {z : Value} (k : κ) (hx : e.ev x = some (.map (some b))) (hy : e.ev y = some (enc k)) [hb : TakeB A b (mapO enc l c) A'] [hu : Und P t (.map kt et)] [hk : KeyT P kt enc] [hz : Zv P et z] :
    Qt P N e M A ⟨some d, .lookup t x y true, ty, pos, aft, g⟩ (.tuple #[(lookM k l).getD z, .bool (lookM k l).isSome]) := fun a w hf _ hm => run_v (by
    show (Instr.lookup t (a.eval x) (a.eval y) true).run P w = _
    rw [hf.ev hx, hf.ev hy]
    exact run_lookup (hm _ _ (hb.perm.mem_iff.2 (List.mem_cons_self ..))) hu.eq k true)
theorem Qt.lookupM1 {t kt et : TypeId} {x y : Operand} {b : Nat} {l : List (Nat × κ × Value)} {c : Nat} {A' : Segs} {z : Value} (k : κ) (hx : e.ev x = some (.map (some b))) (hy : e.ev y = some (enc k)) [hb : TakeB A b (mapO enc l c) A'] [hu : Und P t (.map kt et)] [hk : KeyT P kt enc] [hz : Zv P et z] :
    Qt P N e M A ⟨some d, .lookup t x y false, ty, pos, aft, g⟩ ((lookM k l).getD z) := fun a w hf _ hm => run_v (by
    show (Instr.lookup t (a.eval x) (a.eval y) false).run P w = _
    rw [hf.ev hx, hf.ev hy]
    exact run_lookup (hm _ _ (hb.perm.mem_iff.2 (List.mem_cons_self ..))) hu.eq k false)
/-- Looking up in a map that stays. -/
theorem Qt.lookupF {t kt et : TypeId} {x y : Operand} {b : Nat} {l : List (Nat × κ × Value)} {c : Nat} {z : Value} (k : κ) (hb : At M b (mapO enc l c)) (hx : e.ev x = some (.map (some b))) (hy : e.ev y = some (enc k)) [hu : Und P t (.map kt et)] [hk : KeyT P kt enc] [hz : Zv P et z] :
    Qt P N e M A ⟨some d, .lookup t x y true, ty, pos, aft, g⟩ (.tuple #[(lookM k l).getD z, .bool (lookM k l).isSome]) := fun a w hf hm _ => run_v (by
    show (Instr.lookup t (a.eval x) (a.eval y) true).run P w = _
    rw [hf.ev hx, hf.ev hy]
    exact run_lookup (hm _ _ hb.eq) hu.eq k true)

theorem run_update {t kt et : TypeId} {w : World} {b : Nat} {l : List (Nat × κ × Value)} {c : Nat} (hb : w.heap[b]? = some (mapO enc l c)) (hu : P.underlying t = some (.map kt et)) [hk : KeyT P kt enc] (k : κ) (v : Value) :
    (Instr.mapUpdate t (.map (some b)) (enc k) v).run P w = .ok () (setW w b (mapO enc (putM k v c l) (clockM k l c))) := by
  have hf := hk.find k l w
  have hlk := findM_look k l 0
  simp only [Instr.mapUpdate, Sem.run_bind, run_underlying hu, Result.andThen_ok, run_getO hb, mapO, hk.check, hf]
  cases hfm : findM k l 0 with
  | none =>
    rw [hfm] at hlk
    simp only [Option.map_none] at hlk
    simp only [run_setO hb, clockM, ← hlk, push_map enc k v c l 0 hfm]
    simp
  | some p =>
    rw [hfm] at hlk
    simp only [Option.map_some] at hlk
    obtain ⟨i, u⟩ := p
    obtain ⟨_, h2, h3⟩ := modify_map enc k v c l i 0 u hfm
    simp only [Nat.sub_zero] at h2 h3
    have hkk : (Option.map (fun x => x.key) (List.map (entO enc) l).toArray[i]?).getD (enc k) = enc k := by
      rw [show (List.map (entO enc) l).toArray[i]? = (List.map (entO enc) l)[i]? from by simp, h3]; rfl
    simp only [Sem.run_bind, hkk, Instr.keyThatStays, hk.bits, if_true, Sem.run_pure, Result.andThen_ok, run_setO hb, clockM, ← hlk, h2]
    simp
theorem L.mapUpdate {t kt et : TypeId} {x y z : Operand} {b : Nat} {l : List (Nat × κ × Value)} {c : Nat} {A' : Segs} {v : Value} (k : κ) (hx : e.ev x = some (.map (some b))) (hy : e.ev y = some (enc k)) (hv : e.ev z = some v) [hb : TakeB A b (mapO enc l c) A'] [hu : Und P t (.map kt et)] [hk : KeyT P kt enc]
    (hg : e.want ops g = some true) (h : L P N X ops rest K e M ([(b, mapO enc (putM k v c l) (clockM k l c))] :: A')) : L P N X ops (⟨none, .mapUpdate t x y z, ty, pos, aft, g⟩ :: rest) K e M A :=
  L.effect hg rfl fun a w hf hs => by
    have hs' := hs.perm hb.perm
    exact ⟨_, M, [(b, mapO enc (putM k v c l) (clockM k l c))] :: A', run_u (by
      show (Instr.mapUpdate t (a.eval x) (a.eval y) (a.eval z)).run P w = _
      rw [hf.ev hx, hf.ev hy, hf.ev hv]
      exact run_update (hs'.own _ _ (List.mem_cons_self ..)) hu.eq k v), hs'.setO, h⟩

theorem run_delete {t t2 kt et : TypeId} {w : World} {b : Nat} {l : List (Nat × κ × Value)} {c : Nat} (hb : w.heap[b]? = some (mapO enc l c)) (hu : P.underlying t = some (.map kt et)) [hk : KeyT P kt enc] (k : κ) :
    (Builtin.delete_ #[t, t2] ty #[.map (some b), enc k]).run P w = .ok (.tuple #[]) (setW w b (mapO enc (delM k l) c)) := by
  have hf := hk.find k l w
  simp only [Builtin.delete_, List.getElem?_toArray, List.getElem?_cons_zero, List.getElem?_cons_succ, Sem.run_bind, run_underlying hu, Result.andThen_ok, run_getO hb, mapO, hk.check, hf]
  cases hfm : findM k l 0 with
  | none =>
    simp [run_setO hb, del_none k l 0 hfm]
  | some p =>
    obtain ⟨i, u⟩ := p
    obtain ⟨_, h1, h2⟩ := erase_map enc k l i 0 u hfm
    simp only [Nat.sub_zero] at h1 h2
    simp [run_setO hb, h2, Array.eraseIdxIfInBounds, h1]
theorem L.delete {t t2 kt et : TypeId} {x y : Operand} {b : Nat} {l : List (Nat × κ × Value)} {c : Nat} {A' : Segs} (k : κ) (hx : e.ev x = some (.map (some b))) (hy : e.ev y = some (enc k)) [hb : TakeB A b (mapO enc l c) A'] [hu : Und P t (.map kt et)] [hk : KeyT P kt enc]
    (hg : e.want ops g = some true) (hn : Nat.blt d N = true) (h : L P N X ops rest K ((d, .tuple #[]) :: e) M ([(b, mapO enc (delM k l) c)] :: A')) : L P N X ops (⟨some d, .call { callee := .builtin .delete, args := #[x, y], argTypes := #[t, t2] }, ty, pos, aft, g⟩ :: rest) K e M A :=
  L.step hg rfl hn fun a w hf hs => by
    have hs' := hs.perm hb.perm
    refine ⟨.tuple #[], setW w b (mapO enc (delM k l) c), M, [(b, mapO enc (delM k l) c)] :: A', ?_, hs'.setO, h⟩
    have := run_delete (ty := ty) (t2 := t2) (hs'.own _ _ (List.mem_cons_self ..)) hu.eq k
    simp [execOp, resolve, invoke, builtin, hf.ev hx, hf.ev hy, this]
theorem L.delete0 {t t2 kt et : TypeId} {x y : Operand} {b : Nat} {l : List (Nat × κ × Value)} {c : Nat} {A' : Segs} (k : κ) (hx : e.ev x = some (.map (some b))) (hy : e.ev y = some (enc k)) [hb : TakeB A b (mapO enc l c) A'] [hu : Und P t (.map kt et)] [hk : KeyT P kt enc]
    (hg : e.want ops g = some true) (h : L P N X ops rest K e M ([(b, mapO enc (delM k l) c)] :: A')) : L P N X ops (⟨none, .call { callee := .builtin .delete, args := #[x, y], argTypes := #[t, t2] }, ty, pos, aft, g⟩ :: rest) K e M A := fun a w hf hs => by
  have hs' := hs.perm hb.perm
  have := run_delete (ty := ty) (t2 := t2) (hs'.own _ _ (List.mem_cons_self ..)) hu.eq k
  unfold wpList
  rw [if_pos (want_wanted hf hg)]
  refine .inl ?_
  unfold Oper.wp
  simp only [execOp, resolve, invoke, builtin]
  simp [hf.ev hx, hf.ev hy, this, Oper.upon]
  exact h _ _ hf hs'.setO

/-- A nil map. -/
theorem Qt.lookupNil {t kt et : TypeId} {x y : Operand} {z : Value} (enc : κ → Value) (k : κ) (hx : e.ev x = some (.map none)) (hy : e.ev y = some (enc k)) [hu : Und P t (.map kt et)] [hk : KeyT P kt enc] [hz : Zv P et z] :
    Qt P N e M A ⟨some d, .lookup t x y true, ty, pos, aft, g⟩ (.tuple #[z, .bool false]) := fun a w hf _ hm => run_v (by
    show (Instr.lookup t (a.eval x) (a.eval y) true).run P w = _
    rw [hf.ev hx, hf.ev hy]
    have hf' := hk.find k [] w
    simp only [List.map_nil] at hf'
    simp [Instr.lookup, run_underlying hu.eq, hk.check, hf', findM, run_zeroV (P := P) (t := et)])

/-- The walk over a map's entries. -/
def iterO (m c : Nat) (S : List Nat) : Obj := .mapIter (some m) c S.toArray c
structure Born {ν : Type} (l : List (Nat × κ × ν)) (c : Nat) : Prop where
  nd : (l.map (·.1)).Nodup
  lt : ∀ x ∈ l, x.1 < c

omit [DecidableEq κ] in
theorem L.rangeM {t kt et : TypeId} {x : Operand} {m : Nat} {l : List (Nat × κ × Value)} {c : Nat} {A' : Segs} (hx : e.ev x = some (.map (some m))) [hb : TakeB A m (mapO enc l c) A'] [hu : Und P t (.map kt et)] (hg : e.want ops g = some true) (hn : Nat.blt d N = true)
    (h : ∀ r, L P N X ops rest K ((d, ptr r 0) :: e) M ([(r, iterO m c [])] :: A)) : L P N X ops (⟨some d, .range t x, ty, pos, aft, g⟩ :: rest) K e M A :=
  L.step hg rfl hn fun a w hf hs => by
    have hm := hs.own m _ (hb.perm.mem_iff.2 (List.mem_cons_self ..))
    refine ⟨ptr w.heap.size 0, w.alloc (iterO m c []), M, [(w.heap.size, iterO m c [])] :: A, run_v ?_, hs.alloc _, h w.heap.size⟩
    show (Instr.range t (a.eval x)).run P w = _
    rw [hf.ev hx]
    simp only [Instr.range, Sem.run_bind, run_underlying hu.eq, Result.andThen_ok, run_getO hm, mapO, Sem.run_pure, run_newObj_alloc]
    rfl
omit [DecidableEq κ] in
theorem L.rangeF {t kt et : TypeId} {x : Operand} {m : Nat} {l : List (Nat × κ × Value)} {c : Nat} (hm : At M m (mapO enc l c)) (hx : e.ev x = some (.map (some m))) [hu : Und P t (.map kt et)] (hg : e.want ops g = some true) (hn : Nat.blt d N = true)
    (h : ∀ r, L P N X ops rest K ((d, ptr r 0) :: e) M ([(r, iterO m c [])] :: A)) : L P N X ops (⟨some d, .range t x, ty, pos, aft, g⟩ :: rest) K e M A :=
  L.step hg rfl hn fun a w hf hs => by
    have hm := hs.mem m _ hm.eq
    refine ⟨ptr w.heap.size 0, w.alloc (iterO m c []), M, [(w.heap.size, iterO m c [])] :: A, run_v ?_, hs.alloc _, h w.heap.size⟩
    show (Instr.range t (a.eval x)).run P w = _
    rw [hf.ev hx]
    simp only [Instr.range, Sem.run_bind, run_underlying hu.eq, Result.andThen_ok, run_getO hm, mapO, Sem.run_pure, run_newObj_alloc]
    rfl

omit [DecidableEq κ] in
theorem run_next {w : World} {r m c : Nat} {S : List Nat} {l : List (Nat × κ × Value)} {ty : TypeId} (hr : w.heap[r]? = some (iterO m c S)) (hm : w.heap[m]? = some (mapO enc l c)) (hb : Born l c) :
    ((∀ x ∈ l, x.1 ∈ S) ∧ (Instr.next (ptr r 0) false ty).run P w = .ok (.tuple #[.bool false]) w) ∨
    ∃ x ∈ l, x.1 ∉ S ∧ ∃ w1, (w1 = w ∨ w1 = w.drew) ∧ (Instr.next (ptr r 0) false ty).run P w = .ok (.tuple #[.bool true, enc x.2.1, x.2.2]) (setW w1 r (iterO m c (S ++ [x.1]))) := by
  have hgt : ∀ (ll : List (Nat × κ × Value)), (∀ x ∈ ll, x.1 < c) → ll ≠ [] → ((ll.map (entO enc)).toArray.all fun x => decide (x.born ≥ c)) = false := by
    intro ll h hne
    cases ll with
    | nil => exact absurd rfl hne
    | cons y ll =>
      have := h y (List.mem_cons_self ..)
      simp [entO]; intro h2; omega
  have htest : (!S.toArray.isEmpty && !((l.map (entO enc)).toArray).isEmpty && ((l.map (entO enc)).toArray).all fun x => decide (x.born ≥ c)) = false := by
    by_cases hl : l = []
    · subst hl; simp
    · rw [hgt l hb.lt hl]; simp
  have hleft : ((l.map (entO enc)).toArray.filter fun e => !S.toArray.contains e.born) = ((l.filter fun x => !S.contains x.1).map (entO enc)).toArray := by
    simp [List.filter_map, Function.comp_def, entO]; rfl
  obtain ⟨left, hlf⟩ : ∃ left, left = l.filter fun x => !S.contains x.1 := ⟨_, rfl⟩
  have hold : ((left.map (entO enc)).toArray.filter fun x => decide (x.born < c)) = (left.map (entO enc)).toArray := by
    rw [show ((left.map (entO enc)).toArray.filter fun x => decide (x.born < c)) = ((left.filter fun x => decide (x.1 < c)).map (entO enc)).toArray by simp [List.filter_map, Function.comp_def, entO]; rfl]
    congr 2
    refine List.filter_eq_self.2 fun x hx => ?_
    have : x ∈ l := by rw [hlf] at hx; exact (List.mem_filter.1 hx).1
    simpa using hb.lt x this
  have hnew : ((left.map (entO enc)).toArray.filter fun x => decide (x.born ≥ c)) = #[] := by
    rw [show ((left.map (entO enc)).toArray.filter fun x => decide (x.born ≥ c)) = ((left.filter fun x => decide (x.1 ≥ c)).map (entO enc)).toArray by simp [List.filter_map, Function.comp_def, entO]; rfl]
    rw [List.filter_eq_nil_iff.2 fun x hx => ?_]
    · rfl
    · have : x ∈ l := by rw [hlf] at hx; exact (List.mem_filter.1 hx).1
      have := hb.lt x this
      simp; omega
  have hrun : (Instr.next (ptr r 0) false ty).run P w = (do
      let candidates := (if left = [] then #[none] else #[]) ++ ((left.map (entO enc)).toArray).map some
      match candidates[← choose (.mapNext candidates.size)]? with
      | some (some e) =>
        setObj r (.mapIter (some m) c (S.toArray.push e.born) c)
        pure (.tuple #[.bool true, e.key, e.val])
      | some none => pure (.tuple #[.bool false])
      | none => stuck "Next: no such candidate" : Sem Value).run P w := by
    simp only [Instr.next, ptr, Sem.run_bind, run_getO hr, iterO, Result.andThen_ok, run_getO hm, mapO, htest, Bool.false_eq_true, if_false, hleft, ← hlf, hold, hnew, Sem.run_pure]
    simp only [Array.append_empty]
    have hE : (List.map (entO enc) left).toArray.isEmpty = decide (left = []) := by cases left <;> simp
    rw [hE]
    by_cases hl : left = []
    · subst hl
      rfl
    · simp only [hl, decide_false, Bool.false_eq_true, if_false]
      rfl
  by_cases hl : left = []
  · refine .inl ⟨fun x hx => ?_, ?_⟩
    · by_cases hS : x.1 ∈ S
      · exact hS
      · have : x ∈ left := by rw [hlf]; exact List.mem_filter.2 ⟨hx, by simpa using hS⟩
        rw [hl] at this; cases this
    · rw [hrun]
      simp [hl, Question.forced]
  · right
    have hn : 0 < left.length := List.length_pos_iff.2 hl
    obtain ⟨w1, i, hw1, hi, hch⟩ : ∃ w1 i, (w1 = w ∨ w1 = w.drew) ∧ i < left.length ∧ (choose (.mapNext left.length)).run P w = .ok i w1 := by
      rw [run_choose_drew]
      split
      · exact ⟨w, 0, .inl rfl, hn, rfl⟩
      · exact ⟨w.drew, _, .inr rfl, by simp only [Question.cut]; exact Nat.mod_lt _ hn, rfl⟩
    obtain ⟨y, hy⟩ : ∃ y, left[i]? = some y := ⟨_, List.getElem?_eq_getElem hi⟩
    have hmem : y ∈ left := List.mem_of_getElem? hy
    rw [hlf] at hmem
    obtain ⟨h1, h2⟩ := List.mem_filter.1 hmem
    refine ⟨y, h1, by simpa using h2, w1, hw1, ?_⟩
    have hr1 : w1.heap[r]? = some (iterO m c S) := by rcases hw1 with rfl | rfl <;> exact hr
    rw [hrun]
    simp only [hl, if_false, Array.empty_append, Array.size_map, List.size_toArray, List.length_map, Sem.run_bind, hch, Result.andThen_ok]
    have hg : (Array.map some (List.map (entO enc) left).toArray)[i]? = some (some (entO enc y)) := by simp [hy]
    simp only [hg, Sem.run_bind, run_setO hr1, Result.andThen_ok, Sem.run_pure, entO, iterO]
    simp
omit [DecidableEq κ] in
/-- One step of the walk: nothing is left, or some entry that was not met. -/
theorem L.next {x : Operand} {r m c : Nat} {S : List Nat} {l : List (Nat × κ × Value)} {A1 A2 : Segs} (hx : e.ev x = some (ptr r 0)) [hr : TakeB A r (iterO m c S) A1] [hm : TakeB A1 m (mapO enc l c) A2] (hb : Born l c) (hg : e.want ops g = some true) (hn : Nat.blt d N = true)
    (h0 : (∀ y ∈ l, y.1 ∈ S) → L P N X ops rest K ((d, .tuple #[.bool false]) :: e) M ([(r, iterO m c S)] :: A1))
    (h1 : ∀ y ∈ l, y.1 ∉ S → L P N X ops rest K ((d, .tuple #[.bool true, enc y.2.1, y.2.2]) :: e) M ([(r, iterO m c (S ++ [y.1]))] :: A1)) : L P N X ops (⟨some d, .next x false, ty, pos, aft, g⟩ :: rest) K e M A :=
  L.step hg rfl hn fun a w hf hs => by
    have hs' := hs.perm hr.perm
    have hrr := hs'.own r _ (List.mem_cons_self ..)
    have hmm := hs'.own m _ (List.mem_cons_of_mem _ (hm.perm.mem_iff.2 (List.mem_cons_self ..)))
    rcases run_next (P := P) (ty := ty) hrr hmm hb with ⟨h2, h3⟩ | ⟨y, hy, hyS, w1, hw1, h3⟩
    · refine ⟨_, w, M, [(r, iterO m c S)] :: A1, run_v ?_, hs', h0 h2⟩
      show (Instr.next (a.eval x) false ty).run P w = _
      rw [hf.ev hx]; exact h3
    · refine ⟨_, setW w1 r (iterO m c (S ++ [y.1])), M, [(r, iterO m c (S ++ [y.1]))] :: A1, run_v ?_, ?_, h1 y hy hyS⟩
      · show (Instr.next (a.eval x) false ty).run P w = _
        rw [hf.ev hx]; exact h3
      · have : St X M ([(r, iterO m c S)] :: A1) w1 := by
          rcases hw1 with rfl | rfl
          · exact hs'
          · exact Done.drew hs'
        exact Done.setO this
omit [DecidableEq κ] in
theorem L.nextF {x : Operand} {r m c : Nat} {S : List Nat} {l : List (Nat × κ × Value)} {A1 : Segs} (hmm : At M m (mapO enc l c)) (hx : e.ev x = some (ptr r 0)) [hr : TakeB A r (iterO m c S) A1] (hb : Born l c) (hg : e.want ops g = some true) (hn : Nat.blt d N = true)
    (h0 : (∀ y ∈ l, y.1 ∈ S) → L P N X ops rest K ((d, .tuple #[.bool false]) :: e) M ([(r, iterO m c S)] :: A1))
    (h1 : ∀ y ∈ l, y.1 ∉ S → L P N X ops rest K ((d, .tuple #[.bool true, enc y.2.1, y.2.2]) :: e) M ([(r, iterO m c (S ++ [y.1]))] :: A1)) : L P N X ops (⟨some d, .next x false, ty, pos, aft, g⟩ :: rest) K e M A :=
  L.step hg rfl hn fun a w hf hs => by
    have hs' := hs.perm hr.perm
    have hrr := hs'.own r _ (List.mem_cons_self ..)
    rcases run_next (P := P) (ty := ty) hrr (hs'.mem _ _ hmm.eq) hb with ⟨h2, h3⟩ | ⟨y, hy, hyS, w1, hw1, h3⟩
    · refine ⟨_, w, M, [(r, iterO m c S)] :: A1, run_v ?_, hs', h0 h2⟩
      show (Instr.next (a.eval x) false ty).run P w = _
      rw [hf.ev hx]; exact h3
    · refine ⟨_, setW w1 r (iterO m c (S ++ [y.1])), M, [(r, iterO m c (S ++ [y.1]))] :: A1, run_v ?_, ?_, h1 y hy hyS⟩
      · show (Instr.next (a.eval x) false ty).run P w = _
        rw [hf.ev hx]; exact h3
      · have : St X M ([(r, iterO m c S)] :: A1) w1 := by
          rcases hw1 with rfl | rfl
          · exact hs'
          · exact Done.drew hs'
        exact Done.setO this

omit [DecidableEq κ] in
theorem run_entry {w : World} {r m c : Nat} {S : List Nat} {l : List (Nat × κ × Value)} {y : Nat × κ × Value} (hr : w.heap[r]? = some (iterO m c (S ++ [y.1]))) (hm : w.heap[m]? = some (mapO enc l c)) (hb : Born l c) (hy : y ∈ l) :
    (Instr.entry (ptr r 0)).run P w = .ok (.tuple #[enc y.2.1, y.2.2]) w := by
  have hfind : (l.map (entO enc)).find? (fun e => e.born == y.1) = some (entO enc y) := by
    have := hb.nd
    clear hr hm hb
    induction l with
    | nil => cases hy
    | cons x l ih =>
      rw [List.map_cons, List.nodup_cons] at this
      rw [List.map_cons, List.find?_cons]
      rcases List.mem_cons.1 hy with rfl | hy
      · simp [entO]
      · have hne : x.1 ≠ y.1 := fun e => this.1 (e ▸ List.mem_map.2 ⟨y, hy, rfl⟩)
        rw [show ((entO enc x).born == y.1) = false by simpa [entO] using hne]
        exact ih hy this.2
  simp only [Instr.entry, ptr, Sem.run_bind, run_getO hr, iterO, Result.andThen_ok, run_getO hm, mapO]
  simp [hfind, run_getO hm, mapO, entO]
omit [DecidableEq κ] in
theorem Qt.entry {x : Operand} {r m c : Nat} {S : List Nat} {l : List (Nat × κ × Value)} {A1 A2 : Segs} (y : Nat × κ × Value) (hy : y ∈ l) (hb : Born l c) (hx : e.ev x = some (ptr r 0)) [hr : TakeB A r (iterO m c (S ++ [y.1])) A1] [hm : TakeB A1 m (mapO enc l c) A2] :
    Qt P N e M A ⟨some d, .entry x, ty, pos, aft, g⟩ (.tuple #[enc y.2.1, y.2.2]) := fun a w hf _ ho => run_v (by
    show (Instr.entry (a.eval x)).run P w = _
    rw [hf.ev hx]
    exact run_entry (ho _ _ (hr.perm.mem_iff.2 (List.mem_cons_self ..))) (ho _ _ (hr.perm.mem_iff.2 (List.mem_cons_of_mem _ (hm.perm.mem_iff.2 (List.mem_cons_self ..))))) hb hy)
omit [DecidableEq κ] in
theorem Qt.entryF {x : Operand} {r m c : Nat} {S : List Nat} {l : List (Nat × κ × Value)} {A1 : Segs} (y : Nat × κ × Value) (hy : y ∈ l) (hb : Born l c) (hmm : At M m (mapO enc l c)) (hx : e.ev x = some (ptr r 0)) [hr : TakeB A r (iterO m c (S ++ [y.1])) A1] :
    Qt P N e M A ⟨some d, .entry x, ty, pos, aft, g⟩ (.tuple #[enc y.2.1, y.2.2]) := fun a w hf hM ho => run_v (by
    show (Instr.entry (a.eval x)).run P w = _
    rw [hf.ev hx]
    exact run_entry (ho _ _ (hr.perm.mem_iff.2 (List.mem_cons_self ..))) (hM _ _ hmm.eq) hb hy)
end

instance (priority := low) Take.cons {A A' A'' : Segs} {b : Nat} {o : Obj} {H : Hp} [t : TakeB A b o A'] [t2 : Take A' H A''] : Take A ((b, o) :: H) A'' where
  perm := t.perm.trans (by simpa using t2.perm.cons (b, o))

/-! ## Arrays that are built -/
class FillA (sz : Nat) (z : List Value) (parts : List (Nat × Value)) (out : outParam (List Value)) : Prop where
  eq : Instr.fill (fun i => some (i * sz, sz)) z.toArray parts = some out.toArray
instance FillA.nil {sz : Nat} {z : List Value} : FillA sz z [] z := ⟨rfl⟩
instance FillA.cons0 {sz : Nat} {z new z1 out : List Value} {v : Value} {rest : List (Nat × Value)} [hc : Cells v new] [hl : Len new sz] [put : Put z 0 new z1] [hr : FillA sz z1 rest out] : FillA sz z ((0, v) :: rest) out :=
  ⟨by rw [fill_step (put := put) hc.eq (by rw [hl.eq, Nat.zero_mul])]; exact hr.eq⟩
instance FillA.cons1 {sz : Nat} {z new z1 out : List Value} {v : Value} {rest : List (Nat × Value)} [hc : Cells v new] [hl : Len new sz] [put : Put z sz new z1] [hr : FillA sz z1 rest out] : FillA sz z ((1, v) :: rest) out :=
  ⟨by rw [fill_step (put := put) hc.eq (by rw [hl.eq, Nat.one_mul])]; exact hr.eq⟩
section
variable {P : Program} {N : Nat} {X : Cx} {Q : Post} {K : Kont} {e : Env} {M : Mem} {A : Segs} {ops : Array Oper} {rest : List Oper}
variable {d : Nat} {ty : TypeId} {pos : String} {aft : Array Edge} {g : Option (Nat × Bool)}
theorem L.split2 {p q : Nat × Obj} {B : Segs} (h : L P N X ops rest K e M ([p] :: [q] :: B)) : L P N X ops rest K e M ([p, q] :: B) := L.perm _ (by simp) h
theorem C.split2 {c : Code} {p q : Nat × Obj} {B : Segs} (h : C P N X c Q e M ([p] :: [q] :: B)) : C P N X c Q e M ([p, q] :: B) := C.perm _ (by simp) h
theorem L.dropB (b : Nat) {o : Obj} {A' : Segs} [t : TakeB A b o A'] (h : L P N X ops rest K e M A') : L P N X ops rest K e M A := fun a w hf hs => h a w hf (Done.drop (K := [(b, o)]) (by simpa using hs.perm t.perm))
theorem C.dropB {c : Code} (b : Nat) {o : Obj} {A' : Segs} [t : TakeB A b o A'] (h : C P N X c Q e M A') : C P N X c Q e M A := fun a w hf hs => h a w hf (Done.drop (K := [(b, o)]) (by simpa using hs.perm t.perm))
theorem L.drop (H : Hp) {A' : Segs} [t : Take A H A'] (h : L P N X ops rest K e M A') : L P N X ops rest K e M A := fun a w hf hs => h a w hf (hs.perm t.perm).drop
theorem Qt.indexArr0 {t el : TypeId} {x y : Operand} {b o n sz : Nat} {k : IntKind} [hu : Und P t (.array n el)] [hz : Siz P el sz] (hx : e.ev x = some (ptr b o)) (hy : e.ev y = some (.int k 0)) (hi : Nat.blt 0 n = true) : Qt P N e M A ⟨some d, .indexAddr t x y, ty, pos, aft, g⟩ (ptr b o) :=
  Qt.indexArr hx hy ⟨Int.le_refl _, by simpa [Nat.blt_eq] using hi⟩ (by simp)
theorem Qt.indexArr1 {t el : TypeId} {x y : Operand} {b o n sz o' : Nat} {k : IntKind} [hu : Und P t (.array n el)] [hz : Siz P el sz] (hx : e.ev x = some (ptr b o)) (hy : e.ev y = some (.int k 1)) (hi : Nat.blt 1 n = true) (ho : o + sz = o') : Qt P N e M A ⟨some d, .indexAddr t x y, ty, pos, aft, g⟩ (ptr b o') :=
  Qt.indexArr hx hy ⟨by decide, by simp only [Nat.blt_eq] at hi; omega⟩ (by rw [← ho]; simp)
theorem Qt.notT {xt : TypeId} {x : Operand} (hx : e.ev x = some (.bool true)) : Qt P N e M A ⟨some d, .unOp .not xt x, ty, pos, aft, g⟩ (.bool false) := Qt.not hx
theorem Qt.notF {xt : TypeId} {x : Operand} (hx : e.ev x = some (.bool false)) : Qt P N e M A ⟨some d, .unOp .not xt x, ty, pos, aft, g⟩ (.bool true) := Qt.not hx
theorem Qt.buildA {t el n sz : Nat} {ps : List (Nat × Operand)} {vs : List (Nat × Value)} {z out : List Value} [hu : Und P t (.array n el)] [hsz : Siz P el sz] [hz : Zer P t z] (hx : e.evps ps = some vs) [hF : FillA sz z vs out] : Qt P N e M A ⟨some d, .build t ps.toArray, ty, pos, aft, g⟩ (aggv out) := fun a w hf _ _ => run_v (by
    show (Instr.build t (ps.toArray.map fun (p : Nat × Operand) => (p.1, a.eval p.2))).run P w = _
    obtain ⟨i, v, hi, hiz, hvc⟩ := zero_of hz
    obtain ⟨i2, hi2, hs2⟩ := info_of_size hsz.eq
    have hps := hf.evps hx
    have hfill := hF.eq
    have hmap : (ps.toArray.map fun (p : Nat × Operand) => (p.1, a.eval p.2)).toList = vs := by simpa using hps
    simp only [Instr.build, zeroValue, typeInfo, Sem.run_bind, run_program, hi, hiz, Result.andThen_ok, Sem.run_pure, run_underlying hu.eq, sizeOf, hi2, hs2, hmap, hvc, hfill])
end

/-! ## Typed elements -/
section
variable {ν : Type}
def mapV (f : ν → Value) (x : Nat × κ × ν) : Nat × κ × Value := (x.1, x.2.1, f x.2.2)
/-- A map of typed elements. -/
abbrev mapT (enc : κ → Value) (f : ν → Value) (l : List (Nat × κ × ν)) (c : Nat) : Obj := mapO enc (l.map (mapV f)) c
theorem Born.mapV {l : List (Nat × κ × ν)} {c : Nat} (h : Born l c) (f : ν → Value) : Born (l.map (mapV f)) c :=
  ⟨by simpa [Function.comp_def, Go.Proofs.Ytdgdigliepncpaa.mapV] using h.nd, fun x hx => by
    obtain ⟨y, hy, rfl⟩ := List.mem_map.1 hx
    exact h.lt y hy⟩
variable [DecidableEq κ]
theorem lookM_map (f : ν → Value) (k : κ) : ∀ l : List (Nat × κ × ν), lookM k (l.map (mapV f)) = (lookM k l).map f
  | [] => rfl
  | x :: l => by
    simp only [List.map_cons, lookM, mapV]
    split
    · rfl
    · exact lookM_map f k l
theorem putM_map (f : ν → Value) (k : κ) (v : ν) (c : Nat) : ∀ l : List (Nat × κ × ν), putM k (f v) c (l.map (mapV f)) = (putM k v c l).map (mapV f)
  | [] => rfl
  | x :: l => by
    simp only [List.map_cons, putM, mapV]
    split
    · simp [mapV]
    · simp [mapV, putM_map f k v c l]
theorem delM_map (f : ν → Value) (k : κ) : ∀ l : List (Nat × κ × ν), delM k (l.map (mapV f)) = (delM k l).map (mapV f)
  | [] => rfl
  | x :: l => by
    simp only [List.map_cons, delM, mapV]
    split
    · rfl
    · simp [mapV, delM_map f k l]
theorem clockM_map (f : ν → Value) (k : κ) (l : List (Nat × κ × ν)) (c : Nat) : clockM k (l.map (mapV f)) c = clockM k l c := by
  simp [clockM, lookM_map]
omit [DecidableEq κ] in
theorem Born.nil : Born ([] : List (Nat × κ × ν)) 0 := ⟨by simp, fun _ h => by cases h⟩
theorem putM_borns (k : κ) (v : ν) (c : Nat) : ∀ l : List (Nat × κ × ν), (putM k v c l).map (·.1) = l.map (·.1) ++ (if (lookM k l).isSome then [] else [c])
  | [] => rfl
  | x :: l => by
    simp only [putM, lookM]
    split
    · simp
    · simp [putM_borns k v c l]
theorem Born.put {l : List (Nat × κ × ν)} {c : Nat} (h : Born l c) (k : κ) (v : ν) : Born (putM k v c l) (clockM k l c) := by
  have e := putM_borns k v c l
  refine ⟨?_, fun x hx => ?_⟩
  · rw [e]
    split
    · simpa using h.nd
    · rw [List.nodup_append]
      refine ⟨h.nd, by simp, fun a ha b hb => ?_⟩
      obtain ⟨y, hy, rfl⟩ := List.mem_map.1 ha
      simp at hb; subst hb
      exact Nat.ne_of_lt (h.lt y hy)
  · have : x.1 ∈ (putM k v c l).map (·.1) := List.mem_map.2 ⟨x, hx, rfl⟩
    rw [e] at this
    unfold clockM
    rcases List.mem_append.1 this with h1 | h1
    · obtain ⟨y, hy, e2⟩ := List.mem_map.1 h1
      have := h.lt y hy
      split <;> omega
    · split at h1
      · cases h1
      · rename_i hn
        rw [if_neg hn]; simp at h1; omega
theorem delM_sub (k : κ) : ∀ l : List (Nat × κ × ν), (delM k l).Sublist l
  | [] => .slnil
  | x :: l => by
    unfold delM
    split
    · exact List.sublist_cons_self ..
    · exact (delM_sub k l).cons_cons x
theorem Born.del {l : List (Nat × κ × ν)} {c : Nat} (h : Born l c) (k : κ) : Born (delM k l) c :=
  ⟨h.nd.sublist ((delM_sub k l).map _), fun x hx => h.lt x ((delM_sub k l).subset hx)⟩
end
section
variable {ν : Type}
/-- How far a walk over entries has come. -/
structure Walked (T : List (Nat × κ × ν)) (S : List Nat) (L R : List (Nat × κ × ν)) : Prop where
  perm : (L ++ R).Perm T
  seen : S = L.map (·.1)
theorem Walked.start (T : List (Nat × κ × ν)) : Walked T [] [] T := ⟨List.Perm.refl _, rfl⟩
theorem Walked.step {T L R : List (Nat × κ × ν)} {S : List Nat} (h : Walked T S L R) {y : Nat × κ × ν} (hy : y ∈ T) (hn : y.1 ∉ S) : ∃ R', Walked T (S ++ [y.1]) (L ++ [y]) R' ∧ R'.length < R.length := by
  have : y ∈ L ++ R := h.perm.mem_iff.2 hy
  rcases List.mem_append.1 this with h1 | h1
  · exact absurd (by rw [h.seen]; exact List.mem_map.2 ⟨y, h1, rfl⟩) hn
  · obtain ⟨a, b, rfl⟩ := List.append_of_mem h1
    refine ⟨a ++ b, ⟨?_, by simp [h.seen]⟩, by simp⟩
    refine List.Perm.trans ?_ h.perm
    rw [List.append_assoc]
    refine List.Perm.append_left L ?_
    show (y :: (a ++ b)).Perm (a ++ y :: b)
    exact (List.perm_middle).symm
theorem Walked.done {T L R : List (Nat × κ × ν)} {S : List Nat} {c : Nat} (h : Walked T S L R) (hb : Born T c) (hall : ∀ y ∈ T, y.1 ∈ S) : R = [] ∧ L.Perm T := by
  have : R = [] := by
    cases R with
    | nil => rfl
    | cons r R =>
      have hr : r ∈ T := h.perm.mem_iff.1 (by simp)
      have := hall r hr
      rw [h.seen] at this
      have hnd := (h.perm.map (·.1)).nodup_iff.2 hb.nd
      rw [List.map_append, List.nodup_append] at hnd
      exact absurd rfl (hnd.2.2 _ this _ (by simp))
  subst this
  exact ⟨rfl, by simpa using h.perm⟩
end

section
variable {P : Program} {N : Nat} {X : Cx} {Q : Post} {K : Kont} {e : Env} {M : Mem} {A : Segs} {ops : Array Oper} {rest : List Oper} {ν : Type}
variable {d : Nat} {ty : TypeId} {pos : String} {aft : Array Edge} {g : Option (Nat × Bool)} [DecidableEq κ] {enc : κ → Value}
theorem L.mapUpdateT {t kt et : TypeId} {x y z : Operand} {b : Nat} {l : List (Nat × κ × ν)} {c : Nat} {A' : Segs} (f : ν → Value) (k : κ) (v : ν) (hx : e.ev x = some (.map (some b))) (hy : e.ev y = some (enc k)) (hv : e.ev z = some (f v)) [hb : TakeB A b (mapT enc f l c) A'] [hu : Und P t (.map kt et)] [hk : KeyT P kt enc]
    (hg : e.want ops g = some true) (h : L P N X ops rest K e M ([(b, mapT enc f (putM k v c l) (clockM k l c))] :: A')) : L P N X ops (⟨none, .mapUpdate t x y z, ty, pos, aft, g⟩ :: rest) K e M A :=
  L.mapUpdate (enc := enc) k hx hy hv hg (by rw [putM_map, clockM_map]; exact h)
theorem L.deleteT {t t2 kt et : TypeId} {x y : Operand} {b : Nat} {l : List (Nat × κ × ν)} {c : Nat} {A' : Segs} (f : ν → Value) (k : κ) (hx : e.ev x = some (.map (some b))) (hy : e.ev y = some (enc k)) [hb : TakeB A b (mapT enc f l c) A'] [hu : Und P t (.map kt et)] [hk : KeyT P kt enc]
    (hg : e.want ops g = some true) (h : L P N X ops rest K e M ([(b, mapT enc f (delM k l) c)] :: A')) : L P N X ops (⟨none, .call { callee := .builtin .delete, args := #[x, y], argTypes := #[t, t2] }, ty, pos, aft, g⟩ :: rest) K e M A :=
  L.delete0 (enc := enc) k hx hy hg (by rw [delM_map]; exact h)
theorem Qt.lookupT {t kt et : TypeId} {x y : Operand} {b : Nat} {l : List (Nat × κ × ν)} {c : Nat} {A' : Segs} (f : ν → Value) (z : ν) (k : κ) (hx : e.ev x = some (.map (some b))) (hy : e.ev y = some (enc k)) [hb : TakeB A b (mapT enc f l c) A'] [hu : Und P t (.map kt et)] [hk : KeyT P kt enc] [hz : Zv P et (f z)] :
    Qt P N e M A ⟨some d, .lookup t x y true, ty, pos, aft, g⟩ (.tuple #[f ((lookM k l).getD z), .bool (lookM k l).isSome]) := by
  have := Qt.lookupM (P := P) (N := N) (e := e) (M := M) (A := A) (d := d) (ty := ty) (pos := pos) (aft := aft) (g := g) (enc := enc) (t := t) k hx hy
  rw [lookM_map, Option.isSome_map] at this
  rwa [show ((lookM k l).map f).getD (f z) = f ((lookM k l).getD z) by cases lookM k l <;> rfl] at this
theorem Qt.lookupT1 {t kt et : TypeId} {x y : Operand} {b : Nat} {l : List (Nat × κ × ν)} {c : Nat} {A' : Segs} (f : ν → Value) (z : ν) (k : κ) (hx : e.ev x = some (.map (some b))) (hy : e.ev y = some (enc k)) [hb : TakeB A b (mapT enc f l c) A'] [hu : Und P t (.map kt et)] [hk : KeyT P kt enc] [hz : Zv P et (f z)] :
    Qt P N e M A ⟨some d, .lookup t x y false, ty, pos, aft, g⟩ (f ((lookM k l).getD z)) := by
  have := Qt.lookupM1 (P := P) (N := N) (e := e) (M := M) (A := A) (d := d) (ty := ty) (pos := pos) (aft := aft) (g := g) (enc := enc) (t := t) k hx hy
  rw [lookM_map] at this
  rwa [show ((lookM k l).map f).getD (f z) = f ((lookM k l).getD z) by cases lookM k l <;> rfl] at this
end
end Go.Proofs.Ytdgdigliepncpaa
