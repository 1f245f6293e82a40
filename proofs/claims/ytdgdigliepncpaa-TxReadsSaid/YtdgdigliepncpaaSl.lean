/-
  This text proves how a slice in memory that stays is read, cut and appended.
  Conditions: none; nothing here names the program.
-/
import Derived.Test.YtdgdigliepncpaaHands
namespace Go.Proofs.Ytdgdigliepncpaa
open Go
attribute [local semireducible] C L Qt BinRun Fn Fn0 Hands

/-- v is a slice of n elements of sz cells each, cs all together, in memory that stays. -/
def SlM (M : Mem) (sz : Nat) (v : Value) (n : Nat) (cs : List Value) : Prop :=
  cs.length = n * sz ∧ ((∃ a, v = .slice a 0 0 ∧ n = 0) ∨
    ∃ (b o c : Nat) (cl : List Value) (T : TypeId) (fr : Nat × Nat), v = .slice (some ⟨b, o, none⟩) n c ∧ n ≤ c ∧ c ≤ maxLen ∧ At M b (.cells cl.toArray T fr) ∧ (cl.drop o).take (n * sz) = cs ∧ o + n * sz ≤ cl.length)

theorem SlM.up {M M' : Mem} {sz n : Nat} {v : Value} {cs : List Value} (h : SlM M sz v n cs) [s : Sub M M'] : SlM M' sz v n cs := by
  obtain ⟨h1, h2⟩ := h
  refine ⟨h1, ?_⟩
  rcases h2 with h2 | ⟨b, o, c, cl, T, fr, hv, hn, hc, hb, hr⟩
  · exact .inl h2
  · exact .inr ⟨b, o, c, cl, T, fr, hv, hn, hc, hb.up, hr⟩
theorem SlM.nil {M : Mem} {sz : Nat} {a : Option Addr} : SlM M sz (.slice a 0 0) 0 [] := ⟨by simp, .inl ⟨a, rfl, rfl⟩⟩
theorem SlM.one {M : Mem} {sz n : Nat} {v : Value} {cs : List Value} (h : SlM M sz v n cs) : One1 v := ⟨by
  rcases h.2 with ⟨_, rfl, _⟩ | ⟨b, o, c, cl, T, fr, rfl, _⟩ <;> rfl⟩
theorem SlM.cells {M : Mem} {sz n : Nat} {v : Value} {cs : List Value} (h : SlM M sz v n cs) : Cells v [v] := ⟨by
  rcases h.2 with ⟨_, rfl, _⟩ | ⟨b, o, c, cl, T, fr, rfl, _⟩ <;> rfl⟩
theorem SlM.le {M : Mem} {sz n : Nat} {v : Value} {cs : List Value} (h : SlM M sz v n cs) : n ≤ maxLen := by
  rcases h.2 with ⟨_, _, rfl⟩ | ⟨b, o, c, cl, T, fr, rfl, h1, h2, _⟩ <;> omega
theorem SlM.ofRow {M : Mem} {sz n c b : Nat} {cl : List Value} {T : TypeId} {fr : Nat × Nat} (hb : At M b (.cells cl.toArray T fr)) (hl : cl.length = n * sz) (hn : n ≤ c) (hc : c ≤ maxLen) : SlM M sz (.slice (some ⟨b, 0, none⟩) n c) n cl :=
  ⟨hl, .inr ⟨b, 0, c, cl, T, fr, rfl, hn, hc, hb, by simp [← hl], by omega⟩⟩
/-- What was owned and stays as it is now. -/
theorem SlM.ofOwn {M : Mem} {el : TypeId} {sz n : Nat} {v : Value} {xs : List Value} (hx : xs.length = n * sz) (hpos : 0 < sz) (h : v = .slice none 0 0 ∧ xs = [] ∨ ∃ b n cap spare, v = .slice (some ⟨b, 0, none⟩) n cap ∧ xs.length = n * sz ∧ n ≤ cap ∧ cap ≤ maxLen ∧ xs.length + spare.length = cap * sz ∧ At M b (row (xs ++ spare) el)) : SlM M sz v n xs := by
  refine ⟨hx, ?_⟩
  rcases h with ⟨rfl, rfl⟩ | ⟨b, m, cap, spare, rfl, h1, h2, h3, h4, hb⟩
  · refine .inl ⟨none, rfl, ?_⟩
    rcases Nat.eq_zero_or_pos n with h | h
    · exact h
    · have := Nat.mul_pos h hpos; simp at hx; omega
  · have : m = n := Nat.eq_of_mul_eq_mul_right hpos (by omega)
    subst this
    exact .inr ⟨b, 0, cap, xs ++ spare, el, (0, 0), rfl, h2, h3, hb, by simp [← hx], by simp; omega⟩

/-- An element's place. -/
theorem SlM.at_ {M : Mem} {sz n : Nat} {v : Value} {cs : List Value} (h : SlM M sz v n cs) {i : Nat} (hi : i < n) :
    ∃ (b o c : Nat) (cl : List Value) (T : TypeId) (fr : Nat × Nat), v = .slice (some ⟨b, o, none⟩) n c ∧ At M b (.cells cl.toArray T fr) ∧ (cl.drop (o + i * sz)).take sz = (cs.drop (i * sz)).take sz ∧ o + i * sz + sz ≤ cl.length ∧ (0 < sz → cl[o + i * sz]? = cs[i * sz]?) := by
  rcases h.2 with ⟨_, _, h2⟩ | ⟨b, o, c, cl, T, fr, hv, hn, hc, hb, hcs, hl⟩
  · omega
  · have hle : i * sz + sz ≤ n * sz := by
      have : (i + 1) * sz ≤ n * sz := Nat.mul_le_mul_right _ hi
      rw [Nat.add_mul] at this; omega
    refine ⟨b, o, c, cl, T, fr, hv, hb, ?_, by omega, fun hp => ?_⟩
    · rw [← hcs, List.drop_take, List.drop_drop, List.take_take, Nat.min_eq_left (by omega)]
    · rw [← hcs, List.getElem?_take, if_pos (by omega), List.getElem?_drop]

section
variable {P : Program} {N : Nat} {X : Cx} {Q : Post} {K : Kont} {e : Env} {M M1 : Mem} {A : Segs} {ops : Array Oper} {rest : List Oper}
variable {d : Nat} {ty : TypeId} {pos : String} {aft : Array Edge} {g : Option (Nat × Bool)}

theorem Rd.zero {a : Option Addr} {sz : Nat} : Rd X M A (.slice a 0 0) 0 sz [] := ⟨fun _ _ => by
  cases a with
  | none => exact .inl ⟨rfl, rfl, rfl⟩
  | some a => exact .inr ⟨a, 0, rfl, by simp, fun j u h => by simp at h⟩⟩
theorem SlM.rd {sz n : Nat} {v : Value} {cs : List Value} (h : SlM M1 sz v n cs) [s : Sub M1 M] : Rd X M A v n sz cs := by
  obtain ⟨h1, h2⟩ := h
  rcases h2 with ⟨a0, rfl, rfl⟩ | ⟨b, o, c, cl, T, fr, rfl, hn, hc, hb, hcs, hl⟩
  · have : cs = [] := by simpa using h1
    subst this
    exact Rd.zero
  · exact Rd.ofM hb hcs hl

theorem Qt.lenS {t el : TypeId} {x : Operand} {v : Value} {sz n : Nat} {cs : List Value} (hx : e.ev x = some v) (h : SlM M1 sz v n cs) [hu : Und P t (.slice el)] : Qt P N e M A ⟨some d, .call { callee := .builtin .len, args := #[x], argTypes := #[t] }, ty, pos, aft, g⟩ (int64 n) := by
  rcases h.2 with ⟨a0, rfl, rfl⟩ | ⟨b, o, c, cl, T, fr, rfl, _⟩
  · exact Qt.len hx
  · exact Qt.len hx

/-- A part of a slice. -/
def subV (v : Value) (lo hi sz : Nat) : Value :=
  match v with
  | .slice a _ c => .slice (if c = lo then a else a.map (·.add (lo * sz))) (hi - lo) (c - lo)
  | _ => v
theorem SlM.sub {sz n : Nat} {v : Value} {cs : List Value} (h : SlM M sz v n cs) {lo hi : Nat} (h1 : lo ≤ hi) (h2 : hi ≤ n) : SlM M sz (subV v lo hi sz) (hi - lo) ((cs.drop (lo * sz)).take ((hi - lo) * sz)) := by
  obtain ⟨hl, hv⟩ := h
  have hle : hi * sz ≤ n * sz := Nat.mul_le_mul_right _ h2
  have hsub : (hi - lo) * sz = hi * sz - lo * sz := Nat.sub_mul ..
  have hlo : lo * sz ≤ hi * sz := Nat.mul_le_mul_right _ h1
  refine ⟨by simp; omega, ?_⟩
  rcases hv with ⟨a0, rfl, rfl⟩ | ⟨b, o, c, cl, T, fr, rfl, hn, hc, hb, hcs, hol⟩
  · have e1 : lo = 0 := by omega
    have e2 : hi = 0 := by omega
    subst e1 e2
    exact .inl ⟨a0, by simp [subV], rfl⟩
  · by_cases hcl : c = lo
    · refine .inr ⟨b, o, c - lo, cl, T, fr, ?_, by omega, by omega, hb, ?_, by omega⟩
      · simp only [subV]; rw [if_pos hcl]
      · have : hi - lo = 0 := by omega
        rw [this]; simp
    · refine .inr ⟨b, o + lo * sz, c - lo, cl, T, fr, ?_, by omega, by omega, hb, ?_, by omega⟩
      · simp only [subV]; rw [if_neg hcl]; simp [add_none]
      · rw [← hcs, List.drop_take, List.drop_drop, List.take_take, Nat.min_eq_left (by omega)]
theorem run_sliceBound {w : World} {i y : Nat} {code : BoundsCode} (h : i ≤ y) : (Instr.sliceBound (int64 i) y code).run P w = .ok i w := by
  simp only [Instr.sliceBound, asIntOf, Sem.run_bind, Sem.run_pure, Result.andThen_ok]
  rw [if_pos (by omega)]; simp
theorem run_slice {w : World} {t el : TypeId} {sz n lo hi : Nat} {v : Value} {cs : List Value} {M : Mem} {l h : Option Value} (hs : SlM M sz v n cs) (hu : P.underlying t = some (.slice el)) (hz : (P.info? el).map (·.size) = some sz) (h1 : lo ≤ hi) (h2 : hi ≤ n)
    (hl : l = some (int64 lo) ∨ (l = none ∧ lo = 0)) (hh : h = some (int64 hi) ∨ (h = none ∧ hi = n)) : (Instr.sliceAt t v l h none).run P w = .ok (subV v lo hi sz) w := by
  obtain ⟨i, hi', hsz⟩ := info_of_size hz
  have hv : ∃ a c, v = .slice a n c ∧ n ≤ c := by
    rcases hs.2 with ⟨a0, rfl, rfl⟩ | ⟨b, o, c, cl, T, fr, rfl, hn, _⟩
    · exact ⟨a0, 0, rfl, Nat.le_refl _⟩
    · exact ⟨_, c, rfl, hn⟩
  obtain ⟨a, c, rfl, hnc⟩ := hv
  simp only [Instr.sliceAt, run_underlying hu, Sem.run_bind, Result.andThen_ok, Instr.slice, Instr.sliceBounds, Sem.run_pure]
  rcases hh with rfl | ⟨rfl, rfl⟩ <;> rcases hl with rfl | ⟨rfl, rfl⟩ <;>
    simp [run_sliceBound (P := P) (w := w) h1, run_sliceBound (P := P) (w := w) (Nat.le_trans h2 hnc), sizeOf, typeInfo, hi', hsz, subV]
theorem Qt.sliceLo {t el : TypeId} {x y : Operand} {v : Value} {sz n lo : Nat} {cs : List Value} (hx : e.ev x = some v) (hy : e.ev y = some (int64 lo)) (h : SlM M1 sz v n cs) (hlo : lo ≤ n) [hu : Und P t (.slice el)] [hz : Siz P el sz] : Qt P N e M A ⟨some d, .slice t x (some y) none none, ty, pos, aft, g⟩ (subV v lo n sz) := fun a w hf _ _ => run_v (by
  show (Instr.sliceAt t (a.eval x) (some (a.eval y)) none none).run P w = _
  rw [hf.ev hx, hf.ev hy]
  exact run_slice h hu.eq hz.eq hlo (Nat.le_refl _) (.inl rfl) (.inr ⟨rfl, rfl⟩))
theorem Qt.sliceHi {t el : TypeId} {x y : Operand} {v : Value} {sz n hi : Nat} {cs : List Value} (hx : e.ev x = some v) (hy : e.ev y = some (int64 hi)) (h : SlM M1 sz v n cs) (hhi : hi ≤ n) [hu : Und P t (.slice el)] [hz : Siz P el sz] : Qt P N e M A ⟨some d, .slice t x none (some y) none, ty, pos, aft, g⟩ (subV v 0 hi sz) := fun a w hf _ _ => run_v (by
  show (Instr.sliceAt t (a.eval x) none (some (a.eval y)) none).run P w = _
  rw [hf.ev hx, hf.ev hy]
  exact run_slice h hu.eq hz.eq (Nat.zero_le _) hhi (.inr ⟨rfl, rfl⟩) (.inl rfl))
theorem Qt.sliceBoth {t el : TypeId} {x y z : Operand} {v : Value} {sz n lo hi : Nat} {cs : List Value} (hx : e.ev x = some v) (hy : e.ev y = some (int64 lo)) (hz' : e.ev z = some (int64 hi)) (h : SlM M1 sz v n cs) (hlo : lo ≤ hi) (hhi : hi ≤ n) [hu : Und P t (.slice el)] [hz : Siz P el sz] : Qt P N e M A ⟨some d, .slice t x (some y) (some z) none, ty, pos, aft, g⟩ (subV v lo hi sz) := fun a w hf _ _ => run_v (by
  show (Instr.sliceAt t (a.eval x) (some (a.eval y)) (some (a.eval z)) none).run P w = _
  rw [hf.ev hx, hf.ev hy, hf.ev hz']
  exact run_slice h hu.eq hz.eq hlo hhi (.inl rfl) (.inl rfl))
/-- What is owned can be read. -/
theorem OwnS.rd {el : TypeId} {sz : Nat} {v : Value} {xs : List Value} {H : Hp} (h : OwnS el sz v xs H) {A' : Segs} [t : Take A H A'] {n : Nat} (hn : xs.length = n * sz) (hpos : 0 < sz) : Rd X M A v n sz xs := by
  rcases h with ⟨rfl, rfl, rfl⟩ | ⟨b, m, cap, spare, rfl, h1, h2, h3, h4, rfl⟩
  · have : n = 0 := by
      rcases Nat.eq_zero_or_pos n with h | h
      · exact h
      · have := Nat.mul_pos h hpos; simp at hn; omega
    subst this
    exact Rd.zero
  · have : m = n := Nat.eq_of_mul_eq_mul_right hpos (by omega)
    subst this
    have tb : TakeB A b (.cells (xs ++ spare).toArray el (0, 0)) A' := ⟨t.perm⟩
    exact Rd.ofA (t := tb) (by simp [← hn]) (by simp; omega)
/-- copy into an owned row. -/
theorem L.copy {t : TypeId} {el : TypeId} {x y : Operand} {src : Value} {b o dn dc sz m : Nat} {cl news out : List Value} {T : TypeId} {A' : Segs} (hx : e.ev x = some (.slice (some ⟨b, o, none⟩) dn dc)) (hy : e.ev y = some src) [hb : TakeB A b (row cl T) A'] [hu : Und P t (.slice el)] [hz : Siz P el sz] (hsrc : Rd X M A src m sz news) (hm : m ≤ dn) (hp : Put cl o news out) (h1 : Ones news) (hg : e.want ops g = some true) (hn : Nat.blt d N = true)
    (h : L P N X ops rest K ((d, int64 m) :: e) M ([(b, row out T)] :: A')) : L P N X ops (⟨some d, .call { callee := .builtin .copy, args := #[x, y], argTypes := #[t, t] }, ty, pos, aft, g⟩ :: rest) K e M A :=
  L.step hg rfl hn fun a w hf hst => by
    have hst' := hst.perm hb.perm
    have hbk := hst'.own b _ (List.mem_cons_self ..)
    obtain ⟨i, hi, hsz⟩ := info_of_size hz.eq
    have e1 := hf.ev hx
    have e2 := hf.ev hy
    refine ⟨int64 m, w.setRow b out.toArray, M, [(b, row out T)] :: A', ?_, hst'.setRow, h⟩
    rcases hsrc.src w hst with ⟨rfl, rfl, rfl⟩ | ⟨ad, c, rfl, hl, hnews⟩
    · have hself : w.setRow b cl.toArray = w := setRow_self w b _ T (0, 0) hbk
      have ho : out = cl := by rw [← hp.eq]; simp
      subst ho
      rw [hself]
      simp [execOp, resolve, invoke, builtin, Builtin.copy_, e1, e2, run_underlying hu.eq, Builtin.lenOf, run_firstCells_none, sizeOf, typeInfo, hi, storeCells, goInt]
    · have hf2 := run_firstCells_some (P := P) w sz m ad m c news hl hnews
      have hst2 := run_storeCells_at P b o T news 0 cl.toArray w hbk (by have := hp.le; simp; omega) h1.eq
      simp only [Nat.add_zero] at hst2
      rw [hp.eq] at hst2
      have hmin : Nat.min m dn = m := Nat.min_eq_left hm
      simp only [execOp, resolve, invoke, builtin, Sem.run_bind, Sem.run_pure, Result.andThen_ok, List.map_toArray, List.map_cons, List.map_nil, e1, e2]
      have hcopy : (Builtin.copy_ #[t, t] ty #[.slice (some ⟨b, o, none⟩) dn dc, .slice (some ad) m c]).run P w = .ok (int64 m) (w.setRow b out.toArray) := by
        simp [Builtin.copy_, run_underlying hu.eq, Builtin.lenOf, sizeOf, typeInfo, hi, hsz, hmin, hf2, hst2, goInt]
      rw [hcopy]
      rfl
theorem Qt.sliceArrLo {t el : TypeId} {x y : Operand} {b o n sz lo : Nat} [hu : Und P t (.array n el)] [hz : Siz P el sz] (hx : e.ev x = some (ptr b o)) (hy : e.ev y = some (int64 lo)) (hlo : lo < n) : Qt P N e M A ⟨some d, .slice t x (some y) none none, ty, pos, aft, g⟩ (.slice (some ⟨b, o + lo * sz, none⟩) (n - lo) (n - lo)) := fun a w hf _ _ => run_v (by
  show (Instr.sliceAt t (a.eval x) (some (a.eval y)) none none).run P w = _
  obtain ⟨i, hi, hs⟩ := info_of_size hz.eq
  have hne : ¬ n = lo := by omega
  rw [hf.ev hx, hf.ev hy]
  simp [Instr.sliceAt, run_underlying hu.eq, Instr.sureAddr, Instr.sliceBounds, run_sliceBound (P := P) (w := w) (Nat.le_of_lt hlo), sizeOf, typeInfo, hi, hs, hne, add_none])
theorem Qt.sliceArrHi {t el : TypeId} {x y : Operand} {b o n sz hi : Nat} [hu : Und P t (.array n el)] [hz : Siz P el sz] (hx : e.ev x = some (ptr b o)) (hy : e.ev y = some (int64 hi)) (hhi : hi ≤ n) : Qt P N e M A ⟨some d, .slice t x none (some y) none, ty, pos, aft, g⟩ (.slice (some ⟨b, o, none⟩) hi n) := fun a w hf _ _ => run_v (by
  show (Instr.sliceAt t (a.eval x) none (some (a.eval y)) none).run P w = _
  obtain ⟨i, hi', hs⟩ := info_of_size hz.eq
  rw [hf.ev hx, hf.ev hy]
  simp [Instr.sliceAt, run_underlying hu.eq, Instr.sureAddr, Instr.sliceBounds, run_sliceBound (P := P) (w := w) hhi, sizeOf, typeInfo, hi', add_none])
theorem Qt.indexAgg {t el : TypeId} {x y : Operand} {cl : List Value} {n i : Nat} {v : Value} [hu : Und P t (.array n el)] [hone : IsOne P el] (hx : e.ev x = some (aggv cl)) (hy : e.ev y = some (int64 i)) (hi : i < n) (hv : cl[i]? = some v) : Qt P N e M A ⟨some d, .index t x y, ty, pos, aft, g⟩ v := fun a w hf _ _ => run_v (by
  show (Instr.index t (a.eval x) (a.eval y)).run P w = _
  obtain ⟨ii, hii, hs⟩ := info_of_size hone.siz
  obtain ⟨dd, hdd, hm⟩ := hone.one
  rw [hf.ev hx, hf.ev hy]
  have hagg : (isAgg el).run P w = .ok false w := by
    simp only [isAgg, run_underlying hdd, Sem.run_bind, Result.andThen_ok]
    cases dd <;> first | rfl | exact hm.elim
  simp [Instr.index, asIntOf, run_underlying hu.eq, hi, sizeOf, typeInfo, hii, hs, part, hagg, hv])
theorem Qt.unXor {xt : TypeId} {x : Operand} {k : IntKind} {n r : Int} (hx : e.ev x = some (.int k n)) (hr : k.wrap (BitVec.ofInt k.bits (if k.signed then -1 else k.max) ^^^ BitVec.ofInt k.bits n).toNat = r) : Qt P N e M A ⟨some d, .unOp .xor xt x, ty, pos, aft, g⟩ (.int k r) := fun a w hf _ _ => run_v (by
  show (Op.unary .xor (a.eval x)).run P w = _
  rw [hf.ev hx]
  simp only [Op.unary, Op.intBits, Sem.run_pure, ← hr])
end
attribute [irreducible] SlM
end Go.Proofs.Ytdgdigliepncpaa
