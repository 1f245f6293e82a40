/-
  This text proves the rules for values and slices that are built, for append, for slicing, and for statements whose order is open, over whatever program.
  Conditions: none; nothing here names the program.
-/
import Derived.Test.YtdgdigliepncpaaMem
namespace Go.Proofs.Ytdgdigliepncpaa
open Go
attribute [local semireducible] C L Qt BinRun Fn Fn0 Hands

/-! ### Building a struct's or an array's value -/

class Nth (pl : List (Nat × Nat)) (i : Nat) (off n : outParam Nat) : Prop where
  eq : pl[i]? = some (off, n)
instance Nth.zero {off n : Nat} {pl : List (Nat × Nat)} : Nth ((off, n) :: pl) 0 off n := ⟨rfl⟩
instance Nth.succ {p : Nat × Nat} {pl : List (Nat × Nat)} {i off n : Nat} [h : Nth pl i off n] : Nth (p :: pl) (i + 1) off n := ⟨by simpa using h.eq⟩
theorem foldl_put (new : List Value) : ∀ (cl : List Value) (off k : Nat), off + k + new.length ≤ cl.length →
    (new.zipIdx k).foldl (fun cs (p : Value × Nat) => cs.setIfInBounds (off + p.2) p.1) cl.toArray = (cl.take (off + k) ++ new ++ cl.drop (off + k + new.length)).toArray := by
  induction new with
  | nil => intro cl off k _; simp
  | cons v rest ih =>
    intro cl off k h
    simp only [List.zipIdx_cons, List.foldl_cons]
    have hset : cl.toArray.setIfInBounds (off + k) v = (cl.set (off + k) v).toArray := by simp
    rw [hset]
    have := ih (cl.set (off + k) v) off (k + 1) (by simp at h ⊢; omega)
    rw [this]
    congr 1
    have e := list_seg_step cl (off + k) v rest (by simp at h; omega)
    simpa [Nat.add_assoc] using e

theorem fill_step {place : Nat → Option (Nat × Nat)} {z new z1 : List Value} {i off : Nat} {v : Value} {rest : List (Nat × Value)} (hc : v.cells = new.toArray) (hp : place i = some (off, new.length)) [put : Put z off new z1] :
    Instr.fill place z.toArray ((i, v) :: rest) = Instr.fill place z1.toArray rest := by
  have hle := put.le
  have heq := put.eq
  simp only [Instr.fill, hp]
  rw [if_neg (by simp [hc]; omega)]
  congr 1
  rw [hc]
  have := foldl_put new z off 0 (by simpa using hle)
  simp only [Nat.add_zero] at this
  rw [← heq, ← this, ← Array.foldl_toList]
  simp

class Fill (pl : List (Nat × Nat)) (z : List Value) (parts : List (Nat × Value)) (out : outParam (List Value)) : Prop where
  eq : Instr.fill (fun i => pl[i]?) z.toArray parts = some out.toArray
instance Fill.nil {pl : List (Nat × Nat)} {z : List Value} : Fill pl z [] z := ⟨rfl⟩
instance Fill.cons {pl : List (Nat × Nat)} {z new z1 out : List Value} {i off n : Nat} {v : Value} {rest : List (Nat × Value)} [hc : Cells v new] [hl : Len new n] [hn : Nth pl i off n] [put : Put z off new z1] [hr : Fill pl z1 rest out] : Fill pl z ((i, v) :: rest) out :=
  ⟨by rw [fill_step (put := put) hc.eq (by rw [hn.eq, hl.eq])]; exact hr.eq⟩

def Env.evps (e : Env) : List (Nat × Operand) → Option (List (Nat × Value))
  | [] => some []
  | (i, x) :: xs => match e.ev x, e.evps xs with
    | some v, some vs => some ((i, v) :: vs)
    | _, _ => none
theorem Fr.evps {n : Nat} {e : Env} {a : Act} (h : Fr n e a) : ∀ {xs : List (Nat × Operand)} {vs : List (Nat × Value)}, e.evps xs = some vs → xs.map (fun p => (p.1, a.eval p.2)) = vs
  | [], vs, hx => by simp only [Env.evps, Option.some.injEq] at hx; simp [hx]
  | (i, x) :: xs, vs, hx => by
    simp only [Env.evps] at hx
    cases h1 : e.ev x with
    | none => simp [h1] at hx
    | some v =>
      cases h2 : e.evps xs with
      | none => simp [h1, h2] at hx
      | some us =>
        simp only [h1, h2, Option.some.injEq] at hx
        subst hx
        simp [h.ev h1, h.evps h2]

theorem run_places {P : Program} {w : World} : ∀ (fs : List Field) (pl : List (Nat × Nat)), (fs.mapM fun f => (P.info? f.type).map fun i => (f.offset, i.size)) = some pl →
    (fs.mapM fun f => do pure (f.offset, ← sizeOf f.type) : Sem (List (Nat × Nat))).run P w = .ok pl w := by
  intro fs
  induction fs with
  | nil => intro pl h; simp at h; subst h; rfl
  | cons f fs ih =>
    intro pl h
    rw [List.mapM_cons] at h
    cases hi : P.info? f.type with
    | none => simp [hi] at h
    | some i =>
      simp only [hi, Option.map_some, Option.bind_eq_bind, Option.bind_some] at h
      cases hr : (fs.mapM fun f => (P.info? f.type).map fun i => (f.offset, i.size)) with
      | none => simp [hr] at h
      | some pl' =>
        simp only [hr, Option.bind_some, Option.pure_def, Option.some.injEq] at h
        subst h
        have hsz : (sizeOf f.type).run P w = .ok i.size w := by simp [sizeOf, typeInfo, hi]
        rw [List.mapM_cons]
        simp only [Sem.run_bind, hsz, Result.andThen_ok, Sem.run_pure, ih pl' hr]

theorem zero_of {P : Program} {t : TypeId} {z : List Value} (hz : Zer P t z) : ∃ i v, P.info? t = some i ∧ i.zero = some v ∧ v.cells = z.toArray := by
  obtain ⟨v, hv, hvz⟩ := hz.eq
  cases hi : P.info? t with
  | none => rw [hi] at hv; cases hv
  | some i => rw [hi] at hv; exact ⟨i, v, rfl, hv, by rw [← hvz]⟩

section
variable {P : Program} {N : Nat} {X : Cx} {Q : Post} {K : Kont} {e : Env} {M : Mem} {A : Segs} {ops : Array Oper} {rest : List Oper}
variable {d : Nat} {ty : TypeId} {pos : String} {aft : Array Edge} {g : Option (Nat × Bool)}

theorem Qt.build {t : TypeId} {ps : List (Nat × Operand)} {vs : List (Nat × Value)} {pl : List (Nat × Nat)} {z out : List Value} [hB : Bld P t pl z] (hx : e.evps ps = some vs) [hF : Fill pl z vs out] : Qt P N e M A ⟨some d, .build t ps.toArray, ty, pos, aft, g⟩ (aggv out) := fun a w hf _ _ => run_v (by
    show (Instr.build t (ps.toArray.map fun (p : Nat × Operand) => (p.1, a.eval p.2))).run P w = _
    obtain ⟨fs, hu, hpl⟩ := hB.eq
    obtain ⟨i, v, hi, hiz, hvc⟩ := zero_of hB.zero
    have hps := hf.evps hx
    have hfill := hF.eq
    have hplaces := run_places (P := P) (w := w) fs.toList pl hpl
    have hpl2 : (fs.mapM fun f => do Pure.pure (f.offset, ← sizeOf f.type) : Sem (Array (Nat × Nat))).run P w = .ok pl.toArray w := by
      rw [← Array.toArray_toList (xs := fs), List.mapM_toArray]
      simp only [Sem.run_map, hplaces, Result.andThen_ok]
    have hmap : (ps.toArray.map fun (p : Nat × Operand) => (p.1, a.eval p.2)).toList = vs := by simpa using hps
    simp only [Instr.build, zeroValue, typeInfo, Sem.run_bind, run_program, hi, hiz, Result.andThen_ok, Sem.run_pure, run_underlying hu, hpl2, hmap]
    have hfill' : Instr.fill (fun x => pl.toArray[x]?) v.cells vs = some out.toArray := by rw [hvc]; simpa using hfill
    simp only [hfill']
    rfl)
/-- A value that is built out of constants: by a closed equation. -/
theorem Qt.buildK {t : TypeId} {ps : Array (Nat × Operand)} {v : Value} (hr : ∀ a w, (Instr.build t (ps.map fun (p : Nat × Operand) => (p.1, Act.eval a p.2))).run P w = .ok v w) : Qt P N e M A ⟨some d, .build t ps, ty, pos, aft, g⟩ (v) := fun a w _ _ _ => run_v (hr a w)
end

/-! ### A new slice -/

class CellsAll (vs : List Value) (sz : Nat) (out : outParam (List Value)) : Prop where
  eq : ∃ cs : List (List Value), vs.map (·.cells) = cs.map List.toArray ∧ (∀ c ∈ cs, c.length = sz) ∧ cs.flatten = out
instance CellsAll.nil {sz : Nat} : CellsAll [] sz [] := ⟨[], rfl, by simp, rfl⟩
instance CellsAll.one {v : Value} {vs out : List Value} [h1 : One1 v] [h : CellsAll vs 1 out] : CellsAll (v :: vs) 1 (v :: out) := by
  obtain ⟨cs, a, b, c⟩ := h.eq
  exact ⟨[v] :: cs, by simp [a, cells_one h1.eq], by simpa using b, by simp [c]⟩
instance CellsAll.single {v : Value} {cv : List Value} {n : Nat} [h1 : Cells v cv] [h2 : Len cv n] : CellsAll [v] n cv := ⟨[cv], by simp [h1.eq], by simp [h2.eq], by simp⟩
instance CellsAll.two {v u : Value} {cv cu : List Value} {n : Nat} [h1 : Cells v cv] [h2 : Len cv n] [h3 : Cells u cu] [h4 : Len cu n] : CellsAll [v, u] n (cv ++ cu) := ⟨[cv, cu], by simp [h1.eq, h3.eq], by simp [h2.eq, h4.eq], by simp⟩

theorem fill_row (sz : Nat) : ∀ (vs : List Value) (cs : List (List Value)) (k : Nat) (pre z : List Value), vs.map (·.cells) = cs.map List.toArray → (∀ c ∈ cs, c.length = sz) → pre.length = k * sz → z.length = cs.length * sz →
    Instr.fill (fun i => some (i * sz, sz)) (pre ++ z).toArray ((vs.zipIdx k).map fun p => (p.2, p.1)) = some (pre ++ cs.flatten).toArray := by
  intro vs
  induction vs with
  | nil =>
    intro cs k pre z h1 h2 h3 h4
    have : cs = [] := by cases cs with
      | nil => rfl
      | cons c cs => simp at h1
    subst this
    simp at h4
    simp [Instr.fill, h4]
  | cons v vs ih =>
    intro cs k pre z h1 h2 h3 h4
    cases cs with
    | nil => simp at h1
    | cons c cs =>
      simp only [List.map_cons, List.cons.injEq] at h1
      have hc := h2 c (by simp)
      simp only [List.length_cons, Nat.add_mul, Nat.one_mul] at h4
      have hput : Put (pre ++ z) (k * sz) c ((pre ++ c) ++ z.drop sz) := ⟨by
        rw [← h3, List.take_left, List.drop_append, List.drop_of_length_le (by omega)]
        simp [hc], by simp; omega⟩
      simp only [List.zipIdx_cons, List.map_cons]
      rw [fill_step (new := c) (put := hput) h1.1 (by rw [hc])]
      rw [ih cs (k + 1) (pre ++ c) (z.drop sz) h1.2 (fun x hx => h2 x (by simp [hx])) (by simp [h3, hc, Nat.add_mul]) (by simp; omega)]
      simp

theorem zip_parts : ∀ (ps : List (Nat × Value)) (k : Nat), ps.map (·.1) = List.range' k ps.length → ps = ((ps.map (·.2)).zipIdx k).map fun p => (p.2, p.1) := by
  intro ps
  induction ps with
  | nil => intro k _; rfl
  | cons p ps ih =>
    intro k h
    simp only [List.map_cons, List.length_cons, List.range'_succ, List.cons.injEq] at h
    simp only [List.map_cons, List.zipIdx_cons]
    rw [← ih (k + 1) h.2, ← h.1]

section
variable {P : Program} {N : Nat} {X : Cx} {Q : Post} {K : Kont} {e : Env} {M : Mem} {A : Segs} {ops : Array Oper} {rest : List Oper}
variable {d : Nat} {ty : TypeId} {pos : String} {aft : Array Edge} {g : Option (Nat × Bool)}

theorem run_buildSlice {P : Program} {w : World} {t el : TypeId} {sz : Nat} {z out : List Value} {ps : List (Nat × Value)} {n : Nat} (hu : P.underlying t = some (.slice el)) (hz : Zer P el z) (hs : (P.info? el).map (·.size) = some sz)
    (hi : ps.map (·.1) = List.range n) (hpl : ps.length = n) (hsmall : n * sz ≤ 2 ^ 24) (hc : CellsAll (ps.map (·.2)) sz out) (hpos : n * sz ≠ 0) :
    (Instr.buildSlice t n ps.toArray).run P w = .ok (.slice (some ⟨w.heap.size, 0, none⟩) n n) (w.alloc (row out el)) := by
  obtain ⟨i, v, hi', hiz, hvc⟩ := zero_of hz
  have hsz : i.size = sz := by rw [hi'] at hs; simpa using hs
  obtain ⟨cs, h1, h2, h3⟩ := hc.eq
  have hlen : cs.length = n := by have := congrArg List.length h1; simp at this; omega
  have hfill := fill_row sz (ps.map (·.2)) cs 0 [] ((List.range (n * sz)).map fun j => z.toArray[j % z.toArray.size]!) h1 h2 (by simp) (by simp [hlen])
  rw [List.nil_append, List.nil_append, h3, ← zip_parts ps 0 (by rw [hi, hpl, List.range_eq_range'])] at hfill
  have harr : ((List.range (n * sz)).map fun j => z.toArray[j % z.toArray.size]!).toArray = (Array.range (n * sz)).map fun j => z.toArray[j % z.toArray.size]! := by
    simp [← List.toArray_range]
  rw [harr] at hfill
  simp only [Instr.buildSlice, Sem.run_bind, run_underlying hu, Result.andThen_ok, sizeOf, typeInfo, run_program, hi', Sem.run_pure, hsz]
  rw [if_neg (by omega)]
  simp only [Sem.run_bind, Sem.run_pure, Result.andThen_ok, if_neg hpos, zeroValue, typeInfo, run_program, hi', hiz, hvc, hfill]
  simp [newRow, row]

theorem L.buildSlice {t el : TypeId} {n sz : Nat} {ps : List (Nat × Operand)} {us z out : List Value} [hu : Und P t (.slice el)] [hz : Zer P el z] [hs : Siz P el sz] (hx : e.evs (ps.map (·.2)) = some us) (hi : (ps.map (·.1)) = List.range n) (hl : ps.length = n) (hsm : Nat.ble (n * sz) (2 ^ 24) = true)
    (hpos : Nat.beq (n * sz) 0 = false) [hc : CellsAll us sz out] (hg : e.want ops g = some true) (hn : Nat.blt d N = true)
    (h : ∀ b, L P N X ops rest K ((d, .slice (some ⟨b, 0, none⟩) n n) :: e) M ([(b, row out el)] :: A)) : L P N X ops (⟨some d, .buildSlice t n ps.toArray, ty, pos, aft, g⟩ :: rest) K e M A :=
  L.step hg rfl hn fun a w hf hst => ⟨_, _, M, [(w.heap.size, row out el)] :: A, run_v (by
    show (Instr.buildSlice t n (ps.toArray.map fun (p : Nat × Operand) => (p.1, a.eval p.2))).run P w = _
    have hps := hf.evs hx
    rw [List.map_toArray]
    exact run_buildSlice hu.eq hz hs.eq (by rw [← hi]; simp [Function.comp_def]) (by simpa using hl) (Nat.le_of_ble_eq_true hsm) (by simp only [List.map_map, Function.comp_def] at hps ⊢; rw [hps]; exact hc) (Nat.ne_of_beq_eq_false hpos)), hst.alloc _, h w.heap.size⟩
/-- One that stays as it is. -/
theorem L.buildSliceM {t el : TypeId} {n sz : Nat} {ps : List (Nat × Operand)} {us z out : List Value} [hu : Und P t (.slice el)] [hz : Zer P el z] [hs : Siz P el sz] (hx : e.evs (ps.map (·.2)) = some us) (hi : (ps.map (·.1)) = List.range n) (hl : ps.length = n) (hsm : Nat.ble (n * sz) (2 ^ 24) = true)
    (hpos : Nat.beq (n * sz) 0 = false) [hc : CellsAll us sz out] (hg : e.want ops g = some true) (hn : Nat.blt d N = true)
    (h : ∀ b M', Prev M' M → At M' b (row out el) → L P N X ops rest K ((d, .slice (some ⟨b, 0, none⟩) n n) :: e) M' A) : L P N X ops (⟨some d, .buildSlice t n ps.toArray, ty, pos, aft, g⟩ :: rest) K e M A :=
  L.step hg rfl hn fun a w hf hst => by
    obtain ⟨M', hp, hM, hst'⟩ := freeze_alloc (X := X) (A := A) (hst.alloc (row out el))
    exact ⟨_, _, M', A, run_v (by
      show (Instr.buildSlice t n (ps.toArray.map fun (p : Nat × Operand) => (p.1, a.eval p.2))).run P w = _
      have hps := hf.evs hx
      rw [List.map_toArray]
      exact run_buildSlice hu.eq hz hs.eq (by rw [← hi]; simp [Function.comp_def]) (by simpa using hl) (Nat.le_of_ble_eq_true hsm) (by simp only [List.map_map, Function.comp_def] at hps ⊢; rw [hps]; exact hc) (Nat.ne_of_beq_eq_false hpos)), hst', h w.heap.size M' hp hM⟩
end
end Go.Proofs.Ytdgdigliepncpaa
