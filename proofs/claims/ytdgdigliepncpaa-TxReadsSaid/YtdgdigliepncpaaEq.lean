/-
  This text proves when two structs or arrays of plain cells are equal: just when their cells are.
  Conditions: none; nothing here names the program.
-/
import Derived.ChangeKeysEq
import Derived.Laws.StructEq
import Derived.Test.YtdgdigliepncpaaMore
namespace Go.Proofs.Ytdgdigliepncpaa
open Go
attribute [local semireducible] BinRun

/-- The kind of a plain cell. -/
inductive Lk where
  | int (k : IntKind)
  | bool
deriving DecidableEq

def Lk.fits : Lk → Value → Prop
  | .int k, v => ∃ n, v = .int k n
  | .bool, v => ∃ b, v = .bool b

/-- The cells fit their kinds. -/
inductive Fits : List Lk → List Value → Prop
  | nil : Fits [] []
  | cons {k : Lk} {v : Value} {ks : List Lk} {vs : List Value} (h : k.fits v) (t : Fits ks vs) : Fits (k :: ks) (v :: vs)

theorem Fits.i {k : IntKind} {n : Int} {ks : List Lk} {vs : List Value} (t : Fits ks vs) : Fits (.int k :: ks) (.int k n :: vs) := .cons (k := .int k) ⟨_, rfl⟩ t
theorem Fits.b {n : Bool} {ks : List Lk} {vs : List Value} (t : Fits ks vs) : Fits (.bool :: ks) (.bool n :: vs) := .cons (k := .bool) ⟨_, rfl⟩ t
theorem Fits.length {ks : List Lk} {vs : List Value} (h : Fits ks vs) : vs.length = ks.length := by
  induction h with
  | nil => rfl
  | cons _ _ ih => simp [ih]
theorem Fits.append {a b : List Lk} {x y : List Value} (h : Fits a x) (k : Fits b y) : Fits (a ++ b) (x ++ y) := by
  induction h with
  | nil => exact k
  | cons h _ ih => exact .cons h ih
theorem Fits.split {a b : List Lk} {x : List Value} (h : Fits (a ++ b) x) : Fits a (x.take a.length) ∧ Fits b (x.drop a.length) := by
  induction a generalizing x with
  | nil => exact ⟨by simpa using Fits.nil, by simpa using h⟩
  | cons k a ih =>
    cases h with
    | cons h t => exact ⟨.cons h (ih t).1, (ih t).2⟩
theorem Fits.rep {k : Lk} {vs : List Value} (h : ∀ v ∈ vs, k.fits v) : Fits (List.replicate vs.length k) vs := by
  induction vs with
  | nil => exact .nil
  | cons v vs ih => exact .cons (h v (List.mem_cons_self ..)) (ih fun u hu => h u (List.mem_cons_of_mem _ hu))
theorem Fits.sum (s : Sm) : Fits (List.replicate 32 (.int .u8)) (sumC s) := by
  have := Fits.rep (k := .int .u8) (vs := sumC s) (fun v hv => by
    simp only [sumC, bytesC, List.mem_map] at hv
    obtain ⟨b, _, rfl⟩ := hv
    exact ⟨_, rfl⟩)
  rwa [show (sumC s).length = 32 by simp [sumC, bytesC, s.h]] at this
theorem Fits.bytes (l : List UInt8) : Fits (List.replicate l.length (.int .u8)) (bytesC l) := by
  have := Fits.rep (k := .int .u8) (vs := bytesC l) (fun v hv => by
    simp only [bytesC, List.mem_map] at hv
    obtain ⟨b, _, rfl⟩ := hv
    exact ⟨_, rfl⟩)
  rwa [show (bytesC l).length = l.length by simp [bytesC]] at this

/-- The kinds of a type's cells, where all are plain. -/
def leaves (P : Program) : Nat → TypeId → Option (List Lk)
  | 0, _ => none
  | d + 1, t => match P.underlying t with
    | some (.int k) => if (P.info? t).map (·.size) = some 1 then some [.int k] else none
    | some .bool => if (P.info? t).map (·.size) = some 1 then some [.bool] else none
    | some (.array n e) => (leaves P d e).bind fun l => if (P.info? e).map (·.size) = some l.length ∧ (P.info? t).map (·.size) = some (n * l.length) then some (List.replicate n l).flatten else none
    | some (.struct fs) => if P.stoodInHeld t then none else
        (fs.toList.foldl (fun acc f => acc.bind fun ks => (leaves P d f.type).bind fun l => if f.offset = ks.length ∧ (f.name != "_") = true ∧ (P.info? f.type).map (·.size) = some l.length then some (ks ++ l) else none) (some [])).bind
          fun ks => if (P.info? t).map (·.size) = some ks.length then some ks else none
    | _ => none

/-- The value of a type whose cells these are. -/
def mkV (P : Program) (t : TypeId) (xs : List Value) (v : Value) : Prop :=
  match P.underlying t with
  | some (.array _ _) | some (.struct _) => v = aggv xs
  | _ => xs = [v]

theorem cellsOf_size {P : Program} {t n : Nat} (h : (P.info? t).map (·.size) = some n) : P.cellsOf t = n := by
  obtain ⟨i, hi, hs⟩ := info_of_size h
  simp [Program.cellsOf, hi, hs]

theorem run_part_l {P : Program} {d t : Nat} {ks : List Lk} (hk : leaves P d t = some ks) (hs : (P.info? t).map (·.size) = some ks.length) (xs : List Value) (o : Nat) (ho : o + ks.length ≤ xs.length) (w : World) :
    ∃ v, (part t xs.toArray o).run P w = .ok v w ∧ mkV P t ((xs.drop o).take ks.length) v := by
  cases d with
  | zero => simp [leaves] at hk
  | succ d =>
    obtain ⟨i, hi, hsz⟩ := info_of_size hs
    unfold leaves at hk
    cases hu : P.underlying t with
    | none => simp [hu] at hk
    | some u =>
      rw [hu] at hk
      have hag : (isAgg t).run P w = .ok (match u with | .struct _ | .array _ _ => true | _ => false) w := by
        cases u <;> simp [isAgg, run_underlying hu]
      cases u with
      | array n e =>
        refine ⟨aggv ((xs.drop o).take ks.length), ?_, by simp [mkV, hu]⟩
        simp [part, hag, sizeOf, typeInfo, hi, hsz, aggv, List.extract]
      | struct fs =>
        refine ⟨aggv ((xs.drop o).take ks.length), ?_, by simp [mkV, hu]⟩
        simp [part, hag, sizeOf, typeInfo, hi, hsz, aggv, List.extract]
      | int k =>
        have : ks = [.int k] := by
          simp only at hk; split at hk
          · exact (Option.some.inj hk).symm
          · cases hk
        subst this
        have hlt : o < xs.length := by simp at ho; omega
        refine ⟨xs[o], ?_, by simp [mkV, hu, List.take_one, List.head?_drop, hlt]⟩
        simp [part, hag, hlt]
      | bool =>
        have : ks = [.bool] := by
          simp only at hk; split at hk
          · exact (Option.some.inj hk).symm
          · cases hk
        subst this
        have hlt : o < xs.length := by simp at ho; omega
        refine ⟨xs[o], ?_, by simp [mkV, hu, List.take_one, List.head?_drop, hlt]⟩
        simp [part, hag, hlt]
      | _ => simp at hk

theorem foldl_none {β γ : Type} (g : β → γ → Option β) (l : List γ) : l.foldl (fun acc f => acc.bind fun ks => g ks f) none = none := by
  induction l with
  | nil => rfl
  | cons a l ih => simpa using ih

/-- Two values of plain cells are equal just when their cells are. -/
theorem equalIn_leaves {P : Program} : ∀ (d t : Nat) (ks : List Lk), leaves P d t = some ks → ∀ (xs ys : List Value) (x y : Value), Fits ks xs → Fits ks ys → mkV P t xs x → mkV P t ys y → ∀ (e : Nat) (w : World),
    ∃ b, (Op.equalIn (d + e) t x y).run P w = .ok b w ∧ (b = true ↔ xs = ys)
  | 0, _, _, h => by simp [leaves] at h
  | d + 1, t, ks, h => by
    intro xs ys x y hx hy mx my e w
    rw [show d + 1 + e = (d + e) + 1 by omega]
    unfold leaves at h
    cases hu : P.underlying t with
    | none => simp [hu] at h
    | some u =>
      rw [hu] at h
      cases u with
      | int k =>
        have : ks = [.int k] := by
          simp only at h; split at h
          · exact (Option.some.inj h).symm
          · cases h
        subst this
        simp only [mkV, hu] at mx my
        subst mx my
        cases hx with | cons hx _ => cases hy with | cons hy _ =>
          obtain ⟨a, rfl⟩ := hx; obtain ⟨b, rfl⟩ := hy
          refine ⟨a == b, run_equalIn_int w (d + e) t k k a b hu, by simp⟩
      | bool =>
        have : ks = [.bool] := by
          simp only at h; split at h
          · exact (Option.some.inj h).symm
          · cases h
        subst this
        simp only [mkV, hu] at mx my
        subst mx my
        cases hx with | cons hx _ => cases hy with | cons hy _ =>
          obtain ⟨a, rfl⟩ := hx; obtain ⟨b, rfl⟩ := hy
          refine ⟨a == b, run_equalIn_bool w (d + e) t a b hu, by simp⟩
      | array n el =>
        simp only [mkV, hu] at mx my
        subst mx my
        simp only [Option.bind_eq_some_iff] at h
        obtain ⟨l, hl, h⟩ := h
        split at h
        · rename_i hsz
          obtain ⟨hs, _⟩ := hsz
          obtain rfl := Option.some.inj h
          obtain ⟨i, hi, hsz⟩ := info_of_size hs
          rw [show aggv xs = .agg xs.toArray from rfl, show aggv ys = .agg ys.toArray from rfl, run_equalIn_array w (d + e) _ _ hu hi, cellsOf_size hs]
          have key : ∀ (m j : Nat), j + m = n → ∃ b, (Op.eqItems (d + e) el l.length xs.toArray ys.toArray (List.range' j m)).run P w = .ok b w ∧ (b = true ↔ (xs.drop (j * l.length)) = (ys.drop (j * l.length))) := by
            have hlx : xs.length = n * l.length := by rw [hx.length]; simp
            have hly : ys.length = n * l.length := by rw [hy.length]; simp
            have hfit : ∀ (zs : List Value), Fits (List.replicate n l).flatten zs → ∀ j, j < n → Fits l ((zs.drop (j * l.length)).take l.length) := by
              intro zs hz j hj
              have e1 : (List.replicate n l).flatten = (List.replicate j l).flatten ++ (l ++ (List.replicate (n - j - 1) l).flatten) := by
                rw [← List.flatten_cons, ← List.flatten_append, ← List.replicate_succ, List.replicate_append_replicate, show j + (n - j - 1 + 1) = n by omega]
              rw [e1] at hz
              have := hz.split.2.split.1
              simpa using this
            intro m
            induction m with
            | zero =>
              intro j hj
              refine ⟨true, by simp [Op.eqItems], ?_⟩
              rw [List.drop_eq_nil_of_le (by rw [hlx, ← hj]; simp), List.drop_eq_nil_of_le (by rw [hly, ← hj]; simp)]; simp
            | succ m ih =>
              intro j hj
              have hjn : j < n := by omega
              have hb : j * l.length + l.length ≤ n * l.length := by
                have : (j + 1) * l.length ≤ n * l.length := Nat.mul_le_mul_right _ hjn
                rwa [Nat.succ_mul] at this
              obtain ⟨a, ha, ma⟩ := run_part_l hl hs xs (j * l.length) (by omega) w
              obtain ⟨b, hb', mb⟩ := run_part_l hl hs ys (j * l.length) (by omega) w
              obtain ⟨r, hr, ir⟩ := equalIn_leaves d el l hl _ _ a b (hfit xs hx j hjn) (hfit ys hy j hjn) ma mb e w
              obtain ⟨r2, hr2, ir2⟩ := ih (j + 1) (by omega)
              rw [List.range'_succ]
              simp only [Op.eqItems, Sem.run_bind, ha, hb', hr, Result.andThen_ok]
              have sp : ∀ (zs : List Value), zs.drop (j * l.length) = (zs.drop (j * l.length)).take l.length ++ zs.drop ((j + 1) * l.length) := by
                intro zs
                conv => lhs; rw [← List.take_append_drop l.length (zs.drop (j * l.length))]
                rw [List.drop_drop, Nat.succ_mul]
              have hlen : ((xs.drop (j * l.length)).take l.length).length = ((ys.drop (j * l.length)).take l.length).length := by
                simp [hlx, hly]
              cases r
              · refine ⟨false, by simp, ?_⟩
                simp only [Bool.false_eq_true, false_iff]
                intro he
                rw [sp xs, sp ys] at he
                have := (List.append_inj he hlen).1
                exact absurd (ir.2 this) (by simp)
              · refine ⟨r2, by simpa using hr2, ?_⟩
                rw [ir2, sp xs, sp ys, ir.1 rfl]
                simp
          obtain ⟨b, hb, ib⟩ := key n 0 (by omega)
          rw [List.range_eq_range']
          exact ⟨b, hb, by simpa using ib⟩
        · cases h
      | struct fs =>
        simp only [mkV, hu] at mx my
        subst mx my
        simp only at h
        split at h
        · cases h
        rename_i hst
        simp only [Option.bind_eq_some_iff] at h
        obtain ⟨ks', hf, h⟩ := h
        split at h
        case isFalse => cases h
        obtain rfl := Option.some.inj h
        have hfo : P.fieldsOf t = fs := by simp [Program.fieldsOf, hu]
        rw [show aggv xs = .agg xs.toArray from rfl, show aggv ys = .agg ys.toArray from rfl, run_equalIn_struct w (d + e) t _ _ (by rw [hfo]; exact hu) (by simpa using hst), hfo]
        have key : ∀ (l : List Field) (k0 : List Lk), l.foldl (fun acc f => acc.bind fun ks => (leaves P d f.type).bind fun l => if f.offset = ks.length ∧ (f.name != "_") = true ∧ (P.info? f.type).map (·.size) = some l.length then some (ks ++ l) else none) (some k0) = some ks' →
            (∃ m, ks' = k0 ++ m) ∧ ∃ b, (Op.eqFields (d + e) xs.toArray ys.toArray l).run P w = .ok b w ∧ (b = true ↔ (xs.drop k0.length) = (ys.drop k0.length)) := by
          intro l
          induction l with
          | nil =>
            intro k0 h0
            obtain rfl := Option.some.inj h0
            refine ⟨⟨[], by simp⟩, true, by simp [Op.eqFields], ?_⟩
            rw [List.drop_eq_nil_of_le (by rw [hx.length]; exact Nat.le_refl _), List.drop_eq_nil_of_le (by rw [hy.length]; exact Nat.le_refl _)]; simp
          | cons f l ih =>
            intro k0 h0
            simp only [List.foldl_cons, Option.bind_some] at h0
            cases hl : leaves P d f.type with
            | none => rw [hl, Option.bind_none, foldl_none] at h0; cases h0
            | some kl =>
              rw [hl, Option.bind_some] at h0
              split at h0
              case isFalse => rw [foldl_none] at h0; cases h0
              rename_i hc
              obtain ⟨ho, hn, hs⟩ := hc
              obtain ⟨⟨m, rfl⟩, r2, hr2, ir2⟩ := ih _ h0
              have hlx : xs.length = k0.length + kl.length + m.length := by rw [hx.length, List.length_append, List.length_append]
              have hly : ys.length = k0.length + kl.length + m.length := by rw [hy.length, List.length_append, List.length_append]
              have hfit : ∀ zs, Fits (k0 ++ kl ++ m) zs → Fits kl ((zs.drop k0.length).take kl.length) := by
                intro zs hz
                rw [List.append_assoc] at hz
                exact hz.split.2.split.1
              obtain ⟨a, ha, ma⟩ := run_part_l hl hs xs f.offset (by omega) w
              obtain ⟨b, hb', mb⟩ := run_part_l hl hs ys f.offset (by omega) w
              rw [ho] at ma mb
              obtain ⟨r, hr, ir⟩ := equalIn_leaves d f.type kl hl _ _ a b (hfit xs hx) (hfit ys hy) ma mb e w
              have sp : ∀ (zs : List Value), zs.drop k0.length = (zs.drop k0.length).take kl.length ++ zs.drop (k0 ++ kl).length := by
                intro zs
                conv => lhs; rw [← List.take_append_drop kl.length (zs.drop k0.length)]
                rw [List.drop_drop, List.length_append]
              have hlen : ((xs.drop k0.length).take kl.length).length = ((ys.drop k0.length).take kl.length).length := by
                simp [hlx, hly]
              refine ⟨⟨kl ++ m, by simp⟩, ?_⟩
              simp only [Op.eqFields]
              rw [if_pos (by simpa using hn)]
              simp only [Sem.run_bind, ha, hb', hr, Result.andThen_ok]
              cases r
              · refine ⟨false, by simp, ?_⟩
                simp only [Bool.false_eq_true, false_iff]
                intro he
                rw [sp xs, sp ys] at he
                have := (List.append_inj he hlen).1
                exact absurd (ir.2 this) (by simp)
              · refine ⟨r2, by simpa using hr2, ?_⟩
                rw [ir2, sp xs, sp ys, ir.1 rfl]
                simp
        obtain ⟨_, b, hb, ib⟩ := key fs.toList [] hf
        exact ⟨b, hb, by simpa using ib⟩
      | _ => simp at h

/-- A struct or array of plain cells. -/
class Lvs (P : Program) (t : TypeId) (ks : outParam (List Lk)) : Prop where
  eq : leaves P 20 t = some ks
  agg : (P.underlying t).map (fun d => match d with | .struct _ | .array _ _ => true | _ => false) = some true
  guard : P.eqGuardType P.depth t = false

section
variable {P : Program} {xt : TypeId} {x y : Operand} {ks : List Lk} {xs ys : List Value} {r : Bool}
theorem Lvs.mk' [hl : Lvs P xt ks] (zs : List Value) : mkV P xt zs (aggv zs) := by
  have := hl.agg
  cases hu : P.underlying xt with
  | none => rw [hu] at this; cases this
  | some u => cases u <;> simp [hu] at this <;> simp [mkV, hu]
theorem Lvs.run [hl : Lvs P xt ks] (hx : Fits ks xs) (hy : Fits ks ys) (hr : r = true ↔ xs = ys) (w : World) : (Op.equal xt (aggv xs) (aggv ys)).run P w = .ok r w := by
  obtain ⟨b, hb, ib⟩ := equalIn_leaves 20 xt ks hl.eq xs ys _ _ hx hy (Lvs.mk' xs) (Lvs.mk' ys) 9980 w
  have : b = r := by
    cases b <;> cases r <;> simp_all
  subst this
  exact hb
theorem BinRun.aeq [hl : Lvs P xt ks] (hx : Fits ks xs) (hy : Fits ks ys) (hr : r = true ↔ xs = ys) : BinRun P .eql xt x y (aggv xs) (aggv ys) (.bool r) := fun w => by
  have := Lvs.run (P := P) (xt := xt) hx hy hr w
  simp only [Sem.run_bind, aggv, run_eqGuard_agg w .eql xt x y _ _ hl.guard, Result.andThen_ok]
  rw [run_eql_struct]
  simp only [aggv, Op.equal, Op.maxDepth] at this
  rw [this]; rfl
theorem BinRun.ane [hl : Lvs P xt ks] (hx : Fits ks xs) (hy : Fits ks ys) (hr : r = true ↔ ¬ xs = ys) : BinRun P .neq xt x y (aggv xs) (aggv ys) (.bool r) := fun w => by
  have := Lvs.run (P := P) (xt := xt) (r := !r) hx hy (by cases r <;> simp_all) w
  simp only [Sem.run_bind, aggv, run_eqGuard_agg w .neq xt x y _ _ hl.guard, Result.andThen_ok]
  rw [run_neq_struct]
  simp only [aggv, Op.equal, Op.maxDepth] at this
  rw [this]; simp [Result.andThen]
end
theorem u8v_inj {a b : UInt8} (h : u8v a = u8v b) : a = b := by
  simp only [u8v, Value.int.injEq, true_and] at h
  exact UInt8.toNat_inj.1 (by omega)
theorem bytesC_inj {a b : List UInt8} : bytesC a = bytesC b ↔ a = b := by
  refine ⟨fun h => ?_, fun h => by rw [h]⟩
  exact (List.map_inj_right (fun x y e => u8v_inj e)).1 h
theorem sumC_inj {a b : Sm} : sumC a = sumC b ↔ a = b := by
  refine ⟨fun h => ?_, fun h => by rw [h]⟩
  have := bytesC_inj.1 h
  cases a; cases b; simp at this; simp [this]
end Go.Proofs.Ytdgdigliepncpaa
