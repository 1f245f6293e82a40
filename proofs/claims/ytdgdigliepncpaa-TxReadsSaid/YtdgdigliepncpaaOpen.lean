/-
  This text proves that whatever reads as data lies in memory as a thing of the list's own kind: the arguments of a law.
  Conditions: none; nothing here names the program.
-/
import Derived.Test.YtdgdigliepncpaaTxR
import Derived.OpenShut
import Derived.ChangeArms
import Derived.DataReads
import Derived.Deep.Slices
namespace Go.Proofs.Ytdgdigliepncpaa
open Go
attribute [local semireducible] SlM

/-- The memory of a world. -/
abbrev memOf (w : World) : Mem := fun b => w.heap[b]?
/-- What reads as data at type t lies in memory as a thing of α. -/
class Opens (P : Program) (t : TypeId) (α : Type) [Rep α] : Prop where
  op : ∀ {H : Type} {enc : TypeId × Value → H} {w : World} {fuel : Nat} {cs : List Value} {x : DataW H × List MemPlace}, DataW.trod enc P w 0 (fun _ => true) true fuel t cs = some x → ∃ a : α, Rep.R (memOf w) cs a

theorem drop_cut {cs a b : List Value} {off k next : Nat} (h : off + k = next) (h1 : (cs.drop off).take k = a) (h2 : cs.drop next = b) : cs.drop off = a ++ b := by
  rw [← h1, ← h2, ← h, ← List.drop_drop, List.take_append_drop]
theorem drop_end {cs : List Value} {n : Nat} (h : cs.length = n) : cs.drop n = [] := by rw [← h, List.drop_length]

theorem RepL.ofEl {α : Type} [Rep α] {M : Mem} : ∀ (n : Nat) (cs : List Value), cs.length = n * Rep.sz α → (∀ i, i < n → ∃ x : α, Rep.R M ((cs.drop (i * Rep.sz α)).take (Rep.sz α)) x) → ∃ xs : List α, xs.length = n ∧ RepL M cs xs := by
  intro n
  induction n with
  | zero => intro cs h _; exact ⟨[], rfl, List.length_eq_zero_iff.1 (by simpa using h)⟩
  | succ n ih =>
    intro cs h hx
    obtain ⟨x, h0⟩ := hx 0 (Nat.succ_pos _)
    rw [Nat.zero_mul, List.drop_zero] at h0
    have hl : (cs.drop (Rep.sz α)).length = n * Rep.sz α := by rw [List.length_drop, h, Nat.add_mul]; omega
    obtain ⟨xs, hxl, hxs⟩ := ih (cs.drop (Rep.sz α)) hl (fun i hi => by
      obtain ⟨y, hy⟩ := hx (i + 1) (by omega)
      refine ⟨y, ?_⟩
      rw [List.drop_drop]
      rwa [Nat.add_mul, Nat.one_mul, Nat.add_comm] at hy)
    exact ⟨x :: xs, by simp [hxl], _, _, (List.take_append_drop _ cs).symm, h0, hxs⟩

section
variable {P : Program} {w : World} {H : Type} {enc : TypeId × Value → H} {fuel : Nat} {t e : TypeId} {cs : List Value} {x : DataW H × List MemPlace}
/-- A slice. -/
theorem open_SlR {α : Type} [Rep α] [ho : Opens P e α] (ht : P.underlying t = some (.slice e)) (hz : P.cellsOf e = Rep.sz α) (hp : 0 < Rep.sz α) (h : DataW.trod enc P w 0 (fun _ => true) true fuel t cs = some x) :
    ∃ (v : Value) (xs : List α), cs = [v] ∧ SlR (memOf w) v xs := by
  rcases Go.Deep.open_slice ht h with ⟨rfl, _⟩ | ⟨a, len, cap, m, n, D, Pl, rfl, _, hlc, hcm, hm, _, hel⟩
  · exact ⟨_, [], rfl, SlR.nil⟩
  · simp only [if_true] at hm
    subst hm
    rw [hz] at hel
    rcases Nat.eq_zero_or_pos m with rfl | hpos
    · obtain rfl : len = 0 := by omega
      exact ⟨_, [], rfl, SlR.nil⟩
    · have hcell : ∀ i j, i < m → j < Rep.sz α → ∃ u, w.cell? (a.add (i * Rep.sz α + j)) = some u := fun i j hi hj => by
        obtain ⟨cs', h1, _⟩ := hel i hi
        obtain ⟨_, h2, h3⟩ := World.cells?_some h1
        have := h3 j hj
        rw [Go.Deep.add_add] at this
        exact ⟨cs'[j]'(by omega), by rw [this, List.getElem?_eq_getElem]⟩
      obtain ⟨u0, hu0⟩ := hcell 0 0 hpos hp
      simp only [Nat.zero_mul, Nat.add_zero] at hu0
      obtain ⟨b, o, spot⟩ := a
      have hspot : spot = none := by simpa [Addr.add] using World.cell?_spot hu0
      subst hspot
      obtain ⟨c, T, fr, hheap⟩ : ∃ c T fr, w.heap[b]? = some (.cells c T fr) := by
        unfold World.cell? at hu0
        split at hu0
        · rename_i c T fr hq
          exact ⟨c, T, fr, by simpa [Addr.add] using hq⟩
        · cases hu0
      have hget : ∀ k, w.cell? ((⟨b, o, none⟩ : Addr).add k) = c.toList[o + k]? := fun k => by
        rw [add_none]
        have : (Obj.cells c T fr) = .cells c.toList.toArray T fr := by simp
        rw [this] at hheap
        rw [cell_row hheap]
        simp
      have hsize : o + m * Rep.sz α ≤ c.toList.length := by
        obtain ⟨u, hu⟩ := hcell (m - 1) (Rep.sz α - 1) (by omega) (by omega)
        rw [hget] at hu
        have := (List.getElem?_eq_some_iff.1 hu).1
        have e1 : (m - 1) * Rep.sz α + Rep.sz α = m * Rep.sz α := by
          rw [← Nat.succ_mul]; congr 1; omega
        omega
      have hlen : len * Rep.sz α ≤ m * Rep.sz α := Nat.mul_le_mul_right _ hlc
      have hcl : ((c.toList.drop o).take (len * Rep.sz α)).length = len * Rep.sz α := by simp at hsize ⊢; omega
      obtain ⟨xs, hxl, hxs⟩ := RepL.ofEl (α := α) (M := memOf w) len ((c.toList.drop o).take (len * Rep.sz α)) hcl (fun i hi => by
        obtain ⟨cs', h1, h2⟩ := hel i (by omega)
        obtain ⟨y, hy⟩ := ho.op h2
        refine ⟨y, ?_⟩
        obtain ⟨_, h3, h4⟩ := World.cells?_some h1
        have hii : (i + 1) * Rep.sz α ≤ len * Rep.sz α := Nat.mul_le_mul_right _ hi
        rw [Nat.add_mul, Nat.one_mul] at hii
        have : (((c.toList.drop o).take (len * Rep.sz α)).drop (i * Rep.sz α)).take (Rep.sz α) = cs' := by
          apply List.ext_getElem?
          intro j
          rw [List.getElem?_take]
          split
          · rename_i hj
            rw [← h4 j hj, Go.Deep.add_add, hget, List.getElem?_drop, List.getElem?_take, if_pos (by omega), List.getElem?_drop]
          · rw [List.getElem?_eq_none (by omega)]
        rw [this]; exact hy)
      subst hxl
      refine ⟨_, xs, rfl, _, ⟨hcl, .inr ⟨b, o, m, c.toList, T, fr, rfl, hlc, hcm, ⟨by simpa using hheap⟩, rfl, by omega⟩⟩, hxs⟩

/-- A field. -/
def fieldIs (P : Program) (t : TypeId) (i : Nat) (ft : TypeId) (off sz : Nat) : Bool :=
  match P.underlying t with
  | some (.struct fs) => match fs[i]? with
    | some f => f.type == ft && f.offset == off && P.cellsOf ft == sz
    | none => false
  | _ => false
theorem open_field (i ft off sz : Nat) (hf : fieldIs P t i ft off sz = true) (h : DataW.trod enc P w 0 (fun _ => true) true fuel t cs = some x) :
    cs.length = P.cellsOf t ∧ ∃ n y, DataW.trod enc P w 0 (fun _ => true) true n ft ((cs.drop off).take sz) = some y := by
  unfold fieldIs at hf
  split at hf
  · rename_i fs ht
    split at hf
    · rename_i f hi
      simp only [Bool.and_eq_true, beq_iff_eq] at hf
      obtain ⟨⟨rfl, rfl⟩, rfl⟩ := hf
      obtain ⟨xs, n, _, _, hl, hxl, hx⟩ := DataW.trod_struct ht h
      have hlt : i < xs.length := by rw [hxl]; exact (Array.getElem?_eq_some_iff.1 hi).1
      exact ⟨hl, n, xs[i], by rw [hx i f hi, List.getElem?_eq_getElem hlt]⟩
    · cases hf
  · cases hf
theorem open_i64 (ht : P.underlying t = some (.int .i64)) (h : DataW.trod enc P w 0 (fun _ => true) true fuel t cs = some x) : ∃ n, cs = [int64 n] ∧ I64 n := by
  obtain ⟨n, rfl, _, hw⟩ := DataW.trod_int ht h
  have h2 : IntKind.i64.min ≤ n ∧ n ≤ IntKind.i64.max := by simpa [Lit.wf, IntKind.has] using hw
  exact ⟨n, rfl, h2⟩
instance : Rep UInt8 where
  sz := 1
  R M cs b := cs = [u8v b]
  len h := by rw [h]; rfl
  up h _ := h
  ones h := by rw [h]; unfold u8v; infer_instance
theorem RepL.bytes {M : Mem} : ∀ {l : List UInt8} {cs : List Value}, RepL M cs l → cs = bytesC l
  | [], _, h => h
  | b :: l, _, ⟨c1, c2, h1, h2, h3⟩ => by
    rw [h1, show c1 = [u8v b] from h2, RepL.bytes h3]; rfl
theorem open_u8 (ht : P.underlying t = some (.int .u8)) (h : DataW.trod enc P w 0 (fun _ => true) true fuel t cs = some x) : ∃ b : UInt8, cs = [u8v b] := by
  obtain ⟨n, rfl, _, hw⟩ := DataW.trod_int ht h
  have hn0 : IntKind.u8.min ≤ n ∧ n ≤ IntKind.u8.max := by simpa [Lit.wf, IntKind.has] using hw
  have hn : 0 ≤ n ∧ n ≤ 255 := hn0
  refine ⟨UInt8.ofNat n.toNat, ?_⟩
  have : ((UInt8.ofNat n.toNat).toNat : Int) = n := by
    rw [UInt8.toNat_ofNat']; omega
  unfold u8v; rw [this]
theorem open_Sm (ht : P.underlying t = some (.array 32 e)) (he : P.underlying e = some (.int .u8)) (hz : P.cellsOf e = 1) (hc : P.cellsOf t = 32) (h : DataW.trod enc P w 0 (fun _ => true) true fuel t cs = some x) : ∃ s : Sm, cs = sumC s := by
  obtain ⟨xs, m, _, _, hl, hxl, hx⟩ := DataW.trod_array ht h
  rw [hz] at hx
  rw [hc] at hl
  obtain ⟨l, hll, hr⟩ := RepL.ofEl (α := UInt8) (M := memOf w) 32 cs hl (fun i hi => by
    have := hx i hi
    rw [List.getElem?_eq_getElem (by omega)] at this
    obtain ⟨b, hb⟩ := open_u8 he this
    exact ⟨b, hb⟩)
  exact ⟨⟨l, hll⟩, hr.bytes⟩
end
end Go.Proofs.Ytdgdigliepncpaa
