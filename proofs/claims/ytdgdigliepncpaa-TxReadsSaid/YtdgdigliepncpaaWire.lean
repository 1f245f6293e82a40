/-
  This text proves what a pen's methods write.
  Conditions: none.
-/
import Derived.Test.YtdgdigliepncpaaRep
import Derived.Test.YtdgdigliepncpaaTypes
namespace Go.Proofs.Ytdgdigliepncpaa
open Go

/-- A pen at block pb that has written l. -/
def PenH (pb : Nat) (l : List UInt8) (H : Hp) : Prop := ∃ v Hs, OwnS 5 1 v (bytesC l) Hs ∧ H = (pb, row [v] 71) :: Hs

def encNat (v : Nat) : List UInt8 := if h : v < 128 then [UInt8.ofNat v] else UInt8.ofNat (v % 128 + 128) :: encNat (v / 128)
termination_by v
decreasing_by omega
def numB (n : Int) : List UInt8 := encNat n.toNat

theorem or128 : ∀ y : Nat, y < 256 → y ||| 128 = y % 128 + 128 := by decide +kernel
theorem wrap_u8 (v : Nat) : IntKind.u8.wrap (v : Int) = ((v % 256 : Nat) : Int) := by
  simp [IntKind.wrap, IntKind.bits, IntKind.signed]
theorem byte_of (v : Nat) : IntKind.u8.wrap (v : Int) = ((UInt8.ofNat v).toNat : Int) := by
  rw [wrap_u8]; simp
theorem byte_or (v : Nat) : IntKind.u8.wrap (BitVec.ofInt IntKind.u8.bits (IntKind.u8.wrap (v : Int)) ||| BitVec.ofInt IntKind.u8.bits 128).toNat = ((UInt8.ofNat (v % 128 + 128)).toNat : Int) := by
  rw [wrap_u8, wrap_u8]
  have h : (BitVec.ofInt IntKind.u8.bits ((v % 256 : Nat) : Int) ||| BitVec.ofInt IntKind.u8.bits 128).toNat = (v % 256) ||| 128 := by
    rw [BitVec.toNat_or]
    have h1 : (BitVec.ofInt IntKind.u8.bits ((v % 256 : Nat) : Int)).toNat = v % 256 := by
      simp [IntKind.bits]; omega
    rw [h1]
    rfl
  rw [h, or128 _ (Nat.mod_lt _ (by decide))]
  simp

theorem wrap_u64 {n : Int} (h : 0 ≤ n ∧ n < 18446744073709551616) : IntKind.u64.wrap n = n := by
  simp only [IntKind.wrap, IntKind.bits, IntKind.signed, Bool.false_and, Bool.false_eq_true, if_false]
  exact Int.emod_eq_of_lt h.1 h.2
theorem shr7 (v : Nat) : (v : Int).fdiv (2 ^ min (7 : Int).toNat IntKind.u64.bits) = ((v / 128 : Nat) : Int) := by
  have : (2 : Int) ^ min (7 : Int).toNat IntKind.u64.bits = ((128 : Nat) : Int) := by decide
  rw [this, Int.fdiv_eq_ediv_of_nonneg _ (by decide)]; rfl
structure NumS where
  k : Nat
  v : Nat
  l : List UInt8
  s : Value
  H : Hp

theorem pen_num (pb : Nat) (n : Int) (l : List UInt8) (M : Mem) (H : Hp) (hp : PenH pb l H) (hn : -9223372036854775808 ≤ n ∧ n ≤ 9223372036854775807) (hb : l.length ≤ 1099511627776) :
    Fn Try.prog 46 [ptr pb 0, int64 n] M H fun v M' H' => v = ptr pb 0 ∧ PenH pb (l ++ numB n) H' := by
  obtain ⟨sv, Hs, ho, rfl⟩ := hp
  refine Fn.enter Try.func46 Try.ntmps46 rfl rfl (by simp only [initEnv, List.zipIdx_cons, List.zipIdx_nil, List.map_cons, List.map_nil, Nat.zero_add, Nat.reduceAdd]; rfl) fun w0 hw => ?_
  refine C.perm [[(pb, row [sv] 71)], Hs] (by simp) ?_
  refine Ww ?_
  refine L.qh ?_ (Qt.max rfl rfl (r := (n.toNat : Int)) (by split <;> omega))
  refine L.qh ?_ (Qt.convInt (r := (n.toNat : Int)) rfl (wrap_u64 (by omega)))
  refine Ww ?_
  refine C.loop (σ := NumS) (fun s => [(0, ptr pb 0), (5, .int .u64 s.v)]) (fun s => [[(pb, row [s.s] 71)], s.H])
    (fun s _ => OwnS 5 1 s.s (bytesC s.l) s.H ∧ s.l ++ encNat s.v = l ++ numB n ∧ s.l.length = l.length + s.k ∧ s.v < 2 ^ (63 - 7 * s.k) ∧ s.k ≤ 9) (fun s => s.v) ⟨0, n.toNat, l, sv, Hs⟩ ?_ ?_ ?_ ?_
  · exact .cons rfl rfl (.cons rfl rfl .nil)
  · exact List.Perm.refl _
  · exact ⟨ho, rfl, rfl, by simp; omega, by simp⟩
  · rintro ⟨k, v, l1, s1, H1⟩ M1 hM ⟨ho1, hl1, hlen, hv, hk⟩
    dsimp only at *
    refine Ww ?_
    refine C.cond rfl (fun hge => ?_) (fun hge => ?_)
    · have hge := of_decide_eq_true hge
      have hk8 : k ≤ 8 := by
        rcases Nat.lt_or_ge 8 k with h | h
        · have : k = 9 := by omega
          subst this; simp at hv; omega
        · exact h
      refine Ww ?_
      refine L.qh ?_ (Qt.convInt rfl rfl)
      refine L.qh ?_ (Qt.bin rfl rfl (BinRun.or (byte_or v)))
      refine L.buildSliceM rfl rfl rfl rfl rfl rfl rfl fun b M2 hp2 hb2 => ?_
      refine L.append rfl rfl ho1 (Rd.ofM (news := [u8v (UInt8.ofNat (v % 128 + 128))]) hb2 rfl (by simp)) ?_ rfl rfl rfl fun v' H' ho' => ?_
      · simp; omega
      have i1 := ho'.one
      have i2 := ho'.cells
      refine Ww ?_
      refine L.qh ?_ (Qt.bin rfl rfl (BinRun.shr (r := ((v / 128 : Nat) : Int)) (by decide) (shr7 v)))
      refine Ww ?_
      refine ⟨⟨k + 1, v / 128, l1 ++ [UInt8.ofNat (v % 128 + 128)], v', H'⟩, .cons rfl rfl (.cons rfl rfl .nil), List.Perm.refl _, inferInstance, ⟨?_, ?_, ?_, ?_, ?_⟩, ?_⟩
      · rw [bytesC_append]; exact ho'
      · rw [← hl1, List.append_assoc]
        congr 1
        conv => rhs; rw [encNat, dif_neg (by omega)]
        rfl
      · simp; omega
      · dsimp only
        rw [show 63 - 7 * k = (63 - 7 * (k + 1)) + 7 from by omega, Nat.pow_add] at hv
        omega
      · dsimp only; omega
      · dsimp only; omega
    · have hlt := of_decide_eq_false hge
      have i1 := ho1.one
      have i2 := ho1.cells
      refine Ww ?_
      refine L.qh ?_ (Qt.convInt rfl (byte_of v))
      refine L.buildSliceM rfl rfl rfl rfl rfl rfl rfl fun b M2 hp2 hb2 => ?_
      refine L.append rfl rfl ho1 (Rd.ofM (news := [u8v (UInt8.ofNat v)]) hb2 rfl (by simp)) ?_ rfl rfl rfl fun v' H' ho' => ?_
      · simp; omega
      have i1 := ho'.one
      have i2 := ho'.cells
      refine Ww ?_
      refine Hands.one rfl rfl (H := (pb, row [v'] 71) :: H') (by simp) ⟨rfl, v', H', ?_, rfl⟩
      rw [← hl1, encNat, dif_pos (by omega), bytesC_append]
      exact ho'
end Go.Proofs.Ytdgdigliepncpaa
