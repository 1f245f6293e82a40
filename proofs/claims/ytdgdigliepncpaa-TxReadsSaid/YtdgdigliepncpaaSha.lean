/-
  This text proves what the sums of bytes are, as functions of the bytes.
  Conditions: none.
-/
import Derived.Test.YtdgdigliepncpaaRep
import Derived.Test.YtdgdigliepncpaaPen
namespace Go.Proofs.Ytdgdigliepncpaa
open Go

def w32 (l : List Int) : List Value := l.map fun n => .int .u32 n
@[simp] theorem w32_length (l : List Int) : (w32 l).length = l.length := by simp [w32]
theorem w32_get {l : List Int} {i : Nat} (h : i < l.length) : (w32 l)[0 + i * 1]? = some (.int .u32 (l.getD i 0)) := by simp [w32, h]
theorem w32_get' {l : List Int} {i : Nat} (h : i < l.length) : (w32 l)[i]? = some (.int .u32 (l.getD i 0)) := by simp [w32, h]
theorem w32_put {l : List Int} {i : Nat} (h : i < l.length) (v : Int) : Put (w32 l) (0 + i * 1) [.int .u32 v] (w32 (l.set i v)) := ⟨by
  simp only [Nat.zero_add, Nat.mul_one, w32, List.length_cons, List.length_nil]
  rw [List.map_set, List.set_eq_take_append_cons_drop, if_pos (by simpa using h)]
  simp, by simp; omega⟩
theorem bytesC_put {l : List UInt8} {i : Nat} (h : i < l.length) (b : UInt8) : Put (bytesC l) (0 + i * 1) [.int .u8 b.toNat] (bytesC (l.set i b)) := ⟨by
  simp only [Nat.zero_add, Nat.mul_one, bytesC, List.length_cons, List.length_nil]
  rw [List.map_set, List.set_eq_take_append_cons_drop, if_pos (by simpa using h)]
  simp [u8v], by simp; omega⟩
instance Ones.w32 {l : List Int} : Ones (w32 l) := ⟨fun v hv => by
  obtain ⟨b, _, rfl⟩ := List.mem_map.1 hv; rfl⟩
instance Len.w32rep {n : Nat} {x : Int} : Len (w32 (List.replicate n x)) n := ⟨by simp⟩
theorem nat64 {z : Int} (r : Nat) (h : z = r) (h2 : z ≤ 9223372036854775807) : IntKind.i64.wrap z = (r : Int) := by rw [wrap_in64 (by omega), h]
theorem wrap_u64_nn (n : Int) : 0 ≤ IntKind.u64.wrap n := by
  simp only [IntKind.wrap, IntKind.bits, IntKind.signed, Bool.false_and, Bool.false_eq_true, if_false]
  exact Int.emod_nonneg _ (by decide)
def byteI (z : Int) : UInt8 := UInt8.ofNat (z % 256).toNat
theorem byteI_eq (z : Int) : IntKind.u8.wrap z = ((byteI z).toNat : Int) := by
  simp only [IntKind.wrap, IntKind.bits, IntKind.signed, Bool.false_and, Bool.false_eq_true, if_false, byteI]
  have h1 : 0 ≤ z % 256 := Int.emod_nonneg _ (by decide)
  have h2 : z % 256 < 256 := Int.emod_lt_of_pos _ (by decide)
  have : (2 : Int) ^ 8 = 256 := by decide
  rw [this]
  simp; omega
theorem BytesM.el {M : Mem} {v : Value} {l : List UInt8} (h : BytesM M v l) {i : Nat} (hi : i < l.length) : El M v (i * 1) [.int .u8 ((l.getD i 0).toNat : Int)] := by
  have := SlM.el (show SlM M 1 v l.length (bytesC l) from h) hi
  have e1 : ((bytesC l).drop (i * 1)).take 1 = [.int .u8 ((l.getD i 0).toNat : Int)] := by
    simp only [Nat.mul_one, bytesC]
    rw [List.drop_eq_getElem_cons (by simpa using hi)]
    simp [u8v, hi]
  rw [e1] at this
  exact this

def rlS (k : Int) : Int := IntKind.u64.wrap (BitVec.ofInt IntKind.u64.bits (IntKind.u64.wrap k) &&& BitVec.ofInt IntKind.u64.bits 31).toNat
def rl (x k : Int) : Int := or32 (shl32 x (rlS k)) (shr32 x (IntKind.u64.wrap (32 - rlS k)))
theorem sha_rl (M : Mem) (x k : Int) : Fnv Try.prog 264 [.int .u32 x, int64 k] M (.int .u32 (rl x k)) := by
  refine Fnv.of (Fn.enter Try.func264 Try.ntmps264 rfl rfl (by simp only [initEnv, List.zipIdx_cons, List.zipIdx_nil, List.map_cons, List.map_nil, Nat.zero_add, Nat.reduceAdd]; rfl) fun w0 hw => ?_)
  refine Wg ?_
  refine L.qh ?_ (Qt.convInt rfl rfl)
  refine L.qh ?_ (Qt.bin rfl rfl (BinRun.and (r := rlS k) rfl))
  refine Wg ?_
  refine L.qh ?_ (Qt.bin rfl rfl (BinRun.shl32 (b := rlS k) (wrap_u64_nn _)))
  refine Wg ?_
  refine L.qh ?_ (Qt.bin rfl rfl (BinRun.sub (r := IntKind.u64.wrap (32 - rlS k)) rfl))
  refine L.qh ?_ (Qt.bin rfl rfl (BinRun.shr32 (b := IntKind.u64.wrap (32 - rlS k)) (wrap_u64_nn _)))
  refine Wo ?_
  refine Wg ?_
  exact Hands.ofT ([]) (rs := [.tmp 4]) rfl (.tmp rfl .nil) rfl (⟨rfl, rfl⟩)

def bt (l : List UInt8) (i : Nat) : Int := ((l.getD i 0).toNat : Int)
def wd (l : List UInt8) (i : Nat) : Int := or32 (or32 (or32 (shl32 (c32 (bt l (4 * i))) 24) (shl32 (c32 (bt l (4 * i + 1))) 16)) (shl32 (c32 (bt l (4 * i + 2))) 8)) (c32 (bt l (4 * i + 3)))
def spA (l : List UInt8) : Nat → Nat → List Int → List Int
  | 0, _, ws => ws
  | n + 1, i, ws => spA l n (i + 1) (ws.set i (wd l i))
def mixX (x : Int) : Int := xor32 (xor32 (rl x (-7)) (rl x (-18))) (shr32 x 3)
def mixY (y : Int) : Int := xor32 (xor32 (rl y (-17)) (rl y (-19))) (shr32 y 10)
def mixW (ws : List Int) (i : Nat) : Int := add32 (add32 (add32 (ws.getD (i - 16) 0) (mixX (ws.getD (i - 15) 0))) (ws.getD (i - 7) 0)) (mixY (ws.getD (i - 2) 0))
def spB : Nat → Nat → List Int → List Int
  | 0, _, ws => ws
  | n + 1, i, ws => spB n (i + 1) (ws.set i (mixW ws i))
def spreadL (l : List UInt8) : List Int := spB 48 16 (spA l 16 0 (List.replicate 64 0))
theorem spA_length (l : List UInt8) : ∀ (n i : Nat) (ws : List Int), (spA l n i ws).length = ws.length
  | 0, _, _ => rfl
  | n + 1, i, ws => by rw [spA, spA_length l n]; simp
theorem spB_length : ∀ (n i : Nat) (ws : List Int), (spB n i ws).length = ws.length
  | 0, _, _ => rfl
  | n + 1, i, ws => by rw [spB, spB_length n]; simp
theorem spreadL_length (l : List UInt8) : (spreadL l).length = 64 := by rw [spreadL, spB_length, spA_length]; simp

theorem sha_spread (M : Mem) (v : Value) (l : List UInt8) (hv : BytesM M v l) (hl : l.length = 64) : Fnv Try.prog 263 [v] M (aggv (w32 (spreadL l))) := by
  refine Fnv.of (Fn.enter Try.func263 Try.ntmps263 rfl rfl (by simp only [initEnv, List.zipIdx_cons, List.zipIdx_nil, List.map_cons, List.map_nil, Nat.zero_add, Nat.reduceAdd]; rfl) fun w0 hw => ?_)
  refine Wg ?_
  refine L.al fun b2 => ?_
  refine Wg ?_
  refine L.al fun b3 => ?_
  refine Wg ?_
  refine C.loopF (σ := Nat × List Int) (fun s => [(0, v), (2, ptr b2 0), (3, ptr b3 0), (10, int64 s.1)]) (fun s => [[(b3, row (w32 s.2) 326)], [(b2, row (w32 (List.replicate 64 0)) 326)]]) (fun s M' => spB 48 16 (spA l (16 - s.1) s.1 s.2) = spreadL l ∧ s.1 ≤ 16 ∧ s.2.length = 64) (fun s => 16 - s.1) (0, List.replicate 64 0) ?_ ?_ ?_ ?_
  · exact (.cons rfl rfl (.cons rfl rfl (.cons rfl rfl (.cons rfl rfl .nil))))
  · first | exact Forget.rf | ((try dsimp only); exact Forget.go)
  · exact ⟨rfl, by simp, by simp⟩
  · rintro ⟨i, ws⟩ M1 hM ⟨hgo, hi, hws⟩
    try dsimp only at hgo hi hws
    refine C.as [(0, v), (2, ptr b2 0), (3, ptr b3 0), (10, int64 i)] ([[(b3, row (w32 ws) 326)], [(b2, row (w32 (List.replicate 64 0)) 326)]]) ?_
    refine Wg ?_
    refine C.cond rfl (fun hlt => ?_) (fun hlt => ?_)
    · have hlt := of_decide_eq_true hlt
      have hi16 : i < 16 := by omega
      have e0 := hv.up (M' := M1) |>.el (i := 4 * i) (by omega)
      have e1 := hv.up (M' := M1) |>.el (i := 4 * i + 1) (by omega)
      have e2 := hv.up (M' := M1) |>.el (i := 4 * i + 2) (by omega)
      have e3 := hv.up (M' := M1) |>.el (i := 4 * i + 3) (by omega)
      have hs : SlM M 1 v l.length (bytesC l) := hv
      have p1 := w32_put (l := ws) (i := i) (by omega)
      obtain ⟨n, hn⟩ : ∃ n, 16 - i = n + 1 := ⟨16 - i - 1, by omega⟩
      rw [hn, spA] at hgo
      refine Wg ?_
      refine C.drw [35] [] ?_
      refine LA.ta 0 ?_
      refine LA.ta 1 ?_
      refine LA.ta 2 ?_
      refine LA.th 3 rfl ?_ (Qt.bin rfl rfl (BinRun.mul (nat64 (4 * i) (by omega) (by omega))))
      refine LA.ta 4 ?_
      refine LA.ta 5 ?_
      refine LA.ta 6 ?_
      refine LA.ta 7 ?_
      refine LA.ta 8 ?_
      refine LA.ta 9 ?_
      refine LA.th 10 rfl ?_ (Qt.bin rfl rfl (BinRun.mul (nat64 (4 * i) (by omega) (by omega))))
      refine LA.ta 11 ?_
      refine LA.ta 12 ?_
      refine LA.ta 13 ?_
      refine LA.ta 14 ?_
      refine LA.ta 15 ?_
      refine LA.ta 16 ?_
      refine LA.ta 17 ?_
      refine LA.ta 18 ?_
      refine LA.th 19 rfl ?_ (Qt.bin rfl rfl (BinRun.mul (nat64 (4 * i) (by omega) (by omega))))
      refine LA.th 20 rfl ?_ (Qt.bin rfl rfl (BinRun.add (nat64 (4 * i + 2) (by omega) (by omega))))
      refine LA.ta 21 ?_
      refine LA.ta 22 ?_
      refine LA.ta 23 ?_
      refine LA.ta 24 ?_
      refine LA.ta 25 ?_
      refine LA.ta 26 ?_
      refine LA.ta 27 ?_
      refine LA.th 28 rfl ?_ (Qt.bin rfl rfl (BinRun.mul (nat64 (4 * i) (by omega) (by omega))))
      refine LA.th 29 rfl ?_ (Qt.bin rfl rfl (BinRun.add (nat64 (4 * i + 3) (by omega) (by omega))))
      refine LA.ta 30 ?_
      refine LA.ta 31 ?_
      refine LA.ta 32 ?_
      refine LA.ta 33 ?_
      refine LA.ta 34 ?_
      refine LA.e1 35 ?_
      refine Wo ?_
      refine L.nil ⟨fun h => by simp at h, ?_⟩
      refine LA.dn ?_
      try dsimp only
      refine Wg ?_
      refine Wo ?_
      refine Wg ?_
      refine ⟨(i + 1, ws.set i (wd l i)), (.cons rfl rfl (.cons rfl rfl (.cons rfl rfl (.cons rfl rfl .nil)))), (by first | exact Forget.rf | ((try dsimp only); exact Forget.go)), inferInstance, ⟨by rw [show 16 - (i + 1) = n by omega]; exact hgo, by dsimp only; omega, by simpa using hws⟩, (by first | omega | (dsimp only; omega))⟩
    have hlt := of_decide_eq_false hlt
    rw [show 16 - i = 0 by omega, spA] at hgo
    refine Wg ?_
    refine C.loopF (σ := Nat × List Int) (fun s => [(2, ptr b2 0), (3, ptr b3 0), (5, int64 s.1)]) (fun s => [[(b3, row (w32 s.2) 326)], [(b2, row (w32 (List.replicate 64 0)) 326)]]) (fun s M' => spB (64 - s.1) s.1 s.2 = spreadL l ∧ 16 ≤ s.1 ∧ s.1 ≤ 64 ∧ s.2.length = 64) (fun s => 64 - s.1) (16, ws) ?_ ?_ ?_ ?_
    · exact (.cons rfl rfl (.cons rfl rfl (.cons rfl rfl .nil)))
    · first | exact Forget.rf | ((try dsimp only); exact Forget.go)
    · exact ⟨hgo, by simp, by simp, hws⟩
    · rintro ⟨i, ws⟩ M2 hM2 ⟨hgo, hi1, hi, hws⟩
      try dsimp only at hgo hi1 hi hws
      refine C.as [(2, ptr b2 0), (3, ptr b3 0), (5, int64 i)] ([[(b3, row (w32 ws) 326)], [(b2, row (w32 (List.replicate 64 0)) 326)]]) ?_
      refine Wg ?_
      refine C.cond rfl (fun hlt => ?_) (fun hlt => ?_)
      · have hlt := of_decide_eq_true hlt
        have hi64 : i < 64 := by omega
        have p1 := w32_put (l := ws) (i := i) (by omega)
        obtain ⟨n, hn⟩ : ∃ n, 64 - i = n + 1 := ⟨64 - i - 1, by omega⟩
        rw [hn, spB] at hgo
        refine Wg ?_
        refine C.drw [] [b3] ?_
        refine LA.ta 0 ?_
        refine LA.th 1 rfl ?_ (Qt.bin rfl rfl (BinRun.sub (nat64 (i - 15) (by omega) (by omega))))
        refine LA.ta 2 ?_
        refine LA.th 3 rfl ?_ (Qt.loadAi rfl (w32_get (by omega)))
        refine LA.ta 4 ?_
        refine LA.th 5 rfl ?_ (Qt.bin rfl rfl (BinRun.sub (nat64 (i - 2) (by omega) (by omega))))
        refine LA.ta 6 ?_
        refine LA.th 7 rfl ?_ (Qt.loadAi rfl (w32_get (by omega)))
        refine LA.ta 8 ?_
        refine LA.ta 9 ?_
        refine LA.dn ?_
        try dsimp only
        refine Wg ?_
        refine L.cv (sha_rl _ _ _) fun M1 hM1 => ?_
        refine Wg ?_
        refine L.cv (sha_rl _ _ _) fun M2 hM2 => ?_
        refine Wo ?_
        refine Wg ?_
        refine Wo ?_
        refine Wo ?_
        refine Wg ?_
        refine L.cv (sha_rl _ _ _) fun M3 hM3 => ?_
        refine Wg ?_
        refine L.cv (sha_rl _ _ _) fun M4 hM4 => ?_
        refine Wo ?_
        refine Wg ?_
        refine Wo ?_
        refine Wo ?_
        refine Wg ?_
        refine C.drw [15] [b3] ?_
        refine LA.ta 0 ?_
        refine LA.ta 1 ?_
        refine LA.th 2 rfl ?_ (Qt.bin rfl rfl (BinRun.sub (nat64 (i - 16) (by omega) (by omega))))
        refine LA.ta 3 ?_
        refine LA.th 4 rfl ?_ (Qt.loadAi rfl (w32_get (by omega)))
        refine LA.ta 5 ?_
        refine LA.ta 6 ?_
        refine LA.ta 7 ?_
        refine LA.th 8 rfl ?_ (Qt.bin rfl rfl (BinRun.sub (nat64 (i - 7) (by omega) (by omega))))
        refine LA.ta 9 ?_
        refine LA.th 10 rfl ?_ (Qt.loadAi rfl (w32_get (by omega)))
        refine LA.ta 11 ?_
        refine LA.ta 12 ?_
        refine LA.ta 13 ?_
        refine LA.ta 14 ?_
        refine LA.e1 15 ?_
        refine Wo ?_
        refine L.nil ⟨fun h => by simp at h, ?_⟩
        refine LA.dn ?_
        try dsimp only
        refine Wg ?_
        refine Wo ?_
        refine Wg ?_
        refine ⟨(i + 1, ws.set i (mixW ws i)), (.cons rfl rfl (.cons rfl rfl (.cons rfl rfl .nil))), (by first | exact Forget.rf | ((try dsimp only); exact Forget.go)), inferInstance, ⟨by rw [show 64 - (i + 1) = n by omega]; exact hgo, by dsimp only; omega, by dsimp only; omega, by simpa using hws⟩, (by first | omega | (dsimp only; omega))⟩
      have hlt := of_decide_eq_false hlt
      rw [show 64 - i = 0 by omega, spB] at hgo
      have fw : Fst (w32 ws) 64 (w32 ws) := ⟨List.take_of_length_le (by simp [hws]), by simp [hws]⟩
      have lw : Len (w32 ws) 64 := ⟨by simp [hws]⟩
      refine Wg ?_
      exact Hands.ofT ([]) (rs := [.cell 2 326]) rfl (.cell rfl BoxIs.aggA .nil) rfl (⟨rfl, by rw [hgo]; rfl⟩)

structure V8 where
  a : Int
  b : Int
  c : Int
  d : Int
  e : Int
  f : Int
  g : Int
  h : Int
def V8.l (v : V8) : List Int := [v.a, v.b, v.c, v.d, v.e, v.f, v.g, v.h]
def V8.o (l : List Int) : V8 := ⟨l.getD 0 0, l.getD 1 0, l.getD 2 0, l.getD 3 0, l.getD 4 0, l.getD 5 0, l.getD 6 0, l.getD 7 0⟩
def bigT (v : V8) (k w : Int) : Int := add32 (add32 (add32 (add32 v.h (xor32 (xor32 (rl v.e (-6)) (rl v.e (-11))) (rl v.e (-25)))) (xor32 (and32 v.e v.f) (and32 (not32 v.e) v.g))) k) w
def bigU (v : V8) : Int := add32 (xor32 (xor32 (rl v.a (-2)) (rl v.a (-13))) (rl v.a (-22))) (xor32 (xor32 (and32 v.a v.b) (and32 v.a v.c)) (and32 v.b v.c))
def rnd8 (v : V8) (k w : Int) : V8 := ⟨add32 (bigT v k w) (bigU v), v.a, v.b, v.c, add32 v.d (bigT v k w), v.e, v.f, v.g⟩
def rnds (ks ws : List Int) : Nat → Nat → V8 → V8
  | 0, _, v => v
  | n + 1, i, v => rnds ks ws n (i + 1) (rnd8 v (ks.getD i 0) (ws.getD i 0))
def addV (v : List Int) : Nat → Nat → List Int → List Int
  | 0, _, h => h
  | n + 1, i, h => addV v n (i + 1) (h.set i (add32 (h.getD i 0) (v.getD i 0)))
theorem addV_length (v : List Int) : ∀ (n i : Nat) (h : List Int), (addV v n i h).length = h.length
  | 0, _, _ => rfl
  | n + 1, i, h => by rw [addV, addV_length v n]; simp
def blk (ks : List Int) (h : List Int) (l : List UInt8) : List Int := addV (rnds ks (spreadL l) 64 0 (V8.o h)).l 8 0 h
theorem blk_length (ks h : List Int) (l : List UInt8) : (blk ks h l).length = h.length := by rw [blk, addV_length]
theorem V8_o {h : List Int} (hh : h.length = 8) : w32 h = w32 (V8.o h).l := by
  match h, hh with
  | [_, _, _, _, _, _, _, _], _ => rfl
end Go.Proofs.Ytdgdigliepncpaa
