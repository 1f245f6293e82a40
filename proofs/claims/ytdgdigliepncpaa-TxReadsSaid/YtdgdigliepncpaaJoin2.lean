/-
  This text proves that the sum of bytes, and of parts under a tag, is a function of them.
  Conditions: none.
-/
import Derived.Test.YtdgdigliepncpaaJoin
namespace Go.Proofs.Ytdgdigliepncpaa
open Go

def padZ (n : Nat) : Int := IntKind.u64.wrap (IntKind.u64.wrap (n : Int) * 8)
def lenByte (z : Int) (k : Nat) : UInt8 := byteI (z.fdiv (2 ^ min (56 - 8 * (k : Int)).toNat IntKind.u64.bits))
def lenG (z : Int) : Nat → Nat → List UInt8
  | 0, _ => []
  | n + 1, k => lenByte z k :: lenG z n (k + 1)
theorem lenG_length (z : Int) : ∀ n k, (lenG z n k).length = n
  | 0, _ => rfl
  | n + 1, k => by simp [lenG, lenG_length z n]
def padN (n : Nat) : Nat := (120 - (n + 1) % 64) % 64
def padA (l : List UInt8) : List UInt8 := l ++ [128] ++ List.replicate (padN l.length) 0
def padL (l : List UInt8) : List UInt8 := padA l ++ lenG (padZ l.length) 8 0
theorem padL_length (l : List UInt8) : (padL l).length % 64 = 0 ∧ (padL l).length ≤ l.length + 73 := by
  simp only [padL, padA, List.length_append, lenG_length, List.length_replicate, List.length_cons, List.length_nil, padN]
  omega

theorem sha_padded (M : Mem) (v : Value) (l : List UInt8) (hv : BytesM M v l) (hl : l.length ≤ 2199023255552) : Fn0 Try.prog 228 [v] M fun r M' => BytesM M' r (padL l) := by
  have hs : SlM M 1 v l.length (bytesC l) := hv
  have hpn : padN l.length < 64 := by unfold padN; omega
  have i1 := hs.one
  have c1 := hs.cells
  refine Fn0.of (Fn.enter Try.func228 Try.ntmps228 rfl rfl (by simp only [initEnv, List.zipIdx_cons, List.zipIdx_nil, List.map_cons, List.map_nil, Nat.zero_add, Nat.reduceAdd]; rfl) fun w0 hw => ?_)
  refine Wg ?_
  refine L.qh ?_ (Qt.convInt rfl rfl)
  refine L.qh ?_ (Qt.bin rfl rfl (BinRun.mul (r := padZ l.length) rfl))
  refine Wg ?_
  refine L.ap OwnS.nil hs.rd (by (simp; omega)) fun v11 H11 o11 => ?_
  have i11 := o11.one
  have c11 := o11.cells
  refine L.bsM fun b12 M12 hp12 hb12 => ?_
  refine L.ap o11 (Rd.row hb12) (by (simp; omega)) fun v13 H13 o13 => ?_
  have i13 := o13.one
  have c13 := o13.cells
  refine Wg ?_
  refine C.loopF (σ := Nat × Value × Hp) (fun s => [(3, .int .u64 (padZ l.length)), (4, s.2.1)]) (fun s => [s.2.2]) (fun s M' => OwnS 5 1 s.2.1 (bytesC (l ++ [128] ++ List.replicate s.1 0)) s.2.2 ∧ s.1 ≤ padN l.length) (fun s => padN l.length - s.1) (0, v13, H13) ?_ ?_ ?_ ?_
  · exact (.cons rfl rfl (.cons rfl rfl .nil))
  · first | exact Forget.rf | ((try dsimp only); exact Forget.go)
  · exact ⟨(show bytesC (l ++ [128] ++ List.replicate 0 0) = [] ++ bytesC l ++ [.int .u8 128] by simp [bytesC, u8v]) ▸ o13, by simp⟩
  · rintro ⟨j, v1, H1⟩ M1 hM1 ⟨ho, hj⟩
    try dsimp only at ho hj
    refine C.as [(3, .int .u64 (padZ l.length)), (4, v1)] ([H1]) ?_
    have io := ho.one
    have co := ho.cells
    refine Wg ?_
    refine L.qh ?_ (Qt.lenOwn rfl ho (n := l.length + 1 + j) (by simp; omega) (by decide))
    refine L.qh ?_ (Qt.bin rfl rfl (BinRun.rem (r := (((l.length + 1 + j) % 64 : Nat) : Int)) (by decide) (by rw [Int.tmod_eq_emod_of_nonneg (by omega)]; omega)))
    refine Wg ?_
    refine C.cond rfl (fun hne => ?_) (fun hne => ?_)
    · have hne := of_decide_eq_true hne
      have hne' : (l.length + 1 + j) % 64 ≠ 56 := by intro h; apply hne; omega
      have hlt : j < padN l.length := by unfold padN at *; omega
      refine Wg ?_
      refine L.bsM fun b19 M19 hp19 hb19 => ?_
      refine L.ap ho (Rd.row hb19) (by (simp; omega)) fun v20 H20 o20 => ?_
      have i20 := o20.one
      have c20 := o20.cells
      refine Wg ?_
      refine ⟨(j + 1, v20, H20), (.cons rfl rfl (.cons rfl rfl .nil)), (by first | exact Forget.rf | ((try dsimp only); exact Forget.go)), inferInstance, ⟨by rw [List.replicate_succ', ← List.append_assoc, bytesC_append]; exact o20, by dsimp only; omega⟩, (by first | omega | (dsimp only; omega))⟩
    have hne := of_decide_eq_false hne
    have he : (l.length + 1 + j) % 64 = 56 := by omega
    have hj' : j = padN l.length := by unfold padN at *; omega
    subst hj'
    refine Wg ?_
    refine C.loopF (σ := Nat × List UInt8 × Value × Hp) (fun s => [(3, .int .u64 (padZ l.length)), (4, s.2.2.1), (5, int64 (56 - 8 * (s.1 : Int)))]) (fun s => [s.2.2.2]) (fun s M' => OwnS 5 1 s.2.2.1 (bytesC s.2.1) s.2.2.2 ∧ s.2.1 ++ lenG (padZ l.length) (8 - s.1) s.1 = padL l ∧ s.1 ≤ 8) (fun s => 8 - s.1) (0, padA l, v1, H1) ?_ ?_ ?_ ?_
    · exact (.cons rfl rfl (.cons rfl rfl (.cons rfl rfl .nil)))
    · first | exact Forget.rf | ((try dsimp only); exact Forget.go)
    · exact ⟨ho, rfl, by simp⟩
    · rintro ⟨k, l1, v2, H2⟩ M2 hM2 ⟨ho2, hgo, hk⟩
      try dsimp only at ho2 hgo hk
      refine C.as [(3, .int .u64 (padZ l.length)), (4, v2), (5, int64 (56 - 8 * (k : Int)))] ([H2]) ?_
      have io2 := ho2.one
      have co2 := ho2.cells
      refine Wg ?_
      refine C.cond rfl (fun hge => ?_) (fun hge => ?_)
      · have hge := of_decide_eq_true hge
        have hk8 : k < 8 := by omega
        obtain ⟨n, hn⟩ : ∃ n, 8 - k = n + 1 := ⟨8 - k - 1, by omega⟩
        rw [hn, lenG] at hgo
        have hlen := congrArg List.length hgo
        have hpl := (padL_length l).2
        simp at hlen
        refine Wg ?_
        refine Wo ?_
        refine L.qh ?_ (Qt.convInt rfl (byteI_eq _))
        refine L.bsM fun b30 M30 hp30 hb30 => ?_
        refine L.ap ho2 (Rd.row (cl := [u8v (lenByte (padZ l.length) k)]) hb30) (by (simp; omega)) fun v31 H31 o31 => ?_
        have i31 := o31.one
        have c31 := o31.cells
        refine Wg ?_
        refine L.qh ?_ (Qt.bin rfl rfl (BinRun.sub (r := 56 - 8 * ((k + 1 : Nat) : Int)) (by rw [wrap_in64 (by omega)]; omega)))
        refine Wg ?_
        refine ⟨(k + 1, l1 ++ [lenByte (padZ l.length) k], v31, H31), (.cons rfl rfl (.cons rfl rfl (.cons rfl rfl .nil))), (by first | exact Forget.rf | ((try dsimp only); exact Forget.go)), inferInstance, ⟨by rw [bytesC_append]; exact o31, by rw [show 8 - (k + 1) = n by omega, List.append_assoc]; exact hgo, by dsimp only; omega⟩, (by first | omega | (dsimp only; omega))⟩
      have hge := of_decide_eq_false hge
      rw [show 8 - k = 0 by omega, lenG, List.append_nil] at hgo
      subst hgo
      refine ho2.frzC (padL l).length (by simp) (by decide) fun M3 hM3 hv3 => ?_
      refine Wg ?_
      exact Hands.ofT ([]) (rs := [.tmp 2]) rfl (.tmp rfl .nil) rfl (⟨rfl, hv3⟩)

def ofGo (ks : List Int) : Nat → List UInt8 → List Int → List Int
  | 0, _, h => h
  | k + 1, l, h => ofGo ks k (l.drop 64) (blk ks h (l.take 64))
theorem ofGo_z (ks : List Int) (l : List UInt8) (h : List Int) : ofGo ks 0 l h = h := rfl
theorem ofGo_s (ks : List Int) (k : Nat) (l : List UInt8) (h : List Int) : ofGo ks (k + 1) l h = ofGo ks k (l.drop 64) (blk ks h (l.take 64)) := rfl
theorem ofGo_length (ks : List Int) : ∀ k l h, (ofGo ks k l h).length = h.length
  | 0, _, _ => rfl
  | k + 1, l, h => by rw [ofGo, ofGo_length ks k, blk_length]
def wordB (w : Int) : List UInt8 := [byteI (shr32 w 24), byteI (shr32 w 16), byteI (shr32 w 8), byteI w]
def outGo (h : List Int) : Nat → Nat → List UInt8 → List UInt8
  | 0, _, o => o
  | n + 1, i, o => outGo h n (i + 1) ((((o.set (4 * i) (byteI (shr32 (h.getD i 0) 24))).set (4 * i + 1) (byteI (shr32 (h.getD i 0) 16))).set (4 * i + 2) (byteI (shr32 (h.getD i 0) 8))).set (4 * i + 3) (byteI (h.getD i 0)))
theorem outGo_z (h : List Int) (i : Nat) (o : List UInt8) : outGo h 0 i o = o := rfl
theorem outGo_s (h : List Int) (n i : Nat) (o : List UInt8) : outGo h (n + 1) i o = outGo h n (i + 1) ((((o.set (4 * i) (byteI (shr32 (h.getD i 0) 24))).set (4 * i + 1) (byteI (shr32 (h.getD i 0) 16))).set (4 * i + 2) (byteI (shr32 (h.getD i 0) 8))).set (4 * i + 3) (byteI (h.getD i 0))) := rfl
theorem outGo_length (h : List Int) : ∀ n i o, (outGo h n i o).length = o.length
  | 0, _, _ => rfl
  | n + 1, i, o => by rw [outGo, outGo_length h n]; simp
noncomputable def shaOf (l : List UInt8) : Sm := ⟨outGo (ofGo shaK ((padL l).length / 64) (padL l) sha0) 8 0 (List.replicate 32 0), by rw [outGo_length]; simp⟩

instance Len.setB {o : List UInt8} {n i : Nat} {b : UInt8} [h : Len (bytesC o) n] : Len (bytesC (o.set i b)) n := ⟨by have := h.eq; simpa using this⟩
theorem shaOf_l (l : List UInt8) : (shaOf l).l = outGo (ofGo shaK ((padL l).length / 64) (padL l) sha0) 8 0 (List.replicate 32 0) := by simp only [shaOf]
attribute [irreducible] shaOf outGo ofGo

theorem sha_of (M : Mem) (v : Value) (l : List UInt8) (hv : BytesM M v l) (hl : l.length ≤ 2199023255552) : Fnv Try.prog 142 [v] M (aggv (sumC (shaOf l))) := by
  have i1 := SlM.one hv
  have c1 := SlM.cells hv
  have l8 : Len (w32 sha0) 8 := ⟨by simp [sha0_length]⟩
  have l64 : Len (w32 shaK) 64 := ⟨by simp [shaK_length]⟩
  have hpl := padL_length l
  refine Fnv.of (Fn.enter Try.func142 Try.ntmps142 rfl rfl (by simp only [initEnv, List.zipIdx_cons, List.zipIdx_nil, List.map_cons, List.map_nil, Nat.zero_add, Nat.reduceAdd]; rfl) fun w0 hw => ?_)
  refine Wg ?_
  refine L.al fun b2 => ?_
  refine Wg ?_
  refine L.cv (sha_first _) fun M1 hM1 => ?_
  refine L.cv (sha_rounds _) fun M2 hM2 => ?_
  refine L.al fun b3 => ?_
  refine L.al fun b4 => ?_
  refine Wg ?_
  refine L.c0 (sha_padded _ v l hv.up hl) fun r3 M3 hM3 hR3 => ?_
  refine Wg ?_
  refine C.loopF (σ := Nat × List UInt8 × List Int × Value) (fun s => [(2, ptr b2 0), (3, ptr b3 0), (4, ptr b4 0), (5, s.2.2.2)]) (fun s => [[stT b3 (w32 s.2.2.1)], [kT b4 (w32 shaK)], [(b2, row (sumC zsum) 32)]]) (fun s M' => BytesM M' s.2.2.2 s.2.1 ∧ s.2.1.length = 64 * s.1 ∧ ofGo shaK s.1 s.2.1 s.2.2.1 = ofGo shaK ((padL l).length / 64) (padL l) sha0 ∧ s.2.2.1.length = 8) (fun s => s.1) ((padL l).length / 64, padL l, sha0, r3) ?_ ?_ ?_ ?_
  · exact (.cons rfl rfl (.cons rfl rfl (.cons rfl rfl (.cons rfl rfl .nil))))
  · first | exact Forget.rf | ((try dsimp only); exact Forget.go)
  · exact ⟨hR3, by dsimp only; omega, rfl, sha0_length⟩
  · rintro ⟨k, lp, h, vp⟩ M4 hM4 ⟨hp4, hlp, hgo, hh⟩
    try dsimp only at hp4 hlp hgo hh
    refine C.as [(2, ptr b2 0), (3, ptr b3 0), (4, ptr b4 0), (5, vp)] ([[stT b3 (w32 h)], [kT b4 (w32 shaK)], [(b2, row (sumC zsum) 32)]]) ?_
    have hs2 : SlM M4 1 vp lp.length (bytesC lp) := hp4
    have i5 := hs2.one
    have c5 := hs2.cells
    refine Wg ?_
    refine C.cond rfl (fun hlt => ?_) (fun hlt => ?_)
    · have hlt := of_decide_eq_true hlt
      obtain ⟨n, rfl⟩ : ∃ n, k = n + 1 := ⟨k - 1, by omega⟩
      rw [ofGo_s] at hgo
      refine Wg ?_
      refine L.qh ?_ (Qt.sliceHi (hi := 64) rfl rfl hs2 (by omega))
      refine L.cl (sha_block _ b3 b4 h shaK _ (lp.take 64) (BytesM.take hp4 (k := 64) (by omega)) (by rw [List.length_take]; omega) hh shaK_length) fun r4 M4 H4 hM4 hR4 => ?_
      obtain ⟨rfl, rfl⟩ := hR4
      refine Wg ?_
      refine L.qh ?_ (Qt.sliceLo (lo := 64) rfl rfl hs2 (by omega))
      refine Wg ?_
      refine ⟨(n, lp.drop 64, blk shaK h (lp.take 64), _), (.cons rfl rfl (.cons rfl rfl (.cons rfl rfl (.cons rfl rfl .nil)))), (by first | exact Forget.rf | ((try dsimp only); exact Forget.go)), inferInstance, ⟨BytesM.up (BytesM.drop hp4 (k := 64) (by omega)), by rw [List.length_drop]; dsimp only; omega, hgo, by rw [blk_length]; exact hh⟩, (by first | omega | (dsimp only; omega))⟩
    have hlt := of_decide_eq_false hlt
    have hk0 : k = 0 := by omega
    subst hk0
    rw [ofGo_z] at hgo
    refine Wg ?_
    refine L.al fun b6 => ?_
    refine Wg ?_
    refine L.qh ?_ (Qt.loadA (ht := (⟨List.take_of_length_le (by simp; omega), by simp; omega⟩ : Fst (w32 h) 8 (w32 h))) rfl)
    refine Wg ?_
    refine C.dropB b3 ?_
    refine C.dropB b4 ?_
    refine C.loopF (σ := Nat × List UInt8) (fun s => [(2, ptr b2 0), (6, ptr b6 0), (21, aggv (w32 h)), (22, int64 s.1)]) (fun s => [[(b6, row (bytesC s.2) 32)], [(b2, row (sumC zsum) 32)]]) (fun s M' => outGo h (8 - s.1) s.1 s.2 = (shaOf l).l ∧ s.1 ≤ 8 ∧ s.2.length = 32) (fun s => 8 - s.1) (0, List.replicate 32 0) ?_ ?_ ?_ ?_
    · exact (.cons rfl rfl (.cons rfl rfl (.cons rfl rfl (.cons rfl rfl .nil))))
    · first | exact Forget.rf | ((try dsimp only); exact Forget.go)
    · exact ⟨by rw [shaOf_l, ← hgo]; rfl, by simp, by simp⟩
    · rintro ⟨i, o⟩ M5 hM5 ⟨hgo2, hi, hol⟩
      try dsimp only at hgo2 hi hol
      refine C.as [(2, ptr b2 0), (6, ptr b6 0), (21, aggv (w32 h)), (22, int64 i)] ([[(b6, row (bytesC o) 32)], [(b2, row (sumC zsum) 32)]]) ?_
      refine Wg ?_
      refine C.cond rfl (fun hlt2 => ?_) (fun hlt2 => ?_)
      · have hlt2 := of_decide_eq_true hlt2
        have hi8 : i < 8 := by omega
        obtain ⟨n, hn⟩ : ∃ n, 8 - i = n + 1 := ⟨8 - i - 1, by omega⟩
        rw [hn, outGo_s] at hgo2
        have lo : Len (bytesC o) 32 := ⟨by simp [hol]⟩
        have p0 : ∀ (b : UInt8) (o : List UInt8) [Len (bytesC o) 32], Put (bytesC o) (0 + 4 * i * 1) [.int .u8 (UInt8.toNat b)] (bytesC (o.set (4 * i) b)) := fun b o h => bytesC_put (by have := h.eq; simp at this; omega) b
        have p1 : ∀ (b : UInt8) (o : List UInt8) [Len (bytesC o) 32], Put (bytesC o) (0 + (4 * i + 1) * 1) [.int .u8 (UInt8.toNat b)] (bytesC (o.set (4 * i + 1) b)) := fun b o h => bytesC_put (by have := h.eq; simp at this; omega) b
        have p2 : ∀ (b : UInt8) (o : List UInt8) [Len (bytesC o) 32], Put (bytesC o) (0 + (4 * i + 2) * 1) [.int .u8 (UInt8.toNat b)] (bytesC (o.set (4 * i + 2) b)) := fun b o h => bytesC_put (by have := h.eq; simp at this; omega) b
        have p3 : ∀ (b : UInt8) (o : List UInt8) [Len (bytesC o) 32], Put (bytesC o) (0 + (4 * i + 3) * 1) [.int .u8 (UInt8.toNat b)] (bytesC (o.set (4 * i + 3) b)) := fun b o h => bytesC_put (by have := h.eq; simp at this; omega) b
        refine Wg ?_
        refine L.qh ?_ (Qt.indexAgg rfl rfl (by omega) (w32_get' (by omega)))
        refine Wg ?_
        refine L.qh ?_ (Qt.bin rfl rfl (BinRun.mul (nat64 (4 * i) (by omega) (by omega))))
        refine Wg ?_
        refine L.qh ?_ (Qt.bin rfl rfl (BinRun.mul (nat64 (4 * i) (by omega) (by omega))))
        refine Wo ?_
        refine Wg ?_
        refine L.qh ?_ (Qt.bin rfl rfl (BinRun.mul (nat64 (4 * i) (by omega) (by omega))))
        refine L.qh ?_ (Qt.bin rfl rfl (BinRun.add (nat64 (4 * i + 2) (by omega) (by omega))))
        refine Wg ?_
        refine L.qh ?_ (Qt.bin rfl rfl (BinRun.mul (nat64 (4 * i) (by omega) (by omega))))
        refine L.qh ?_ (Qt.bin rfl rfl (BinRun.add (nat64 (4 * i + 3) (by omega) (by omega))))
        refine Wg ?_
        refine Wo ?_
        refine L.qh ?_ (Qt.convInt rfl (byteI_eq _))
        refine Wg ?_
        refine Wo ?_
        refine L.qh ?_ (Qt.convInt rfl (byteI_eq _))
        refine Wg ?_
        refine Wo ?_
        refine L.qh ?_ (Qt.convInt rfl (byteI_eq _))
        refine Wg ?_
        refine L.qh ?_ (Qt.convInt rfl (byteI_eq _))
        refine Wg ?_
        refine Wo ?_
        refine Wg ?_
        refine ⟨(i + 1, _), (.cons rfl rfl (.cons rfl rfl (.cons rfl rfl (.cons rfl rfl .nil)))), (by first | exact Forget.rf | ((try dsimp only); exact Forget.go)), inferInstance, ⟨by rw [show 8 - (i + 1) = n by omega]; exact hgo2, by dsimp only; omega, by simpa using hol⟩, (by first | omega | (dsimp only; omega))⟩
      have hlt2 := of_decide_eq_false hlt2
      rw [show 8 - i = 0 by omega, outGo_z] at hgo2
      have hse : bytesC o = sumC (shaOf l) := by rw [hgo2]; rfl
      rw [hse]
      refine Wg ?_
      exact Hands.ofT ([]) (rs := [.cell 2 32]) rfl (.cell rfl BoxIs.aggA .nil) rfl (⟨rfl, rfl⟩)

def join4 (n : Nat) : List UInt8 := [byteI ((n : Int).fdiv (2 ^ min (24 : Int).toNat IntKind.i64.bits)), byteI ((n : Int).fdiv (2 ^ min (16 : Int).toNat IntKind.i64.bits)), byteI ((n : Int).fdiv (2 ^ min (8 : Int).toNat IntKind.i64.bits)), byteI (n : Int)]
def joinL (parts : List (List UInt8)) : List UInt8 := parts.flatMap fun p => join4 p.length ++ p
noncomputable def shaJoin (tag : UInt8) (parts : List (List UInt8)) : Sm := shaOf (tag :: joinL parts)
instance : Rep (List UInt8) where
  sz := 1
  R M cs x := ∃ v, cs = [v] ∧ BytesM M v x
  len h := by obtain ⟨v, h, _⟩ := h; rw [h]; rfl
  up h s := by obtain ⟨v, h1, h2⟩ := h; exact ⟨v, h1, SlM.up h2⟩
  ones h := by obtain ⟨v, h1, h2⟩ := h; have := SlM.one h2; rw [h1]; infer_instance
theorem joinL_cons (p : List UInt8) (ps : List (List UInt8)) : joinL (p :: ps) = join4 p.length ++ p ++ joinL ps := by simp [joinL]
theorem sha_join (M : Mem) (tag : UInt8) (v : Value) (parts : List (List UInt8)) (hv : SlR M v parts) (hb : (joinL parts).length ≤ 1099511627776) : Fnv Try.prog 42 [.int .u8 tag.toNat, v] M (aggv (sumC (shaJoin tag parts))) := by
  obtain ⟨cs, hs, hr⟩ := hv
  have i1 := hs.one
  have c1 := hs.cells
  have hle := hs.le
  unfold maxLen at hle
  refine Fnv.of (Fn.enter Try.func42 Try.ntmps42 rfl rfl (by simp only [initEnv, List.zipIdx_cons, List.zipIdx_nil, List.map_cons, List.map_nil, Nat.zero_add, Nat.reduceAdd]; rfl) fun w0 hw => ?_)
  refine Wg ?_
  refine L.al fun b4 => ?_
  refine Wg ?_
  refine L.bs fun b10 => ?_
  refine Wg ?_
  refine C.loopF (σ := Nat × List UInt8 × Value × Hp) (fun s => [(4, ptr b4 0), (5, s.2.2.1), (11, v), (12, int64 parts.length), (13, int64 s.1)]) (fun s => [s.2.2.2, [(b4, row (sumC zsum) 32)]]) (fun s M' => OwnS 5 1 s.2.2.1 (bytesC s.2.1) s.2.2.2 ∧ s.2.1 ++ joinL (parts.drop s.1) = tag :: joinL parts ∧ s.1 ≤ parts.length) (fun s => parts.length - s.1) (0, [tag], .slice (some ⟨b10, 0, none⟩) 1 1, [(b10, row [.int .u8 tag.toNat] 5)]) ?_ ?_ ?_ ?_
  · exact (.cons rfl rfl (.cons rfl rfl (.cons rfl rfl (.cons rfl rfl (.cons rfl rfl .nil)))))
  · first | exact Forget.rf | ((try dsimp only); exact Forget.go)
  · exact ⟨.inr ⟨b10, 1, 1, [], rfl, rfl, by decide, by decide, rfl, rfl⟩, rfl, by simp⟩
  · rintro ⟨i, l1, v1, H1⟩ M1 hM1 ⟨ho, hgo, hi⟩
    try dsimp only at ho hgo hi
    refine C.as [(4, ptr b4 0), (5, v1), (11, v), (12, int64 parts.length), (13, int64 i)] ([H1, [(b4, row (sumC zsum) 32)]]) ?_
    have io := ho.one
    have co := ho.cells
    refine Wg ?_
    refine C.cond rfl (fun hlt => ?_) (fun hlt => ?_)
    · have hlt := of_decide_eq_true hlt
      have hlt' : i < parts.length := by omega
      have hel := hs.up (M' := M1) |>.el hlt'
      have hre := (hr.up (M' := M1)).el hlt'
      rw [List.drop_eq_getElem_cons hlt', joinL_cons] at hgo
      generalize List.take (Rep.sz (List UInt8)) _ = ci at hel hre
      generalize parts[i] = p at hgo hre
      obtain ⟨vp, rfl, hp⟩ := hre
      have ip := SlM.one hp
      have cp := SlM.cells hp
      have hps : SlM M1 1 vp p.length (bytesC p) := hp
      have hlen := congrArg List.length hgo
      simp [join4] at hlen
      refine Wg ?_
      refine L.qh ?_ (Qt.bin rfl rfl (BinRun.shr (by decide) rfl))
      refine L.qh ?_ (Qt.convInt rfl (byteI_eq _))
      refine Wg ?_
      refine L.qh ?_ (Qt.bin rfl rfl (BinRun.shr (by decide) rfl))
      refine L.qh ?_ (Qt.convInt rfl (byteI_eq _))
      refine Wg ?_
      refine L.qh ?_ (Qt.bin rfl rfl (BinRun.shr (by decide) rfl))
      refine L.qh ?_ (Qt.convInt rfl (byteI_eq _))
      refine Wg ?_
      refine L.qh ?_ (Qt.convInt rfl (byteI_eq _))
      refine L.bsM fun b31 M31 hp31 hb31 => ?_
      refine L.ap ho (Rd.row (n := 4) (c := 4) (cl := bytesC (join4 p.length)) hb31 (by simp [join4])) (by (simp [join4]; omega)) fun v32 H32 o32 => ?_
      have i32 := o32.one
      have c32 := o32.cells
      refine Wg ?_
      refine L.ap o32 hps.rd (by (simp [join4]; omega)) fun v35 H35 o35 => ?_
      have i35 := o35.one
      have c35 := o35.cells
      refine Wg ?_
      refine Wo ?_
      refine Wg ?_
      refine ⟨(i + 1, l1 ++ join4 p.length ++ p, v35, H35), (.cons rfl rfl (.cons rfl rfl (.cons rfl rfl (.cons rfl rfl (.cons rfl rfl .nil))))), (by first | exact Forget.rf | ((try dsimp only); exact Forget.go)), inferInstance, ⟨by rw [bytesC_append, bytesC_append]; exact o35, by rw [← hgo]; simp, by dsimp only; omega⟩, (by first | omega | (dsimp only; omega))⟩
    have hlt := of_decide_eq_false hlt
    have e1 : i = parts.length := by omega
    subst e1
    rw [List.drop_length] at hgo
    have hgo' : l1 = tag :: joinL parts := by rw [← hgo]; simp [joinL]
    subst hgo'
    refine ho.frzC (tag :: joinL parts).length (by simp) (by decide) fun M3 hM3 hv3 => ?_
    refine Wg ?_
    refine L.cv (sha_of _ _ (tag :: joinL parts) (SlM.up hv3) (by simp; omega)) fun M1 hM1 => ?_
    refine Wg ?_
    exact Hands.ofT ([]) (rs := [.cell 4 32]) rfl (.cell rfl BoxIs.aggA .nil) rfl (⟨rfl, rfl⟩)

/-- Parts that were laid in a row. -/
theorem PartsM.one {M : Mem} {b : Nat} {T : TypeId} {v : Value} {p : List UInt8} (hb : At M b (row [v] T)) (h : BytesM M v p) : SlR M (.slice (some ⟨b, 0, none⟩) 1 1) [p] :=
  ⟨[v], SlM.ofRow (sz := 1) hb rfl (by decide) (by decide), [v], [], rfl, ⟨v, rfl, h⟩, rfl⟩
theorem PartsM.two {M : Mem} {b : Nat} {T : TypeId} {v u : Value} {p r : List UInt8} (hb : At M b (row [v, u] T)) (h : BytesM M v p) (k : BytesM M u r) : SlR M (.slice (some ⟨b, 0, none⟩) 2 2) [p, r] :=
  ⟨[v, u], SlM.ofRow (sz := 1) hb rfl (by decide) (by decide), [v], [u], rfl, ⟨v, rfl, h⟩, [u], [], rfl, ⟨u, rfl, k⟩, rfl⟩
end Go.Proofs.Ytdgdigliepncpaa
