/-
  This text proves that the sum of parts under a tag is a function of the tag and the parts.
  Conditions: none.
-/
import Derived.Test.YtdgdigliepncpaaSha
import Derived.Test.YtdgdigliepncpaaEye2
namespace Go.Proofs.Ytdgdigliepncpaa
open Go

theorem FillA.all {sz : Nat} {z out : List Value} {vs : List (Nat × Value)} {us : List Value} [hc : CellsAll us sz out] (hv : vs = (us.zipIdx 0).map fun p => (p.2, p.1)) (hz : z.length = us.length * sz) : FillA sz z vs out := ⟨by
  obtain ⟨cs, h1, h2, h3⟩ := hc.eq
  have hl : cs.length = us.length := by have := congrArg List.length h1; simp at this; omega
  have := fill_row sz us cs 0 [] z h1 h2 (by simp) (by rw [hz, hl])
  rw [List.nil_append, List.nil_append, h3] at this
  rw [hv]; exact this⟩

/-- The numbers of which an array is built. -/
def opInts (o : Oper) : List Int :=
  match o.op with
  | .build _ ps => ps.toList.filterMap fun p => match p.2 with
    | .const (.int _ n) => some n
    | _ => none
  | _ => []
def codeInts : Code → List Int
  | .seq a b => codeInts a ++ codeInts b
  | .region _ ops _ => ops.toList.flatMap opInts
  | _ => []
noncomputable def sha0 : List Int := (Try.f226.body.map codeInts).getD []
noncomputable def shaK : List Int := (Try.f227.body.map codeInts).getD []
theorem sha0_length : sha0.length = 8 := by kernel_rfl
theorem shaK_length : shaK.length = 64 := by kernel_rfl
instance cellsAll_w32 : ∀ {l : List Int}, CellsAll (w32 l) 1 (w32 l)
  | [] => CellsAll.nil
  | n :: l => @CellsAll.one (.int .u32 n) (w32 l) (w32 l) inferInstance cellsAll_w32
instance Len.sha0 : Len (w32 sha0) 8 := ⟨by rw [w32_length, sha0_length]⟩
instance Len.shaK : Len (w32 shaK) 64 := ⟨by rw [w32_length, shaK_length]⟩
instance Fst.sha0 : Fst (w32 sha0) 8 (w32 sha0) := ⟨List.take_of_length_le (by rw [w32_length, sha0_length]; exact Nat.le_refl _), by rw [w32_length, sha0_length]; exact Nat.le_refl _⟩
instance Fst.shaK : Fst (w32 shaK) 64 (w32 shaK) := ⟨List.take_of_length_le (by rw [w32_length, shaK_length]; exact Nat.le_refl _), by rw [w32_length, shaK_length]; exact Nat.le_refl _⟩
theorem sha_first (M : Mem) : Fnv Try.prog 226 [] M (aggv (w32 sha0)) := by
  refine Fnv.of (Fn.enter Try.func226 Try.ntmps226 rfl rfl (by simp only [initEnv, List.zipIdx_cons, List.zipIdx_nil, List.map_cons, List.map_nil, Nat.zero_add, Nat.reduceAdd]; rfl) fun w0 hw => ?_)
  refine Wg ?_
  refine L.al fun b0 => ?_
  refine Wg ?_
  refine L.qh ?_ (Qt.buildA (hF := FillA.all (us := w32 sha0) rfl (by rw [w32_length, sha0_length]; rfl)) rfl)
  refine Wg ?_
  exact Hands.ofT ([]) (rs := [.cell 0 324]) rfl (.cell rfl BoxIs.aggA .nil) rfl (⟨rfl, rfl⟩)

theorem sha_rounds (M : Mem) : Fnv Try.prog 227 [] M (aggv (w32 shaK)) := by
  refine Fnv.of (Fn.enter Try.func227 Try.ntmps227 rfl rfl (by simp only [initEnv, List.zipIdx_cons, List.zipIdx_nil, List.map_cons, List.map_nil, Nat.zero_add, Nat.reduceAdd]; rfl) fun w0 hw => ?_)
  refine Wg ?_
  refine L.al fun b0 => ?_
  refine Wg ?_
  refine L.qh ?_ (Qt.buildA (hF := FillA.all (us := w32 shaK) rfl (by rw [w32_length, shaK_length]; rfl)) rfl)
  refine Wg ?_
  exact Hands.ofT ([]) (rs := [.cell 0 326]) rfl (.cell rfl BoxIs.aggA .nil) rfl (⟨rfl, rfl⟩)

abbrev v8C (v : V8) : List Value := [.int .u32 v.a, .int .u32 v.b, .int .u32 v.c, .int .u32 v.d, .int .u32 v.e, .int .u32 v.f, .int .u32 v.g, .int .u32 v.h]
abbrev stT (b : Nat) (l : List Value) : Nat × Obj := (b, row l 324)
abbrev kT (b : Nat) (l : List Value) : Nat × Obj := (b, row l 326)

theorem sha_block (M : Mem) (hb kb : Nat) (hs ks : List Int) (v : Value) (l : List UInt8) (hv : BytesM M v l) (hl : l.length = 64) (hh : hs.length = 8) (hk : ks.length = 64) :
    Fn Try.prog 229 [ptr hb 0, v, ptr kb 0] M [stT hb (w32 hs), kT kb (w32 ks)] fun r _ H' => r = .tuple #[] ∧ H' = [stT hb (w32 (blk ks hs l)), kT kb (w32 ks)] := by
  have i1 := SlM.one hv
  have ln : Len (w32 (spreadL l)) 64 := ⟨by simp [spreadL_length]⟩
  have f8 : Fst (w32 hs) 8 (v8C (V8.o hs)) := ⟨by rw [List.take_of_length_le (by simp [hh]), V8_o hh]; rfl, by simp [hh]⟩
  have hblk : blk ks hs l = addV (rnds ks (spreadL l) 64 0 (V8.o hs)).l 8 0 hs := rfl
  have hsl := spreadL_length l
  generalize hsp : spreadL l = sp at *
  refine Fn.enter Try.func229 Try.ntmps229 rfl rfl (by simp only [initEnv, List.zipIdx_cons, List.zipIdx_nil, List.map_cons, List.map_nil, Nat.zero_add, Nat.reduceAdd]; rfl) fun w0 hw => ?_
  refine C.split2 ?_
  refine Wg ?_
  refine L.cv (sha_spread _ v l hv.up hl) fun M1 hM1 => ?_
  rw [hsp]
  refine L.al fun b6 => ?_
  refine Wg ?_
  refine L.al fun b7 => ?_
  refine Wg ?_
  refine C.loopF (σ := Nat × V8) (fun s => [(0, ptr hb 0), (2, ptr kb 0), (6, ptr b6 0), (7, ptr b7 0), (20, int64 s.1)]) (fun s => [[stT b7 (v8C s.2)], [kT b6 (w32 sp)], [stT hb (w32 hs)], [kT kb (w32 ks)]]) (fun s M' => rnds ks sp (64 - s.1) s.1 s.2 = rnds ks sp 64 0 (V8.o hs) ∧ s.1 ≤ 64) (fun s => 64 - s.1) (0, V8.o hs) ?_ ?_ ?_ ?_
  · exact (.cons rfl rfl (.cons rfl rfl (.cons rfl rfl (.cons rfl rfl (.cons rfl rfl .nil)))))
  · first | exact Forget.rf | ((try dsimp only); exact Forget.go)
  · exact ⟨rfl, by simp⟩
  · rintro ⟨i, vv⟩ M2 hM2 ⟨hgo, hi⟩
    try dsimp only at hgo hi
    refine C.as [(0, ptr hb 0), (2, ptr kb 0), (6, ptr b6 0), (7, ptr b7 0), (20, int64 i)] ([[stT b7 (v8C vv)], [kT b6 (w32 sp)], [stT hb (w32 hs)], [kT kb (w32 ks)]]) ?_
    refine Wg ?_
    refine C.cond rfl (fun hlt => ?_) (fun hlt => ?_)
    · have hlt := of_decide_eq_true hlt
      have hlt' : i < 64 := by omega
      obtain ⟨n, hn⟩ : ∃ n, 64 - i = n + 1 := ⟨64 - i - 1, by omega⟩
      rw [hn, rnds] at hgo
      refine Wg ?_
      refine L.cv (sha_rl _ _ _) fun M2 hM2 => ?_
      refine Wg ?_
      refine L.cv (sha_rl _ _ _) fun M3 hM3 => ?_
      refine Wo ?_
      refine Wg ?_
      refine L.cv (sha_rl _ _ _) fun M4 hM4 => ?_
      refine Wo ?_
      refine Wg ?_
      refine C.drw [] [b7, b6, kb] ?_
      refine LA.ta 0 ?_
      refine LA.ta 1 ?_
      refine LA.ta 2 ?_
      refine LA.ta 3 ?_
      refine LA.ta 4 ?_
      refine LA.ta 5 ?_
      refine LA.ta 6 ?_
      refine LA.ta 7 ?_
      refine LA.ta 8 ?_
      refine LA.ta 9 ?_
      refine LA.ta 10 ?_
      refine LA.ta 11 ?_
      refine LA.ta 12 ?_
      refine LA.ta 13 ?_
      refine LA.ta 14 ?_
      refine LA.ta 15 ?_
      refine LA.ta 16 ?_
      refine LA.ta 17 ?_
      refine LA.ta 18 ?_
      refine LA.th 19 rfl ?_ (Qt.loadAi rfl (w32_get (by omega)))
      refine LA.ta 20 ?_
      refine LA.ta 21 ?_
      refine LA.ta 22 ?_
      refine LA.th 23 rfl ?_ (Qt.loadAi rfl (w32_get (by omega)))
      refine LA.ta 24 ?_
      refine LA.ta 25 ?_
      refine LA.dn ?_
      try dsimp only
      refine Wg ?_
      refine L.cv (sha_rl _ _ _) fun M5 hM5 => ?_
      refine Wg ?_
      refine L.cv (sha_rl _ _ _) fun M6 hM6 => ?_
      refine Wo ?_
      refine Wg ?_
      refine L.cv (sha_rl _ _ _) fun M7 hM7 => ?_
      refine Wo ?_
      refine Wg ?_
      refine Wo ?_
      refine Wg ?_
      refine Wo ?_
      refine Wo ?_
      refine Wg ?_
      refine Wo ?_
      refine Wo ?_
      refine Wo ?_
      refine Wg ?_
      refine C.drw [] [] ?_
      refine LA.th 0 rfl ?_ (Qt.sliceArrLo (lo := 1) rfl rfl (by decide))
      refine LA.th 1 rfl ?_ (Qt.sliceArrHi (hi := 7) rfl rfl (by decide))
      refine LA.e1 2 ?_
      refine L.copy (m := 7) (news := [.int .u32 vv.a, .int .u32 vv.b, .int .u32 vv.c, .int .u32 vv.d, .int .u32 vv.e, .int .u32 vv.f, .int .u32 vv.g]) (out := [.int .u32 vv.a, .int .u32 vv.a, .int .u32 vv.b, .int .u32 vv.c, .int .u32 vv.d, .int .u32 vv.e, .int .u32 vv.f, .int .u32 vv.g]) rfl rfl (Rd.ofA rfl (by simp)) (by decide) ⟨rfl, by simp⟩ inferInstance rfl rfl ?_
      refine L.nil ⟨fun _ => ⟨Sub.le, by simp⟩, ?_⟩
      refine LA.dn ?_
      try dsimp only
      refine Wg ?_
      refine Wo ?_
      refine Wg ?_
      refine Wo ?_
      refine Wg ?_
      refine Wo ?_
      refine Wg ?_
      refine ⟨(i + 1, rnd8 vv (ks.getD i 0) (sp.getD i 0)), (.cons rfl rfl (.cons rfl rfl (.cons rfl rfl (.cons rfl rfl (.cons rfl rfl .nil))))), (by first | exact Forget.rf | ((try dsimp only); exact Forget.go)), inferInstance, ⟨by rw [show 64 - (i + 1) = n by omega]; exact hgo, by dsimp only; omega⟩, (by first | omega | (dsimp only; omega))⟩
    have hlt := of_decide_eq_false hlt
    rw [show 64 - i = 0 by omega, rnds] at hgo
    rw [← hgo] at hblk
    refine Wg ?_
    refine C.loopF (σ := Nat × List Int) (fun s => [(0, ptr hb 0), (7, ptr b7 0), (98, int64 s.1)]) (fun s => [[stT b7 (v8C vv)], [kT b6 (w32 sp)], [stT hb (w32 s.2)], [kT kb (w32 ks)]]) (fun s M' => addV vv.l (8 - s.1) s.1 s.2 = blk ks hs l ∧ s.1 ≤ 8 ∧ s.2.length = 8) (fun s => 8 - s.1) (0, hs) ?_ ?_ ?_ ?_
    · exact (.cons rfl rfl (.cons rfl rfl (.cons rfl rfl .nil)))
    · first | exact Forget.rf | ((try dsimp only); exact Forget.go)
    · exact ⟨hblk.symm, by simp, hh⟩
    · rintro ⟨j, us⟩ M3 hM3 ⟨hgo2, hi2, hul⟩
      try dsimp only at hgo2 hi2 hul
      refine C.as [(0, ptr hb 0), (7, ptr b7 0), (98, int64 j)] ([[stT b7 (v8C vv)], [kT b6 (w32 sp)], [stT hb (w32 us)], [kT kb (w32 ks)]]) ?_
      refine Wg ?_
      refine C.cond rfl (fun hlt => ?_) (fun hlt => ?_)
      · have hlt := of_decide_eq_true hlt
        have hlt' : j < 8 := by omega
        obtain ⟨n, hn⟩ : ∃ n, 8 - j = n + 1 := ⟨8 - j - 1, by omega⟩
        rw [hn, addV] at hgo2
        have p1 := w32_put (l := us) (i := j) (by omega)
        refine Wg ?_
        refine C.drw [11] [hb, b7] ?_
        refine LA.ta 0 ?_
        refine LA.ta 1 ?_
        refine LA.ta 2 ?_
        refine LA.ta 3 ?_
        refine LA.th 4 rfl ?_ (Qt.loadAi rfl (w32_get (by omega)))
        refine LA.ta 5 ?_
        refine LA.ta 6 ?_
        refine LA.th 7 rfl ?_ (Qt.loadAi rfl (w32_get (l := V8.l vv) (by simp only [V8.l, List.length_cons, List.length_nil]; omega)))
        refine LA.ta 8 ?_
        refine LA.ta 9 ?_
        refine LA.ta 10 ?_
        refine LA.e1 11 ?_
        refine Wo ?_
        refine L.nil ⟨fun h => by simp at h, ?_⟩
        refine LA.dn ?_
        try dsimp only
        refine Wg ?_
        refine Wo ?_
        refine Wg ?_
        refine ⟨(j + 1, us.set j (add32 (us.getD j 0) (vv.l.getD j 0))), (.cons rfl rfl (.cons rfl rfl (.cons rfl rfl .nil))), (by first | exact Forget.rf | ((try dsimp only); exact Forget.go)), inferInstance, ⟨by rw [show 8 - (j + 1) = n by omega]; exact hgo2, by dsimp only; omega, by simpa using hul⟩, (by first | omega | (dsimp only; omega))⟩
      have hlt := of_decide_eq_false hlt
      rw [show 8 - j = 0 by omega, addV] at hgo2
      refine Wg ?_
      exact Hands.ofT ([stT hb (w32 us), kT kb (w32 ks)]) (rs := []) rfl .nil rfl (⟨rfl, by rw [hgo2]⟩)

end Go.Proofs.Ytdgdigliepncpaa
