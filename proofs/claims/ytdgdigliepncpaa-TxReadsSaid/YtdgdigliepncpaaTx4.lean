/-
  This text proves what bytes are read as a transaction.
  Conditions: none.
-/
import Derived.Test.YtdgdigliepncpaaTx3
namespace Go.Proofs.Ytdgdigliepncpaa
open Go
attribute [local irreducible] numB

def getIn : Rdr Inp := Rdr.bind Ey.sum fun h => Rdr.bind (fun y => y.upto 16) fun a => Rdr.bind (fun y => y.upto 16) fun w => Rdr.bind (fun y => y.text 64) fun p => Rdr.pure ⟨⟨h, a⟩, w, p⟩
def getOp : Rdr Opn := Rdr.bind (fun y => y.upto 7) fun a => Rdr.bind (fun y => y.upto 16) fun b => Rdr.bind (fun y => y.upto 1048576) fun c => Rdr.bind (fun y => y.upto 1125899906842624) fun d => Rdr.bind Ey.sum fun h => Rdr.bind (fun y => y.text 65536) fun p => Rdr.pure ⟨a, b, c, d, h, p⟩
def getSign : Rdr Sgn := Rdr.bind (fun y => y.upto 255) fun k => Rdr.bind Ey.sum fun h => Rdr.pure ⟨k, h⟩
def getTx : Rdr Txn := Rdr.bind (fun y => y.upto 16) fun n => Rdr.bind (Rdr.rep getIn n.toNat) fun ins => Rdr.bind (fun y => y.upto 16) fun m => Rdr.bind (Rdr.rep getOut m.toNat) fun outs => Rdr.bind getOp fun op => Rdr.bind (fun y => y.upto 16) fun k => Rdr.bind (Rdr.rep getSign k.toNat) fun signs => Rdr.pure ⟨ins, outs, op, signs⟩
abbrev op0 : Opn := ⟨0, 0, 0, 0, zsum, []⟩
def txn0 : Txn := ⟨[], [], op0, []⟩
def txRead (b : List UInt8) : Txn × Int := if (Rdr.all getTx b).2 ≠ 0 then (txn0, (Rdr.all getTx b).2) else if txRight (Rdr.all getTx b).1 = false then (txn0, 4) else ((Rdr.all getTx b).1, 0)
theorem text_len (y : Ey) (m : Int) : (y.text m).2.b.length ≤ y.b.length := Nat.le_trans ((y.upto m).2.raw_len _) (y.upto_len m)
theorem rep_txn0 (M : Mem) : Rep.R M (txC op0 (.slice none 0 0) (.slice none 0 0) (.slice none 0 0) (.slice none 0 0)) txn0 := ⟨_, _, _, _, rfl, SlR.nil, SlR.nil, BytesM.nil, SlR.nil, ⟨by decide, by decide⟩, ⟨by decide, by decide⟩, ⟨by decide, by decide⟩, ⟨by decide, by decide⟩⟩
abbrev nilV : Value := .slice none 0 0

set_option maxHeartbeats 4000000 in
theorem tx_read (M : Mem) (v : Value) (b : List UInt8) (hv : BytesM M v b) (hb : b.length ≤ 1099511627776) : Fn0 Try.prog 48 [v] M fun r M' => ∃ cs, r = .tuple #[aggv cs, int64 (txRead b).2] ∧ Rep.R M' cs (txRead b).1 := by
  have i1 := SlM.one hv
  have c1 := SlM.cells hv
  generalize hy0 : (⟨b, 0⟩ : Ey) = y0
  have l0 : y0.b.length ≤ 1099511627776 := by rw [← hy0]; exact hb
  have l1 := y0.upto_len 16
  have r1 := y0.upto_range 16
  have s1 := upto_le y0 16 (by decide)
  generalize hg1 : y0.upto 16 = g1 at *
  obtain ⟨nn, y1⟩ := g1
  obtain ⟨n, rfl⟩ := Int.eq_ofNat_of_zero_le r1.1
  dsimp only at *
  refine Fn0.of (Fn.enter Try.func48 Try.ntmps48 rfl rfl (by simp only [initEnv, List.zipIdx_cons, List.zipIdx_nil, List.map_cons, List.map_nil, Nat.zero_add, Nat.reduceAdd]; rfl) fun w0 hw => ?_)
  refine Wg ?_
  refine L.al fun b2 => ?_
  refine Wg ?_
  refine L.cl (eye_look v b _ (BytesM.up hv)) fun r1 M1 H1 hM1 hR1 => ?_
  obtain ⟨rfl, yb, rfl, hy⟩ := hR1
  rw [hy0] at hy
  refine Wg ?_
  refine L.al fun b5 => ?_
  refine Wg ?_
  refine L.cl (eye_upto yb 16 y0 _ _ hy (by omega)) fun r2 M2 H2 hM2 hR2 => ?_
  obtain ⟨rfl, rfl, hy1⟩ := hR2
  rw [hg1] at hy1
  dsimp only at hy1
  refine Wg ?_
  refine C.loopF (σ := Nat × List Inp × Ey × Value × Hp × Hp) (fun s => [(2, ptr b2 0), (4, ptr yb 0), (5, ptr b5 0), (12, int64 n), (13, int64 s.1)]) (fun s => [[(b5, row (txC op0 s.2.2.2.1 nilV nilV nilV) 60)], [(b2, row (txC op0 nilV nilV nilV nilV) 60)], s.2.2.2.2.1, s.2.2.2.2.2]) (fun s M' => (∃ ws, OwnS 94 35 s.2.2.2.1 ws s.2.2.2.2.1 ∧ RepL M' ws s.2.1) ∧ EyeH yb s.2.2.1 M' s.2.2.2.2.2 ∧ RepAt getIn n s.1 s.2.1 s.2.2.1 y1 ∧ s.1 ≤ n ∧ s.2.1.length = s.1 ∧ s.2.2.1.b.length ≤ 1099511627776) (fun s => n - s.1) (0, [], y1, nilV, [], H2) ?_ ?_ ?_ ?_
  · exact (.cons rfl rfl (.cons rfl rfl (.cons rfl rfl (.cons rfl (by rw [hg1]) (.cons rfl rfl .nil)))))
  · first | exact Forget.rf | ((try dsimp only); exact Forget.go)
  · exact ⟨⟨[], OwnS.nil, RepL.nil⟩, hy1.up, RepAt.start _ _ _, by simp, rfl, by dsimp only; omega⟩
  · rintro ⟨i, acc, yi, vw, Hw, He⟩ Ma hMa ⟨⟨wcs, how, hrw⟩, hye, hat, hi, hacc, hlen⟩
    try dsimp only at wcs how hrw hye hat hi hacc hlen
    refine C.as [(2, ptr b2 0), (4, ptr yb 0), (5, ptr b5 0), (12, int64 n), (13, int64 i)] ([[(b5, row (txC op0 vw nilV nilV nilV) 60)], [(b2, row (txC op0 nilV nilV nilV nilV) 60)], Hw, He]) ?_
    have iw := how.one
    have cw := how.cells
    have hwl : wcs.length = acc.length * 35 := hrw.len
    refine Wg ?_
    refine C.cond rfl (fun hlt => ?_) (fun hlt => ?_)
    · have hlt := of_decide_eq_true hlt
      have hlt' : i < n := by omega
      have k1 := sum_len yi
      have k2 := yi.sum.2.upto_len 16
      have k3 := yi.sum.2.upto_range 16
      have k4 := (yi.sum.2.upto 16).2.upto_len 16
      have k5 := (yi.sum.2.upto 16).2.upto_range 16
      have k6 := text_len ((yi.sum.2.upto 16).2.upto 16).2 64
      have w1 : I64 (yi.sum.2.upto 16).1 := ⟨by omega, by omega⟩
      have w2 : I64 ((yi.sum.2.upto 16).2.upto 16).1 := ⟨by omega, by omega⟩
      refine Wg ?_
      refine L.cl (eye_sum yb yi _ _ hye hlen) fun r3 M3 H3 hM3 hR3 => ?_
      obtain ⟨rfl, hz1⟩ := hR3
      refine Wg ?_
      refine L.cl (eye_upto yb 16 _ _ _ hz1 (by omega)) fun r4 M4 H4 hM4 hR4 => ?_
      obtain ⟨rfl, rfl, hz2⟩ := hR4
      refine Wg ?_
      refine L.al fun b6 => ?_
      refine Wg ?_
      refine L.cl (eye_upto yb 16 _ _ _ hz2 (by omega)) fun r5 M5 H5 hM5 hR5 => ?_
      obtain ⟨rfl, rfl, hz3⟩ := hR5
      refine Wg ?_
      refine L.cl (eye_text yb 64 _ _ _ hz3 (by omega) (by omega)) fun r6 M6 H6 hM6 hR6 => ?_
      obtain ⟨hvp, hz4⟩ := hR6
      have ip := SlM.one hvp
      have cp := SlM.cells hvp
      refine Wg ?_
      refine L.bsM fun b30 M30 hp30 hb30 => ?_
      refine L.ap how (Rd.row (n := 1) (c := 1) (sz := 35) (cl := sumC yi.sum.1 ++ int64 (yi.sum.2.upto 16).1 :: int64 ((yi.sum.2.upto 16).2.upto 16).1 :: r6 :: []) hb30) (by (simp; omega)) fun v31 H31 o31 => ?_
      have i31 := o31.one
      have c31 := o31.cells
      have hnx := hat.next hlt'
      have w3 : (getIn yi).2.b.length ≤ 1099511627776 := by show ((((yi.sum.2.upto 16).2.upto 16).2.text 64).2).b.length ≤ _; omega
      refine Wg ?_
      refine Wo ?_
      refine Wg ?_
      refine ⟨(i + 1, acc ++ [(getIn yi).1], (getIn yi).2, v31, H31, _), (.cons rfl rfl (.cons rfl rfl (.cons rfl rfl (.cons rfl rfl (.cons rfl rfl .nil))))), (by first | exact Forget.rf | ((try dsimp only); exact Forget.go)), inferInstance, ⟨⟨_, o31, hrw.up.snoc ⟨r6, rfl, BytesM.up hvp, w1, w2⟩⟩, hz4.up, hnx, (by first | omega | (dsimp only; omega)), by simp [hacc], w3⟩, (by first | omega | (dsimp only; omega))⟩
    have hlt := of_decide_eq_false hlt
    have e1 : i = n := by omega
    subst e1
    have hins := hat.done
    refine how.frzC acc.length (by rw [hwl]) (by decide) fun Mb hMb hvi => ?_
    have hsi : SlR Mb vw acc := ⟨_, hvi, hrw.up⟩
    have m1 := yi.upto_len 16
    have m2 := yi.upto_range 16
    have m3 := upto_le yi 16 (by decide)
    generalize hg2 : yi.upto 16 = g2 at *
    obtain ⟨mm, y2⟩ := g2
    obtain ⟨m, rfl⟩ := Int.eq_ofNat_of_zero_le m2.1
    dsimp only at m1 m2 m3
    refine Wg ?_
    refine L.cl (eye_upto yb 16 yi _ _ hye.up (by omega)) fun r7 M7 H7 hM7 hR7 => ?_
    obtain ⟨rfl, rfl, hy2⟩ := hR7
    rw [hg2] at hy2
    dsimp only at hy2
    refine Wg ?_
    refine C.loopF (σ := Nat × List Out × Ey × Value × Hp × Hp) (fun s => [(2, ptr b2 0), (4, ptr yb 0), (5, ptr b5 0), (35, int64 m), (36, int64 s.1)]) (fun s => [[(b5, row (txC op0 vw s.2.2.2.1 nilV nilV) 60)], [(b2, row (txC op0 nilV nilV nilV nilV) 60)], s.2.2.2.2.1, s.2.2.2.2.2]) (fun s M' => (∃ ws, OwnS 87 2 s.2.2.2.1 ws s.2.2.2.2.1 ∧ RepL M' ws s.2.1) ∧ EyeH yb s.2.2.1 M' s.2.2.2.2.2 ∧ RepAt getOut m s.1 s.2.1 s.2.2.1 y2 ∧ s.1 ≤ m ∧ s.2.1.length = s.1 ∧ s.2.2.1.b.length ≤ 1099511627776) (fun s => m - s.1) (0, [], y2, nilV, [], H7) ?_ ?_ ?_ ?_
    · exact (.cons rfl rfl (.cons rfl rfl (.cons rfl rfl (.cons rfl (by rw [hg2]) (.cons rfl rfl .nil)))))
    · first | exact Forget.rf | ((try dsimp only); exact Forget.go)
    · exact ⟨⟨[], OwnS.nil, RepL.nil⟩, hy2.up, RepAt.start _ _ _, by simp, rfl, by dsimp only; omega⟩
    · rintro ⟨j, outs, yj, vo, Ho, Hj⟩ Mc hMc ⟨⟨ocs, hoo, hro⟩, hyj, hat2, hj, hol, hlen2⟩
      try dsimp only at ocs hoo hro hyj hat2 hj hol hlen2
      refine C.as [(2, ptr b2 0), (4, ptr yb 0), (5, ptr b5 0), (35, int64 m), (36, int64 j)] ([[(b5, row (txC op0 vw vo nilV nilV) 60)], [(b2, row (txC op0 nilV nilV nilV nilV) 60)], Ho, Hj]) ?_
      have io := hoo.one
      have co := hoo.cells
      have hocl : ocs.length = outs.length * 2 := hro.len
      refine Wg ?_
      refine C.cond rfl (fun hlt2 => ?_) (fun hlt2 => ?_)
      · have hlt2 := of_decide_eq_true hlt2
        have hlt2' : j < m := by omega
        have hgl := getOut_len yj
        refine Wg ?_
        refine C.drw [7] [b5] ?_
        refine LA.ta 0 ?_
        refine LA.ta 1 ?_
        refine LA.ta 2 ?_
        refine LA.e1 3 ?_
        refine L.cl (lock_get yb yj _ _ hyj hlen2) fun r8 M8 H8 hM8 hR8 => ?_
        obtain ⟨⟨oc, rfl, hrx⟩, hyk⟩ := hR8
        have lo : Len oc 2 := ⟨Rep.len hrx⟩
        have oo := Rep.ones hrx
        refine L.nil ⟨fun _ => ⟨Sub.le, by simp⟩, ?_⟩
        refine LA.e1 4 ?_
        refine L.bsM fun b42 M42 hp42 hb42 => ?_
        refine L.nil ⟨fun _ => ⟨Sub.le, by simp⟩, ?_⟩
        refine LA.e1 5 ?_
        refine L.ap hoo (Rd.row (n := 1) (c := 1) (sz := 2) (cl := oc) hb42 (by rw [lo.eq])) (by (rw [lo.eq]; omega)) fun v43 H43 o43 => ?_
        have i43 := o43.one
        have c43 := o43.cells
        refine L.nil ⟨fun _ => ⟨Sub.le, by simp⟩, ?_⟩
        refine LA.ta 6 ?_
        refine LA.e1 7 ?_
        refine Wo ?_
        refine L.nil ⟨fun h => by simp at h, ?_⟩
        refine LA.dn ?_
        try dsimp only
        refine Wg ?_
        refine Wo ?_
        refine Wg ?_
        refine ⟨(j + 1, outs ++ [(getOut yj).1], (getOut yj).2, v43, H43, H8), (.cons rfl rfl (.cons rfl rfl (.cons rfl rfl (.cons rfl rfl (.cons rfl rfl .nil))))), (by first | exact Forget.rf | ((try dsimp only); exact Forget.go)), inferInstance, ⟨⟨_, o43, hro.up.snoc (Rep.up hrx inferInstance)⟩, hyk.up, hat2.next hlt2', (by first | omega | (dsimp only; omega)), by simp [hol], by dsimp only; omega⟩, (by first | omega | (dsimp only; omega))⟩
      have hlt2 := of_decide_eq_false hlt2
      have e2 : j = m := by omega
      subst e2
      have houts := hat2.done
      refine hoo.frzC outs.length (by rw [hocl]) (by decide) fun Md hMd hvo => ?_
      have hso : SlR Md vo outs := ⟨_, hvo, hro.up⟩
      have p1 := yj.upto_len 7
      have p2 := yj.upto_range 7
      have p3 := (yj.upto 7).2.upto_len 16
      have p4 := (yj.upto 7).2.upto_range 16
      have p5 := ((yj.upto 7).2.upto 16).2.upto_len 1048576
      have p6 := ((yj.upto 7).2.upto 16).2.upto_range 1048576
      have p7 := (((yj.upto 7).2.upto 16).2.upto 1048576).2.upto_len 1125899906842624
      have p8 := (((yj.upto 7).2.upto 16).2.upto 1048576).2.upto_range 1125899906842624
      have p9 := sum_len ((((yj.upto 7).2.upto 16).2.upto 1048576).2.upto 1125899906842624).2
      have p10 := text_len (((((yj.upto 7).2.upto 16).2.upto 1048576).2.upto 1125899906842624).2.sum).2 65536
      refine Wg ?_
      refine L.cl (eye_upto yb 7 yj _ _ hyj.up (by omega)) fun r9 M9 H9 hM9 hR9 => ?_
      obtain ⟨rfl, rfl, hq1⟩ := hR9
      refine Wg ?_
      refine L.cl (eye_upto yb 16 _ _ _ hq1 (by omega)) fun r10 M10 H10 hM10 hR10 => ?_
      obtain ⟨rfl, rfl, hq2⟩ := hR10
      refine Wg ?_
      refine L.cl (eye_upto yb 1048576 _ _ _ hq2 (by omega)) fun r11 M11 H11 hM11 hR11 => ?_
      obtain ⟨rfl, rfl, hq3⟩ := hR11
      refine Wg ?_
      refine L.cl (eye_upto yb 1125899906842624 _ _ _ hq3 (by omega)) fun r12 M12 H12 hM12 hR12 => ?_
      obtain ⟨rfl, rfl, hq4⟩ := hR12
      refine Wg ?_
      refine L.al fun b7 => ?_
      refine Wg ?_
      refine L.cl (eye_sum yb _ _ _ hq4 (by omega)) fun r13 M13 H13 hM13 hR13 => ?_
      obtain ⟨rfl, hq5⟩ := hR13
      refine Wg ?_
      refine L.cl (eye_text yb 65536 _ _ _ hq5 (by omega) (by omega)) fun r14 M14 H14 hM14 hR14 => ?_
      obtain ⟨hvd, hq6⟩ := hR14
      have idd := SlM.one hvd
      have cdd := SlM.cells hvd
      generalize hop : (getOp yj) = go at *
      obtain ⟨opv, y5⟩ := go
      have hop1 : opv = ⟨(yj.upto 7).1, ((yj.upto 7).2.upto 16).1, (((yj.upto 7).2.upto 16).2.upto 1048576).1, ((((yj.upto 7).2.upto 16).2.upto 1048576).2.upto 1125899906842624).1, (((((yj.upto 7).2.upto 16).2.upto 1048576).2.upto 1125899906842624).2.sum).1, ((((((yj.upto 7).2.upto 16).2.upto 1048576).2.upto 1125899906842624).2.sum).2.text 65536).1⟩ := congrArg Prod.fst hop.symm
      have hop2 : y5 = ((((((yj.upto 7).2.upto 16).2.upto 1048576).2.upto 1125899906842624).2.sum).2.text 65536).2 := congrArg Prod.snd hop.symm
      have hl5 : y5.b.length ≤ 1099511627776 := by rw [hop2]; omega
      have hwd : opWide opv := by rw [hop1]; exact ⟨⟨by dsimp only; omega, by dsimp only; omega⟩, ⟨by dsimp only; omega, by dsimp only; omega⟩, ⟨by dsimp only; omega, by dsimp only; omega⟩, ⟨by dsimp only; omega, by dsimp only; omega⟩⟩
      have u1 := y5.upto_len 16
      have u2 := y5.upto_range 16
      have u3 := upto_le y5 16 (by decide)
      generalize hg3 : y5.upto 16 = g3 at *
      obtain ⟨kk, y6⟩ := g3
      obtain ⟨k, rfl⟩ := Int.eq_ofNat_of_zero_le u2.1
      dsimp only at u1 u2 u3
      rw [← hop2] at hq6
      refine Wg ?_
      refine L.cl (eye_upto yb 16 y5 _ _ hq6.up (by omega)) fun r15 M15 H15 hM15 hR15 => ?_
      obtain ⟨rfl, rfl, hq7⟩ := hR15
      rw [hg3] at hq7
      dsimp only at hq7
      refine Wg ?_
      refine C.loopF (σ := Nat × List Sgn × Ey × Value × Hp × Hp) (fun s => [(2, ptr b2 0), (4, ptr yb 0), (5, ptr b5 0), (64, int64 k), (65, int64 s.1)]) (fun s => [[(b5, row (txC opv vw vo r14 s.2.2.2.1) 60)], [(b2, row (txC op0 nilV nilV nilV nilV) 60)], s.2.2.2.2.1, s.2.2.2.2.2]) (fun s M' => (∃ ws, OwnS 75 33 s.2.2.2.1 ws s.2.2.2.2.1 ∧ RepL M' ws s.2.1) ∧ EyeH yb s.2.2.1 M' s.2.2.2.2.2 ∧ RepAt getSign k s.1 s.2.1 s.2.2.1 y6 ∧ s.1 ≤ k ∧ s.2.1.length = s.1 ∧ s.2.2.1.b.length ≤ 1099511627776) (fun s => k - s.1) (0, [], y6, nilV, [], H15) ?_ ?_ ?_ ?_
      · exact (.cons rfl rfl (.cons rfl rfl (.cons rfl rfl (.cons rfl (by rw [hg3]) (.cons rfl rfl .nil)))))
      · rw [hop1]; first | exact Forget.rf | ((try dsimp only); exact Forget.go)
      · exact ⟨⟨[], OwnS.nil, RepL.nil⟩, hq7.up, RepAt.start _ _ _, by simp, rfl, by dsimp only; omega⟩
      · rintro ⟨a, sgs, ya, vg, Hg, Ha⟩ Me hMe ⟨⟨gcs, hog, hrg⟩, hya, hat3, ha, hgl, hlen3⟩
        try dsimp only at gcs hog hrg hya hat3 ha hgl hlen3
        refine C.as [(2, ptr b2 0), (4, ptr yb 0), (5, ptr b5 0), (64, int64 k), (65, int64 a)] ([[(b5, row (txC opv vw vo r14 vg) 60)], [(b2, row (txC op0 nilV nilV nilV nilV) 60)], Hg, Ha]) ?_
        have ig := hog.one
        have cg := hog.cells
        have hgcl : gcs.length = sgs.length * 33 := hrg.len
        refine Wg ?_
        refine C.cond rfl (fun hlt3 => ?_) (fun hlt3 => ?_)
        · have hlt3 := of_decide_eq_true hlt3
          have hlt3' : a < k := by omega
          have z1 := ya.upto_len 255
          have z2 := ya.upto_range 255
          have z3 := sum_len (ya.upto 255).2
          refine Wg ?_
          refine C.drw [10] [b5] ?_
          refine LA.ta 0 ?_
          refine LA.ta 1 ?_
          refine LA.ta 2 ?_
          refine LA.ta 4 ?_
          refine LA.e1 3 ?_
          refine L.cl (eye_upto yb 255 ya _ _ hya (by omega)) fun r16 M16 H16 hM16 hR16 => ?_
          obtain ⟨rfl, rfl, hs1⟩ := hR16
          refine L.nil ⟨fun _ => ⟨Sub.le, by simp⟩, ?_⟩
          refine LA.e1 5 ?_
          refine L.cl (eye_sum yb _ _ _ hs1 (by omega)) fun r17 M17 H17 hM17 hR17 => ?_
          obtain ⟨rfl, hs2⟩ := hR17
          refine L.nil ⟨fun _ => ⟨Sub.le, by simp⟩, ?_⟩
          refine LA.ta 6 ?_
          refine LA.e1 7 ?_
          refine L.bsM fun b74 M74 hp74 hb74 => ?_
          refine L.nil ⟨fun _ => ⟨Sub.le, by simp⟩, ?_⟩
          refine LA.e1 8 ?_
          refine L.ap hog (Rd.row (n := 1) (c := 1) (sz := 33) (cl := sgnC ⟨(ya.upto 255).1, (ya.upto 255).2.sum.1⟩) hb74 (by simp)) (by (simp; omega)) fun v75 H75 o75 => ?_
          have i75 := o75.one
          have c75 := o75.cells
          have w3 : (getSign ya).2.b.length ≤ 1099511627776 := by show ((ya.upto 255).2.sum.2).b.length ≤ _; omega
          have w4 : I64 (getSign ya).1.key := by show I64 (ya.upto 255).1; exact ⟨by omega, by omega⟩
          refine L.nil ⟨fun _ => ⟨Sub.le, by simp⟩, ?_⟩
          refine LA.ta 9 ?_
          refine LA.e1 10 ?_
          refine Wo ?_
          refine L.nil ⟨fun h => by simp at h, ?_⟩
          refine LA.dn ?_
          try dsimp only
          refine Wg ?_
          refine Wo ?_
          refine Wg ?_
          refine ⟨(a + 1, sgs ++ [(getSign ya).1], (getSign ya).2, v75, H75, H17), (.cons rfl rfl (.cons rfl rfl (.cons rfl rfl (.cons rfl rfl (.cons rfl rfl .nil))))), (by first | exact Forget.rf | ((try dsimp only); exact Forget.go)), inferInstance, ⟨⟨_, o75, hrg.up.snoc ⟨rfl, w4⟩⟩, hs2.up, hat3.next hlt3', (by first | omega | (dsimp only; omega)), by simp [hgl], w3⟩, (by first | omega | (dsimp only; omega))⟩
        have hlt3 := of_decide_eq_false hlt3
        have e3 : a = k := by omega
        subst e3
        have hsgs := hat3.done
        refine hog.frzC sgs.length (by rw [hgcl]) (by decide) fun Mf hMf hvs => ?_
        have hss : SlR Mf vg sgs := ⟨_, hvs, hrg.up⟩
        have hall : getTx y0 = (⟨acc, outs, opv, sgs⟩, ya) := by unfold getTx Rdr.bind; dsimp only; rw [hg1]; dsimp only; rw [Int.toNat_natCast, hins]; dsimp only; rw [hg2]; dsimp only; rw [Int.toNat_natCast, houts]; dsimp only; rw [hop]; dsimp only; rw [hg3]; dsimp only; rw [Int.toNat_natCast, hsgs]; rfl
        have hall2 : Rdr.all getTx b = (⟨acc, outs, opv, sgs⟩, ya.done.1) := by unfold Rdr.all; rw [hy0, hall]
        have hrep : Rep.R Mf (txC opv vw vo r14 vg) (⟨acc, outs, opv, sgs⟩ : Txn) := ⟨_, _, _, _, rfl, hsi.up, hso.up, by rw [hop1]; exact BytesM.up hvd, hss, hwd⟩
        refine Wg ?_
        refine L.cl (eye_done yb ya _ _ hya.up) fun r18 M18 H18 hM18 hR18 => ?_
        obtain ⟨rfl, rfl, hyd⟩ := hR18
        refine Wg ?_
        refine C.cond rfl (fun h81 => ?_) (fun h81 => ?_)
        · have h81 := of_decide_eq_true h81
          have hr : txRead b = (txn0, ya.done.1) := by unfold txRead; rw [hall2, if_pos h81]
          refine Wg ?_
          exact Hands.ofT ([]) (rs := [.cell 2 60, .tmp 3]) rfl (.cell rfl BoxIs.aggA (.tmp rfl .nil)) rfl (⟨rfl, _, by rw [hr]; rfl, by rw [hr]; exact rep_txn0 _⟩)
        have h81 := of_decide_eq_false h81
        have h81' : ya.done.1 = 0 := Decidable.of_not_not h81
        refine Wg ?_
        refine L.cv (tx_right _ _ _ (Rep.up hrep inferInstance)) fun M19 hM19 => ?_
        refine Wg ?_
        refine C.cond rfl (fun h86 => ?_) (fun h86 => ?_)
        · have hb6 : txRight ⟨acc, outs, opv, sgs⟩ = false := by simpa using h86
          have hr : txRead b = (txn0, 4) := by unfold txRead; rw [hall2, if_neg h81, if_pos hb6]
          refine Wg ?_
          exact Hands.ofT ([]) (rs := [.cell 2 60, .tmp 3]) rfl (.cell rfl BoxIs.aggA (.tmp rfl .nil)) rfl (⟨rfl, _, by rw [hr]; rfl, by rw [hr]; exact rep_txn0 _⟩)
        have hb6 : txRight ⟨acc, outs, opv, sgs⟩ = true := by simpa using h86
        have hr : txRead b = (⟨acc, outs, opv, sgs⟩, 0) := by unfold txRead; rw [hall2, if_neg h81, if_neg (by rw [hb6]; simp)]
        refine Wg ?_
        exact Hands.ofT ([]) (rs := [.cell 2 60, .tmp 3]) rfl (.cell rfl BoxIs.aggA (.tmp rfl .nil)) rfl (⟨rfl, _, by rw [hr]; rfl, by rw [hr]; exact Rep.up hrep inferInstance⟩)

end Go.Proofs.Ytdgdigliepncpaa
