/-
  This text proves what out an eye reads.
  Conditions: none.
-/
import Derived.Test.YtdgdigliepncpaaLock3
namespace Go.Proofs.Ytdgdigliepncpaa
open Go

theorem Rdr.rep_s {α : Type} (f : Rdr α) (n : Nat) (y : Ey) : Rdr.rep f (n + 1) y = ((f y).1 :: (Rdr.rep f n (f y).2).1, (Rdr.rep f n (f y).2).2) := rfl
theorem Rdr.rep_z {α : Type} (f : Rdr α) (y : Ey) : Rdr.rep f 0 y = ([], y) := rfl
/-- How far a reader has come that reads n times: what it has, and the eye. -/
def RepAt {α : Type} (f : Rdr α) (n i : Nat) (acc : List α) (y y0 : Ey) : Prop := (acc ++ (Rdr.rep f (n - i) y).1, (Rdr.rep f (n - i) y).2) = Rdr.rep f n y0
theorem RepAt.start {α : Type} (f : Rdr α) (n : Nat) (y : Ey) : RepAt f n 0 [] y y := by simp [RepAt]
theorem RepAt.next {α : Type} {f : Rdr α} {n i : Nat} {acc : List α} {y y0 : Ey} (h : RepAt f n i acc y y0) (hi : i < n) : RepAt f n (i + 1) (acc ++ [(f y).1]) (f y).2 y0 := by
  unfold RepAt at *
  rw [← h]
  obtain ⟨k, hk⟩ : ∃ k, n - i = k + 1 := ⟨n - i - 1, by omega⟩
  rw [hk, show n - (i + 1) = k by omega, Rdr.rep_s]
  simp
theorem RepAt.done {α : Type} {f : Rdr α} {n : Nat} {acc : List α} {y y0 : Ey} (h : RepAt f n n acc y y0) : Rdr.rep f n y0 = (acc, y) := by
  unfold RepAt at h
  rw [← h, Nat.sub_self, Rdr.rep_z]; simp
theorem rep_len {α : Type} {f : Rdr α} (hf : ∀ y, (f y).2.b.length ≤ y.b.length) : ∀ (n : Nat) (y : Ey), (Rdr.rep f n y).2.b.length ≤ y.b.length
  | 0, _ => Nat.le_refl _
  | n + 1, y => by rw [Rdr.rep_s]; exact Nat.le_trans (rep_len hf n _) (hf y)
theorem sum_len (y : Ey) : y.sum.2.b.length ≤ y.b.length := by unfold Ey.sum; exact y.raw_len 32
theorem getWay_len (y : Ey) : (getWay y).2.b.length ≤ y.b.length := by
  have h1 := y.upto_len 16
  have h2 := rep_len (f := fun y => Ey.upto y 255) (fun y => y.upto_len 255) (y.upto 16).1.toNat (y.upto 16).2
  have h3 := sum_len (getKeys (y.upto 16).1 (y.upto 16).2).2
  have h4 := ((getKeys (y.upto 16).1 (y.upto 16).2).2.sum.2).upto_len 1073741824
  have h5 := (((getKeys (y.upto 16).1 (y.upto 16).2).2.sum.2).upto 1073741824).2.upto_len 1073741824
  show ((((getKeys (y.upto 16).1 (y.upto 16).2).2.sum.2).upto 1073741824).2.upto 1073741824).2.b.length ≤ _
  unfold getKeys at *
  omega
theorem getOut_len (y : Ey) : (getOut y).2.b.length ≤ y.b.length := by
  have h1 := y.upto_len 1125899906842624
  have h2 := (y.upto 1125899906842624).2.upto_len 16
  have h3 := rep_len (f := getWay) getWay_len ((y.upto 1125899906842624).2.upto 16).1.toNat ((y.upto 1125899906842624).2.upto 16).2
  unfold getOut Rdr.bind
  dsimp only
  split
  · omega
  · rw [Ey.fail_b]; omega
theorem upto_le (y : Ey) (m : Int) (hm : 0 ≤ m) : (y.upto m).1 ≤ m := by
  unfold Ey.upto
  simp only
  by_cases h : y.num.1 > m
  · rw [if_pos h, if_pos (fail_ne (by decide))]; exact hm
  · rw [if_neg h]; split <;> omega
theorem snoc64 {ks : List Int} {x : Int} (h : ∀ k ∈ ks, I64 k) (hx : I64 x) : ∀ k ∈ ks ++ [x], I64 k := fun k hk => by
  rcases List.mem_append.1 hk with h1 | h1
  · exact h k h1
  · rw [List.mem_singleton.1 h1]; exact hx

set_option maxHeartbeats 2000000 in
theorem lock_get (yb : Nat) (y : Ey) (M : Mem) (H : Hp) (hy : EyeH yb y M H) (hb : y.b.length ≤ 1099511627776) :
    Fn Try.prog 149 [ptr yb 0] M H fun r M' H' => (∃ cs, r = aggv cs ∧ Rep.R M' cs (getOut y).1) ∧ EyeH yb (getOut y).2 M' H' := by
  have l1 := y.upto_len 1125899906842624
  have r1 := y.upto_range 1125899906842624
  generalize hg1 : y.upto 1125899906842624 = g1 at *
  have l2 := g1.2.upto_len 16
  have r2 := g1.2.upto_range 16
  have r3 := upto_le g1.2 16 (by decide)
  generalize hg2 : g1.2.upto 16 = g2 at *
  obtain ⟨a, y1⟩ := g1
  obtain ⟨nn, y2⟩ := g2
  obtain ⟨n, rfl⟩ := Int.eq_ofNat_of_zero_le r2.1
  have hgo : getOut y = (⟨a, (Rdr.rep getWay n y2).1⟩, if outRight ⟨a, (Rdr.rep getWay n y2).1⟩ then (Rdr.rep getWay n y2).2 else (Rdr.rep getWay n y2).2.fail 4) := by unfold getOut Rdr.bind; dsimp only; rw [hg1]; dsimp only; rw [hg2]; rfl
  dsimp only at *
  refine Fn.enter Try.func149 Try.ntmps149 rfl rfl (by simp only [initEnv, List.zipIdx_cons, List.zipIdx_nil, List.map_cons, List.map_nil, Nat.zero_add, Nat.reduceAdd]; rfl) fun w0 hw => ?_
  refine Wg ?_
  refine L.al fun b2 => ?_
  refine Wg ?_
  refine L.cl (eye_upto yb 1125899906842624 y _ _ hy (by omega)) fun r1 M1 H1 hM1 hR1 => ?_
  obtain ⟨rfl, rfl, hy1⟩ := hR1
  clear hM1
  rw [hg1] at hy1 ⊢
  refine Wg ?_
  refine L.al fun b3 => ?_
  refine Wg ?_
  refine L.cl (eye_upto yb 16 y1 _ _ hy1 (by omega)) fun r2 M2 H2 hM2 hR2 => ?_
  obtain ⟨rfl, rfl, hy2⟩ := hR2
  clear hM2
  rw [hg2] at hy2 ⊢
  dsimp only at *
  refine Wg ?_
  refine C.loopF (σ := Nat × List Way × Ey × Value × Hp × Hp) (fun s => [(0, ptr yb 0), (2, ptr b2 0), (3, ptr b3 0), (9, int64 n), (10, int64 s.1)]) (fun s => [[(b3, row [int64 a, s.2.2.2.1] 87)], [(b2, row [int64 0, .slice none 0 0] 87)], s.2.2.2.2.1, s.2.2.2.2.2]) (fun s M' => (∃ ws, OwnS 89 35 s.2.2.2.1 ws s.2.2.2.2.1 ∧ RepL M' ws s.2.1) ∧ EyeH yb s.2.2.1 M' s.2.2.2.2.2 ∧ RepAt getWay n s.1 s.2.1 s.2.2.1 y2 ∧ s.1 ≤ n ∧ s.2.1.length = s.1 ∧ s.2.2.1.b.length ≤ 1099511627776) (fun s => n - s.1) (0, [], y2, .slice none 0 0, [], H2) ?_ ?_ ?_ ?_
  · exact (.cons rfl rfl (.cons rfl rfl (.cons rfl rfl (.cons rfl rfl (.cons rfl rfl .nil)))))
  · first | exact Forget.rf | ((try dsimp only); exact Forget.go)
  · exact ⟨⟨[], OwnS.nil, RepL.nil⟩, hy2, RepAt.start _ _ _, by simp, rfl, by dsimp only; omega⟩
  · rintro ⟨i, acc, yi, vw, Hw, He⟩ M3 hM3 ⟨⟨wcs, how, hrw⟩, hye, hat, hi, hacc, hlen⟩
    try dsimp only at wcs how hrw hye hat hi hacc hlen
    refine C.as [(0, ptr yb 0), (2, ptr b2 0), (3, ptr b3 0), (9, int64 n), (10, int64 i)] ([[(b3, row [int64 a, vw] 87)], [(b2, row [int64 0, .slice none 0 0] 87)], Hw, He]) ?_
    have iw := how.one
    have cw := how.cells
    have hwl : wcs.length = acc.length * 35 := hrw.len
    refine Wg ?_
    refine C.cond rfl (fun hlt => ?_) (fun hlt => ?_)
    · have hlt := of_decide_eq_true hlt
      have hlt' : i < n := by omega
      have k1 := yi.upto_len 16
      have k2 := yi.upto_range 16
      have k3 := upto_le yi 16 (by decide)
      generalize hk : yi.upto 16 = kk at *
      obtain ⟨mm, z1⟩ := kk
      obtain ⟨m, rfl⟩ := Int.eq_ofNat_of_zero_le k2.1
      dsimp only at *
      refine Wg ?_
      refine L.al fun b4 => ?_
      refine Wg ?_
      refine L.cl (eye_upto yb 16 yi _ _ hye (by omega)) fun r3 M3 H3 hM3 hR3 => ?_
      obtain ⟨rfl, rfl, hz1⟩ := hR3
      clear hM3
      rw [hk] at hz1 ⊢
      dsimp only at *
      refine Wg ?_
      refine C.loopF (σ := Nat × List Int × Ey × Value × Hp × Hp) (fun s => [(0, ptr yb 0), (2, ptr b2 0), (3, ptr b3 0), (9, int64 n), (10, int64 i), (4, ptr b4 0), (13, int64 m), (14, int64 s.1)]) (fun s => [[(b4, row (s.2.2.2.1 :: (sumC zsum ++ int64 0 :: int64 0 :: [])) 89)], [(b3, row [int64 a, vw] 87)], [(b2, row [int64 0, .slice none 0 0] 87)], s.2.2.2.2.1, s.2.2.2.2.2, Hw]) (fun s M' => OwnS 3 1 s.2.2.2.1 (s.2.1.map int64) s.2.2.2.2.1 ∧ (∀ k ∈ s.2.1, I64 k) ∧ EyeH yb s.2.2.1 M' s.2.2.2.2.2 ∧ RepAt (fun y => y.upto 255) m s.1 s.2.1 s.2.2.1 z1 ∧ s.1 ≤ m ∧ s.2.1.length = s.1 ∧ s.2.2.1.b.length ≤ 1099511627776) (fun s => m - s.1) (0, [], z1, .slice none 0 0, [], H3) ?_ ?_ ?_ ?_
      · exact (.cons rfl rfl (.cons rfl rfl (.cons rfl rfl (.cons rfl rfl (.cons rfl rfl (.cons rfl rfl (.cons rfl rfl (.cons rfl rfl .nil))))))))
      · first | exact Forget.rf | ((try dsimp only); exact Forget.go)
      · exact ⟨OwnS.nil, by simp, hz1, RepAt.start _ _ _, by simp, rfl, by dsimp only; omega⟩
      · rintro ⟨j, ks, zj, vk, Hk, Hz⟩ M4 hM4 ⟨hok, hki, hzj, hat2, hj, hkl, hzl⟩
        try dsimp only at hok hki hzj hat2 hj hkl hzl
        refine C.as [(0, ptr yb 0), (2, ptr b2 0), (3, ptr b3 0), (9, int64 n), (10, int64 i), (4, ptr b4 0), (13, int64 m), (14, int64 j)] ([[(b4, row (vk :: (sumC zsum ++ int64 0 :: int64 0 :: [])) 89)], [(b3, row [int64 a, vw] 87)], [(b2, row [int64 0, .slice none 0 0] 87)], Hk, Hz, Hw]) ?_
        have ik := hok.one
        have ck := hok.cells
        refine Wg ?_
        refine C.cond rfl (fun hlt2 => ?_) (fun hlt2 => ?_)
        · have hlt2 := of_decide_eq_true hlt2
          have hlt2' : j < m := by omega
          have j1 := zj.upto_len 255
          have j2 := zj.upto_range 255
          refine Wg ?_
          refine C.drw [7] [b4] ?_
          refine LA.ta 0 ?_
          refine LA.ta 1 ?_
          refine LA.ta 2 ?_
          refine LA.e1 3 ?_
          refine L.cl (eye_upto yb 255 zj _ _ hzj (by omega)) fun r4 M4 H4 hM4 hR4 => ?_
          obtain ⟨rfl, rfl, hzj2⟩ := hR4
          refine L.nil ⟨fun _ => ⟨Sub.le, by simp⟩, ?_⟩
          refine LA.e1 4 ?_
          refine L.bsM fun b20 M20 hp20 hb20 => ?_
          refine L.nil ⟨fun _ => ⟨Sub.le, by simp⟩, ?_⟩
          refine LA.e1 5 ?_
          refine L.ap hok (Rd.row (cl := [int64 (zj.upto 255).1]) hb20) (by (simp; omega)) fun v21 H21 o21 => ?_
          have i21 := o21.one
          have c21 := o21.cells
          refine L.nil ⟨fun _ => ⟨Sub.le, by simp⟩, ?_⟩
          refine LA.ta 6 ?_
          refine LA.e1 7 ?_
          refine Wo ?_
          refine L.nil ⟨fun h => by simp at h, ?_⟩
          refine LA.dn ?_
          try dsimp only
          refine Wg ?_
          refine Wo ?_
          refine Wg ?_
          refine ⟨(j + 1, ks ++ [(zj.upto 255).1], (zj.upto 255).2, v21, H21, H4), (.cons rfl rfl (.cons rfl rfl (.cons rfl rfl (.cons rfl rfl (.cons rfl rfl (.cons rfl rfl (.cons rfl rfl (.cons rfl rfl .nil)))))))), (by first | exact Forget.rf | ((try dsimp only); exact Forget.go)), inferInstance, ⟨by rw [List.map_append]; exact o21, snoc64 hki ⟨by omega, by omega⟩, hzj2.up, hat2.next hlt2', (by first | omega | (dsimp only; omega)), by simp [hkl], (by first | omega | (dsimp only; omega))⟩, (by first | omega | (dsimp only; omega))⟩
        have hlt2 := of_decide_eq_false hlt2
        have e2 : j = m := by omega
        subst e2
        have hks := hat2.done
        refine hok.frzC ks.length (by simp) (by decide) fun M5 hM5 hvk => ?_
        have hvk' : IntsM M5 vk ks := ⟨hvk, hki⟩
        have q1 := sum_len zj
        have q2 := zj.sum.2.upto_len 1073741824
        have q3 := zj.sum.2.upto_range 1073741824
        have q4 := (zj.sum.2.upto 1073741824).2.upto_len 1073741824
        have q5 := (zj.sum.2.upto 1073741824).2.upto_range 1073741824
        refine Wg ?_
        refine L.cl (eye_sum yb zj _ _ hzj.up hzl) fun r5 M5 H5 hM5 hR5 => ?_
        obtain ⟨rfl, hz2⟩ := hR5
        refine Wg ?_
        refine L.cl (eye_upto yb 1073741824 zj.sum.2 _ _ hz2 (by omega)) fun r6 M6 H6 hM6 hR6 => ?_
        obtain ⟨rfl, rfl, hz3⟩ := hR6
        refine Wg ?_
        refine L.cl (eye_upto yb 1073741824 _ _ _ hz3 (by omega)) fun r7 M7 H7 hM7 hR7 => ?_
        obtain ⟨rfl, rfl, hz4⟩ := hR7
        refine Wg ?_
        refine L.bsM fun b36 M36 hp36 hb36 => ?_
        refine L.ap how (Rd.row (n := 1) (c := 1) (sz := 35) (cl := vk :: (sumC zj.sum.1 ++ int64 (zj.sum.2.upto 1073741824).1 :: int64 ((zj.sum.2.upto 1073741824).2.upto 1073741824).1 :: [])) hb36) (by (simp; omega)) fun v37 H37 o37 => ?_
        have i37 := o37.one
        have c37 := o37.cells
        have hgw : getWay yi = (⟨ks, zj.sum.1, (zj.sum.2.upto 1073741824).1, ((zj.sum.2.upto 1073741824).2.upto 1073741824).1⟩, ((zj.sum.2.upto 1073741824).2.upto 1073741824).2) := by unfold getWay Rdr.bind; dsimp only; rw [hk]; dsimp only; unfold getKeys; rw [Int.toNat_natCast, hks]; rfl
        have hnx := hat.next hlt'
        have w3 : ((zj.sum.2.upto 1073741824).2.upto 1073741824).2.b.length ≤ 1099511627776 := by omega
        have w1 : I64 (zj.sum.2.upto 1073741824).1 := ⟨by omega, by omega⟩
        have w2 : I64 ((zj.sum.2.upto 1073741824).2.upto 1073741824).1 := ⟨by omega, by omega⟩
        rw [hgw] at hnx
        dsimp only at hnx
        refine Wg ?_
        refine Wo ?_
        refine Wg ?_
        refine ⟨(i + 1, _, _, v37, H37, _), (.cons rfl rfl (.cons rfl rfl (.cons rfl rfl (.cons rfl rfl (.cons rfl rfl .nil))))), (by first | exact Forget.rf | ((try dsimp only); exact Forget.go)), inferInstance, ⟨⟨_, o37, hrw.up.snoc ⟨vk, rfl, hvk'.up.rep, w1, w2⟩⟩, hz4.up, hnx, (by first | omega | (dsimp only; omega)), by simp [hacc], w3⟩, (by first | omega | (dsimp only; omega))⟩
    have hlt := of_decide_eq_false hlt
    have e1 : i = n := by omega
    subst e1
    have hws := hat.done
    rw [hws] at hgo
    have r1' : I64 a := ⟨by omega, by omega⟩
    refine how.frzC acc.length (by rw [hwl]) (by decide) fun M5 hM5 hvw => ?_
    have hrep : Rep.R M5 [int64 a, vw] (⟨a, acc⟩ : Out) := ⟨vw, rfl, ⟨_, hvw, hrw.up⟩, r1'⟩
    refine Wg ?_
    refine L.cv (lock_rightOut _ _ ⟨a, acc⟩ (Rep.up hrep inferInstance)) fun M8 hM8 => ?_
    refine Wg ?_
    refine C.cond rfl (fun h42 => ?_) (fun h42 => ?_)
    · have hr : outRight ⟨a, acc⟩ = false := by simpa using h42
      rw [hr] at hgo
      refine Wg ?_
      refine L.cl (eye_fail yb 4 yi _ _ hye.up (by omega)) fun r9 M9 H9 hM9 hR9 => ?_
      obtain ⟨rfl, rfl, hyf⟩ := hR9
      refine Wg ?_
      exact Hands.ofT (_) (rs := [.cell 2 87]) rfl (.cell rfl BoxIs.aggA .nil) rfl (⟨⟨_, rfl, by rw [hgo]; exact Rep.up hrep inferInstance⟩, by rw [hgo]; exact hyf.up⟩)
    have hr : outRight ⟨a, acc⟩ = true := by simpa using h42
    rw [hr] at hgo
    refine Wg ?_
    exact Hands.ofT (He) (rs := [.cell 2 87]) rfl (.cell rfl BoxIs.aggA .nil) rfl (⟨⟨_, rfl, by rw [hgo]; exact Rep.up hrep inferInstance⟩, by rw [hgo]; exact hye.up⟩)

end Go.Proofs.Ytdgdigliepncpaa
