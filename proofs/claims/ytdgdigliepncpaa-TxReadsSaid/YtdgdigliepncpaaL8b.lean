/-
  This text proves what the law's own Small tells.
  Conditions: none.
-/
import Derived.Test.YtdgdigliepncpaaTx5
import Derived.Test.YtdgdigliepncpaaTxC
import Derived.Test.YtdgdigliepncpaaStr
namespace Go.Proofs.Ytdgdigliepncpaa
open Go
def smallIn (x : Inp) : Bool := !decide (100 < (x.pre.length : Int))
def smallWay (w : Way) : Bool := !decide (20 < (w.keys.length : Int))
def smallOut (o : Out) : Bool := !decide (20 < (o.ways.length : Int)) && o.ways.all smallWay
/-- Is a transaction small enough for a statement? -/
def small (t : Txn) : Bool := !(decide (20 < (t.ins.length : Int)) || decide (20 < (t.outs.length : Int)) || decide (20 < (t.signs.length : Int)) || decide (6000 < (t.op.data.length : Int))) && (t.ins.all smallIn && t.outs.all smallOut)
def smallN (t : Txn) : Int := if small t then 0 else 1
theorem smallN_f {t : Txn} (h : small t = false) : smallN t = 1 := by simp [smallN, h]
theorem smallN_t {t : Txn} (h : small t = true) : smallN t = 0 := by simp [smallN, h]
set_option maxHeartbeats 2000000 in
theorem l8_small (M : Mem) (cs : List Value) (t : Txn) (ht : Rep.R M cs t) : Fnv Try.prog 35 [aggv cs] M (int64 (smallN t)) := by
  obtain ⟨vi, vo, vd, vs, rfl, hi, ho, hd, hs, hwd⟩ := ht
  have hil := hi.le
  have hol := ho.le
  unfold maxLen at hil hol
  obtain ⟨ics, his, hir⟩ := hi
  obtain ⟨ocs, hos, hor⟩ := ho
  obtain ⟨scs, hss, hsr⟩ := hs
  have i1 := his.one
  have c1 := his.cells
  have i2 := hos.one
  have c2 := hos.cells
  have i3 := SlM.one hd
  have c3 := SlM.cells hd
  have i4 := hss.one
  have c4 := hss.cells
  refine Fnv.of (Fn.enter Try.func35 Try.ntmps35 rfl rfl (by simp only [initEnv, List.zipIdx_cons, List.zipIdx_nil, List.map_cons, List.map_nil, Nat.zero_add, Nat.reduceAdd]; rfl) fun w0 hw => ?_)
  refine Wg ?_
  refine L.bxM fun b1 M1 hp1 hb1 => ?_
  refine Wg ?_
  refine L.or 5 15 10 ?_
  refine Wg ?_
  refine L.or 5 21 16 ?_
  refine Wg ?_
  refine L.or 6 28 22 ?_
  refine Wg ?_
  refine C.cond rfl (fun h28 => ?_) (fun h28 => ?_)
  · refine Wg ?_
    exact Hands.ofT ([]) (rs := [.tmp 2]) rfl (.tmp rfl .nil) rfl (⟨rfl, by rw [smallN_f (by unfold small; rw [h28]; rfl)]; rfl⟩)
  have hg : small t = (t.ins.all smallIn && t.outs.all smallOut) := by unfold small; rw [h28]; rfl
  refine Wg ?_
  refine C.loopF (σ := Nat) (fun s => [(1, ptr b1 0), (3, int64 s)]) (fun s => []) (fun s M' => (t.ins.drop s).all smallIn = t.ins.all smallIn ∧ s ≤ t.ins.length) (fun s => t.ins.length - s) 0 ?_ ?_ ?_ ?_
  · exact (.cons rfl rfl (.cons rfl rfl .nil))
  · first | exact Forget.rf | ((try dsimp only); exact Forget.go)
  · exact ⟨rfl, by simp⟩
  · rintro i M2 hM2 ⟨hgo, hi⟩
    try dsimp only at hgo hi
    refine C.as [(1, ptr b1 0), (3, int64 i)] ([]) ?_
    refine Wg ?_
    refine C.cond rfl (fun hlt => ?_) (fun hlt => ?_)
    · have hlt := of_decide_eq_true hlt
      have hlt' : i < t.ins.length := by omega
      have hel := his.up (M' := M2) |>.el hlt'
      have hre := (hir.up (M' := M2)).el hlt'
      rw [List.drop_eq_getElem_cons hlt', List.all_cons, smallIn] at hgo
      generalize List.take (Rep.sz Inp) _ = ci at hel hre
      generalize t.ins[i] = x at hgo hre
      obtain ⟨v, rfl, hpre, hra, hrw⟩ := hre
      have j1 := SlM.one hpre
      have d1 := SlM.cells hpre
      refine Wg ?_
      refine C.cond rfl (fun h43 => ?_) (fun h43 => ?_)
      · rw [h43] at hgo
        refine Wg ?_
        exact Hands.ofT ([]) (rs := [.tmp 2]) rfl (.tmp rfl .nil) rfl (⟨rfl, by rw [smallN_f (by rw [hg, ← hgo]; rfl)]; rfl⟩)
      rw [h43] at hgo
      refine Wg ?_
      refine Wo ?_
      refine Wg ?_
      refine ⟨i + 1, (.cons rfl rfl (.cons rfl rfl .nil)), (by first | exact Forget.rf | ((try dsimp only); exact Forget.go)), inferInstance, ⟨by simpa using hgo, (by first | omega | (dsimp only; omega))⟩, (by first | omega | (dsimp only; omega))⟩
    have hlt := of_decide_eq_false hlt
    have e1 : i = t.ins.length := by omega
    subst e1
    rw [List.drop_length] at hgo
    rw [← hgo] at hg
    refine Wg ?_
    refine C.loopF (σ := Nat) (fun s => [(1, ptr b1 0), (4, int64 s)]) (fun s => []) (fun s M' => (t.outs.drop s).all smallOut = t.outs.all smallOut ∧ s ≤ t.outs.length) (fun s => t.outs.length - s) 0 ?_ ?_ ?_ ?_
    · exact (.cons rfl rfl (.cons rfl rfl .nil))
    · first | exact Forget.rf | ((try dsimp only); exact Forget.go)
    · exact ⟨rfl, by simp⟩
    · rintro j Mj hMj ⟨hgo2, hj⟩
      try dsimp only at hgo2 hj
      refine C.as [(1, ptr b1 0), (4, int64 j)] ([]) ?_
      refine Wg ?_
      refine C.cond rfl (fun hlt2 => ?_) (fun hlt2 => ?_)
      · have hlt2 := of_decide_eq_true hlt2
        have hlt' : j < t.outs.length := by omega
        have hel := hos.up (M' := Mj) |>.el hlt'
        have hre := (hor.up (M' := Mj)).el hlt'
        rw [List.drop_eq_getElem_cons hlt', List.all_cons, smallOut] at hgo2
        generalize List.take (Rep.sz Out) _ = ci at hel hre
        generalize t.outs[j] = x at hgo2 hre
        obtain ⟨vw, rfl, hww, hwa⟩ := hre
        have hwl := hww.le
        unfold maxLen at hwl
        obtain ⟨wcs, hws, hwr⟩ := hww
        have ik := hws.one
        have ck := hws.cells
        refine Wg ?_
        refine C.cond rfl (fun h58 => ?_) (fun h58 => ?_)
        · rw [h58] at hgo2
          refine Wg ?_
          exact Hands.ofT ([]) (rs := [.tmp 2]) rfl (.tmp rfl .nil) rfl (⟨rfl, by rw [smallN_f (by rw [hg, ← hgo2]; rfl)]; rfl⟩)
        rw [h58] at hgo2
        refine Wg ?_
        refine C.loopF (σ := Nat) (fun s => [(1, ptr b1 0), (4, int64 j), (5, int64 s)]) (fun s => []) (fun s M' => (x.ways.drop s).all smallWay = x.ways.all smallWay ∧ s ≤ x.ways.length) (fun s => x.ways.length - s) 0 ?_ ?_ ?_ ?_
        · exact (.cons rfl rfl (.cons rfl rfl (.cons rfl rfl .nil)))
        · first | exact Forget.rf | ((try dsimp only); exact Forget.go)
        · exact ⟨rfl, by simp⟩
        · rintro k Mk hMk ⟨hgk, hk⟩
          try dsimp only at hgk hk
          refine C.as [(1, ptr b1 0), (4, int64 j), (5, int64 k)] ([]) ?_
          refine Wg ?_
          refine C.cond rfl (fun hlt3 => ?_) (fun hlt3 => ?_)
          · have hlt3 := of_decide_eq_true hlt3
            have hlk : k < x.ways.length := by omega
            have hel3 := hws.up (M' := Mk) |>.el hlk
            have hre3 := (hwr.up (M' := Mk)).el hlk
            rw [List.drop_eq_getElem_cons hlk, List.all_cons, smallWay] at hgk
            generalize List.take (Rep.sz Way) _ = ck at hel3 hre3
            generalize x.ways[k] = y at hgk hre3
            obtain ⟨vk, rfl, hky, hrest⟩ := hre3
            obtain ⟨kcs, hks, hkr⟩ := hky
            have j3 := hks.one
            have d3 := hks.cells
            refine Wg ?_
            refine C.cond rfl (fun h81 => ?_) (fun h81 => ?_)
            · rw [h81] at hgk
              rw [← hgk] at hgo2
              refine Wg ?_
              exact Hands.ofT ([]) (rs := [.tmp 2]) rfl (.tmp rfl .nil) rfl (⟨rfl, by rw [smallN_f (by rw [hg, ← hgo2]; rfl)]; rfl⟩)
            rw [h81] at hgk
            refine Wg ?_
            refine Wo ?_
            refine Wg ?_
            refine ⟨k + 1, (.cons rfl rfl (.cons rfl rfl (.cons rfl rfl .nil))), (by first | exact Forget.rf | ((try dsimp only); exact Forget.go)), inferInstance, ⟨by simpa using hgk, (by first | omega | (dsimp only; omega))⟩, (by first | omega | (dsimp only; omega))⟩
          have hlt3 := of_decide_eq_false hlt3
          have e3 : k = x.ways.length := by omega
          subst e3
          rw [List.drop_length] at hgk
          rw [← hgk] at hgo2
          refine Wg ?_
          refine Wo ?_
          refine Wg ?_
          refine ⟨j + 1, (.cons rfl rfl (.cons rfl rfl .nil)), (by first | exact Forget.rf | ((try dsimp only); exact Forget.go)), inferInstance, ⟨by simpa using hgo2, (by first | omega | (dsimp only; omega))⟩, (by first | omega | (dsimp only; omega))⟩
      have hlt2 := of_decide_eq_false hlt2
      have e2 : j = t.outs.length := by omega
      subst e2
      rw [List.drop_length] at hgo2
      refine Wg ?_
      exact Hands.ofT ([]) (rs := [.tmp 2]) rfl (.tmp rfl .nil) rfl (⟨rfl, by rw [smallN_t (by rw [hg, ← hgo2]; rfl)]; rfl⟩)

end Go.Proofs.Ytdgdigliepncpaa
