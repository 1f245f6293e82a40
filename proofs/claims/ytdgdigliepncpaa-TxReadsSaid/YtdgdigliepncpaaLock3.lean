/-
  This text proves when a way is open, whose an out is, and what out bytes are read as.
  Conditions: none.
-/
import Derived.Test.YtdgdigliepncpaaLock2
namespace Go.Proofs.Ytdgdigliepncpaa
open Go

noncomputable def opens (w : Way) (keys : List Int) (pre : List UInt8) (h a : Int) : Bool := (w.keys.all fun k => keys.any fun x => decide (k = x)) && !(decide (w.hash ≠ zsum) && decide (lockHash pre ≠ w.hash)) && (decide (w.after ≤ h) && decide (w.wait ≤ a))
theorem lock_opens (M : Mem) (cs : List Value) (w : Way) (keys : List Int) (pre : List UInt8) (h a : Int) (vk vp : Value) (hy : Rep.R M cs w) (hk : IntsM M vk keys) (hp : BytesM M vp pre) (hb : pre.length ≤ 1099511627000) :
    Fnv Try.prog 161 [aggv cs, aggv [vk, vp, int64 h, int64 a]] M (.bool (opens w keys pre h a)) := by
  obtain ⟨v, rfl, hwk, hwa, hww⟩ := hy
  have hkm := hwk.ints
  have hs := hkm.1
  have hle := hs.le
  unfold maxLen at hle
  have i1 := hs.one
  have c1 := hs.cells
  have i2 := hk.1.one
  have c2 := hk.1.cells
  have i3 := SlM.one hp
  have c3 := SlM.cells hp
  refine Fnv.of (Fn.enter Try.func161 Try.ntmps161 rfl rfl (by simp only [initEnv, List.zipIdx_cons, List.zipIdx_nil, List.map_cons, List.map_nil, Nat.zero_add, Nat.reduceAdd]; rfl) fun w0 hw => ?_)
  refine Wg ?_
  refine L.bxM fun b2 M2 hp2 hb2 => ?_
  refine L.bxM fun b3 M3 hp3 hb3 => ?_
  refine Wg ?_
  refine C.loopF (σ := Nat) (fun s => [(2, ptr b2 0), (3, ptr b3 0), (8, v), (9, int64 w.keys.length), (10, int64 s)]) (fun s => []) (fun s M' => ((w.keys.drop s).all fun k => keys.any fun x => decide (k = x)) = (w.keys.all fun k => keys.any fun x => decide (k = x)) ∧ s ≤ w.keys.length) (fun s => w.keys.length - s) 0 ?_ ?_ ?_ ?_
  · exact (.cons rfl rfl (.cons rfl rfl (.cons rfl rfl (.cons rfl rfl (.cons rfl rfl .nil)))))
  · first | exact Forget.rf | ((try dsimp only); exact Forget.go)
  · exact ⟨rfl, by simp⟩
  · rintro i M2 hM2 ⟨hgo, hi⟩
    try dsimp only at hgo hi
    refine C.as [(2, ptr b2 0), (3, ptr b3 0), (8, v), (9, int64 w.keys.length), (10, int64 i)] ([]) ?_
    refine Wg ?_
    refine C.cond rfl (fun hlt => ?_) (fun hlt => ?_)
    · have hlt := of_decide_eq_true hlt
      have hlt' : i < w.keys.length := by omega
      have hel := hkm.el hlt'
      have e1 : w.keys.getD i 0 = w.keys[i] := by simp [hlt']
      rw [List.drop_eq_getElem_cons hlt', List.all_cons, ← e1] at hgo
      refine Wg ?_
      refine L.cv (con_int _ vk keys _ hk.up) fun M1 hM1 => ?_
      refine Wg ?_
      refine C.cond rfl (fun hn => ?_) (fun hn => ?_)
      · have hn' : (keys.any fun x => decide (w.keys.getD i 0 = x)) = false := by simpa using hn
        rw [hn'] at hgo
        refine Wg ?_
        exact Hands.ofT ([]) (rs := [.tmp 4]) rfl (.tmp rfl .nil) rfl (⟨rfl, by unfold opens; rw [← hgo]; rfl⟩)
      have hn' : (keys.any fun x => decide (w.keys.getD i 0 = x)) = true := by simpa using hn
      rw [hn'] at hgo
      refine Wg ?_
      refine Wo ?_
      refine Wg ?_
      refine ⟨i + 1, (.cons rfl rfl (.cons rfl rfl (.cons rfl rfl (.cons rfl rfl (.cons rfl rfl .nil))))), (by first | exact Forget.rf | ((try dsimp only); exact Forget.go)), inferInstance, ⟨by simpa using hgo, (by first | omega | (dsimp only; omega))⟩, (by first | omega | (dsimp only; omega))⟩
    have hlt := of_decide_eq_false hlt
    have e1 : i = w.keys.length := by omega
    subst e1
    rw [List.drop_length, List.all_nil] at hgo
    refine Wg ?_
    refine C.drw [] [] ?_
    refine LA.ta 0 ?_
    refine LA.ta 1 ?_
    refine LA.ta 2 ?_
    refine LA.th 3 rfl ?_ (Qt.bin rfl rfl BinRun.sumNe)
    refine LA.ta 4 ?_
    refine LA.split 24 rfl (fun h24 => ?_) (fun h24 => ?_)
    rotate_left
    · refine LA.to 5 ?_
      refine LA.to 6 ?_
      refine LA.to 7 ?_
      refine LA.to 8 ?_
      refine LA.to 9 ?_
      refine LA.to 10 ?_
      refine LA.ta 11 ?_
      refine LA.dn ?_
      try dsimp only
      refine Wg ?_
      refine L.and 6 43 37 ?_
      refine Wg ?_
      exact Hands.ofT ([]) (rs := [.tmp 4]) rfl (.tmp rfl .nil) rfl (⟨rfl, by unfold opens; rw [← hgo, h24]; rfl⟩)
    refine LA.ta 5 ?_
    refine LA.ta 6 ?_
    refine LA.ta 8 ?_
    refine LA.ta 9 ?_
    refine LA.e1 7 ?_
    refine L.cv (lock_hash _ vp pre (BytesM.up hp) hb) fun M2 hM2 => ?_
    refine L.nil ⟨fun _ => ⟨Sub.le, by simp⟩, ?_⟩
    refine LA.th 10 rfl ?_ (Qt.bin rfl rfl BinRun.sumNe)
    refine LA.ta 11 ?_
    refine LA.dn ?_
    try dsimp only
    refine Wg ?_
    refine C.cond rfl (fun h30 => ?_) (fun h30 => ?_)
    · refine Wg ?_
      exact Hands.ofT ([]) (rs := [.tmp 4]) rfl (.tmp rfl .nil) rfl (⟨rfl, by unfold opens; rw [← hgo, h24, h30]; rfl⟩)
    refine Wg ?_
    refine L.and 6 43 37 ?_
    refine Wg ?_
    exact Hands.ofT ([]) (rs := [.tmp 4]) rfl (.tmp rfl .nil) rfl (⟨rfl, by unfold opens; rw [← hgo, h24, h30]; rfl⟩)

def sole (o : Out) (key : Int) : Bool :=
  match o.ways with
  | [w] => match w.keys with
    | [k] => decide (k = key) && decide (w.hash = zsum) && decide (w.after = 0) && decide (w.wait = 0)
    | _ => false
  | _ => false
theorem sole_ways {o : Out} {key : Int} (h : o.ways.length ≠ 1) : sole o key = false := by
  unfold sole
  match o.ways, h with
  | [], _ => rfl
  | [_], h => exact absurd rfl h
  | _ :: _ :: _, _ => rfl
theorem sole_keys {o : Out} {w : Way} {key : Int} (hw : o.ways = [w]) (h : w.keys.length ≠ 1) : sole o key = false := by
  unfold sole
  rw [hw]
  match hk : w.keys, h with
  | [], _ => simp only [hk]
  | [_], h => exact absurd rfl h
  | _ :: _ :: _, _ => simp only [hk]
theorem lock_sole (M : Mem) (cs : List Value) (o : Out) (key : Int) (ho : Rep.R M cs o) : Fnv Try.prog 153 [aggv cs, int64 key] M (.bool (sole o key)) := by
  obtain ⟨v, rfl, hk, ha⟩ := ho
  have hsl := hk
  obtain ⟨kcs, hs, hr⟩ := hk
  have i1 := hs.one
  have c1 := hs.cells
  refine Fnv.of (Fn.enter Try.func153 Try.ntmps153 rfl rfl (by simp only [initEnv, List.zipIdx_cons, List.zipIdx_nil, List.map_cons, List.map_nil, Nat.zero_add, Nat.reduceAdd]; rfl) fun w0 hw => ?_)
  refine Wg ?_
  refine L.bxM fun b2 M2 hp2 hb2 => ?_
  refine Wg ?_
  refine L.split 9 rfl (fun h9 => ?_) (fun h9 => ?_)
  rotate_left
  · have h9 := of_decide_eq_false h9
    refine Wg ?_
    exact Hands.ofT ([]) (rs := [.tmp 4]) rfl (.tmp rfl .nil) rfl (⟨rfl, by rw [sole_ways (by omega)]; rfl⟩)
  have h9 := of_decide_eq_true h9
  have h9' : o.ways.length = 1 := by omega
  obtain ⟨w, hw1⟩ := List.length_eq_one_iff.1 h9'
  have hl0 : 0 < o.ways.length := by omega
  obtain ⟨ci, hel, hre⟩ := hsl.el hl0
  have hw0 : o.ways[0] = w := by simp [hw1]
  rw [hw0] at hre
  obtain ⟨vk, rfl, hwk, hwa, hww⟩ := hre
  have hkm := hwk.ints
  have hks := hkm.1
  have ik := hks.one
  have ck := hks.cells
  refine Wg ?_
  refine L.split 18 rfl (fun h18 => ?_) (fun h18 => ?_)
  rotate_left
  · have h18 := of_decide_eq_false h18
    refine Wg ?_
    exact Hands.ofT ([]) (rs := [.tmp 4]) rfl (.tmp rfl .nil) rfl (⟨rfl, by rw [sole_keys hw1 (by omega)]; rfl⟩)
  have h18 := of_decide_eq_true h18
  have h18' : w.keys.length = 1 := by omega
  obtain ⟨k0, hk1⟩ := List.length_eq_one_iff.1 h18'
  have hkl0 : 0 < w.keys.length := by omega
  have helk := hkm.el hkl0
  have hk0 : w.keys.getD 0 0 = k0 := by simp [hk1]
  rw [hk0] at helk
  refine Wg ?_
  refine L.andH 8 37 29 rfl (fun h29 => by
        refine Wg ?_
        refine L.qh ?_ (Qt.bin rfl rfl BinRun.sumEq)
        refine Wg ?_
        refine Wf ?_
        exact Kj.mk
    ) ?_
  refine Wg ?_
  refine L.and 7 45 38 ?_
  refine Wg ?_
  refine L.and 7 53 46 ?_
  refine Wg ?_
  exact Hands.ofT ([]) (rs := [.tmp 4]) rfl (.tmp rfl .nil) rfl (⟨rfl, by unfold sole; rw [hw1]; simp only [hk1]; rfl⟩)

end Go.Proofs.Ytdgdigliepncpaa
