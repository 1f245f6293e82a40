/-
  This text proves what the ways of an out are written and read as, and which may be.
  Conditions: none.
-/
import Derived.Test.YtdgdigliepncpaaTxR
import Derived.Test.YtdgdigliepncpaaJoin2
namespace Go.Proofs.Ytdgdigliepncpaa
open Go
attribute [local irreducible] numB

theorem IntsM.row {M : Mem} {b : Nat} {T : TypeId} {ns : List Int} (hb : At M b (row (ns.map int64) T)) (h : ∀ n ∈ ns, I64 n) (hl : ns.length ≤ 1000 := by simp) : IntsM M (.slice (some ⟨b, 0, none⟩) ns.length ns.length) ns :=
  ⟨SlM.ofRow (sz := 1) hb (by simp) (Nat.le_refl _) (by unfold maxLen; omega), h⟩
theorem EyeH.up {yb : Nat} {s : Ey} {M M' : Mem} {H : Hp} (h : EyeH yb s M H) [Sub M M'] : EyeH yb s M' H := by
  obtain ⟨v, h1, h2⟩ := h
  exact ⟨v, SlM.up h1, h2⟩

noncomputable def lockHash (pre : List UInt8) : Sm := shaJoin 31 [pre]
theorem lock_hash (M : Mem) (v : Value) (pre : List UInt8) (hv : BytesM M v pre) (hb : pre.length ≤ 1099511627000) : Fnv Try.prog 53 [v] M (aggv (sumC (lockHash pre))) := by
  refine Fnv.of (Fn.enter Try.func53 Try.ntmps53 rfl rfl (by simp only [initEnv, List.zipIdx_cons, List.zipIdx_nil, List.map_cons, List.map_nil, Nat.zero_add, Nat.reduceAdd]; rfl) fun w0 hw => ?_)
  have i1 := SlM.one hv
  have c1 := SlM.cells hv
  refine Wg ?_
  refine L.al fun b2 => ?_
  refine Wg ?_
  refine L.bsM fun b4 M4 hp4 hb4 => ?_
  refine L.cv (sha_join _ 31 _ [pre] (PartsM.one hb4 (BytesM.up hv)) (by simp [joinL, join4]; omega)) fun M1 hM1 => ?_
  refine Wg ?_
  exact Hands.ofT ([]) (rs := [.cell 2 32]) rfl (.cell rfl BoxIs.aggA .nil) rfl (⟨rfl, rfl⟩)

theorem lock_put (pb : Nat) (cs : List Value) (o : Out) (l : List UInt8) (M : Mem) (H : Hp) (hp : PenH pb l H) (ho : Rep.R M cs o) (hb : (l ++ outB o).length ≤ 1099511627776) :
    Fn Try.prog 143 [ptr pb 0, aggv cs] M H fun r _ H' => r = .tuple #[] ∧ PenH pb (l ++ outB o) H' := by
  obtain ⟨v, rfl, hv, ha⟩ := ho
  have hle := hv.le
  obtain ⟨wcs, hs, hr⟩ := hv
  have i1 := hs.one
  have c1 := hs.cells
  refine Fn.enter Try.func143 Try.ntmps143 rfl rfl (by simp only [initEnv, List.zipIdx_cons, List.zipIdx_nil, List.map_cons, List.map_nil, Nat.zero_add, Nat.reduceAdd]; rfl) fun w0 hw => ?_
  refine Wg ?_
  refine L.bxM fun b3 M3 hp3 hb3 => ?_
  refine Wg ?_
  refine L.bsM fun b12 M12 hp12 hb12 => ?_
  refine L.cl (pen_nums pb _ [o.amount, (o.ways.length : Int)] l _ H hp (IntsM.row hb12 (by simp; exact ⟨ha, by omega, by omega⟩)) (by simp [outB] at hb ⊢; omega)) fun r1 M1 H1 hM1 hR1 => ?_
  obtain ⟨rfl, hp1⟩ := hR1
  clear hp
  refine Wg ?_
  refine C.loopF (σ := Nat × List UInt8 × Hp) (fun s => [(0, ptr pb 0), (3, ptr b3 0), (15, v), (16, int64 o.ways.length), (17, int64 s.1)]) (fun s => [s.2.2]) (fun s M' => PenH pb s.2.1 s.2.2 ∧ s.2.1 ++ (o.ways.drop s.1).flatMap wayB = l ++ outB o ∧ s.1 ≤ o.ways.length) (fun s => o.ways.length - s.1) (0, l ++ [o.amount, (o.ways.length : Int)].flatMap numB, H1) ?_ ?_ ?_ ?_
  · exact (.cons rfl rfl (.cons rfl rfl (.cons rfl rfl (.cons rfl rfl (.cons rfl rfl .nil)))))
  · first | exact Forget.rf | ((try dsimp only); exact Forget.go)
  · exact ⟨hp1, by simp [outB], by simp⟩
  · rintro ⟨i, l', H2⟩ M2 hM2 ⟨hp2, hgo, hi⟩
    try dsimp only at hp2 hgo hi
    refine C.as [(0, ptr pb 0), (3, ptr b3 0), (15, v), (16, int64 o.ways.length), (17, int64 i)] ([H2]) ?_
    refine Wg ?_
    refine C.cond rfl (fun hlt => ?_) (fun hlt => ?_)
    · have hlt := of_decide_eq_true hlt
      have hlt' : i < o.ways.length := by omega
      have hel := hs.up (M' := M2) |>.el hlt'
      have hre := (hr.up (M' := M2)).el hlt'
      generalize List.take (Rep.sz Way) _ = ci at hel hre
      rw [List.drop_eq_getElem_cons hlt', List.flatMap_cons] at hgo
      generalize o.ways[i] = w at hgo hre
      obtain ⟨vk, rfl, hk, hwa, hww⟩ := hre
      have hlen := congrArg List.length hgo
      rw [← hlen] at hb
      simp only [wayB, List.length_append] at hb
      have ik := hk.one
      have ck := hk.cells
      have hkm := hk.ints
      have hks := hkm.1
      have hkl := hk.le
      refine Wg ?_
      refine L.al fun b5 => ?_
      refine Wg ?_
      refine L.cl (pen_num pb (w.keys.length : Int) l' _ H2 hp2 (by omega) (by omega)) fun r2 M2 H2 hM2 hR2 => ?_
      obtain ⟨rfl, hp3⟩ := hR2
      refine Wg ?_
      refine L.cl (pen_nums pb _ w.keys (l' ++ numB w.keys.length) _ _ hp3 hkm.up (by simp only [List.length_append]; omega)) fun r3 M3 H3 hM3 hR3 => ?_
      obtain ⟨rfl, hp4⟩ := hR3
      refine Wg ?_
      refine L.cl (pen_sum pb w.hash (l' ++ numB w.keys.length ++ w.keys.flatMap numB) _ _ hp4 (by simp only [List.length_append]; omega)) fun r4 M4 H4 hM4 hR4 => ?_
      obtain ⟨rfl, hp5⟩ := hR4
      refine Wg ?_
      refine L.bsM fun b39 M39 hp39 hb39 => ?_
      refine L.cl (pen_nums pb _ [w.after, w.wait] (l' ++ numB w.keys.length ++ w.keys.flatMap numB ++ w.hash.l) _ _ hp5 (IntsM.row hb39 (by simp; exact ⟨hwa, hww⟩)) (by simp only [List.length_append, List.flatMap_cons, List.flatMap_nil, List.length_nil]; omega)) fun r5 M5 H5 hM5 hR5 => ?_
      obtain ⟨rfl, hp6⟩ := hR5
      refine Wg ?_
      refine Wo ?_
      refine Wg ?_
      refine ⟨(i + 1, _, _), (.cons rfl rfl (.cons rfl rfl (.cons rfl rfl (.cons rfl rfl (.cons rfl rfl .nil))))), (by first | exact Forget.rf | ((try dsimp only); exact Forget.go)), inferInstance, ⟨hp6, by rw [← hgo]; simp [wayB], (by first | omega | (dsimp only; omega))⟩, (by first | omega | (dsimp only; omega))⟩
    have hlt := of_decide_eq_false hlt
    have e1 : i = o.ways.length := by omega
    subst e1
    rw [List.drop_length, List.flatMap_nil, List.append_nil] at hgo
    refine Wg ?_
    exact Hands.ofT (H2) (rs := []) rfl .nil rfl (⟨rfl, hgo ▸ hp2⟩)

def getKeys (n : Int) : Rdr (List Int) := Rdr.rep (fun y => y.upto 255) n.toNat
def getWay : Rdr Way := Rdr.bind (fun y => y.upto 16) fun n => Rdr.bind (getKeys n) fun ks => Rdr.bind Ey.sum fun h => Rdr.bind (fun y => y.upto 1073741824) fun a => Rdr.bind (fun y => y.upto 1073741824) fun w => Rdr.pure ⟨ks, h, a, w⟩
def getOut : Rdr Out := Rdr.bind (fun y => y.upto 1125899906842624) fun a => Rdr.bind (fun y => y.upto 16) fun n => Rdr.bind (Rdr.rep getWay n.toNat) fun ws => fun y => (⟨a, ws⟩, if outRight ⟨a, ws⟩ then y else y.fail 4)

def idxFrom {α : Type} (p : α → Bool) : Nat → List α → Int
  | _, [] => -1
  | i, x :: xs => if p x then i else idxFrom p (i + 1) xs
theorem idxFrom_any {α : Type} (p : α → Bool) : ∀ (l : List α) (i : Nat), decide (0 ≤ idxFrom p i l) = l.any p
  | [], i => by simp [idxFrom]
  | x :: xs, i => by
    rw [idxFrom, List.any_cons]
    cases h : p x with
    | true => simp
    | false => simpa using idxFrom_any p xs (i + 1)

theorem IntsM.el {M : Mem} {v : Value} {l : List Int} (h : IntsM M v l) {i : Nat} (hi : i < l.length) : El M v (i * 1) [int64 (l.getD i 0)] := by
  have := SlM.el h.1 hi
  have e1 : ((l.map int64).drop (i * 1)).take 1 = [int64 (l.getD i 0)] := by
    simp only [Nat.mul_one]
    rw [List.drop_eq_getElem_cons (by simpa using hi)]
    simp [hi]
  rw [e1] at this
  exact this
def prevK (l : List Int) (i : Nat) : Option Int := if i = 0 then none else l[i - 1]?
theorem rise_cons (p : Option Int) (k : Int) (ks : List Int) : rise p (k :: ks) = (decide (0 ≤ k) && decide (k ≤ 255) && (match p with | none => true | some q => decide (q < k)) && rise (some k) ks) := rfl
theorem rise_step (l : List Int) (i : Nat) (hi : i < l.length) : rise (prevK l i) (l.drop i) = (!(decide (l.getD i 0 < 0) || decide (255 < l.getD i 0) || (decide ((0 : Int) < (i : Int)) && decide (l.getD i 0 ≤ l.getD (i - 1) 0))) && rise (prevK l (i + 1)) (l.drop (i + 1))) := by
  rw [List.drop_eq_getElem_cons hi, rise_cons]
  have e1 : l.getD i 0 = l[i] := by simp [hi]
  have e2 : prevK l (i + 1) = some l[i] := by simp [prevK, hi]
  rw [e1, e2]
  congr 1
  unfold prevK
  by_cases h0 : i = 0
  · subst h0
    simp only [if_true, Bool.and_true]
    rw [Bool.eq_iff_iff]; simp
  · have e3 : l[i - 1]? = some l[i - 1] := by simp
    have e4 : l.getD (i - 1) 0 = l[i - 1] := by simp [show i - 1 < l.length by omega]
    rw [if_neg h0, e3, e4]
    rw [Bool.eq_iff_iff]; simp; omega
theorem rise_end (l : List Int) (p : Option Int) : rise p (l.drop l.length) = true := by rw [List.drop_length]; rfl
theorem sub1 {i : Nat} (h : 0 < i) (h2 : i ≤ 9223372036854775807) : IntKind.i64.wrap ((i : Int) - 1) = ((i - 1 : Nat) : Int) := by rw [wrap_in64 (by omega)]; omega

theorem wayRight_eq (w : Way) : wayRight w = (!(decide (16 < (w.keys.length : Int)) || decide (w.after < 0) || decide (1073741824 < w.after) || decide (w.wait < 0) || decide (1073741824 < w.wait)) && keysOk w.keys) := by
  unfold wayRight
  cases keysOk w.keys
  · simp
  · rw [Bool.eq_iff_iff]; simp; omega
theorem lock_right (M : Mem) (cs : List Value) (w : Way) (hw : Rep.R M cs w) : Fnv Try.prog 225 [aggv cs] M (.bool (wayRight w)) := by
  obtain ⟨v, rfl, hk, hwa, hww⟩ := hw
  have hkl := hk.le
  have hkm := hk.ints
  have hs := hkm.1
  have i1 := hs.one
  have c1 := hs.cells
  refine Fnv.of (Fn.enter Try.func225 Try.ntmps225 rfl rfl (by simp only [initEnv, List.zipIdx_cons, List.zipIdx_nil, List.map_cons, List.map_nil, Nat.zero_add, Nat.reduceAdd]; rfl) fun w0 hw => ?_)
  refine Wg ?_
  refine L.bxM fun b1 M1 hp1 hb1 => ?_
  refine Wg ?_
  refine L.or 4 13 9 ?_
  refine Wg ?_
  refine L.or 4 18 14 ?_
  refine Wg ?_
  refine L.or 4 23 19 ?_
  refine Wg ?_
  refine L.or 4 28 24 ?_
  refine Wg ?_
  refine C.cond rfl (fun h1 => ?_) (fun h1 => ?_)
  · refine Wg ?_
    exact Hands.ofT ([]) (rs := [.tmp 2]) rfl (.tmp rfl .nil) rfl (⟨rfl, by rw [wayRight_eq, h1]; rfl⟩)
  have hg : wayRight w = keysOk w.keys := by rw [wayRight_eq, h1]; rfl
  rw [hg]
  refine Wg ?_
  refine C.loopF (σ := Nat) (fun s => [(1, ptr b1 0), (30, v), (31, int64 w.keys.length), (32, int64 s)]) (fun s => []) (fun s M' => rise (prevK w.keys s) (w.keys.drop s) = keysOk w.keys ∧ s ≤ w.keys.length) (fun s => w.keys.length - s) 0 ?_ ?_ ?_ ?_
  · exact (.cons rfl rfl (.cons rfl rfl (.cons rfl rfl (.cons rfl rfl .nil))))
  · first | exact Forget.rf | ((try dsimp only); exact Forget.go)
  · exact ⟨rfl, by simp⟩
  · rintro i M2 hM2 ⟨hgo, hi⟩
    try dsimp only at hgo hi
    refine C.as [(1, ptr b1 0), (30, v), (31, int64 w.keys.length), (32, int64 i)] ([]) ?_
    refine Wg ?_
    refine C.cond rfl (fun hlt => ?_) (fun hlt => ?_)
    · have hlt := of_decide_eq_true hlt
      have hlt' : i < w.keys.length := by omega
      have hel := hkm.el hlt'
      rw [rise_step _ _ hlt'] at hgo
      refine Wg ?_
      refine L.or 3 42 39 ?_
      refine Wg ?_
      refine L.orH 13 56 43 rfl (fun h43 => by
            refine Wg ?_
            refine L.andH 9 55 46 rfl (fun h3 => by
                  have h3 := of_decide_eq_true h3
                  have hi0 : 0 < i := by omega
                  have hel2 := hkm.el (i := i - 1) (by omega)
                  refine Wg ?_
                  refine L.qh ?_ (Qt.bin rfl rfl (BinRun.sub (sub1 hi0 (by omega))))
                  refine Wg ?_
                  refine Wf ?_
                  exact Kj.mk
              ) ?_
            refine Wg ?_
            refine Wf ?_
            exact Kj.mk
        ) ?_
      refine Wg ?_
      refine C.cond rfl (fun h4 => ?_) (fun h4 => ?_)
      · refine Wg ?_
        exact Hands.ofT ([]) (rs := [.tmp 2]) rfl (.tmp rfl .nil) rfl (⟨rfl, by rw [← hgo, h4]; rfl⟩)
      rw [h4] at hgo
      refine Wg ?_
      refine Wo ?_
      refine Wg ?_
      refine ⟨i + 1, (.cons rfl rfl (.cons rfl rfl (.cons rfl rfl (.cons rfl rfl .nil)))), (by first | exact Forget.rf | ((try dsimp only); exact Forget.go)), inferInstance, ⟨by simpa using hgo, (by first | omega | (dsimp only; omega))⟩, (by first | omega | (dsimp only; omega))⟩
    have hlt := of_decide_eq_false hlt
    have e1 : i = w.keys.length := by omega
    subst e1
    rw [rise_end] at hgo
    refine Wg ?_
    exact Hands.ofT ([]) (rs := [.tmp 2]) rfl (.tmp rfl .nil) rfl (⟨rfl, by rw [← hgo]; rfl⟩)

end Go.Proofs.Ytdgdigliepncpaa
