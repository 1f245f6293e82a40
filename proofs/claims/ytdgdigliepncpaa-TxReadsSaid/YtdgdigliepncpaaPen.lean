/-
  This text proves what a pen's other methods write.
  Conditions: none.
-/
import Derived.Test.YtdgdigliepncpaaWire
namespace Go.Proofs.Ytdgdigliepncpaa
open Go

abbrev BytesM (M : Mem) (v : Value) (l : List UInt8) : Prop := SlM M 1 v l.length (bytesC l)
def IntsM (M : Mem) (v : Value) (l : List Int) : Prop := SlM M 1 v l.length (l.map int64) ∧ ∀ n ∈ l, -9223372036854775808 ≤ n ∧ n ≤ 9223372036854775807
theorem BytesM.up {M M' : Mem} {v : Value} {l : List UInt8} (h : BytesM M v l) [Sub M M'] : BytesM M' v l := SlM.up h
theorem IntsM.up {M M' : Mem} {v : Value} {l : List Int} (h : IntsM M v l) [Sub M M'] : IntsM M' v l := ⟨h.1.up, h.2⟩

theorem encNat_le : ∀ (k n : Nat), n < 128 ^ k → 0 < k → (encNat n).length ≤ k := by
  intro k
  induction k with
  | zero => intro n _ h; omega
  | succ k ih =>
    intro n hn _
    rw [encNat]
    split
    · simp
    · rename_i h
      simp only [List.length_cons]
      have hk : 0 < k := by
        rcases Nat.eq_zero_or_pos k with rfl | h'
        · simp at hn; omega
        · exact h'
      have := ih (n / 128) (by rw [Nat.pow_succ] at hn; omega) hk
      omega
theorem numB_le (n : Int) (h : n ≤ 9223372036854775807) : (numB n).length ≤ 9 := encNat_le 9 _ (by omega) (by decide)
theorem nums_le {ns : List Int} (h : ∀ n ∈ ns, n ≤ 9223372036854775807) : (ns.flatMap numB).length ≤ 9 * ns.length := by
  induction ns with
  | nil => simp
  | cons n ns ih =>
    have h1 := numB_le n (h n (by simp))
    have h2 := ih fun m hm => h m (by simp [hm])
    simp only [List.flatMap_cons, List.length_append, List.length_cons]
    omega

theorem pen_nums (pb : Nat) (v : Value) (ns : List Int) (l : List UInt8) (M : Mem) (H : Hp) (hp : PenH pb l H) (hv : IntsM M v ns) (hb : (l ++ ns.flatMap numB).length ≤ 1099511627776) :
    Fn Try.prog 162 [ptr pb 0, v] M H fun r M' H' => r = ptr pb 0 ∧ PenH pb (l ++ ns.flatMap numB) H' := by
  refine Fn.enter Try.func162 Try.ntmps162 rfl rfl (by simp only [initEnv, List.zipIdx_cons, List.zipIdx_nil, List.map_cons, List.map_nil, Nat.zero_add, Nat.reduceAdd]; rfl) fun w0 hw => ?_
  have hs := hv.1
  refine Ww ?_
  refine C.loop (σ := Nat × Hp) (fun s => [(0, ptr pb 0), (7, v), (8, int64 ns.length), (9, int64 s.1)]) (fun s => [s.2])
    (fun s _ => PenH pb (l ++ (ns.take s.1).flatMap numB) s.2 ∧ s.1 ≤ ns.length) (fun s => ns.length - s.1) (0, H) ?_ ?_ ?_ ?_
  · exact .cons rfl rfl (.cons rfl rfl (.cons rfl rfl (.cons rfl rfl .nil)))
  · exact List.Perm.refl _
  · exact ⟨by simpa using hp, by simp⟩
  · rintro ⟨i, H1⟩ M1 hM ⟨hp1, hi⟩
    dsimp only at *
    refine Ww ?_
    refine C.cond rfl (fun hlt => ?_) (fun hlt => ?_)
    · have hlt := of_decide_eq_true hlt
      have hlt' : i < ns.length := by omega
      obtain ⟨b, o, c, cl, T, fr, rfl, hb1, -, -, hget⟩ := hs.at_ hlt'
      have hg1 : cl[o + i * 1]? = some (int64 ns[i]) := by rw [hget (by decide)]; simp [hlt']
      have hn := hv.2 ns[i] (by simp)
      have hmax := hs.le
      unfold maxLen at hmax
      have hlen : ((ns.take i).flatMap numB).length ≤ (ns.flatMap numB).length := by
        conv => rhs; rw [← List.take_append_drop i ns, List.flatMap_append, List.length_append]
        omega
      rw [List.length_append] at hb
      refine Ww ?_
      refine L.call rfl (pen_num pb ns[i] _ _ H1 hp1 hn (by rw [List.length_append]; omega)) rfl rfl fun r M2 H2 hM2 hR => ?_
      obtain ⟨rfl, hp2⟩ := hR
      refine Ww ?_
      refine ⟨(i + 1, H2), .cons rfl rfl (.cons rfl rfl (.cons rfl rfl (.cons rfl rfl .nil))), List.Perm.refl _, inferInstance, ⟨?_, ?_⟩, ?_⟩
      · rw [List.take_succ_eq_append_getElem hlt', List.flatMap_append]
        simpa using hp2
      · dsimp only; omega
      · dsimp only; omega
    · have hlt := of_decide_eq_false hlt
      have e1 : i = ns.length := by omega
      subst e1
      refine Ww ?_
      refine Hands.one rfl rfl (H := H1) (by simp) ⟨rfl, ?_⟩
      simpa using hp1

theorem pen_text (pb : Nat) (v : Value) (t l : List UInt8) (M : Mem) (H : Hp) (hp : PenH pb l H) (hv : BytesM M v t) (hb : (l ++ numB t.length ++ t).length ≤ 1099511627776) :
    Fn Try.prog 61 [ptr pb 0, v] M H fun r M' H' => r = ptr pb 0 ∧ PenH pb (l ++ numB t.length ++ t) H' := by
  refine Fn.enter Try.func61 Try.ntmps61 rfl rfl (by simp only [initEnv, List.zipIdx_cons, List.zipIdx_nil, List.map_cons, List.map_nil, Nat.zero_add, Nat.reduceAdd]; rfl) fun w0 hw => ?_
  have hs : SlM M 1 v t.length (bytesC t) := hv
  have hmax := hs.le
  unfold maxLen at hmax
  simp only [List.length_append] at hb
  refine Ww ?_
  refine L.call rfl (pen_num pb t.length l _ H hp (by omega) (by omega)) rfl rfl fun r M2 H2 hM2 hR => ?_
  obtain ⟨rfl, sv, Hs, ho, rfl⟩ := hR
  refine L.perm [[(pb, row [sv] 71)], Hs] (by simp) ?_
  refine Ww ?_
  have hnl := numB_le (t.length : Int) (by omega)
  refine L.append rfl rfl ho hs.rd ?_ rfl rfl rfl fun v' H' ho' => ?_
  · simp; omega
  have i1 := ho'.one
  have i2 := ho'.cells
  refine Ww ?_
  refine Hands.one rfl rfl (H := (pb, row [v'] 71) :: H') (by simp) ⟨rfl, v', H', ?_, rfl⟩
  rw [bytesC_append]
  exact ho'

theorem pen_sum (pb : Nat) (s : Sm) (l : List UInt8) (M : Mem) (H : Hp) (hp : PenH pb l H) (hb : l.length ≤ 1099511627776) :
    Fn Try.prog 47 [ptr pb 0, aggv (sumC s)] M H fun r _ H' => r = ptr pb 0 ∧ PenH pb (l ++ s.l) H' := by
  obtain ⟨sv, Hs, ho, rfl⟩ := hp
  refine Fn.enter Try.func47 Try.ntmps47 rfl rfl (by simp only [initEnv, List.zipIdx_cons, List.zipIdx_nil, List.map_cons, List.map_nil, Nat.zero_add, Nat.reduceAdd]; rfl) fun w0 hw => ?_
  refine C.perm [[(pb, row [sv] 71)], Hs] (by simp) ?_
  refine C.seq (C.region ?_)
  refine L.boxM rfl rfl rfl fun b M1 hM1 hb1 => ?_
  refine Ww ?_
  have hlen := s.h
  refine C.draw [9] [[(pb, row [sv] 71)]] _ mixed rfl (by simp) ?_ (fun _ _ _ h => h)
  refine LA.ta 0 ?_
  refine LA.ta 1 ?_
  refine LA.ta 2 ?_
  refine LA.ta 3 ?_
  refine LA.ta 4 ?_
  refine LA.ta 5 ?_
  refine LA.e1 6 ?_
  refine L.append rfl rfl ho (Rd.ofM (news := sumC s) hb1 (by simp [List.take_of_length_le]) (by simp)) ?_ rfl rfl rfl fun v' H' ho' => ?_
  · simp; omega
  have i1 := ho'.one
  have i2 := ho'.cells
  refine L.nil ⟨fun _ => ⟨fun _ _ h => h, by simp⟩, ?_⟩
  refine LA.ta 7 ?_
  refine LA.ta 8 ?_
  refine LA.e1 9 ?_
  (first | refine L.storeAll rfl rfl rfl ?_ | refine L.store rfl rfl rfl ?_)
  refine L.nil ⟨fun h => by simp at h, ?_⟩
  refine LA.done (by kernel_rfl) ?_
  dsimp only
  refine Ww ?_
  refine Hands.one rfl rfl (H := (pb, row [v'] 71) :: H') (by simp) ⟨rfl, v', H', ?_, rfl⟩
  rw [bytesC_append]
  exact ho'

theorem pen_bytes (pb : Nat) (l : List UInt8) (M : Mem) (H : Hp) (hp : PenH pb l H) (hb : l.length ≤ 1099511627776) :
    Fn Try.prog 49 [ptr pb 0] M H fun r M' H' => BytesM M' r l ∧ PenH pb l H' := by
  obtain ⟨sv, Hs, ho, rfl⟩ := hp
  refine Fn.enter Try.func49 Try.ntmps49 rfl rfl (by simp only [initEnv, List.zipIdx_cons, List.zipIdx_nil, List.map_cons, List.map_nil, Nat.zero_add, Nat.reduceAdd]; rfl) fun w0 hw => ?_
  refine C.perm [[(pb, row [sv] 71)], Hs] (by simp) ?_
  refine Ww ?_
  refine L.append (A' := [[(pb, row [sv] 71)], Hs]) rfl rfl OwnS.nil (ho.rd (n := l.length) (by simp) (by decide)) ?_ rfl rfl rfl fun v' H' ho' => ?_
  · simp; omega
  refine OwnS.freeze ho' fun M1 hM1 hv1 => ?_
  refine Ww ?_
  refine Hands.one rfl rfl (H := (pb, row [sv] 71) :: Hs) (by simp) ⟨?_, sv, Hs, ho, rfl⟩
  simp only [List.nil_append] at hv1
  exact SlM.ofOwn (by simp) (by decide) hv1
end Go.Proofs.Ytdgdigliepncpaa
