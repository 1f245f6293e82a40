/-
  This text proves what a transaction without signs is behind one key signed it.
  Conditions: none.
-/
import Derived.Test.YtdgdigliepncpaaTx4
namespace Go.Proofs.Ytdgdigliepncpaa
open Go
section
variable {P : Program} {xt : TypeId} {x y : Operand}
theorem equalIn_slice {el t : TypeId} (hu : P.underlying t = some (.slice el)) (dp : Nat) (p : Option Addr) (n c : Nat) (w : World) : (Op.equalIn (dp + 1) t (.slice p n c) (.slice none 0 0)).run P w = .ok p.isNone w := by
  cases p <;> simp [Op.equalIn, run_underlying hu]
theorem BinRun.seq {el : TypeId} [hu : Und P xt (.slice el)] {p : Option Addr} {n c : Nat} : BinRun P .eql xt x y (.slice p n c) (.slice none 0 0) (.bool p.isNone) :=
  BinRun.ofEq (by cases p <;> rfl) (by cases p <;> rfl) fun dp w => equalIn_slice hu.eq dp p n c w
end

theorem idxf_sgn (M : Mem) (v : Value) (xs : List Sgn) (f : FuncId) (caps : List Value) (p : Sgn → Bool) (hv : SlR M v xs) [Callable Try.prog f]
    (hf : ∀ M', Sub M M' → ∀ x ∈ xs, ∀ cs, Rep.R M' cs x → Fnv Try.prog f ([aggv cs] ++ caps) M' (.bool (p x))) : Fnv Try.prog 234 [v, .func (.func f) #[] caps.toArray] M (int64 (idxFrom p 0 xs)) := by
  have hle := hv.le
  obtain ⟨cs, hs, hr⟩ := hv
  have i1 := hs.one
  have c1 := hs.cells
  refine Fnv.of (Fn.enter Try.func234 Try.ntmps234 rfl rfl (by simp only [initEnv, List.zipIdx_cons, List.zipIdx_nil, List.map_cons, List.map_nil, Nat.zero_add, Nat.reduceAdd]; rfl) fun w0 hw => ?_)
  refine Wg ?_
  refine C.loopF (σ := Nat) (fun s => [(0, v), (1, .func (.func f) #[] caps.toArray), (7, int64 xs.length), (8, int64 s)]) (fun s => []) (fun s M' => idxFrom p s (xs.drop s) = idxFrom p 0 xs ∧ s ≤ xs.length) (fun s => xs.length - s) 0 ?_ ?_ ?_ ?_
  · exact (.cons rfl rfl (.cons rfl rfl (.cons rfl rfl (.cons rfl rfl .nil))))
  · first | exact Forget.rf | ((try dsimp only); exact Forget.go)
  · exact ⟨rfl, by simp⟩
  · rintro i M2 hM2 ⟨hgo, hi⟩
    try dsimp only at hgo hi
    refine C.as [(0, v), (1, .func (.func f) #[] caps.toArray), (7, int64 xs.length), (8, int64 i)] ([]) ?_
    refine Wg ?_
    refine C.cond rfl (fun hlt => ?_) (fun hlt => ?_)
    · have hlt := of_decide_eq_true hlt
      have hlt' : i < xs.length := by omega
      have hel := hs.up (M' := M2) |>.el hlt'
      have hre := (hr.up (M' := M2)).el hlt'
      have hmem : xs[i] ∈ xs := List.getElem_mem _
      rw [List.drop_eq_getElem_cons hlt', idxFrom] at hgo
      generalize List.take (Rep.sz Sgn) _ = ci at hel hre
      generalize xs[i] = x at hgo hre hmem
      have fi : Fst ci 33 ci := ⟨List.take_of_length_le (Nat.le_of_eq (Rep.len hre)), Nat.le_of_eq (Rep.len hre).symm⟩
      refine Wg ?_
      refine L.fvv (vs := [aggv ci]) rfl (hf M2 inferInstance x hmem ci hre) fun M3 hM3 => ?_
      refine Wg ?_
      refine C.cond rfl (fun hp => ?_) (fun hp => ?_)
      · rw [if_pos hp] at hgo
        refine Wg ?_
        exact Hands.ofT ([]) (rs := [.tmp 4]) rfl (.tmp rfl .nil) rfl (⟨rfl, by rw [← hgo]; rfl⟩)
      rw [if_neg (by rw [hp]; exact Bool.false_ne_true)] at hgo
      refine Wg ?_
      refine Wo ?_
      refine Wg ?_
      refine ⟨i + 1, (.cons rfl rfl (.cons rfl rfl (.cons rfl rfl (.cons rfl rfl .nil)))), (by first | exact Forget.rf | ((try dsimp only); exact Forget.go)), inferInstance, ⟨hgo, (by first | omega | (dsimp only; omega))⟩, (by first | omega | (dsimp only; omega))⟩
    have hlt := of_decide_eq_false hlt
    have e1 : i = xs.length := by omega
    subst e1
    rw [List.drop_length] at hgo
    refine Wg ?_
    exact Hands.ofT ([]) (rs := [.tmp 4]) rfl (.tmp rfl .nil) rfl (⟨rfl, by rw [← hgo]; rfl⟩)

theorem clone_sgn0 (M : Mem) : Fnv Try.prog 155 [nilV] M nilV := by
  refine Fnv.of (Fn.enter Try.func155 Try.ntmps155 rfl rfl (by simp only [initEnv, List.zipIdx_cons, List.zipIdx_nil, List.map_cons, List.map_nil, Nat.zero_add, Nat.reduceAdd]; rfl) fun w0 hw => ?_)
  refine Wg ?_
  refine L.qh ?_ (Qt.bin rfl rfl BinRun.seq)
  refine Wg ?_
  refine C.condT' rfl (rfl) ?_
  refine Wg ?_
  exact Hands.ofT ([]) (rs := [.tmp 2]) rfl (.tmp rfl .nil) rfl (⟨rfl, rfl⟩)

theorem del_sgn0 (M : Mem) (f : FuncId) (caps : List Value) [Callable Try.prog f] : Fnv Try.prog 156 [nilV, .func (.func f) #[] caps.toArray] M nilV := by
  refine Fnv.of (Fn.enter Try.func156 Try.ntmps156 rfl rfl (by simp only [initEnv, List.zipIdx_cons, List.zipIdx_nil, List.map_cons, List.map_nil, Nat.zero_add, Nat.reduceAdd]; rfl) fun w0 hw => ?_)
  refine Wg ?_
  refine L.cv (idxf_sgn _ _ [] f caps (fun _ => true) SlR.nil (fun _ _ x hx => by cases hx)) fun M1 hM1 => ?_
  refine Wg ?_
  refine C.condT' rfl (rfl) ?_
  refine Wg ?_
  exact Hands.ofT ([]) (rs := [.tmp 4]) rfl (.tmp rfl .nil) rfl (⟨rfl, rfl⟩)

theorem ins_sgn1 (M : Mem) (v fv : Value) : Fnv Try.prog 265 [v, int64 0, int64 1, fv] M (.tuple #[]) := by
  refine Fnv.of (Fn.enter Try.func265 Try.ntmps265 rfl rfl (by simp only [initEnv, List.zipIdx_cons, List.zipIdx_nil, List.map_cons, List.map_nil, Nat.zero_add, Nat.reduceAdd]; rfl) fun w0 hw => ?_)
  refine Wg ?_
  refine Wo ?_
  refine Wg ?_
  refine C.loopB ?_
  refine CB.next ?_
  refine Wg ?_
  refine C.condF' rfl (rfl) ?_
  refine Wg ?_
  exact Hands.ofT ([]) (rs := []) rfl .nil rfl (⟨rfl, rfl⟩)

theorem stable_sgn1 (M : Mem) (v fv : Value) : Fnv Try.prog 235 [v, int64 1, fv] M (.tuple #[]) := by
  refine Fnv.of (Fn.enter Try.func235 Try.ntmps235 rfl rfl (by simp only [initEnv, List.zipIdx_cons, List.zipIdx_nil, List.map_cons, List.map_nil, Nat.zero_add, Nat.reduceAdd]; rfl) fun w0 hw => ?_)
  refine Wg ?_
  refine C.loopB ?_
  refine CB.next ?_
  refine Wg ?_
  refine C.condF' rfl (rfl) ?_
  refine Wg ?_
  refine L.cv (ins_sgn1 _ _ _) fun M1 hM1 => ?_
  refine Wg ?_
  refine C.loopB ?_
  refine CB.next ?_
  refine Wg ?_
  refine C.condF' rfl (rfl) ?_
  refine Wg ?_
  exact Hands.ofT ([]) (rs := []) rfl .nil rfl (⟨rfl, rfl⟩)

theorem sort_sgn1 (M : Mem) (p : Option Addr) (c : Nat) (fv : Value) : Fnv Try.prog 158 [.slice p 1 c, fv] M (.tuple #[]) := by
  refine Fnv.of (Fn.enter Try.func158 Try.ntmps158 rfl rfl (by simp only [initEnv, List.zipIdx_cons, List.zipIdx_nil, List.map_cons, List.map_nil, Nat.zero_add, Nat.reduceAdd]; rfl) fun w0 hw => ?_)
  refine Wg ?_
  refine L.cv (stable_sgn1 _ _ _) fun M1 hM1 => ?_
  refine Wg ?_
  exact Hands.ofT ([]) (rs := []) rfl .nil rfl (⟨rfl, rfl⟩)

noncomputable def signed1 (t : Txn) (k : Int) : Txn := { t with signs := [⟨k, txSum t⟩] }
theorem OwnS.shape {el : TypeId} {sz : Nat} {v : Value} {xs : List Value} {H : Hp} (h : OwnS el sz v xs H) (n : Nat) (hn : xs.length = n * sz) (hpos : 0 < sz) : ∃ p c, v = .slice p n c := by
  rcases h with ⟨rfl, rfl, _⟩ | ⟨b, m, c, sp, rfl, h1, _⟩
  · have : n = 0 := by
      rcases Nat.eq_zero_or_pos n with h | h
      · exact h
      · have := Nat.mul_pos h hpos; simp at hn; omega
    subst this
    exact ⟨_, _, rfl⟩
  · have : m = n := Nat.eq_of_mul_eq_mul_right hpos (by omega)
    subst this
    exact ⟨_, _, rfl⟩
set_option maxHeartbeats 1000000 in
theorem tx_signed1 (M : Mem) (t : Txn) (k : Int) (vk : Value) (vi vo vd : Value) (hi : SlR M vi t.ins) (ho : SlR M vo t.outs) (hd : BytesM M vd t.op.data) (hwd : opWide t.op) (hs0 : t.signs = []) (hk : IntsM M vk [k]) (hkk : I64 k) (hb : (bodyB t false).length ≤ 1099511627000) :
    Fn0 Try.prog 56 [aggv (txC t.op vi vo vd nilV), vk] M fun r M' => ∃ cs', r = aggv cs' ∧ Rep.R M' cs' (signed1 t k) := by
  have ht0 : Rep.R M (txC t.op vi vo vd nilV) t := ⟨_, _, _, _, rfl, hi, ho, hd, hs0 ▸ SlR.nil, hwd⟩
  have i1 := hi.one
  have c1 := hi.cells
  have i2 := ho.one
  have c2 := ho.cells
  have i3 := SlM.one hd
  have c3 := SlM.cells hd
  have ks : SlM M 1 vk 1 [int64 k] := hk.1
  have ik := ks.one
  have ck := ks.cells
  have hel : El M vk (0 * 1) [int64 k] := hk.el (i := 0) (by simp)
  refine Fn0.of (Fn.enter Try.func56 Try.ntmps56 rfl rfl (by simp only [initEnv, List.zipIdx_cons, List.zipIdx_nil, List.map_cons, List.map_nil, Nat.zero_add, Nat.reduceAdd]; rfl) fun w0 hw => ?_)
  refine Wg ?_
  refine L.bx fun b2 => ?_
  refine L.al fun b4 => ?_
  refine Wg ?_
  refine L.cv (tx_sum _ _ t (Rep.up ht0 inferInstance) hb) fun M1 hM1 => ?_
  refine L.al fun b5 => ?_
  refine Wg ?_
  refine L.cv (clone_sgn0 _) fun M2 hM2 => ?_
  refine Wg ?_
  refine C.loopB ?_
  refine CB.next ?_
  refine Wg ?_
  refine C.condT' rfl (by simp) ?_
  refine Wg ?_
  refine L.al fun b8 => ?_
  refine Wg ?_
  refine L.cv (del_sgn0 _ _ [ptr b8 0]) fun M3 hM3 => ?_
  refine Wg ?_
  refine L.bsM fun b27 M27 hp27 hb27 => ?_
  refine L.ap OwnS.nil (Rd.row (n := 1) (c := 1) (sz := 33) (cl := sgnC ⟨k, txSum t⟩) hb27 (by simp)) (by (simp)) fun v28 H28 o28 => ?_
  have i28 := o28.one
  have c28 := o28.cells
  refine Wg ?_
  refine Wo ?_
  refine Wg ?_
  refine CB.next ?_
  refine Wg ?_
  refine C.condF' rfl (by simp) ?_
  refine Wg ?_
  obtain ⟨p28, c28', rfl⟩ := o28.shape 1 (by simp) (by decide)
  refine L.cv (sort_sgn1 _ _ _ _) fun M4 hM4 => ?_
  refine o28.frzL 1 (by simp) (by decide) fun M9 hM9 hv9 => ?_
  refine Wg ?_
  exact Hands.ofT ([]) (rs := [.cell 4 60]) rfl (.cell rfl BoxIs.aggA .nil) rfl (⟨rfl, _, rfl, _, _, _, _, rfl, hi.up, ho.up, BytesM.up hd, ⟨_, hv9, RepL.one ⟨rfl, hkk⟩⟩, hwd⟩)

end Go.Proofs.Ytdgdigliepncpaa
