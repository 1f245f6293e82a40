/-
  This text proves the rules for append and for slicing, over whatever program.
  Conditions: none; nothing here names the program.
-/
import Derived.Test.YtdgdigliepncpaaMore
namespace Go.Proofs.Ytdgdigliepncpaa
open Go
attribute [local semireducible] C L Qt BinRun Fn Fn0 Hands

/-- A slice that is owned: v has the cells xs (elements of type el, sz cells each); H is its block, if there is one. -/
def OwnS (el : TypeId) (sz : Nat) (v : Value) (xs : List Value) (H : Hp) : Prop :=
  (v = .slice none 0 0 ∧ xs = [] ∧ H = []) ∨
  ∃ b n cap spare, v = .slice (some ⟨b, 0, none⟩) n cap ∧ xs.length = n * sz ∧ n ≤ cap ∧ cap ≤ maxLen ∧ xs.length + spare.length = cap * sz ∧ H = [(b, row (xs ++ spare) el)]

theorem OwnS.nil {el : TypeId} {sz : Nat} : OwnS el sz (.slice none 0 0) [] [] := .inl ⟨rfl, rfl, rfl⟩

theorem OwnS.one {el : TypeId} {sz : Nat} {v : Value} {xs : List Value} {H : Hp} (h : OwnS el sz v xs H) : One1 v := ⟨by
  rcases h with ⟨rfl, _⟩ | ⟨b, n, cap, spare, rfl, _⟩ <;> rfl⟩
theorem OwnS.cells {el : TypeId} {sz : Nat} {v : Value} {xs : List Value} {H : Hp} (h : OwnS el sz v xs H) : Cells v [v] := ⟨by
  rcases h with ⟨rfl, _⟩ | ⟨b, n, cap, spare, rfl, _⟩ <;> rfl⟩
/-- What is appended: m elements with the cells news, there to be read. -/
def Src (w : World) (src : Value) (m sz : Nat) (news : List Value) : Prop :=
  (src = .slice none 0 0 ∧ m = 0 ∧ news = []) ∨
  ∃ a c, src = .slice (some a) m c ∧ news.length = m * sz ∧ ∀ j u, news[j]? = some u → w.cell? (a.add j) = some u

theorem Src.ofRow {w : World} {b o m c sz : Nat} {cl : List Value} {T : TypeId} {fr : Nat × Nat} {news : List Value} (hb : w.heap[b]? = some (.cells cl.toArray T fr)) (hd : (cl.drop o).take (m * sz) = news) (hl : o + m * sz ≤ cl.length) : Src w (.slice (some ⟨b, o, none⟩) m c) m sz news :=
  .inr ⟨_, c, rfl, by rw [← hd]; simp; omega, fun j u hj => by
    rw [add_none, cell_row hb]
    rw [← hd] at hj
    simpa using take_drop_get j u hj⟩

theorem cells_of_heap {w : World} {b : Nat} {xs spare : List Value} {el : TypeId} (h : w.heap[b]? = some (row (xs ++ spare) el)) : ∀ j u, xs[j]? = some u → w.cell? ((⟨b, 0, none⟩ : Addr).add j) = some u := by
  intro j u hj
  rw [add_none, cell_row h, Nat.zero_add]
  have hlt := (List.getElem?_eq_some_iff.1 hj).1
  simp [List.getElem?_append_left hlt, hj]

theorem run_append_OwnS {P : Program} {M0 M : Mem} {H0 H F : Hp} {w0 w : World} {t ty el : TypeId} {sz by_ m : Nat} {z : List Value} {v src : Value} {xs news : List Value} (hst : Done M0 H0 w0 M (H ++ F) w)
    (hu : P.underlying t = some (.slice el)) (hz : Zer P el z) (hsz : (P.info? el).map (·.size) = some sz) (hby : (P.info? el).map (·.bytes) = some by_) (hpos : 0 < sz) (hzl : z.length = sz) (hv : OwnS el sz v xs H) (hsrc : Src w src m sz news) (h1 : ∀ u ∈ news, u.oneCell' = true)
    (hb1 : xs.length + news.length ≤ 70368744177664) (hb2 : (xs.length + news.length) * by_ ≤ 140737488355328) :
    ∃ v' w' H', (Builtin.append_ #[t, t] ty #[v, src]).run P w = .ok v' w' ∧ Done M0 H0 w0 M (H' ++ F) w' ∧ OwnS el sz v' (xs ++ news) H' := by
  obtain ⟨i, zv, hi, hiz, hzc⟩ := zero_of hz
  have his : i.size = sz := by rw [hi] at hsz; simpa using hsz
  have hib : i.bytes = by_ := by rw [hi] at hby; simpa using hby
  have hzs : zv.cells.size = sz := by rw [hzc]; simpa using hzl
  have hmul : ∀ k, k ≤ k * sz := fun k => Nat.le_mul_of_pos_right k hpos
  have fresh : ∀ (old n : Nat) (cs : List Value), cs.length = n * sz → n ≤ 70368744177664 → OwnS el sz (.slice (some ⟨w.heap.size, 0, none⟩) n (grownCap w n old el)) cs [(w.heap.size, row (cs ++ (Builtin.zeroCells zv.cells (grownCap w n old el - n)).toList) el)] := by
    intro old n cs hcs hn
    have hge := grownCap_ge w n old el
    have hle := grownCap_le_maxLen w n old el (by simp only [maxLen]; omega)
    refine .inr ⟨_, _, _, _, rfl, hcs, hge, hle, ?_, rfl⟩
    simp only [Array.length_toList, size_zeroCells, hzs, hcs, ← Nat.add_mul]
    congr 1; omega
  rcases hsrc with ⟨rfl, rfl, rfl⟩ | ⟨a, c, rfl, hnl, hnews⟩
  · -- nothing is appended
    refine ⟨v, w, H, ?_, hst, by simpa using hv⟩
    rcases hv with ⟨rfl, rfl, rfl⟩ | ⟨b, n, cap, spare, rfl, hxl, hnc, hcm, hsp, rfl⟩
    · simp [Builtin.append_, run_underlying hu, sizeOf, typeInfo, hi, Builtin.lenOf, run_firstCells_none]
    · have hbk := hst.own b _ (List.mem_append_left _ (List.mem_cons_self ..))
      simp [Builtin.append_, run_underlying hu, sizeOf, typeInfo, hi, Builtin.lenOf, run_firstCells_none, hnc, storeCells]
  · rcases hv with ⟨rfl, rfl, rfl⟩ | ⟨b, n, cap, spare, rfl, hxl, hnc, hcm, hsp, rfl⟩
    · rcases Nat.eq_zero_or_pos m with rfl | hm
      · have hn0 : news = [] := List.eq_nil_of_length_eq_zero (by simpa using hnl)
        subst hn0
        refine ⟨.slice none 0 0, w, [], ?_, hst, OwnS.nil⟩
        simp [Builtin.append_, run_underlying hu, sizeOf, typeInfo, hi, Builtin.lenOf, Builtin.firstCells, loadCells, loadCellsFrom]
      · have hm2 : m ≤ m * sz := hmul m
        simp only [List.length_nil, Nat.zero_add] at hb1 hb2
        have hr := run_append_nil (P := P) w t ty el i zv hu hi hiz a m c news (by rw [his]; exact hnl) hnews hm (by omega) (by
          rw [hib]; rw [hnl] at hb2
          have : m * by_ ≤ m * sz * by_ := Nat.mul_le_mul_right _ hm2
          omega)
        refine ⟨_, _, _, hr, ?_, by simpa using fresh 0 m news hnl (by omega)⟩
        have := (hst.drew).alloc (.cells (news.toArray ++ Builtin.zeroCells zv.cells (grownCap w m 0 el - m)) el)
        have e1 : news.toArray ++ Builtin.zeroCells zv.cells (grownCap w m 0 el - m) = (news ++ (Builtin.zeroCells zv.cells (grownCap w m 0 el - m)).toList).toArray := by apply Array.ext'; simp
        rw [e1] at this ⊢
        exact this
    · have hbk := hst.own b _ (List.mem_append_left _ (List.mem_cons_self ..))
      by_cases hroom : n + m ≤ cap
      · have hlen : (xs ++ spare).length = cap * sz := by simp; exact hsp
        have hfit : n * i.size + news.length ≤ (xs ++ spare).toArray.size := by
          rw [his, hnl, ← Nat.add_mul]; simp only [List.size_toArray, hlen]; exact Nat.mul_le_mul_right _ hroom
        have hr := run_append_room (P := P) w t ty el i hu hi b n cap (xs ++ spare).toArray hbk a m c news (by rw [his]; exact hnl) hnews h1 hroom hfit
        have htake : ((xs ++ spare).toArray.toList.take (n * i.size) ++ news ++ (xs ++ spare).toArray.toList.drop (n * i.size + news.length)) = (xs ++ news) ++ spare.drop news.length := by
          rw [his, ← hxl]
          simp [List.drop_append]
        rw [htake] at hr
        refine ⟨_, _, [(b, row ((xs ++ news) ++ spare.drop news.length) el)], hr, ?_, .inr ⟨b, n + m, cap, spare.drop news.length, rfl, ?_, hroom, hcm, ?_, rfl⟩⟩
        · exact Done.setRow (cl' := (xs ++ news) ++ spare.drop news.length) hst
        · simp [hxl, hnl, Nat.add_mul]
        · have : (n + m) * sz ≤ cap * sz := Nat.mul_le_mul_right _ hroom
          rw [Nat.add_mul] at this
          simp; omega
      · have hn2 : n ≤ n * sz := hmul n
        have hm2 : m ≤ m * sz := hmul m
        have hr := run_append_grow (P := P) w t ty el i zv hu hi hiz ⟨b, 0, none⟩ n cap xs (by rw [his]; exact hxl) (cells_of_heap hbk) a m c news (by rw [his]; exact hnl) hnews (by omega) (by omega) (growslice_fits (by omega) (by
          rw [hib]
          rw [hxl, hnl, ← Nat.add_mul] at hb2
          have : (n + m) * by_ ≤ (n + m) * sz * by_ := Nat.mul_le_mul_right _ (hmul (n + m))
          omega))
        refine ⟨_, _, _, hr, ?_, fresh cap (n + m) (xs ++ news) (by simp [hxl, hnl, Nat.add_mul]) (by omega)⟩
        have h2 := (hst.drew).alloc (.cells (xs.toArray ++ news.toArray ++ Builtin.zeroCells zv.cells (grownCap w (n + m) cap el - (n + m))) el)
        have h3 := h2.perm (H' := [(b, row (xs ++ spare) el)] ++ ((w.heap.size, Obj.cells (xs.toArray ++ news.toArray ++ Builtin.zeroCells zv.cells (grownCap w (n + m) cap el - (n + m))) el (0, 0)) :: F)) (by
          simp only [List.cons_append, List.nil_append]
          exact List.Perm.swap ..)
        have h4 := h3.drop
        have e1 : xs.toArray ++ news.toArray ++ Builtin.zeroCells zv.cells (grownCap w (n + m) cap el - (n + m)) = ((xs ++ news) ++ (Builtin.zeroCells zv.cells (grownCap w (n + m) cap el - (n + m))).toList).toArray := by apply Array.ext'; simp
        rw [e1] at h4 ⊢
        exact h4

section
variable {P : Program} {N : Nat} {X : Cx} {Q : Post} {K : Kont} {e : Env} {M : Mem} {A : Segs} {ops : Array Oper} {rest : List Oper}
variable {d : Nat} {ty : TypeId} {pos : String} {aft : Array Edge} {g : Option (Nat × Bool)}

/-- Where the cells of a slice can be read. -/
class Rd (X : Cx) (M : Mem) (A : Segs) (src : Value) (m : outParam Nat) (sz : Nat) (news : outParam (List Value)) : Prop where
  src : ∀ w, St X M A w → Src w src m sz news
instance Rd.nil {sz : Nat} : Rd X M A (.slice none 0 0) 0 sz [] := ⟨fun _ _ => .inl ⟨rfl, rfl, rfl⟩⟩
theorem Rd.ofM {M1 : Mem} {b o m c sz : Nat} {cl : List Value} {T : TypeId} {fr : Nat × Nat} {news : List Value} (hb : At M1 b (.cells cl.toArray T fr)) [s : Sub M1 M] (hd : (cl.drop o).take (m * sz) = news) (hl : o + m * sz ≤ cl.length) : Rd X M A (.slice (some ⟨b, o, none⟩) m c) m sz news :=
  ⟨fun _ hst => Src.ofRow (hst.mem _ _ (s.le _ _ hb.eq)) hd hl⟩
theorem Rd.ofA {b o m c sz : Nat} {cl : List Value} {T : TypeId} {fr : Nat × Nat} {news : List Value} {A' : Segs} [t : TakeB A b (.cells cl.toArray T fr) A'] (hd : (cl.drop o).take (m * sz) = news) (hl : o + m * sz ≤ cl.length) : Rd X M A (.slice (some ⟨b, o, none⟩) m c) m sz news :=
  ⟨fun _ hst => Src.ofRow (hst.own _ _ (t.perm.mem_iff.2 (List.mem_cons_self ..))) hd hl⟩

theorem L.append {t el : TypeId} {x y : Operand} {v src : Value} {sz by_ m : Nat} {z xs news : List Value} {H : Hp} {A' : Segs} (hx : e.ev x = some v) (hy : e.ev y = some src) (hv : OwnS el sz v xs H) [hu : Und P t (.slice el)] [hz : Zer P el z] [hsz : Siz P el sz] [hby : Byt P el by_] [hzl : Len z sz] [ht : Take A H A'] (hsrc : Rd X M A src m sz news) [h1 : Ones news]
    (hb : xs.length + news.length ≤ 70368744177664 ∧ (xs.length + news.length) * by_ ≤ 140737488355328) (hpos : Nat.blt 0 sz = true) (hg : e.want ops g = some true) (hn : Nat.blt d N = true)
    (h : ∀ v' H', OwnS el sz v' (xs ++ news) H' → L P N X ops rest K ((d, v') :: e) M (H' :: A')) : L P N X ops (⟨some d, .call { callee := .builtin .append, args := #[x, y], argTypes := #[t, t] }, ty, pos, aft, g⟩ :: rest) K e M A :=
  L.step hg rfl hn fun a w hf hst => by
    obtain ⟨v', w', H', hr, hd, ho⟩ := run_append_OwnS (P := P) (ty := ty) (hst.perm ht.perm) hu.eq hz hsz.eq hby.eq (by simpa [Nat.blt_eq] using hpos) hzl.eq hv (hsrc.src w hst) h1.eq hb.1 hb.2
    refine ⟨v', w', M, H' :: A', ?_, hd, h v' H' ho⟩
    have e1 := hf.ev hx
    have e2 := hf.ev hy
    simp only [execOp, resolve, invoke, builtin, Sem.run_bind, Sem.run_pure, Result.andThen_ok, List.map_toArray, List.map_cons, List.map_nil, e1, e2, hr]
/-- The result stays as it is. -/
theorem OwnS.freeze {el : TypeId} {sz : Nat} {v : Value} {xs : List Value} {H : Hp} {l : List Oper} (hv : OwnS el sz v xs H)
    (h : ∀ M', Prev M' M → (v = .slice none 0 0 ∧ xs = [] ∨ ∃ b n cap spare, v = .slice (some ⟨b, 0, none⟩) n cap ∧ xs.length = n * sz ∧ n ≤ cap ∧ cap ≤ maxLen ∧ xs.length + spare.length = cap * sz ∧ At M' b (row (xs ++ spare) el)) → L P N X ops l K e M' A) : L P N X ops l K e M (H :: A) := by
  intro a w hf hst
  rcases hv with ⟨rfl, rfl, rfl⟩ | ⟨b, n, cap, spare, rfl, h1, h2, h3, h4, rfl⟩
  · exact h M ⟨fun _ _ h => h⟩ (.inl ⟨rfl, rfl⟩) a w hf hst
  · obtain ⟨M', hp, hM, hst'⟩ := freeze_alloc (X := X) (A := A) hst
    exact h M' hp (.inr ⟨b, n, cap, spare, rfl, h1, h2, h3, h4, hM⟩) a w hf hst'

/-- A whole array as a slice. -/
theorem Qt.sliceArr {t el : TypeId} {x : Operand} {b o n : Nat} [hu : Und P t (.array n el)] {sz : Nat} [hz : Siz P el sz] (hx : e.ev x = some (ptr b o)) : Qt P N e M A ⟨some d, .slice t x none none none, ty, pos, aft, g⟩ (.slice (some ⟨b, o, none⟩) n n) := fun a w hf _ _ => run_v (by
    show (Instr.sliceAt t (a.eval x) none none none).run P w = _
    obtain ⟨i, hi, hs⟩ := info_of_size hz.eq
    rw [hf.ev hx]
    simp [Instr.sliceAt, run_underlying hu.eq, Instr.sureAddr, Instr.sliceBounds, sizeOf, typeInfo, hi, add_none])
end
end Go.Proofs.Ytdgdigliepncpaa
