/-
  This text proves what a function hands back, out of its slots and boxes.
  Conditions: none; nothing here names the program.
-/
import Derived.Test.YtdgdigliepncpaaSum
namespace Go.Proofs.Ytdgdigliepncpaa
open Go
attribute [local semireducible] Hands Fn0

section
variable {P : Program} {N : Nat} {X : Cx} {e : Env} {M : Mem} {A : Segs} {fn : Func} {R : Value → Mem → Hp → Prop}

/-- What a variable in a box holds. -/
def BoxIs (P : Program) (M : Mem) (A : Segs) (t : TypeId) (b o : Nat) (v : Value) : Prop :=
  ∀ w : World, (∀ b o, M b = some o → w.heap[b]? = some o) → (∀ b o, (b, o) ∈ A.flatten → w.heap[b]? = some o) → (loadVar t ⟨b, o, none⟩).run P w = .ok v w
theorem BoxIs.aggM {t b o n : Nat} {M1 : Mem} {cl c1 out : List Value} {T : TypeId} {fr : Nat × Nat} [ha : IsAgg P t n] (hb : At M1 b (.cells cl.toArray T fr)) [hs : Sub M1 M] [hd : Drop cl o c1] [ht : Fst c1 n out] : BoxIs P M A t b o (aggv out) := fun w hm _ => by
  refine run_loadAgg (n := n) (hm _ _ (hs.le _ _ hb.eq)) ?_ ?_
  · rw [hd.eq]; exact ht.eq
  · have h1 := ht.le; have h2 := hd.le; rw [← hd.eq] at h1; simp at h1; omega
theorem BoxIs.aggA {t b o n : Nat} {cl c1 out : List Value} {T : TypeId} {fr : Nat × Nat} {A' : Segs} [ha : IsAgg P t n] [hb : TakeB A b (.cells cl.toArray T fr) A'] [hd : Drop cl o c1] [ht : Fst c1 n out] : BoxIs P M A t b o (aggv out) := fun w _ hm => by
  refine run_loadAgg (n := n) (hm _ _ (hb.perm.mem_iff.2 (List.mem_cons_self ..))) ?_ ?_
  · rw [hd.eq]; exact ht.eq
  · have h1 := ht.le; have h2 := hd.le; rw [← hd.eq] at h1; simp at h1; omega
/-- The whole of a box. -/
theorem BoxIs.allA {t b n : Nat} {cl : List Value} {T : TypeId} {fr : Nat × Nat} {A' : Segs} [ha : IsAgg P t n] [hb : TakeB A b (.cells cl.toArray T fr) A'] (hl : cl.length = n) : BoxIs P M A t b 0 (aggv cl) := fun w _ hm =>
  run_loadAgg (n := n) (hm _ _ (hb.perm.mem_iff.2 (List.mem_cons_self ..))) (by simp [← hl]) (by simp [hl])

inductive ResIs (P : Program) (e : Env) (M : Mem) (A : Segs) : List ResultVar → List Value → Prop
  | nil : ResIs P e M A [] []
  | tmp {t : Nat} {v : Value} {rs : List ResultVar} {vs : List Value} (h : e.get t = some v) (hs : ResIs P e M A rs vs) : ResIs P e M A (.tmp t :: rs) (v :: vs)
  | cell {t ty b o : Nat} {v : Value} {rs : List ResultVar} {vs : List Value} (h : e.get t = some (ptr b o)) (hb : BoxIs P M A ty b o v) (hs : ResIs P e M A rs vs) : ResIs P e M A (.cell t ty :: rs) (v :: vs)

theorem ResIs.run {a : Act} {w : World} (hf : Fr N e a) (hm : ∀ b o, M b = some o → w.heap[b]? = some o) (ho : ∀ b o, (b, o) ∈ A.flatten → w.heap[b]? = some o) {rs : List ResultVar} {vs : List Value} (h : ResIs P e M A rs vs) :
    (rs.mapM (fun | .tmp t => pure (a.tmps.getD t undef) | .cell p t => do loadVar t (← asAddr (a.tmps.getD p undef)) : ResultVar → Sem Value)).run P w = .ok vs w := by
  induction h with
  | nil => rfl
  | tmp h _ ih =>
    rw [List.mapM_cons]
    simp only [Sem.run_bind, Sem.run_pure, Result.andThen_ok, ih]
    simp [hf.at_ _ _ h]
  | @cell t ty b o v rs vs h hb _ ih =>
    rw [List.mapM_cons]
    have hg : a.tmps[t]? = some (ptr b o) := hf.at_ _ _ h
    have hl := hb w hm ho
    have hg' := (by simp [hg] : a.tmps.getD t undef = ptr b o)
    have ha : (asAddr (ptr b o)).run P w = .ok ⟨b, o, none⟩ w := rfl
    simp only [Sem.run_bind, hg', ha, Sem.run_pure, Result.andThen_ok, hl, ih]

theorem Hands.ofJ {rs : List ResultVar} {vs : List Value} {v : Value} {J H : Hp} (hr : fn.results = rs.toArray) (h : ResIs P e M A rs vs) (hv : resVal vs = v) (hp : A.flatten.Perm (J ++ H)) (hR : R v M H) : Hands P N X fn R e M A := by
  refine ⟨v, fun a w hf hs => ?_, J, H, hp, hR⟩
  have hrun := h.run hf hs.mem hs.own
  unfold results
  rw [hr, List.mapM_toArray]
  simp only [Sem.run_bind, Sem.run_map, Sem.run_pure]
  erw [hrun]
  simp only [Result.andThen_ok, ← hv]
  congr 1
  match vs with
  | [] => rfl
  | [v] => rfl
  | _ :: _ :: _ => rfl
theorem Hands.of {rs : List ResultVar} {vs : List Value} {v : Value} {H : Hp} (hr : fn.results = rs.toArray) (h : ResIs P e M A rs vs) (hv : resVal vs = v) (hp : A.flatten.Perm H) (hR : R v M H) : Hands P N X fn R e M A := Hands.ofJ (J := []) hr h hv hp hR
/-- What the caller gets is H; all else that is owned is forgotten. -/
theorem Hands.ofT {rs : List ResultVar} {vs : List Value} {v : Value} (H : Hp) {A' : Segs} [t : Take A H A'] (hr : fn.results = rs.toArray) (h : ResIs P e M A rs vs) (hv : resVal vs = v) (hR : R v M H) : Hands P N X fn R e M A := Hands.ofJ (J := A'.flatten) hr h hv (t.perm.trans List.perm_append_comm) hR
theorem Hands.one {t : Nat} {v : Value} {H : Hp} (hr : fn.results = #[.tmp t]) (h : e.get t = some v) (hp : A.flatten.Perm H) (hR : R v M H) : Hands P N X fn R e M A := Hands.of (rs := [.tmp t]) hr (.tmp h .nil) rfl hp hR
theorem Hands.zero {H : Hp} (hr : fn.results = #[]) (hp : A.flatten.Perm H) (hR : R (.tuple #[]) M H) : Hands P N X fn R e M A := Hands.of (rs := []) hr .nil rfl hp hR
theorem Hands.two {t u : Nat} {v1 v2 : Value} {H : Hp} (hr : fn.results = #[.tmp t, .tmp u]) (h1 : e.get t = some v1) (h2 : e.get u = some v2) (hp : A.flatten.Perm H) (hR : R (.tuple #[v1, v2]) M H) : Hands P N X fn R e M A := Hands.of (rs := [.tmp t, .tmp u]) hr (.tmp h1 (.tmp h2 .nil)) rfl hp hR
theorem Hands.three {t u s : Nat} {v1 v2 v3 : Value} {H : Hp} (hr : fn.results = #[.tmp t, .tmp u, .tmp s]) (h1 : e.get t = some v1) (h2 : e.get u = some v2) (h3 : e.get s = some v3) (hp : A.flatten.Perm H) (hR : R (.tuple #[v1, v2, v3]) M H) : Hands P N X fn R e M A := Hands.of (rs := [.tmp t, .tmp u, .tmp s]) hr (.tmp h1 (.tmp h2 (.tmp h3 .nil))) rfl hp hR
theorem Hands.cell {t ty b o : Nat} {v : Value} {H : Hp} (hr : fn.results = #[.cell t ty]) (h : e.get t = some (ptr b o)) (hb : BoxIs P M A ty b o v) (hp : A.flatten.Perm H) (hR : R v M H) : Hands P N X fn R e M A := Hands.of (rs := [.cell t ty]) hr (.cell h hb .nil) rfl hp hR
theorem Hands.cell2 {t ty b o u : Nat} {v v2 : Value} {H : Hp} (hr : fn.results = #[.cell t ty, .tmp u]) (h : e.get t = some (ptr b o)) (hb : BoxIs P M A ty b o v) (h2 : e.get u = some v2) (hp : A.flatten.Perm H) (hR : R (.tuple #[v, v2]) M H) : Hands P N X fn R e M A := Hands.of (rs := [.cell t ty, .tmp u]) hr (.cell h hb (.tmp h2 .nil)) rfl hp hR
theorem Hands.oneT {t : Nat} {v : Value} (H : Hp) {A' : Segs} [tk : Take A H A'] (hr : fn.results = #[.tmp t]) (h : e.get t = some v) (hR : R v M H) : Hands P N X fn R e M A := Hands.ofT H (rs := [.tmp t]) hr (.tmp h .nil) rfl hR
theorem Hands.zeroT (H : Hp) {A' : Segs} [tk : Take A H A'] (hr : fn.results = #[]) (hR : R (.tuple #[]) M H) : Hands P N X fn R e M A := Hands.ofT H (rs := []) hr .nil rfl hR
theorem Hands.twoT {t u : Nat} {v1 v2 : Value} (H : Hp) {A' : Segs} [tk : Take A H A'] (hr : fn.results = #[.tmp t, .tmp u]) (h1 : e.get t = some v1) (h2 : e.get u = some v2) (hR : R (.tuple #[v1, v2]) M H) : Hands P N X fn R e M A := Hands.ofT H (rs := [.tmp t, .tmp u]) hr (.tmp h1 (.tmp h2 .nil)) rfl hR
theorem Hands.cellT {t ty b o : Nat} {v : Value} (H : Hp) {A' : Segs} [tk : Take A H A'] (hr : fn.results = #[.cell t ty]) (h : e.get t = some (ptr b o)) (hb : BoxIs P M A ty b o v) (hR : R v M H) : Hands P N X fn R e M A := Hands.ofT H (rs := [.cell t ty]) hr (.cell h hb .nil) rfl hR
theorem Hands.cell2T {t ty b o u : Nat} {v v2 : Value} (H : Hp) {A' : Segs} [tk : Take A H A'] (hr : fn.results = #[.cell t ty, .tmp u]) (h : e.get t = some (ptr b o)) (hb : BoxIs P M A ty b o v) (h2 : e.get u = some v2) (hR : R (.tuple #[v, v2]) M H) : Hands P N X fn R e M A := Hands.ofT H (rs := [.cell t ty, .tmp u]) hr (.cell h hb (.tmp h2 .nil)) rfl hR
end
theorem Fnv.of {P : Program} {f : FuncId} {args : List Value} {M : Mem} {v : Value} (h : Fn P f args M [] fun u _ H' => H' = [] ∧ u = v) : Fnv P f args M v := h
theorem Fn0.of {P : Program} {f : FuncId} {args : List Value} {M : Mem} {R : Value → Mem → Prop} (h : Fn P f args M [] fun u M' H' => H' = [] ∧ R u M') : Fn0 P f args M R := h
end Go.Proofs.Ytdgdigliepncpaa
