/-
  This text proves the rule for a statement whose order is open: what only reads is taken first, whatever else may come up is gone through.
  Conditions: none; nothing here names the program.
-/
import Derived.Test.YtdgdigliepncpaaApp
namespace Go.Proofs.Ytdgdigliepncpaa
open Go
attribute [local semireducible] C L Qt BinRun Fn Fn0 Hands

section
variable {P : Program} {ops : Array Oper} {Q : Exit → Act → World → Prop} {md : Region.Mode} {S : Array Bool → World → Prop}

/-- Whatever order is picked from here on, and behind every operation S holds, of what has come up. -/
def wpAnyS (P : Program) (md : Region.Mode) (ops : Array Oper) (Q : Exit → Act → World → Prop) (S : Array Bool → World → Prop) : Nat → Array Bool → Act → World → Prop
  | 0, listed, a, w => Region.ready md ops listed = [] ∧ Q .normal a w
  | fuel + 1, listed, a, w =>
    (Region.ready md ops listed = [] → Q .normal a w) ∧
    ∀ i ∈ Region.ready md ops listed, wpOp P ops Q i (fun a' w' => S (listed.setIfInBounds i true) w' ∧ wpAnyS P md ops Q S fuel (listed.setIfInBounds i true) a' w') a w

theorem wpAny_of_S : ∀ (fuel : Nat) (listed : Array Bool) (a : Act) (w : World), wpAnyS P md ops Q S fuel listed a w → wpAny P md ops Q fuel listed a w
  | 0, _, _, _, h => h
  | fuel + 1, _, _, _, h => ⟨h.1, fun i hi => wpOp_mono (fun a' w' h' => wpAny_of_S fuel _ a' w' h'.2) (h.2 i hi)⟩

/-- What has come up is closed under what it waits for. -/
def Closed (md : Region.Mode) (ops : Array Oper) (listed : Array Bool) : Prop :=
  ∀ k o, ops[k]? = some o → listed.getD k false = true → ∀ e ∈ o.after, Region.binds md e = true → listed.getD e.on false = true
theorem getD_set_same {listed : Array Bool} {j : Nat} (h : listed.getD j true = false) : (listed.setIfInBounds j true).getD j false = true := by
  rcases Nat.lt_or_ge j listed.size with h' | h'
  · simp [h']
  · simp [Array.getElem?_eq_none h'] at h
theorem getD_set_mono {listed : Array Bool} {j k : Nat} (h : listed.getD k false = true) : (listed.setIfInBounds j true).getD k false = true := by
  by_cases e : j = k
  · subst e
    rcases Nat.lt_or_ge j listed.size with h' | h'
    · simp [h']
    · simp [Array.getElem?_eq_none h'] at h
  · rw [getD_set_ne false e]; exact h
theorem Closed.next {listed : Array Bool} (h : Closed md ops listed) {j : Nat} (hj : j ∈ Region.ready md ops listed) : Closed md ops (listed.setIfInBounds j true) := by
  obtain ⟨hjun, oj, hoj, hall⟩ := mem_ready.1 hj
  intro k o hk hl e he hb
  by_cases hkj : j = k
  · subst hkj
    rw [hoj] at hk; cases hk
    exact getD_set_mono (hall e he hb)
  · rw [getD_set_ne false hkj] at hl
    exact getD_set_mono (h k o hk hl e he hb)
/-- The condition of one operation: it is not yet listed, and S holds. -/
def Wait (md : Region.Mode) (ops : Array Oper) (S : Array Bool → World → Prop) (i : Nat) : World → Prop := fun w => ∃ listed : Array Bool, listed.getD i true = false ∧ Closed md ops listed ∧ S listed w

theorem wpAnyS_first {i : Nat} {oi : Oper} {v : Value} (hi : ops[i]? = some oi) (hsel : ∀ (j : Nat) (o : Oper) cs b, ops[j]? = some o → o.op ≠ .select cs b)
    (hQ : ∀ c a w, Q (.panic c) (a.put oi.dst v) w → Q (.panic c) a w)
    (hmono : ∀ (listed : Array Bool) w, listed.getD i true = false → S (listed.setIfInBounds i true) w → S listed w) (hmono' : ∀ (listed : Array Bool) w, listed.getD i true = false → S listed w → S (listed.setIfInBounds i true) w) :
    ∀ (fuel : Nat) (listed : Array Bool) (a : Act) (w : World), Closed md ops listed →
      (∀ j oj, ops[j]? = some oj → j ≠ i → listed.getD j true = false → (∀ e ∈ oj.after, Region.binds md e = true → e.on ≠ i) → oi.apart ops oj = true) →
      i ∈ Region.ready md ops listed → YieldsIf P ops (Wait md ops S i) oi v a → S listed w →
      wpAnyS P md ops Q S fuel (listed.setIfInBounds i true) (a.put oi.dst v) w → wpAnyS P md ops Q S (fuel + 1) listed a w := by
  intro fuel
  induction fuel with
  | zero =>
    intro listed a w hcl _ hr hy hS H
    have hun := (mem_ready.1 hr).1
    refine ⟨fun h => (by rw [h] at hr; cases hr), fun j hj => ?_⟩
    by_cases hji : j = i
    · subst hji; exact hy.wpOp hi ⟨listed, hun, hcl, hS⟩ ⟨hmono' _ _ hun hS, H⟩
    · have := ready_mono hj hji
      rw [H.1] at this
      cases this
  | succ fuel ih =>
    intro listed a w hcl hfree hr hy hS H
    have hun := (mem_ready.1 hr).1
    refine ⟨fun h => (by rw [h] at hr; cases hr), fun j hj => ?_⟩
    by_cases hji : j = i
    · subst hji; exact hy.wpOp hi ⟨listed, hun, hcl, hS⟩ ⟨hmono' _ _ hun hS, H⟩
    · have h1 := H.2 j (ready_mono hj hji)
      obtain ⟨hjun, oj, hoj, hall⟩ := mem_ready.1 hj
      have hnot : ∀ e ∈ oj.after, Region.binds md e = true → e.on ≠ i := fun e he hb heq => by
        have h1 := hall e he hb
        rw [heq] at h1
        rcases Nat.lt_or_ge i listed.size with h' | h'
        · simp [h'] at hun h1; rw [hun] at h1; cases h1
        · simp [Array.getElem?_eq_none h'] at h1
      have h2 := wpOp_putIf (S := Wait md ops S i) hoj (hfree j oj hoj hji hjun hnot) (fun cs b => hsel i oi cs b hi) (fun cs b => hsel j oj cs b hoj) hQ hy h1
      have hfree' : ∀ k ok, ops[k]? = some ok → k ≠ i → (listed.setIfInBounds j true).getD k true = false →
          (∀ e ∈ ok.after, Region.binds md e = true → e.on ≠ i) → oi.apart ops ok = true := fun k ok hk hki hun hno => by
        refine hfree k ok hk hki ?_ hno
        by_cases hjk : j = k
        · subst hjk; exact hjun
        · rw [getD_set_ne true hjk] at hun; exact hun
      have hun' : (listed.setIfInBounds j true).getD i true = false := by rw [getD_set_ne true hji]; exact hun
      refine wpOp_mono (fun a' w' h3 => ?_) h2
      obtain ⟨h4, h5, h6⟩ := h3
      have hS' : S (listed.setIfInBounds j true) w' := hmono _ _ hun' (by rw [Array.setIfInBounds_comm _ _ hji]; exact h5)
      exact ⟨hS', ih (listed.setIfInBounds j true) a' w' (hcl.next hj) hfree' (ready_mono hr (Ne.symm hji)) h4 hS' (by rw [Array.setIfInBounds_comm _ _ hji]; exact h6)⟩
end

/-- An operation's post hangs on the exits alone that it takes: neither of two says anything of a panic. -/
theorem wp_post {P : Program} {N : Nat} {X : Cx} {K1 K2 : Kont} {o : Oper} {a : Act} {w : World} {next : Act → World → Prop} (h : o.wp P a w next (normOnly N X K1)) : o.wp P a w next (normOnly N X K2) := by
  unfold Oper.wp at *
  generalize (execOp a.eval o).run P w = r at *
  cases r with
  | ok n w' =>
    cases n <;> simp only [Oper.upon] at h ⊢ <;> first
      | exact h
      | exact Calls.mono h (fun ex w'' he => by cases ex <;> first | exact he | exact he.elim | (obtain ⟨_, _, hf⟩ := he; exact hf.elim))
  | halt x w' => cases x <;> simp only [Oper.upon] at h ⊢ <;> exact h.elim

/-! ## The judgement -/

/-- What is to hold as long as none of Fs has come up: the memory MB and the rows AB are there. -/
def SF (Fs : List Nat) (MB : Mem) (AB : Segs) : Array Bool → World → Prop := fun listed w =>
  (Fs.all fun f => !listed.getD f false) = true → (∀ b o, MB b = some o → w.heap[b]? = some o) ∧ (∀ b o, (b, o) ∈ AB.flatten → w.heap[b]? = some o)

def LA (P : Program) (ops : Array Oper) (Fs : List Nat) (MB : Mem) (AB : Segs) (N : Nat) (X : Cx) (K : Kont) (fuel : Nat) (listed : Array Bool) : Kont := fun e M A => ∀ a w, Fr N e a → St X M A w → SF Fs MB AB listed w → Closed .any ops listed → wpAnyS P .any ops (normOnly N X K) (SF Fs MB AB) fuel listed a w

section
variable {P : Program} {N : Nat} {X : Cx} {Q : Post} {K : Kont} {e : Env} {M : Mem} {A : Segs}

theorem SF.set {Fs : List Nat} {MB : Mem} {AB : Segs} {listed : Array Bool} {i : Nat} {w : World} (hi : Fs.contains i = false) : SF Fs MB AB (listed.setIfInBounds i true) w ↔ SF Fs MB AB listed w := by
  have : (Fs.all fun f => !(listed.setIfInBounds i true).getD f false) = (Fs.all fun f => !listed.getD f false) := by
    rw [Bool.eq_iff_iff]
    simp only [List.all_eq_true]
    have hne : ∀ f ∈ Fs, i ≠ f := fun f hf e => by subst e; simp at hi; exact hi hf
    constructor <;> intro h f hf
    · have := h f hf; rw [getD_set_ne false (hne f hf)] at this; exact this
    · rw [getD_set_ne false (hne f hf)]; exact h f hf
  unfold SF; rw [this]

/-- Does f wait for i, in at most so many steps? -/
def reaches (ops : Array Oper) : Nat → Nat → Nat → Bool
  | 0, _, _ => false
  | k + 1, f, i => match ops[f]? with
    | some o => o.after.any fun e => Region.binds .any e && (e.on == i || reaches ops k e.on i)
    | none => false
theorem Closed.reach {ops : Array Oper} {listed : Array Bool} (h : Closed .any ops listed) {i : Nat} : ∀ (k f : Nat), reaches ops k f i = true → listed.getD f false = true → listed.getD i false = true := by
  intro k
  induction k with
  | zero => intro f hr; cases hr
  | succ k ih =>
    intro f hr hl
    simp only [reaches] at hr
    cases ho : ops[f]? with
    | none => rw [ho] at hr; cases hr
    | some o =>
      rw [ho] at hr
      simp only [Array.any_eq_true'] at hr
      obtain ⟨ed, hed, hcond⟩ := hr
      simp only [Bool.and_eq_true, Bool.or_eq_true, beq_iff_eq] at hcond
      have hl2 := h f o ho hl ed hed hcond.1
      rcases hcond.2 with h2 | h2
      · rw [← h2]; exact hl2
      · exact ih _ h2 hl2
/-- Do all of Fs wait for i? -/
def waited (ops : Array Oper) (Fs : List Nat) (i : Nat) : Bool :=
  !Fs.contains i && Fs.all fun f => reaches ops 4 f i

/-- THE BEGINNING. Fs: operations at the end, behind which what is read need not hold. -/
theorem C.draw {id n : Nat} {ops : Array Oper} (Fs : List Nat) (AB : Segs) (K : Kont) (hm : P.follows .mixedOrders = true) (hops : ops.size = n) (hab : ∀ s ∈ AB, s ∈ A)
    (h : LA P ops Fs M AB N X K n (Array.replicate n false) e M A) (hk : ∀ e M A, K e M A → Q.norm e M A) : C P N X (.region id ops true) Q e M A := fun a w hf hs => by
  subst hops
  have hst : St X M A w.drew := hs.drew
  have hS : SF Fs M AB (Array.replicate ops.size false) w.drew := fun _ => ⟨hst.mem, fun b o hbo => by
    obtain ⟨s, hs1, hs2⟩ := List.mem_flatten.1 hbo
    exact hst.own b o (List.mem_flatten.2 ⟨s, hab s hs1, hs2⟩)⟩
  have hcl : Closed .any ops (Array.replicate ops.size false) := fun k o _ hl => by
    simp [Array.getElem?_replicate] at hl
    split at hl <;> simp at hl
  refine wp_mono (wp_region_any hm (wpAny_of_S _ _ _ _ (h a w.drew hf hst hS hcl))) fun ex a' w' hq => ?_
  cases ex with
  | normal => obtain ⟨e', M', A', hf', hs', hk'⟩ := hq; exact ⟨e', M', A', hf', hs', hk _ _ _ hk'⟩
  | _ => exact hq.elim

theorem LA.done {ops : Array Oper} {Fs : List Nat} {MB : Mem} {AB : Segs} {listed : Array Bool} {fuel : Nat} (hr : Region.ready .any ops listed = []) (h : K e M A) : LA P ops Fs MB AB N X K fuel listed e M A := fun a w hf hs _ _ => by
  cases fuel with
  | zero => exact ⟨hr, ⟨e, M, A, hf, hs, h⟩⟩
  | succ n => exact ⟨fun _ => ⟨e, M, A, hf, hs, h⟩, by rw [hr]; simp⟩

/-- What only reads is taken first. -/
theorem LA.take {ops : Array Oper} {Fs : List Nat} {MB : Mem} {AB : Segs} {listed : Array Bool} {fuel d : Nat} (i : Nat) {oi : Oper} {v : Value} (hi : ops[i]? = some oi) (hs : Region.noSelect ops = true) (hfree : Region.free .any ops listed i = true) (hr : (Region.ready .any ops listed).contains i = true) (hw : waited ops Fs i = true)
    (hq : Qt P N e MB AB oi v) (hg : e.want ops oi.guard = some true) (hd : oi.dst = some d) (hn : Nat.blt d N = true)
    (h : LA P ops Fs MB AB N X K fuel (listed.setIfInBounds i true) ((d, v) :: e) M A) : LA P ops Fs MB AB N X K (fuel + 1) listed e M A := fun a w hf hst hS hcl => by
  simp only [waited, Bool.and_eq_true, Bool.not_eq_true', List.all_eq_true] at hw
  have hr' : i ∈ Region.ready .any ops listed := by simpa using hr
  refine wpAnyS_first (v := v) hi (Region.noSelect_spec hs) (fun c a w h => h.elim) (fun l w _ => (SF.set hw.1).1) (fun l w _ => (SF.set hw.1).2) fuel listed a w hcl (Region.free_spec hi hfree) hr' (.inl ⟨want_wanted hf hg, ?_⟩) hS ?_
  · intro w' ⟨l, hun, hcl', hS'⟩
    have hall : (Fs.all fun f => !l.getD f false) = true := by
      rw [List.all_eq_true]
      intro f hfm
      have hwf := hw.2 f hfm
      cases hlf : l.getD f false with
      | false => rfl
      | true =>
        have := hcl'.reach _ _ hwf hlf
        rcases Nat.lt_or_ge i l.size with h' | h'
        · simp [h'] at hun this; rw [hun] at this; cases this
        · simp [Array.getElem?_eq_none h'] at this
    obtain ⟨h1, h2⟩ := hS' hall
    exact hq a w' hf h1 h2
  · rw [hd]
    exact h _ w (hf.put d v hn) hst ((SF.set hw.1).2 hS) (hcl.next hr')
theorem LA.takeOff {ops : Array Oper} {Fs : List Nat} {MB : Mem} {AB : Segs} {listed : Array Bool} {fuel d : Nat} (i : Nat) {oi : Oper} (hi : ops[i]? = some oi) (hs : Region.noSelect ops = true) (hfree : Region.free .any ops listed i = true) (hr : (Region.ready .any ops listed).contains i = true) (hw : Fs.contains i = false)
    (hg : e.want ops oi.guard = some false) (hd : oi.dst = some d) (hn : Nat.blt d N = true)
    (h : LA P ops Fs MB AB N X K fuel (listed.setIfInBounds i true) ((d, undef) :: e) M A) : LA P ops Fs MB AB N X K (fuel + 1) listed e M A := fun a w hf hst hS hcl => by
  have hr' : i ∈ Region.ready .any ops listed := by simpa using hr
  refine wpAnyS_first (v := undef) hi (Region.noSelect_spec hs) (fun c a w h => h.elim) (fun l w _ => (SF.set hw).1) (fun l w _ => (SF.set hw).2) fuel listed a w hcl (Region.free_spec hi hfree) hr' (.inr ⟨want_wanted hf hg, rfl⟩) hS ?_
  rw [hd]
  exact h _ w (hf.put d _ hn) hst ((SF.set hw).2 hS) (hcl.next hr')

/-- Whichever comes up. -/
def LAs (P : Program) (ops : Array Oper) (Fs : List Nat) (MB : Mem) (AB : Segs) (N : Nat) (X : Cx) (K : Kont) (fuel : Nat) (listed : Array Bool) (e : Env) (M : Mem) (A : Segs) : List Nat → Prop
  | [] => True
  | i :: rs => (∃ oi, ops[i]? = some oi ∧ L P N X ops [oi] (fun e' M' A' =>
      ((Fs.all fun f => !(listed.setIfInBounds i true).getD f false) = true → (∀ b o, MB b = some o → M' b = some o) ∧ (∀ s ∈ AB, s ∈ A')) ∧
      LA P ops Fs MB AB N X K fuel (listed.setIfInBounds i true) e' M' A') e M A) ∧ LAs P ops Fs MB AB N X K fuel listed e M A rs
theorem LA.all {ops : Array Oper} {Fs : List Nat} {MB : Mem} {AB : Segs} {listed : Array Bool} {fuel : Nat} (rs : List Nat) (hr : Region.ready .any ops listed = rs) (hne : rs ≠ []) (h : LAs P ops Fs MB AB N X K fuel listed e M A rs) : LA P ops Fs MB AB N X K (fuel + 1) listed e M A := fun a w hf hst hS hcl => by
  refine ⟨fun h0 => absurd (hr ▸ h0) hne, fun i hi => ?_⟩
  have key : ∀ rs, LAs P ops Fs MB AB N X K fuel listed e M A rs → i ∈ rs → wpOp P ops (normOnly N X K) i (fun a' w' => SF Fs MB AB (listed.setIfInBounds i true) w' ∧ wpAnyS P .any ops (normOnly N X K) (SF Fs MB AB) fuel (listed.setIfInBounds i true) a' w') a w := by
    intro rs
    induction rs with
    | nil => intro _ h; cases h
    | cons j rs ih =>
      intro hl hm
      rcases List.mem_cons.1 hm with rfl | hm
      · obtain ⟨⟨oi, hoi, hL⟩, _⟩ := hl
        have h1 := hL a w hf hst
        unfold wpList at h1
        unfold wpOp
        rw [hoi]
        show if Region.wanted oi (yielded ops a.tmps) = true then _ else _
        have next : ∀ a' w', wpList P ops (normOnly N X (fun e' M' A' =>
            ((Fs.all fun f => !(listed.setIfInBounds i true).getD f false) = true → (∀ b o, MB b = some o → M' b = some o) ∧ (∀ s ∈ AB, s ∈ A')) ∧
            LA P ops Fs MB AB N X K fuel (listed.setIfInBounds i true) e' M' A')) [] a' w' → SF Fs MB AB (listed.setIfInBounds i true) w' ∧ wpAnyS P .any ops (normOnly N X K) (SF Fs MB AB) fuel (listed.setIfInBounds i true) a' w' := by
          intro a' w' hn
          obtain ⟨e', M', A', hf', hst', hb, hla⟩ := hn
          have hS' : SF Fs MB AB (listed.setIfInBounds i true) w' := fun hp => by
            obtain ⟨h1, h2⟩ := hb hp
            exact ⟨fun b o hbo => hst'.mem b o (h1 b o hbo), fun b o hbo => by
              obtain ⟨s, hs1, hs2⟩ := List.mem_flatten.1 hbo
              exact hst'.own b o (List.mem_flatten.2 ⟨s, h2 s hs1, hs2⟩)⟩
          exact ⟨hS', hla a' w' hf' hst' hS' (hcl.next hi)⟩
        by_cases hw : Region.wanted oi (yielded ops a.tmps) = true
        · rw [if_pos hw] at h1 ⊢
          rcases h1 with h1 | ⟨_, a0, w0, h1⟩
          · refine .inl ?_
            have h2 := Oper.wp_mono (K' := fun a' w' => SF Fs MB AB (listed.setIfInBounds i true) w' ∧ wpAnyS P .any ops (normOnly N X K) (SF Fs MB AB) fuel (listed.setIfInBounds i true) a' w') next h1
            exact wp_post h2
          · exact h1.elim
        · rw [if_neg hw] at h1 ⊢
          exact next _ _ h1
      · exact ih hl.2 hm
  exact key rs h (hr ▸ hi)
end
attribute [irreducible] LA
end Go.Proofs.Ytdgdigliepncpaa
