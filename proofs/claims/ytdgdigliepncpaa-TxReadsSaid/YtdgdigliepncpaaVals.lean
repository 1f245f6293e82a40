/-
  This text names the program's plain structs, their cells, and how two of them are compared.
  Conditions: none.
-/
import Derived.Test.YtdgdigliepncpaaMap
import Derived.Test.YtdgdigliepncpaaSl
import Derived.Test.YtdgdigliepncpaaTypes
namespace Go.Proofs.Ytdgdigliepncpaa
open Go

structure Rf where
  tx : Sm
  at_ : Int
deriving DecidableEq
abbrev rfC (r : Rf) : List Value := sumC r.tx ++ int64 r.at_ :: []
structure Chn where
  id : Int
  client : Int
  peer : Int
  fund : Rf
  cap : Int
  wait : Int
  window : Int
deriving DecidableEq
abbrev chnC (c : Chn) : List Value := int64 c.id :: int64 c.client :: int64 c.peer :: (sumC c.fund.tx ++ int64 c.fund.at_ :: int64 c.cap :: int64 c.wait :: int64 c.window :: [])
structure Sgn where
  key : Int
  of : Sm
deriving DecidableEq
abbrev sgnC (s : Sgn) : List Value := int64 s.key :: sumC s.of
structure Rcp where
  tower : Int
  channel : Int
  state : Int
  hint : Sm
  blob : Sm
deriving DecidableEq
abbrev rcpC (r : Rcp) : List Value := int64 r.tower :: int64 r.channel :: int64 r.state :: (sumC r.hint ++ sumC r.blob)
structure Stt where
  n : Int
  client : Int
  peer : Int
  h0 : Sm
  h1 : Sm
deriving DecidableEq
abbrev sttC (s : Stt) : List Value := int64 s.n :: int64 s.client :: int64 s.peer :: (sumC s.h0 ++ sumC s.h1)
structure Ent where
  tower : Int
  root : Sm
  fails : Int
deriving DecidableEq
abbrev entC (s : Ent) : List Value := int64 s.tower :: (sumC s.root ++ int64 s.fails :: [])
structure Tw where
  root : Sm
  locked : Int
  asked : Int
  at_ : Int
deriving DecidableEq
abbrev twC (t : Tw) : List Value := sumC t.root ++ int64 t.locked :: int64 t.asked :: int64 t.at_ :: []
structure Hd where
  channel : Chn
  amount : Int
  proved : Bool
  at_ : Int
  commit : Sm
deriving DecidableEq
abbrev hdC (h : Hd) : List Value := int64 h.channel.id :: int64 h.channel.client :: int64 h.channel.peer :: (sumC h.channel.fund.tx ++ int64 h.channel.fund.at_ :: int64 h.channel.cap :: int64 h.channel.wait :: int64 h.channel.window :: int64 h.amount :: .bool h.proved :: int64 h.at_ :: sumC h.commit)
def rf0 : Rf := ⟨zsum, 0⟩
def chn0 : Chn := ⟨0, 0, 0, rf0, 0, 0, 0⟩
def tw0 : Tw := ⟨zsum, 0, 0, 0⟩
def hd0 : Hd := ⟨chn0, 0, false, 0, zsum⟩

abbrev u8s (n : Nat) : List Lk := List.replicate n (.int .u8)
theorem Fits.sumA (s : Sm) {ks : List Lk} {vs : List Value} (h : Fits ks vs) : Fits (u8s 32 ++ ks) (sumC s ++ vs) := (Fits.sum s).append h
instance : Lvs Try.prog 32 (u8s 32) := ⟨by kernel_rfl, by kernel_rfl, by kernel_rfl⟩
instance : Lvs Try.prog 231 [.int .i64, .int .i64] := ⟨by kernel_rfl, by kernel_rfl, by kernel_rfl⟩
instance : Lvs Try.prog 34 (u8s 32 ++ [.int .i64]) := ⟨by kernel_rfl, by kernel_rfl, by kernel_rfl⟩
instance : Lvs Try.prog 36 (.int .i64 :: .int .i64 :: .int .i64 :: (u8s 32 ++ [.int .i64, .int .i64, .int .i64, .int .i64])) := ⟨by kernel_rfl, by kernel_rfl, by kernel_rfl⟩
instance : Lvs Try.prog 75 (.int .i64 :: u8s 32) := ⟨by kernel_rfl, by kernel_rfl, by kernel_rfl⟩
instance : Lvs Try.prog 100 (.int .i64 :: .int .i64 :: .int .i64 :: (u8s 32 ++ u8s 32)) := ⟨by kernel_rfl, by kernel_rfl, by kernel_rfl⟩
instance : Lvs Try.prog 118 (.int .i64 :: .int .i64 :: .int .i64 :: (u8s 32 ++ u8s 32)) := ⟨by kernel_rfl, by kernel_rfl, by kernel_rfl⟩
instance : Lvs Try.prog 148 (.int .i64 :: (u8s 32 ++ [.int .i64])) := ⟨by kernel_rfl, by kernel_rfl, by kernel_rfl⟩
instance : Zv Try.prog 228 (aggv (twC tw0)) := ⟨by kernel_rfl⟩
instance : Zv Try.prog 38 (aggv (hdC hd0)) := ⟨by kernel_rfl⟩
instance : Zv Try.prog 32 (aggv (sumC zsum)) := ⟨by kernel_rfl⟩

theorem fits_rf (r : Rf) : Fits (u8s 32 ++ [.int .i64]) (rfC r) := Fits.sumA _ (Fits.i .nil)
theorem fits_chn (c : Chn) : Fits (.int .i64 :: .int .i64 :: .int .i64 :: (u8s 32 ++ [.int .i64, .int .i64, .int .i64, .int .i64])) (chnC c) := Fits.i (Fits.i (Fits.i (Fits.sumA _ (Fits.i (Fits.i (Fits.i (Fits.i .nil)))))))
theorem fits_sgn (s : Sgn) : Fits (.int .i64 :: u8s 32) (sgnC s) := Fits.i (Fits.sum _)
theorem fits_rcp (s : Rcp) : Fits (.int .i64 :: .int .i64 :: .int .i64 :: (u8s 32 ++ u8s 32)) (rcpC s) := Fits.i (Fits.i (Fits.i (Fits.sumA _ (Fits.sum _))))
theorem fits_stt (s : Stt) : Fits (.int .i64 :: .int .i64 :: .int .i64 :: (u8s 32 ++ u8s 32)) (sttC s) := Fits.i (Fits.i (Fits.i (Fits.sumA _ (Fits.sum _))))
theorem fits_ent (s : Ent) : Fits (.int .i64 :: (u8s 32 ++ [.int .i64])) (entC s) := Fits.i (Fits.sumA _ (Fits.i .nil))
theorem sum_app {a b : Sm} {x y : List Value} : sumC a ++ x = sumC b ++ y ↔ a = b ∧ x = y := by
  constructor
  · intro h
    obtain ⟨h1, h2⟩ := List.append_inj h (by simp)
    exact ⟨sumC_inj.1 h1, h2⟩
  · rintro ⟨rfl, rfl⟩; rfl
theorem int_cons {a b : Int} {x y : List Value} : int64 a :: x = int64 b :: y ↔ a = b ∧ x = y := by simp
theorem rfC_inj {a b : Rf} : rfC a = rfC b ↔ a = b := by
  simp only [rfC, sum_app, int_cons]; cases a; cases b; simp
theorem chnC_inj {a b : Chn} : chnC a = chnC b ↔ a = b := by
  simp only [chnC, sum_app, int_cons]; cases a with | mk _ _ _ f _ _ _ => cases b with | mk _ _ _ g _ _ _ => cases f; cases g; simp [and_assoc]
theorem sgnC_inj {a b : Sgn} : sgnC a = sgnC b ↔ a = b := by
  simp only [sgnC, sumC_inj, int_cons]; cases a; cases b; simp
theorem rcpC_inj {a b : Rcp} : rcpC a = rcpC b ↔ a = b := by
  simp only [rcpC, sumC_inj, sum_app, int_cons]; cases a; cases b; simp
theorem sttC_inj {a b : Stt} : sttC a = sttC b ↔ a = b := by
  simp only [sttC, sumC_inj, sum_app, int_cons]; cases a; cases b; simp
theorem entC_inj {a b : Ent} : entC a = entC b ↔ a = b := by
  simp only [entC, sum_app, int_cons]; cases a; cases b; simp

section
variable {x y : Operand}
theorem BinRun.sumEq {a b : Sm} : BinRun Try.prog .eql 32 x y (aggv (sumC a)) (aggv (sumC b)) (.bool (decide (a = b))) := BinRun.aeq (Fits.sum _) (Fits.sum _) (by simp [sumC_inj])
theorem BinRun.sumNe {a b : Sm} : BinRun Try.prog .neq 32 x y (aggv (sumC a)) (aggv (sumC b)) (.bool (decide (a ≠ b))) := BinRun.ane (Fits.sum _) (Fits.sum _) (by simp [sumC_inj])
theorem BinRun.rfEq {a b : Rf} : BinRun Try.prog .eql 34 x y (aggv (rfC a)) (aggv (rfC b)) (.bool (decide (a = b))) := BinRun.aeq (fits_rf _) (fits_rf _) (by rw [rfC_inj]; simp)
theorem BinRun.rfNe {a b : Rf} : BinRun Try.prog .neq 34 x y (aggv (rfC a)) (aggv (rfC b)) (.bool (decide (a ≠ b))) := BinRun.ane (fits_rf _) (fits_rf _) (by rw [rfC_inj]; simp)
theorem BinRun.chnEq {a b : Chn} : BinRun Try.prog .eql 36 x y (aggv (chnC a)) (aggv (chnC b)) (.bool (decide (a = b))) := BinRun.aeq (fits_chn _) (fits_chn _) (by rw [chnC_inj]; simp)
theorem BinRun.chnNe {a b : Chn} : BinRun Try.prog .neq 36 x y (aggv (chnC a)) (aggv (chnC b)) (.bool (decide (a ≠ b))) := BinRun.ane (fits_chn _) (fits_chn _) (by rw [chnC_inj]; simp)
theorem BinRun.sgnEq {a b : Sgn} : BinRun Try.prog .eql 75 x y (aggv (sgnC a)) (aggv (sgnC b)) (.bool (decide (a = b))) := BinRun.aeq (fits_sgn _) (fits_sgn _) (by rw [sgnC_inj]; simp)
theorem BinRun.sgnNe {a b : Sgn} : BinRun Try.prog .neq 75 x y (aggv (sgnC a)) (aggv (sgnC b)) (.bool (decide (a ≠ b))) := BinRun.ane (fits_sgn _) (fits_sgn _) (by rw [sgnC_inj]; simp)
theorem BinRun.rcpEq {a b : Rcp} : BinRun Try.prog .eql 100 x y (aggv (rcpC a)) (aggv (rcpC b)) (.bool (decide (a = b))) := BinRun.aeq (fits_rcp _) (fits_rcp _) (by rw [rcpC_inj]; simp)
theorem BinRun.rcpNe {a b : Rcp} : BinRun Try.prog .neq 100 x y (aggv (rcpC a)) (aggv (rcpC b)) (.bool (decide (a ≠ b))) := BinRun.ane (fits_rcp _) (fits_rcp _) (by rw [rcpC_inj]; simp)
theorem BinRun.sttEq {a b : Stt} : BinRun Try.prog .eql 118 x y (aggv (sttC a)) (aggv (sttC b)) (.bool (decide (a = b))) := BinRun.aeq (fits_stt _) (fits_stt _) (by rw [sttC_inj]; simp)
theorem BinRun.sttNe {a b : Stt} : BinRun Try.prog .neq 118 x y (aggv (sttC a)) (aggv (sttC b)) (.bool (decide (a ≠ b))) := BinRun.ane (fits_stt _) (fits_stt _) (by rw [sttC_inj]; simp)
theorem BinRun.entEq {a b : Ent} : BinRun Try.prog .eql 148 x y (aggv (entC a)) (aggv (entC b)) (.bool (decide (a = b))) := BinRun.aeq (fits_ent _) (fits_ent _) (by rw [entC_inj]; simp)
theorem BinRun.entNe {a b : Ent} : BinRun Try.prog .neq 148 x y (aggv (entC a)) (aggv (entC b)) (.bool (decide (a ≠ b))) := BinRun.ane (fits_ent _) (fits_ent _) (by rw [entC_inj]; simp)
end
end Go.Proofs.Ytdgdigliepncpaa
