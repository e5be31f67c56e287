/- The highest pending interrupt. No program is named here. -/
import Derived.Test.YtkbcponpcghjpaaGreatSpec5
import Derived.Lib.BitFns
import Derived.KernelRfl
namespace Go.Proofs.YtkbcponpcghjpaaGreat
open Go
def f_bitLen (x : Int) : Int := (Lib.bitLen x.toNat : Int)
def f_topIrq (p : Int) : Int := if f_within p 0 255 = true then f_bitLen p - 1 else -1
def bitB (p n : Nat) : Bool := land64 (shr64 (p : Int) (n : Int)) 1 == 1
theorem top_chk : (List.range 256).all (fun p => (List.range 8).all fun n => (!bitB p n || !((List.range 8).all fun j => decide (j ≤ n) || !bitB p j)) || ((Lib.bitLen p : Int) - 1 == n)) = true := by kernel_rfl
theorem top_chk0 : (List.range 256).all (fun p => !((List.range 8).all fun j => !bitB p j) || ((Lib.bitLen p : Int) - 1 == -1)) = true := by kernel_rfl
theorem top_bd : (List.range 256).all (fun p => decide (Lib.bitLen p ≤ 8)) = true := by kernel_rfl
theorem take_chk : (List.range 256).all (fun p => Lib.bitLen p == 0 || (IntKind.i64.wrap ((p : Int) - shl64 1 ((Lib.bitLen p : Int) - 1)) == landn64 (p : Int) (shl64 1 ((Lib.bitLen p : Int) - 1)))) = true := by kernel_rfl
theorem topIrq_hit {p n : Int} (hp : f_within p 0 255 = true) (hn : -1 ≤ n ∧ n ≤ 7) (h0 : 0 ≤ n) (hb : land64 (shr64 p n) 1 = 1) (ha : ∀ j : Nat, n < (j : Int) → j < 8 → ¬ land64 (shr64 p (j : Int)) 1 = 1) : f_topIrq p = n := by
  have h1 := within_t hp
  obtain ⟨q, rfl⟩ := Int.eq_ofNat_of_zero_le h1.1
  obtain ⟨m, rfl⟩ := Int.eq_ofNat_of_zero_le h0
  have hx := List.all_eq_true.1 (List.all_eq_true.1 top_chk q (List.mem_range.2 (by omega))) m (List.mem_range.2 (by omega))
  have e1 : bitB q m = true := by unfold bitB; exact beq_iff_eq.2 hb
  have e2 : ((List.range 8).all fun j => decide (j ≤ m) || !bitB q j) = true := by
    rw [List.all_eq_true]
    intro j hj
    by_cases hjm : j ≤ m
    · simp [hjm]
    · have := ha j (by omega) (List.mem_range.1 hj)
      have e3 : bitB q j = false := by unfold bitB; exact beq_eq_false_iff_ne.2 this
      simp [e3]
  rw [e1, e2] at hx
  simp only [Bool.not_true, Bool.or_self, Bool.false_or, beq_iff_eq] at hx
  unfold f_topIrq f_bitLen
  rw [if_pos hp]
  exact hx
theorem topIrq_none {p n : Int} (hp : f_within p 0 255 = true) (h0 : n < 0) (ha : ∀ j : Nat, n < (j : Int) → j < 8 → ¬ land64 (shr64 p (j : Int)) 1 = 1) : f_topIrq p = -1 := by
  have h1 := within_t hp
  obtain ⟨q, rfl⟩ := Int.eq_ofNat_of_zero_le h1.1
  have hx := List.all_eq_true.1 top_chk0 q (List.mem_range.2 (by omega))
  have e2 : ((List.range 8).all fun j => !bitB q j) = true := by
    rw [List.all_eq_true]
    intro j hj
    have := ha j (by omega) (List.mem_range.1 hj)
    have e3 : bitB q j = false := by unfold bitB; exact beq_eq_false_iff_ne.2 this
    simp [e3]
  rw [e2] at hx
  simp only [Bool.not_true, Bool.false_or, beq_iff_eq] at hx
  unfold f_topIrq f_bitLen
  rw [if_pos hp]
  exact hx
theorem topIrq_out {p : Int} (hp : f_within p 0 255 = false) : f_topIrq p = -1 := by
  unfold f_topIrq; rw [if_neg (by simp [hp])]
theorem topIrq_bd (p : Int) : -1 ≤ f_topIrq p ∧ f_topIrq p ≤ 7 := by
  unfold f_topIrq
  split
  · rename_i hp
    have h1 := within_t hp
    have := List.all_eq_true.1 top_bd p.toNat (List.mem_range.2 (by omega))
    have := of_decide_eq_true this
    unfold f_bitLen
    omega
  · omega
def f_takeIrq (p : Int) : Int × Int × Bool := if f_topIrq p < 0 then (p, -1, false) else (landn64 p (shl64 1 (f_topIrq p)), f_topIrq p, true)
theorem take_eq {p : Int} (h : ¬ f_topIrq p < 0) : IntKind.i64.wrap (p - shl64 1 (f_topIrq p)) = landn64 p (shl64 1 (f_topIrq p)) := by
  unfold f_topIrq at h ⊢
  by_cases hp : f_within p 0 255 = true
  · rw [if_pos hp] at h ⊢
    have h1 := within_t hp
    obtain ⟨q, rfl⟩ := Int.eq_ofNat_of_zero_le h1.1
    have hx := List.all_eq_true.1 take_chk q (List.mem_range.2 (by omega))
    have hz : (Lib.bitLen q == 0) = false := by
      rw [beq_eq_false_iff_ne]
      intro e
      apply h
      show (Lib.bitLen q : Int) - 1 < 0
      omega
    rw [hz] at hx
    simp only [Bool.false_or, beq_iff_eq] at hx
    exact hx
  · rw [if_neg hp] at h
    exact absurd (by decide) h
def f_bareAck (b : TBare) : TBare × Int × Bool :=
  if f_bareOk b = true ∧ (f_takeIrq b.pend).2.2 = true then (⟨b.mem, b.guests, b.outs, (f_takeIrq b.pend).1⟩, (f_takeIrq b.pend).2.1, true) else (b, -1, false)
theorem takeIrq_in64 {p : Int} (h : In64 p) : In64 (f_takeIrq p).1 := by
  unfold f_takeIrq
  split
  · exact h
  · exact landn64_in64 _ _
theorem takeIrq_in64b {p : Int} : In64 (f_takeIrq p).2.1 := by
  unfold f_takeIrq
  have := topIrq_bd p
  split
  · exact ⟨by simp only; omega, by simp only; omega⟩
  · exact ⟨by simp only; omega, by simp only; omega⟩
theorem bitLenAux_le : ∀ (f x : Nat), Lib.bitLenAux f x ≤ f
  | 0, _ => Nat.le_refl _
  | f + 1, x => by
    unfold Lib.bitLenAux
    split
    · omega
    · have := bitLenAux_le f (x / 2)
      omega
theorem bitLen_bd0 (x : Int) : 0 ≤ f_bitLen x ∧ f_bitLen x ≤ 64 := by
  have := bitLenAux_le 64 x.toNat
  unfold f_bitLen Lib.bitLen
  omega
theorem bareAck_ok {b : TBare} (h : f_bareOk b = true) : f_bareAck b = (⟨b.mem, b.guests, b.outs, (f_takeIrq b.pend).1⟩, (f_takeIrq b.pend).2.1, (f_takeIrq b.pend).2.2) := by
  unfold f_bareAck
  split
  · rename_i e
    rw [e.2]
  · rename_i e
    have h2 : (f_takeIrq b.pend).2.2 = false := by
      cases hq : (f_takeIrq b.pend).2.2 with
      | false => rfl
      | true => exact absurd ⟨h, hq⟩ e
    unfold f_takeIrq at h2 ⊢
    split at h2
    · rename_i hz
      rw [if_pos hz]
    · cases h2
end Go.Proofs.YtkbcponpcghjpaaGreat
