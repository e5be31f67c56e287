/- Parts of slices. No program is named here. -/
import Derived.Test.YtgonaioedbphgaaCore9
namespace Go.Proofs.Ytgonaioedbphgaa
open Go
set_option linter.unusedSimpArgs false
def SP.sl (p : SP) (a w : Nat) : SP := ⟨p.nil, p.b, bif p.cap == a then p.off else p.off + a * w, p.cap - a, p.ad⟩
theorem SP.sl_zero (p : SP) (w : Nat) : p.sl 0 w = p := by
  unfold SP.sl
  cases h : p.cap == 0 <;> simp
section
variable {P : Program} {u : World} {N : Bl} {α : Type} [GT α] {xs : List α} {p : GT.Ptr (List α)}
theorem bound_run {i y : Nat} (h : i ≤ y) (code : BoundsCode) (w : World) : (Instr.sliceBound (I i) y code).run P w = .ok i w := by
  unfold Instr.sliceBound
  have : 0 ≤ (i : Int) ∧ (i : Int) ≤ y := ⟨by omega, by omega⟩
  simp only [asIntOf, Sem.run_bind, Sem.run_pure, Result.andThen_ok, this, and_self, if_true, Int.toNat_natCast]
theorem bounds_run {lo hi : Option Value} {a b n c : Nat} (hlo : lo = none ∧ a = 0 ∨ lo = some (I a)) (hhi : hi = none ∧ b = n ∨ hi = some (I b)) (hab : a ≤ b) (hb : b ≤ n) (hc : n ≤ c) (w : World) :
    (Instr.sliceBounds true n c lo hi none).run P w = .ok (a, b, c) w := by
  unfold Instr.sliceBounds
  rcases hlo with ⟨rfl, rfl⟩ | rfl <;> rcases hhi with ⟨rfl, rfl⟩ | rfl
  · simp [Sem.run_bind, Sem.run_pure]
  · simp [Sem.run_bind, Sem.run_pure, bound_run (show b ≤ c by omega)]
  · simp [Sem.run_bind, Sem.run_pure, bound_run hab]
  · simp [Sem.run_bind, Sem.run_pure, bound_run (show b ≤ c by omega), bound_run hab]
theorem Q_slice {K : Nat} (h : GT.rd K N u xs p) {t e : TypeId} {lo hi : Option Value} {a b l : Nat} (hl : l = xs.length) (hlo : lo = none ∧ a = 0 ∨ lo = some (I a)) (hhi : hi = none ∧ b = xs.length ∨ hi = some (I b)) (hab : a ≤ b) (hb : b ≤ xs.length) (ht : P.underlying t = some (.slice e)) (he : tsize P e = some (GT.width α)) :
    Quiet1 P u N (.sem (Instr.sliceAt t (slv l p.1) lo hi none)) (slv (b - a) (p.1.sl a (GT.width α))) := fun w _ => by
  subst hl
  have hcap := LRd.cap h
  show (Instr.sliceAt t (.slice p.1.addr xs.length p.1.cap) lo hi none).run P w = _
  unfold Instr.sliceAt
  simp only [Sem.run_bind, run_underlying ht, Result.andThen_ok]
  unfold Instr.slice
  simp only [Sem.run_bind, run_underlying ht, Result.andThen_ok, bounds_run hlo hhi hab hb hcap, run_size he, Sem.run_pure]
  congr 2
  unfold SP.sl SP.addr
  by_cases hca : p.1.cap = a
  · simp [hca]
  · have e1 : (p.1.cap == a) = false := by simpa using hca
    simp only [hca, if_false, e1, cond_false]
    cases hn : p.1.nil with
    | false => simp [Addr.add_mid]
    | true =>
      have : xs.length = 0 := by
        rcases Nat.eq_zero_or_pos xs.length with z | z
        · exact z
        · have := (LRd.at_ h z).1; rw [hn] at this; cases this
      have ha : a = 0 := by omega
      subst ha
      cases p.1.ad <;> simp [Addr.add]
theorem rd_sl {K : Nat} (h : GT.rd K N u xs p) {a b : Nat} (hab : a ≤ b) (hb : b ≤ xs.length) : GT.rd K N u ((xs.drop a).take (b - a)) ((p.1.sl a (GT.width α), fun i => p.2 (a + i)) : LP α) := by
  have hlen : ((xs.drop a).take (b - a)).length = b - a := by simp; omega
  have hel : ∀ i, i < b - a → el ((xs.drop a).take (b - a)) i = el xs (a + i) := fun i hi => by
    unfold el
    rw [List.getD_eq_getElem?_getD, List.getD_eq_getElem?_getD, List.getElem?_take_of_lt hi, List.getElem?_drop]
  have hcap := LRd.cap h
  have hat := LRd.at_ h 
  refine ⟨by have := LRd.le h; omega, by show _ ≤ p.1.cap - a; omega, fun z => ?_, fun i hi => ?_, fun i hi => ?_⟩
  · exact hat (by omega)
  · rw [hlen] at hi
    rw [hel i hi]
    have e1 : (p.1.cap == a) = false := by simp; omega
    have := LRd.cell h (a + i) (by omega)
    show CellsAt u p.1.b ((bif p.1.cap == a then p.1.off else p.1.off + a * GT.width α) + i * GT.width α) _
    rw [e1]
    simp only [cond_false]
    rw [Nat.add_assoc, ← Nat.add_mul]
    exact this
  · rw [hlen] at hi
    rw [hel i hi]
    exact LRd.el h (a + i) (by omega)
end
end Go.Proofs.Ytgonaioedbphgaa
