/- Steps on what a pointer to a host leads to. No program is named here. -/
import Derived.Test.YtgonaioedbphgaaClo
import Derived.Test.YtgonaioedbphgaaPt
import Derived.Test.YtgonaioedbphgaaSlice
import Derived.Test.YtgonaioedbphgaaDraw
namespace Go.Proofs.Ytgonaioedbphgaa
open Go
set_option linter.unusedVariables false
section
variable {w0 : World} {M : Bl} {u : World} {N : Bl}
theorem Disj.sub {A B C : Bl} (d : Disj A B) (h : ∀ b, C b → B b) : Disj A C := fun b x y => d b x (h b y)
def hdrH (p p' : PHost) : Prop := p'.mons.1 = p.mons.1
def RetT3 {α : Type} [GT α] (Mc F : Bl) (w : World) (r : α) (k : Int) (c : Bool) (e : Ending) (w' : World) : Prop :=
  ∃ q F', e = .returned (.tuple #[GT.val r q, I k, B c]) ∧ Chg Mc w w' ∧ GT.own KK F' w' r q ∧ In64 k ∧ ∀ b, F' b → F b ∨ (w.heap.size ≤ b ∧ b < w'.heap.size)
section
variable {P : Program} {n : Nat} {β : Nat → Nat} {σ : Sy} {a : Act} {w : World} {ops : Array Oper} {Q : Exit → Act → World → Prop} {K' : Act → World → Prop}
end
theorem Ow.sl {α : Type} [GT α] {xs : List α} {p : LP α} {F : Bl} (o : Ow w0 M u N F xs p) {a b : Nat} (hab : a ≤ b) (hb : b ≤ xs.length) : Ow w0 M u N F ((xs.drop a).take (b - a)) ((p.1.sl a (GT.width α), fun i => p.2 (a + i)) : LP α) := by
  refine ⟨?_, o.sub, o.young⟩
  have h : LOwn KK F u xs p := o.own
  have hlen : ((xs.drop a).take (b - a)).length = b - a := by simp; omega
  have hel : ∀ i, i < b - a → el ((xs.drop a).take (b - a)) i = el xs (a + i) := fun i hi => by
    unfold el
    rw [List.getD_eq_getElem?_getD, List.getD_eq_getElem?_getD, List.getElem?_take_of_lt hi, List.getElem?_drop]
  have hcap := h.cap
  obtain ⟨G, g1, g2, g3⟩ := h.el
  show LOwn KK F u _ _
  refine ⟨by have := h.le; omega, by show _ ≤ p.1.cap - a; omega, by show p.1.cap - a ≤ _; have := h.capm; omega, fun z => by show p.1.cap - a = 0; have := h.null z; omega, fun z => ?_, fun i hi => ?_, fun i => G (a + i), fun i hi => ?_, fun i hi c hc => ?_, fun i j hi hj hij => ?_⟩
  · obtain ⟨r1, cs, T, r2, r3⟩ := h.row z
    refine ⟨r1, cs, T, r2, ?_⟩
    show (bif p.1.cap == a then p.1.off else p.1.off + a * GT.width α) + (p.1.cap - a) * GT.width α ≤ cs.size
    have e2 : p.1.cap * GT.width α = a * GT.width α + (p.1.cap - a) * GT.width α := by rw [← Nat.add_mul]; congr 1; omega
    cases p.1.cap == a
    · simp only [cond_false]; omega
    · simp only [cond_true]; omega
  · rw [hlen] at hi
    rw [hel i hi]
    have e1 : (p.1.cap == a) = false := by simp; omega
    have := h.cell (a + i) (by omega)
    show CellsAt u p.1.b ((bif p.1.cap == a then p.1.off else p.1.off + a * GT.width α) + i * GT.width α) _
    rw [e1]
    simp only [cond_false]
    rw [Nat.add_assoc, ← Nat.add_mul]
    exact this
  · rw [hlen] at hi
    rw [hel i hi]
    exact g1 (a + i) (by omega)
  · rw [hlen] at hi
    exact g2 (a + i) (by omega) c hc
  · rw [hlen] at hi hj
    exact g3 (a + i) (a + j) (by omega) (by omega) (by omega)
end
end Go.Proofs.Ytgonaioedbphgaa
