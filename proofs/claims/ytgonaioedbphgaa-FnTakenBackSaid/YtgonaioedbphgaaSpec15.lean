/- The drawn laws, in plain data. No program is named here. -/
import Derived.Test.YtgonaioedbphgaaSpec12
import Derived.Test.YtgonaioedbphgaaSpec9
import Derived.KernelRfl
namespace Go.Proofs.Ytgonaioedbphgaa
open Go
set_option linter.unusedVariables false
set_option maxRecDepth 100000
theorem upto16 {f : Int → Bool} (h : (List.range 16).all (fun n => f (n : Int)) = true) {a : Int} (h0 : 0 ≤ a ∧ a < 16) : f a = true := by
  have h1 := List.all_eq_true.1 h a.toNat (List.mem_range.2 (by omega))
  rwa [Int.toNat_of_nonneg h0.1] at h1
theorem el_pl {p : List Int} (hl : p.length = 12) (hb : ∀ x, x ∈ p → 0 ≤ x ∧ x ≤ 9999) (i : Nat) (hi : i < 12 := by decide) : (0 ≤ el p i ∧ el p i ≤ 9999) ∧ 0 ≤ Int.tmod (el p i) 16 ∧ Int.tmod (el p i) 16 < 16 := by
  have h := hb (el p i) (by rw [el_lt (by omega)]; exact List.getElem_mem _)
  refine ⟨h, ?_⟩
  rw [Int.tmod_eq_emod_of_nonneg h.1]
  omega
def l_taken (a : Int) : Bool :=
  let h0 := f_hostNew [[[⟨7, 0⟩]]]
  let h1 := (f_hostSet h0 0 0 (Int.tdiv a 4) ⟨3, 3⟩).1
  let h2 := (f_hostFlush h1 0 0 (Int.tdiv a 4)).1
  let d3 := f_hostDma h2 0 0 a 11
  let h4 := (f_hostSet d3.1 0 0 (Int.tdiv a 4) ⟨3, 1⟩).1
  let d5 := f_hostDma h4 0 0 a 22
  let h6 := (f_hostFlush d5.1 0 0 (Int.tdiv a 4)).1
  let d7 := f_hostDma h6 0 0 a 33
  let r := f_hostRead d7.1 0 0 a
  d3.2 && d5.2 && !d7.2 && r.2.1 == 22 && r.2.2
theorem taken_ok {a : Int} (h0 : 0 ≤ a ∧ a < 16) {Y1 : THost} {Y2 Y3 Y4 Y5 Y6 Y7 Y8 : THost × Bool} {Y9 : THost × Int × Bool} (h1 : Y1 = f_hostNew [[[⟨7, 0⟩]]]) (h2 : Y2 = f_hostSet Y1 0 0 (Int.tdiv a 4) ⟨3, 3⟩) (h3 : Y3 = f_hostFlush Y2.1 0 0 (Int.tdiv a 4)) (h4 : Y4 = f_hostDma Y3.1 0 0 a 11) (h5 : Y5 = f_hostSet Y4.1 0 0 (Int.tdiv a 4) ⟨3, 1⟩) (h6 : Y6 = f_hostDma Y5.1 0 0 a 22) (h7 : Y7 = f_hostFlush Y6.1 0 0 (Int.tdiv a 4)) (h8 : Y8 = f_hostDma Y7.1 0 0 a 33) (h9 : Y9 = f_hostRead Y8.1 0 0 a) : (((Y4.2 = true ∧ Y6.2 = true) ∧ Y8.2 = false) ∧ Y9.2.1 = 22) ∧ Y9.2.2 = true := by
  have h : l_taken a = true := upto16 (f := l_taken) (by kernel_rfl) h0
  unfold l_taken at h
  simp only [← h1] at h
  simp only [← h2] at h
  simp only [← h3] at h
  simp only [← h4] at h
  simp only [← h5] at h
  simp only [← h6] at h
  simp only [← h7] at h
  simp only [← h8] at h
  simp only [← h9] at h
  simpa using h
end Go.Proofs.Ytgonaioedbphgaa
