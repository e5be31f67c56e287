/- The drawn laws, in plain data. No program is named here. -/
import Derived.Test.YtgonaioedbphgaaSpec12
import Derived.Test.YtgonaioedbphgaaSpec9
import Derived.KernelRfl
namespace Go.Proofs.Ytgonaioedbphgaa
open Go
set_option linter.unusedVariables false
set_option maxRecDepth 100000
theorem el_pl {p : List Int} (hl : p.length = 12) (hb : ∀ x, x ∈ p → 0 ≤ x ∧ x ≤ 9999) (i : Nat) (hi : i < 12 := by decide) : (0 ≤ el p i ∧ el p i ≤ 9999) ∧ 0 ≤ Int.tmod (el p i) 16 ∧ Int.tmod (el p i) 16 < 16 := by
  have h := hb (el p i) (by rw [el_lt (by omega)]; exact List.getElem_mem _)
  refine ⟨h, ?_⟩
  rw [Int.tmod_eq_emod_of_nonneg h.1]
  omega
def l_taken (a : Int) : Bool :=
  let h0 := f_hostNew [[[⟨7, 0⟩]]]
  let h1 := (f_hostSet h0 0 0 (Int.tdiv a 4) ⟨3, 3⟩).1
  let h2 := (f_hostFlush h1 0 0 (Int.tdiv a 4)).1
  let d3 := f_hostDma h2 0 0 a 11
  let h4 := (f_hostSet d3.1 0 0 (Int.tdiv a 4) ⟨3, 1⟩).1
  let d5 := f_hostDma h4 0 0 a 22
  let h6 := (f_hostFlush d5.1 0 0 (Int.tdiv a 4)).1
  let d7 := f_hostDma h6 0 0 a 33
  let r := f_hostRead d7.1 0 0 a
  d3.2 && d5.2 && !d7.2 && r.2.1 == 22 && r.2.2
theorem upto {f : Nat → Bool} {n : Nat} (h : (List.range n).all f = true) {a : Nat} (h0 : a < n) : f a = true := List.all_eq_true.1 h a (List.mem_range.2 h0)
def l_many (n v : Nat) : Bool :=
  let h := f_hostNew (List.replicate n (List.replicate 3 [(⟨1, (v : Int)⟩ : TIns)]))
  decide (h.mons.length = min 3 n) && f_hostOk h && decide (h.buf.length = 0) && h.mons.all (fun m => decide (m.guests.length = 2) && decide (m.tables.length = 2))
theorem take_rep3 {α : Type} {n : Nat} {x : α} (h : 3 ≤ n) : (List.replicate n x).take 3 = (List.replicate 3 x).take 3 := by
  rw [List.take_replicate, List.take_replicate, Nat.min_eq_left h, Nat.min_self]
theorem many_all : (List.range 100).all (fun v => l_many 1 v && l_many 2 v && l_many 3 v) = true := by kernel_rfl
theorem many_ok {p : List Int} (hl : p.length = 12) (hb : ∀ x, x ∈ p → 0 ≤ x ∧ x ≤ 9999) {n : Nat} (hn : 1 ≤ n) {Y : THost} (hY : Y = f_hostNew (List.replicate n (List.replicate 3 [(⟨1, Int.tmod (el p 0) 100⟩ : TIns)]))) :
    Y.mons.length = min 3 n ∧ f_hostOk Y = true ∧ Y.buf.length = 0 ∧ ∀ i, i < Y.mons.length → (el Y.mons i).guests.length = 2 ∧ (el Y.mons i).tables.length = 2 := by
  have h0 := hb (el p 0) (by rw [el_lt (by omega)]; exact List.getElem_mem _)
  have hv : 0 ≤ Int.tmod (el p 0) 100 ∧ Int.tmod (el p 0) 100 < 100 := by rw [Int.tmod_eq_emod_of_nonneg h0.1]; omega
  generalize Int.tmod (el p 0) 100 = v at hv hY
  have e : ((v.toNat : Nat) : Int) = v := Int.toNat_of_nonneg hv.1
  have ha := upto many_all (a := v.toNat) (by omega)
  simp only [Bool.and_eq_true] at ha
  have key : ∃ m : Nat, l_many m v.toNat = true ∧ min 3 m = min 3 n ∧ Y = f_hostNew (List.replicate m (List.replicate 3 [(⟨1, v⟩ : TIns)])) := by
    by_cases h3 : 3 ≤ n
    · refine ⟨3, ha.2, by omega, ?_⟩
      rw [hY]; unfold f_hostNew; rw [take_rep3 h3]
    · have : n = 1 ∨ n = 2 := by omega
      rcases this with rfl | rfl
      · exact ⟨1, ha.1.1, rfl, hY⟩
      · exact ⟨2, ha.1.2, rfl, hY⟩
  obtain ⟨m, hm, hmn, hY2⟩ := key
  unfold l_many at hm
  rw [e] at hm
  simp only [← hY2, Bool.and_eq_true, decide_eq_true_eq, List.all_eq_true] at hm
  refine ⟨by omega, hm.1.1.2, hm.1.2, fun i hi => hm.2 _ (by rw [el_lt hi]; exact List.getElem_mem _)⟩
structure THdr where
  l : Nat
  a : SP
instance : GT THdr where
  Ptr := Unit
  dflt := ⟨0, ⟨true, 0, 0, 0, none⟩⟩
  pdflt := ()
  width := 1
  agg := false
  cells x _ := [slv x.l x.a]
  rd _ _ _ _ _ := True
  own _ _ _ _ _ := True
  wpos := Nat.one_pos
  len _ _ := rfl
  one _ := rfl
  plain _ _ v h := by simp at h; subst h; rfl
  rd_mono h _ _ := h
  rd_agree h _ := h
  rd_lt h := h
  own_mono h _ _ := h
  own_agree h _ := h
  own_lt h := h
  own_rd h := h
  own_dflt _ _ _ := trivial
theorem el_rep {α : Type} [GT α] {n i : Nat} {x : α} (hi : i < n) : el (List.replicate n x) i = x := by
  rw [el_lt (by rw [List.length_replicate]; exact hi), List.getElem_replicate]
theorem hdr_rd {K : Nat} {F : Bl} {w : World} {n : Nat} {p : List TIns} {pp : LP TIns} {q : LP (List THdr)} (h : GT.rd K F w (List.replicate n (List.replicate 3 (⟨p.length, pp.1⟩ : THdr))) q) (hp : GT.rd K F w p pp) :
    GT.rd K F w (List.replicate n (List.replicate 3 p)) ((q.1, fun j => ((q.2 j).1, fun _ => pp)) : LP (List (List TIns))) := by
  have hh : LRd K F w (List.replicate n (List.replicate 3 (⟨p.length, pp.1⟩ : THdr))) q := h
  have el1 : (List.replicate n (List.replicate 3 p)).length = n := List.length_replicate
  have el2 : (List.replicate n (List.replicate 3 (⟨p.length, pp.1⟩ : THdr))).length = n := List.length_replicate
  have h1 := hh.le; have h2 := hh.cap; have h3 := hh.at_; have h4 := hh.cell; have h5 := hh.el
  rw [el2] at h1 h2 h3 h4 h5
  refine LRd.mk (p := ((q.1, fun j => ((q.2 j).1, fun _ => pp)) : LP (List (List TIns)))) (by rw [el1]; exact h1) (by rw [el1]; exact h2) (by rw [el1]; exact h3) (fun i hi => ?_) (fun i hi => ?_)
  · rw [el1] at hi
    have h := h4 i hi
    rw [el_rep hi] at h ⊢
    exact h
  · rw [el1] at hi
    have h : LRd K F w (List.replicate 3 (⟨p.length, pp.1⟩ : THdr)) (q.2 i) := by have h := h5 i hi; rw [el_rep hi] at h; exact h
    rw [el_rep hi]
    refine LRd.mk (p := (((q.2 i).1, fun _ => pp) : LP (List TIns))) h.le h.cap h.at_ (fun j hj => ?_) (fun j hj => ?_)
    · have h6 := h.cell j hj
      have hj3 : j < 3 := hj
      rw [el_rep hj3] at h6 ⊢
      exact h6
    · have hj3 : j < 3 := hj
      rw [el_rep hj3]; exact hp
end Go.Proofs.Ytgonaioedbphgaa
