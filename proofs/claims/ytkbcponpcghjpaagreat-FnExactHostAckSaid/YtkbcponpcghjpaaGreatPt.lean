/- Stores into parts of the elements of owned lists. No program is named here. -/
import Derived.Test.YtkbcponpcghjpaaGreatMk
namespace Go.Proofs.YtkbcponpcghjpaaGreat
open Go
set_option linter.unusedVariables false
theorem sepd_set {F H H' Fy : Bl} {l : List Bl} (s : Sepd F l) {i : Nat} (hi : l[i]? = some H) (h1 : ∀ b, H' b → H b ∨ Fy b) (hd : Disj F Fy) : Sepd (Or F H') (l.set i H') := by
  have hH : ∀ b, H b → F b := s.sub H (List.mem_of_getElem? hi)
  obtain ⟨hil, hie⟩ := List.getElem?_eq_some_iff.1 hi
  refine ⟨fun G hG b hb => ?_, ?_⟩
  · rcases List.mem_or_eq_of_mem_set hG with h | rfl
    · exact Or.inl (s.sub G h b hb)
    · exact Or.inr hb
  · have key : ∀ j (hj : j < l.length), j ≠ i → Disj (l[j]) H' := fun j hj hne b hb hb' => by
      rcases h1 b hb' with h | h
      · rcases Nat.lt_or_gt_of_ne hne with hlt | hgt
        · exact List.pairwise_iff_getElem.1 s.dis j i hj hil hlt b hb (hie ▸ h)
        · exact List.pairwise_iff_getElem.1 s.dis i j hil hj hgt b (hie ▸ h) hb
      · exact hd b (s.sub _ (List.getElem_mem hj) b hb) h
    rw [List.pairwise_iff_getElem]
    intro a c ha hc hac
    rw [List.length_set] at ha hc
    rw [List.getElem_set, List.getElem_set]
    by_cases e1 : i = a
    · rw [if_pos e1, if_neg (by omega)]
      exact (key c hc (by omega)).symm
    · rw [if_neg e1]
      by_cases e2 : i = c
      · rw [if_pos e2]; exact key a ha (fun h => e1 h.symm)
      · rw [if_neg e2]; exact List.pairwise_iff_getElem.1 s.dis a c ha hc hac
section
variable {w0 : World} {M : Bl} {u : World} {N : Bl}
theorem owl_Mon_guests {K : Nat} {G Fy : Bl} {u : World} {x : TMon} {p : PMon} {l : List TGuest} {q : GT.Ptr (List TGuest)} (h : GT.own K G u x p) (hl : GT.own K Fy u l q) (hd : Disj G Fy) : GT.own K (Or G Fy) u ({ x with guests := l } : TMon) { p with guests := q } := by
  obtain ⟨G0, G1, G2, G3, G4, G5, g0, g1, g2, g3, g4, g5, s, f0, f1, f2⟩ := h
  exact ⟨G0, G1, G2, Fy, G4, G5, g0, g1, g2, hl, g4, g5, sepd_set s (i := 3) rfl (fun _ z => .inr z) hd, f0, f1, f2⟩
end
end Go.Proofs.YtkbcponpcghjpaaGreat
