/- Stores into parts of the elements of owned lists. No program is named here. -/
import Derived.Test.YtgonaioedbphgaaMk
namespace Go.Proofs.Ytgonaioedbphgaa
open Go
set_option linter.unusedVariables false
theorem sepd_set {F H H' Fy : Bl} {l : List Bl} (s : Sepd F l) {i : Nat} (hi : l[i]? = some H) (h1 : ∀ b, H' b → H b ∨ Fy b) (hd : Disj F Fy) : Sepd (Or F H') (l.set i H') := by
  have hH : ∀ b, H b → F b := s.sub H (List.mem_of_getElem? hi)
  obtain ⟨hil, hie⟩ := List.getElem?_eq_some_iff.1 hi
  refine ⟨fun G hG b hb => ?_, ?_⟩
  · rcases List.mem_or_eq_of_mem_set hG with h | rfl
    · exact Or.inl (s.sub G h b hb)
    · exact Or.inr hb
  · have key : ∀ j (hj : j < l.length), j ≠ i → Disj (l[j]) H' := fun j hj hne b hb hb' => by
      rcases h1 b hb' with h | h
      · rcases Nat.lt_or_gt_of_ne hne with hlt | hgt
        · exact List.pairwise_iff_getElem.1 s.dis j i hj hil hlt b hb (hie ▸ h)
        · exact List.pairwise_iff_getElem.1 s.dis i j hil hj hgt b (hie ▸ h) hb
      · exact hd b (s.sub _ (List.getElem_mem hj) b hb) h
    rw [List.pairwise_iff_getElem]
    intro a c ha hc hac
    rw [List.length_set] at ha hc
    rw [List.getElem_set, List.getElem_set]
    by_cases e1 : i = a
    · rw [if_pos e1, if_neg (by omega)]
      exact (key c hc (by omega)).symm
    · rw [if_neg e1]
      by_cases e2 : i = c
      · rw [if_pos e2]; exact key a ha (fun h => e1 h.symm)
      · rw [if_neg e2]; exact List.pairwise_iff_getElem.1 s.dis a c ha hc hac
section
variable {w0 : World} {M : Bl} {u : World} {N : Bl}
theorem Ow.focus3 {α β : Type} [GT α] [GT β] {xs : List α} {p : LP α} {F : Bl} (o : Ow w0 M u N F xs p) {k : Nat} (hk : k < xs.length) (get : α → β) (pget : GT.Ptr α → GT.Ptr β) (set : α → β → α) (pset : GT.Ptr α → GT.Ptr β → GT.Ptr α)
    (hP : ∀ (G : Bl) (u : World) (x : α) (r : GT.Ptr α), GT.own KK G u x r → ∃ H : Bl, GT.own KK H u (get x) (pget r) ∧ (∀ b, H b → G b) ∧ ∀ (u' : World) (y : β) (q : GT.Ptr β) (H' Fy : Bl), GT.own KK H' u' y q → (∀ b, H' b → H b ∨ Fy b) → Disj G Fy → (∀ b, G b → ¬ H b → u'.heap[b]? = u.heap[b]?) → GT.cells y q = GT.cells (get x) (pget r) → GT.own KK (Or G H') u' (set x y) (pset r q) ∧ GT.cells (set x y) (pset r q) = GT.cells x r) :
    ∃ H : Bl, Ow w0 M u N H (get (el xs k)) (pget (p.2 k)) ∧ (∀ b, H b → F b) ∧ ∀ (u' : World) (N' : Bl) (y : β) (q : GT.Ptr β) (H' Fy : Bl), (∀ b, N b → ¬ H b → N' b ∧ u'.heap[b]? = u.heap[b]?) → Ow w0 M u' N' H' y q → (∀ b, H' b → H b ∨ Fy b) → Disj F Fy → GT.cells y q = GT.cells (get (el xs k)) (pget (p.2 k)) →
      (∀ b, H b → N' b) → Ow w0 M u' N' (Or F H') (xs.set k (set (el xs k) y)) ((p.1, fun i => if i = k then pset (p.2 k) q else p.2 i) : LP α) ∧ ∀ j, GT.cells (el (xs.set k (set (el xs k) y)) j) ((fun i => if i = k then pset (p.2 k) q else p.2 i) j) = GT.cells (el xs j) (p.2 j) := by
  have ho : LOwn KK F u xs p := o.own
  obtain ⟨G, g1, g2, g3⟩ := ho.el
  obtain ⟨H, h1, h2, h3⟩ := hP (G k) u (el xs k) (p.2 k) (g1 k hk)
  have hHF : ∀ b, H b → F b := fun b hb => (g2 k hk b (h2 b hb)).1
  refine ⟨H, ⟨h1, fun b hb => o.sub b (hHF b hb), fun b hb => o.young b (hHF b hb)⟩, hHF, fun u' N' y q H' Fy up oy hs hd hc hHN => ?_⟩
  have keep : ∀ b, F b → ¬ H b → u'.heap[b]? = u.heap[b]? := fun b hb hn => (up b (o.sub b hb) hn).2
  have hcap := ho.cap
  have hnn : p.1.nil = false := ho.nonil (by omega)
  have hrowb : ¬ H p.1.b := fun hb => (g2 k hk _ (h2 _ hb)).2 rfl
  have hrowF : F p.1.b := (ho.row hnn).1
  obtain ⟨b1, b2⟩ := h3 u' y q H' Fy oy.own hs (fun b hb hf => hd b (g2 k hk b hb).1 hf) (fun b hb hn => keep b (g2 k hk b hb).1 hn) hc
  refine ⟨⟨?_, ?_, fun b hb => hb.elim (o.young b) (oy.young b)⟩, fun j => ?_⟩
  rotate_right
  · by_cases e : j = k
    · subst e
      rw [el_set_self hk]
      simp only [if_true]
      exact b2
    · rw [el_set_ne e]
      simp only [if_neg e]
  · show LOwn KK (Or F H') u' _ _
    refine ⟨by rw [List.length_set]; exact ho.le, by rw [List.length_set]; exact ho.cap, ho.capm, ho.null, fun z => ⟨Or.inl (ho.row z).1, ?_⟩, fun i hi => ?_, fun i => if i = k then Or (G k) H' else G i, fun i hi => ?_, ?_, ?_⟩
    · rw [keep _ hrowF hrowb]; exact (ho.row z).2
    · rw [List.length_set] at hi
      have hcell : CellsAt u' p.1.b (p.1.off + i * GT.width α) (GT.cells (el xs i) (p.2 i)) := (ho.cell i hi).agree (keep _ hrowF hrowb)
      by_cases e : i = k
      · subst e
        rw [el_set_self hi]
        simp only [if_true]
        rw [b2]; exact hcell
      · rw [el_set_ne e]
        simp only [if_neg e]
        exact hcell
    · rw [List.length_set] at hi
      by_cases e : i = k
      · subst e
        rw [el_set_self hi]
        simp only [if_true]
        exact b1
      · rw [el_set_ne e]
        simp only [if_neg e]
        exact GT.own_agree (g1 i hi) fun b hb _ => keep b (g2 i hi b hb).1 fun hH => g3 i k hi hk e b hb (h2 b hH)
    · intro i hi; rw [List.length_set] at hi
      intro b hb
      by_cases e : i = k
      · subst e
        simp only [if_true] at hb
        rcases hb with hb | hb
        · exact ⟨Or.inl (g2 i hi b hb).1, (g2 i hi b hb).2⟩
        · refine ⟨Or.inr hb, fun e2 => ?_⟩
          rcases hs b hb with h | h
          · exact hrowb (e2 ▸ h)
          · exact hd _ hrowF (e2 ▸ h)
      · simp only [if_neg e] at hb
        exact ⟨Or.inl (g2 i hi b hb).1, (g2 i hi b hb).2⟩
    · have key : ∀ i, i < xs.length → i ≠ k → Disj (G i) (Or (G k) H') := fun i hi hne b hb hb' => by
        rcases hb' with hb' | hb'
        · exact g3 i k hi hk hne b hb hb'
        · rcases hs b hb' with h | h
          · exact g3 i k hi hk hne b hb (h2 b h)
          · exact hd b (g2 i hi b hb).1 h
      intro i j hi hj hij; rw [List.length_set] at hi hj
      by_cases e1 : i = k
      · by_cases e2 : j = k
        · exact absurd (e1.trans e2.symm) hij
        · simp only [if_pos e1, if_neg e2]; exact (key j hj e2).symm
      · by_cases e2 : j = k
        · simp only [if_neg e1, if_pos e2]; exact key i hi e1
        · simp only [if_neg e1, if_neg e2]; exact g3 i j hi hj hij
  · intro b hb
    rcases hb with hb | hb
    · by_cases hH : H b
      · exact hHN b hH
      · exact (up b (o.sub b hb) hH).1
    · exact oy.sub b hb
theorem Ow.focus2 {α β : Type} [GT α] [GT β] {xs : List α} {p : LP α} {F : Bl} (o : Ow w0 M u N F xs p) {k : Nat} (hk : k < xs.length) (get : α → β) (pget : GT.Ptr α → GT.Ptr β) (set : α → β → α) (pset : GT.Ptr α → GT.Ptr β → GT.Ptr α)
    (hP : ∀ (G : Bl) (u : World) (x : α) (r : GT.Ptr α), GT.own KK G u x r → ∃ H : Bl, GT.own KK H u (get x) (pget r) ∧ (∀ b, H b → G b) ∧ ∀ (u' : World) (y : β) (q : GT.Ptr β) (H' Fy : Bl), GT.own KK H' u' y q → (∀ b, H' b → H b ∨ Fy b) → Disj G Fy → (∀ b, G b → ¬ H b → u'.heap[b]? = u.heap[b]?) → GT.cells y q = GT.cells (get x) (pget r) → GT.own KK (Or G H') u' (set x y) (pset r q) ∧ GT.cells (set x y) (pset r q) = GT.cells x r) :
    ∃ H : Bl, Ow w0 M u N H (get (el xs k)) (pget (p.2 k)) ∧ (∀ b, H b → F b) ∧ ∀ (u' : World) (N' : Bl) (y : β) (q : GT.Ptr β) (H' Fy : Bl), (∀ b, N b → ¬ H b → N' b ∧ u'.heap[b]? = u.heap[b]?) → Ow w0 M u' N' H' y q → (∀ b, H' b → H b ∨ Fy b) → Disj F Fy → GT.cells y q = GT.cells (get (el xs k)) (pget (p.2 k)) →
      (∀ b, H b → N' b) → ∃ p2, Ow w0 M u' N' (Or F H') (xs.set k (set (el xs k) y)) (p.1, p2) ∧ ∀ j, GT.cells (el (xs.set k (set (el xs k) y)) j) (p2 j) = GT.cells (el xs j) (p.2 j) := by
  obtain ⟨H, h1, h2, h3⟩ := o.focus3 hk get pget set pset hP
  exact ⟨H, h1, h2, fun u' N' y q H' Fy a b c d e f => ⟨_, h3 u' N' y q H' Fy a b c d e f⟩⟩
theorem foc2_id {β : Type} [GT β] {xs : List β} {p : LP β} {F : Bl} (o : Ow w0 M u N F xs p) {k : Nat} (hk : k < xs.length) :
    ∃ H : Bl, Ow w0 M u N H (el xs k) (p.2 k) ∧ (∀ b, H b → F b) ∧ ∀ (u' : World) (N' : Bl) (y : β) (q : GT.Ptr (β)) (H' Fy : Bl), (∀ b, N b → ¬ H b → N' b ∧ u'.heap[b]? = u.heap[b]?) → Ow w0 M u' N' H' y q → (∀ b, H' b → H b ∨ Fy b) → Disj F Fy → GT.cells y q = GT.cells (el xs k) (p.2 k) → (∀ b, H b → N' b) →
      ∃ p2, Ow w0 M u' N' (Or F H') (xs.set k y) (p.1, p2) ∧ ∀ j, GT.cells (el (xs.set k y) j) (p2 j) = GT.cells (el xs j) (p.2 j) :=
  o.focus2 hk (fun x => x) (fun r => r) (fun _ y => y) (fun _ q => q) fun G u x r h => ⟨G, h, fun _ z => z, fun _ _ _ _ _ h' _ _ _ hc => ⟨GT.own_mono h' (Nat.le_refl _) (fun _ z => Or.inr z), hc⟩⟩
theorem foc2_Mon_outer {xs : List TMon} {p : LP TMon} {F : Bl} (o : Ow w0 M u N F xs p) {k : Nat} (hk : k < xs.length) :
    ∃ H : Bl, Ow w0 M u N H (el xs k).outer (p.2 k).outer ∧ (∀ b, H b → F b) ∧ ∀ (u' : World) (N' : Bl) (y : List TSlot) (q : GT.Ptr (List TSlot)) (H' Fy : Bl), (∀ b, N b → ¬ H b → N' b ∧ u'.heap[b]? = u.heap[b]?) → Ow w0 M u' N' H' y q → (∀ b, H' b → H b ∨ Fy b) → Disj F Fy → GT.cells y q = GT.cells (el xs k).outer (p.2 k).outer → (∀ b, H b → N' b) →
      ∃ p2, Ow w0 M u' N' (Or F H') (xs.set k { el xs k with outer := y }) (p.1, p2) ∧ ∀ j, GT.cells (el (xs.set k { el xs k with outer := y }) j) (p2 j) = GT.cells (el xs j) (p.2 j) :=
  o.focus2 hk (fun x => x.outer) (fun r => r.outer) (fun x y => { x with outer := y }) (fun r q => { r with outer := q }) fun G u x r h => by
    obtain ⟨G0, G1, G2, G3, G4, G5, g0, g1, g2, g3, g4, g5, s, f0, f1, f2⟩ := h
    refine ⟨G0, g0, s.sub _ (by simp), fun u' y q H' Fy h' hs hd hw hc => ⟨⟨H', G1, G2, G3, G4, G5, h', GT.own_agree g1 fun b hb _ => hw b (s.sub _ (by simp) b hb) fun hH => (pw s.dis (i := 0) (j := 1) (by decide) rfl rfl) b hH hb, GT.own_agree g2 fun b hb _ => hw b (s.sub _ (by simp) b hb) fun hH => (pw s.dis (i := 0) (j := 2) (by decide) rfl rfl) b hH hb, GT.own_agree g3 fun b hb _ => hw b (s.sub _ (by simp) b hb) fun hH => (pw s.dis (i := 0) (j := 3) (by decide) rfl rfl) b hH hb, GT.own_agree g4 fun b hb _ => hw b (s.sub _ (by simp) b hb) fun hH => (pw s.dis (i := 0) (j := 4) (by decide) rfl rfl) b hH hb, GT.own_agree g5 fun b hb _ => hw b (s.sub _ (by simp) b hb) fun hH => (pw s.dis (i := 0) (j := 5) (by decide) rfl rfl) b hH hb, sepd_set s (i := 0) rfl hs hd, f0, f1, f2⟩, ?_⟩⟩
    have e := (List.cons.inj hc).1
    show [slv y.length q.1, slv x.out.length r.out.1, slv x.dirty.length r.dirty.1, slv x.guests.length r.guests.1, slv x.outs.length r.outs.1, I x.pend, I x.traps, slv x.tables.length r.tables.1, I x.owned] = [slv x.outer.length r.outer.1, slv x.out.length r.out.1, slv x.dirty.length r.dirty.1, slv x.guests.length r.guests.1, slv x.outs.length r.outs.1, I x.pend, I x.traps, slv x.tables.length r.tables.1, I x.owned]
    rw [e]
theorem foc2_Mon_out {xs : List TMon} {p : LP TMon} {F : Bl} (o : Ow w0 M u N F xs p) {k : Nat} (hk : k < xs.length) :
    ∃ H : Bl, Ow w0 M u N H (el xs k).out (p.2 k).out ∧ (∀ b, H b → F b) ∧ ∀ (u' : World) (N' : Bl) (y : List (List Int)) (q : GT.Ptr (List (List Int))) (H' Fy : Bl), (∀ b, N b → ¬ H b → N' b ∧ u'.heap[b]? = u.heap[b]?) → Ow w0 M u' N' H' y q → (∀ b, H' b → H b ∨ Fy b) → Disj F Fy → GT.cells y q = GT.cells (el xs k).out (p.2 k).out → (∀ b, H b → N' b) →
      ∃ p2, Ow w0 M u' N' (Or F H') (xs.set k { el xs k with out := y }) (p.1, p2) ∧ ∀ j, GT.cells (el (xs.set k { el xs k with out := y }) j) (p2 j) = GT.cells (el xs j) (p.2 j) :=
  o.focus2 hk (fun x => x.out) (fun r => r.out) (fun x y => { x with out := y }) (fun r q => { r with out := q }) fun G u x r h => by
    obtain ⟨G0, G1, G2, G3, G4, G5, g0, g1, g2, g3, g4, g5, s, f0, f1, f2⟩ := h
    refine ⟨G1, g1, s.sub _ (by simp), fun u' y q H' Fy h' hs hd hw hc => ⟨⟨G0, H', G2, G3, G4, G5, GT.own_agree g0 fun b hb _ => hw b (s.sub _ (by simp) b hb) fun hH => (pw s.dis (i := 0) (j := 1) (by decide) rfl rfl) b hb hH, h', GT.own_agree g2 fun b hb _ => hw b (s.sub _ (by simp) b hb) fun hH => (pw s.dis (i := 1) (j := 2) (by decide) rfl rfl) b hH hb, GT.own_agree g3 fun b hb _ => hw b (s.sub _ (by simp) b hb) fun hH => (pw s.dis (i := 1) (j := 3) (by decide) rfl rfl) b hH hb, GT.own_agree g4 fun b hb _ => hw b (s.sub _ (by simp) b hb) fun hH => (pw s.dis (i := 1) (j := 4) (by decide) rfl rfl) b hH hb, GT.own_agree g5 fun b hb _ => hw b (s.sub _ (by simp) b hb) fun hH => (pw s.dis (i := 1) (j := 5) (by decide) rfl rfl) b hH hb, sepd_set s (i := 1) rfl hs hd, f0, f1, f2⟩, ?_⟩⟩
    have e := (List.cons.inj hc).1
    show [slv x.outer.length r.outer.1, slv y.length q.1, slv x.dirty.length r.dirty.1, slv x.guests.length r.guests.1, slv x.outs.length r.outs.1, I x.pend, I x.traps, slv x.tables.length r.tables.1, I x.owned] = [slv x.outer.length r.outer.1, slv x.out.length r.out.1, slv x.dirty.length r.dirty.1, slv x.guests.length r.guests.1, slv x.outs.length r.outs.1, I x.pend, I x.traps, slv x.tables.length r.tables.1, I x.owned]
    rw [e]
theorem foc2_Mon_dirty {xs : List TMon} {p : LP TMon} {F : Bl} (o : Ow w0 M u N F xs p) {k : Nat} (hk : k < xs.length) :
    ∃ H : Bl, Ow w0 M u N H (el xs k).dirty (p.2 k).dirty ∧ (∀ b, H b → F b) ∧ ∀ (u' : World) (N' : Bl) (y : List Bool) (q : GT.Ptr (List Bool)) (H' Fy : Bl), (∀ b, N b → ¬ H b → N' b ∧ u'.heap[b]? = u.heap[b]?) → Ow w0 M u' N' H' y q → (∀ b, H' b → H b ∨ Fy b) → Disj F Fy → GT.cells y q = GT.cells (el xs k).dirty (p.2 k).dirty → (∀ b, H b → N' b) →
      ∃ p2, Ow w0 M u' N' (Or F H') (xs.set k { el xs k with dirty := y }) (p.1, p2) ∧ ∀ j, GT.cells (el (xs.set k { el xs k with dirty := y }) j) (p2 j) = GT.cells (el xs j) (p.2 j) :=
  o.focus2 hk (fun x => x.dirty) (fun r => r.dirty) (fun x y => { x with dirty := y }) (fun r q => { r with dirty := q }) fun G u x r h => by
    obtain ⟨G0, G1, G2, G3, G4, G5, g0, g1, g2, g3, g4, g5, s, f0, f1, f2⟩ := h
    refine ⟨G2, g2, s.sub _ (by simp), fun u' y q H' Fy h' hs hd hw hc => ⟨⟨G0, G1, H', G3, G4, G5, GT.own_agree g0 fun b hb _ => hw b (s.sub _ (by simp) b hb) fun hH => (pw s.dis (i := 0) (j := 2) (by decide) rfl rfl) b hb hH, GT.own_agree g1 fun b hb _ => hw b (s.sub _ (by simp) b hb) fun hH => (pw s.dis (i := 1) (j := 2) (by decide) rfl rfl) b hb hH, h', GT.own_agree g3 fun b hb _ => hw b (s.sub _ (by simp) b hb) fun hH => (pw s.dis (i := 2) (j := 3) (by decide) rfl rfl) b hH hb, GT.own_agree g4 fun b hb _ => hw b (s.sub _ (by simp) b hb) fun hH => (pw s.dis (i := 2) (j := 4) (by decide) rfl rfl) b hH hb, GT.own_agree g5 fun b hb _ => hw b (s.sub _ (by simp) b hb) fun hH => (pw s.dis (i := 2) (j := 5) (by decide) rfl rfl) b hH hb, sepd_set s (i := 2) rfl hs hd, f0, f1, f2⟩, ?_⟩⟩
    have e := (List.cons.inj hc).1
    show [slv x.outer.length r.outer.1, slv x.out.length r.out.1, slv y.length q.1, slv x.guests.length r.guests.1, slv x.outs.length r.outs.1, I x.pend, I x.traps, slv x.tables.length r.tables.1, I x.owned] = [slv x.outer.length r.outer.1, slv x.out.length r.out.1, slv x.dirty.length r.dirty.1, slv x.guests.length r.guests.1, slv x.outs.length r.outs.1, I x.pend, I x.traps, slv x.tables.length r.tables.1, I x.owned]
    rw [e]
theorem owl_Mon_guests {K : Nat} {G Fy : Bl} {u : World} {x : TMon} {p : PMon} {l : List TGuest} {q : GT.Ptr (List TGuest)} (h : GT.own K G u x p) (hl : GT.own K Fy u l q) (hd : Disj G Fy) : GT.own K (Or G Fy) u ({ x with guests := l } : TMon) { p with guests := q } := by
  obtain ⟨G0, G1, G2, G3, G4, G5, g0, g1, g2, g3, g4, g5, s, f0, f1, f2⟩ := h
  exact ⟨G0, G1, G2, Fy, G4, G5, g0, g1, g2, hl, g4, g5, sepd_set s (i := 3) rfl (fun _ z => .inr z) hd, f0, f1, f2⟩
theorem foc2_Mon_tables {xs : List TMon} {p : LP TMon} {F : Bl} (o : Ow w0 M u N F xs p) {k : Nat} (hk : k < xs.length) :
    ∃ H : Bl, Ow w0 M u N H (el xs k).tables (p.2 k).tables ∧ (∀ b, H b → F b) ∧ ∀ (u' : World) (N' : Bl) (y : List TKept) (q : GT.Ptr (List TKept)) (H' Fy : Bl), (∀ b, N b → ¬ H b → N' b ∧ u'.heap[b]? = u.heap[b]?) → Ow w0 M u' N' H' y q → (∀ b, H' b → H b ∨ Fy b) → Disj F Fy → GT.cells y q = GT.cells (el xs k).tables (p.2 k).tables → (∀ b, H b → N' b) →
      ∃ p2, Ow w0 M u' N' (Or F H') (xs.set k { el xs k with tables := y }) (p.1, p2) ∧ ∀ j, GT.cells (el (xs.set k { el xs k with tables := y }) j) (p2 j) = GT.cells (el xs j) (p.2 j) :=
  o.focus2 hk (fun x => x.tables) (fun r => r.tables) (fun x y => { x with tables := y }) (fun r q => { r with tables := q }) fun G u x r h => by
    obtain ⟨G0, G1, G2, G3, G4, G5, g0, g1, g2, g3, g4, g5, s, f0, f1, f2⟩ := h
    refine ⟨G5, g5, s.sub _ (by simp), fun u' y q H' Fy h' hs hd hw hc => ⟨⟨G0, G1, G2, G3, G4, H', GT.own_agree g0 fun b hb _ => hw b (s.sub _ (by simp) b hb) fun hH => (pw s.dis (i := 0) (j := 5) (by decide) rfl rfl) b hb hH, GT.own_agree g1 fun b hb _ => hw b (s.sub _ (by simp) b hb) fun hH => (pw s.dis (i := 1) (j := 5) (by decide) rfl rfl) b hb hH, GT.own_agree g2 fun b hb _ => hw b (s.sub _ (by simp) b hb) fun hH => (pw s.dis (i := 2) (j := 5) (by decide) rfl rfl) b hb hH, GT.own_agree g3 fun b hb _ => hw b (s.sub _ (by simp) b hb) fun hH => (pw s.dis (i := 3) (j := 5) (by decide) rfl rfl) b hb hH, GT.own_agree g4 fun b hb _ => hw b (s.sub _ (by simp) b hb) fun hH => (pw s.dis (i := 4) (j := 5) (by decide) rfl rfl) b hb hH, h', sepd_set s (i := 5) rfl hs hd, f0, f1, f2⟩, ?_⟩⟩
    have e := (List.cons.inj hc).1
    show [slv x.outer.length r.outer.1, slv x.out.length r.out.1, slv x.dirty.length r.dirty.1, slv x.guests.length r.guests.1, slv x.outs.length r.outs.1, I x.pend, I x.traps, slv y.length q.1, I x.owned] = [slv x.outer.length r.outer.1, slv x.out.length r.out.1, slv x.dirty.length r.dirty.1, slv x.guests.length r.guests.1, slv x.outs.length r.outs.1, I x.pend, I x.traps, slv x.tables.length r.tables.1, I x.owned]
    rw [e]
theorem owl_Host_mem {K : Nat} {G Fy : Bl} {u : World} {x : THost} {p : PHost} {l : List (List Int)} {q : GT.Ptr (List (List Int))} (h : GT.own K G u x p) (hl : GT.own K Fy u l q) (hd : Disj G Fy) : GT.own K (Or G Fy) u ({ x with mem := l } : THost) { p with mem := q } := by
  obtain ⟨G0, G1, G2, G3, g0, g1, g2, g3, s⟩ := h
  exact ⟨Fy, G1, G2, G3, hl, g1, g2, g3, sepd_set s (i := 0) rfl (fun _ z => .inr z) hd⟩
theorem foc3_Host_mons {xs : List THost} {p : LP THost} {F : Bl} (o : Ow w0 M u N F xs p) {k : Nat} (hk : k < xs.length) :
    ∃ H : Bl, Ow w0 M u N H (el xs k).mons (p.2 k).mons ∧ (∀ b, H b → F b) ∧ ∀ (u' : World) (N' : Bl) (y : List TMon) (q : GT.Ptr (List TMon)) (H' Fy : Bl), (∀ b, N b → ¬ H b → N' b ∧ u'.heap[b]? = u.heap[b]?) → Ow w0 M u' N' H' y q → (∀ b, H' b → H b ∨ Fy b) → Disj F Fy → GT.cells y q = GT.cells (el xs k).mons (p.2 k).mons → (∀ b, H b → N' b) →
      Ow w0 M u' N' (Or F H') (xs.set k { el xs k with mons := y }) ((p.1, fun i => if i = k then ({ p.2 k with mons := q } : PHost) else p.2 i) : LP THost) := by
  obtain ⟨H, h1, h2, h3⟩ := o.focus3 hk (fun x => x.mons) (fun r => r.mons) (fun x y => { x with mons := y }) (fun r q => { r with mons := q }) fun G u x r h => by
    obtain ⟨G0, G1, G2, G3, g0, g1, g2, g3, s⟩ := h
    refine ⟨G1, g1, s.sub _ (by simp), fun u' y q H' Fy h' hs hd hw hc => ⟨⟨G0, H', G2, G3, GT.own_agree g0 fun b hb _ => hw b (s.sub _ (by simp) b hb) fun hH => (pw s.dis (i := 0) (j := 1) (by decide) rfl rfl) b hb hH, h', GT.own_agree g2 fun b hb _ => hw b (s.sub _ (by simp) b hb) fun hH => (pw s.dis (i := 1) (j := 2) (by decide) rfl rfl) b hH hb, GT.own_agree g3 fun b hb _ => hw b (s.sub _ (by simp) b hb) fun hH => (pw s.dis (i := 1) (j := 3) (by decide) rfl rfl) b hH hb, sepd_set s (i := 1) rfl hs hd⟩, ?_⟩⟩
    have e := (List.cons.inj hc).1
    show [slv x.mem.length r.mem.1, slv y.length q.1, slv x.buf.length r.buf.1, slv x.iobuf.length r.iobuf.1] = [slv x.mem.length r.mem.1, slv x.mons.length r.mons.1, slv x.buf.length r.buf.1, slv x.iobuf.length r.iobuf.1]
    rw [e]
  exact ⟨H, h1, h2, fun u' N' y q H' Fy a b c d e f => (h3 u' N' y q H' Fy a b c d e f).1⟩
theorem owl_Host_buf {K : Nat} {G Fy : Bl} {u : World} {x : THost} {p : PHost} {l : List TEntry} {q : GT.Ptr (List TEntry)} (h : GT.own K G u x p) (hl : GT.own K Fy u l q) (hd : Disj G Fy) : GT.own K (Or G Fy) u ({ x with buf := l } : THost) { p with buf := q } := by
  obtain ⟨G0, G1, G2, G3, g0, g1, g2, g3, s⟩ := h
  exact ⟨G0, G1, Fy, G3, g0, g1, hl, g3, sepd_set s (i := 2) rfl (fun _ z => .inr z) hd⟩
theorem owl_Host_iobuf {K : Nat} {G Fy : Bl} {u : World} {x : THost} {p : PHost} {l : List TEntry} {q : GT.Ptr (List TEntry)} (h : GT.own K G u x p) (hl : GT.own K Fy u l q) (hd : Disj G Fy) : GT.own K (Or G Fy) u ({ x with iobuf := l } : THost) { p with iobuf := q } := by
  obtain ⟨G0, G1, G2, G3, g0, g1, g2, g3, s⟩ := h
  exact ⟨G0, G1, G2, Fy, g0, g1, g2, hl, sepd_set s (i := 3) rfl (fun _ z => .inr z) hd⟩
end
end Go.Proofs.Ytgonaioedbphgaa
