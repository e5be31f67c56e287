/- Stores into parts of the elements of owned lists. No program is named here. -/
import Derived.Test.YtpjhamcanhnfjaaMk
namespace Go.Proofs.Ytpjhamcanhnfjaa
open Go
set_option linter.unusedVariables false

theorem sepd_set {F H H' Fy : Bl} {l : List Bl} (s : Sepd F l) {i : Nat} (hi : l[i]? = some H) (h1 : ∀ b, H' b → H b ∨ Fy b) (hd : Disj F Fy) : Sepd (Or F H') (l.set i H') := by
  have hH : ∀ b, H b → F b := s.sub H (List.mem_of_getElem? hi)
  obtain ⟨hil, hie⟩ := List.getElem?_eq_some_iff.1 hi
  refine ⟨fun G hG b hb => ?_, ?_⟩
  · rcases List.mem_or_eq_of_mem_set hG with h | rfl
    · exact Or.inl (s.sub G h b hb)
    · exact Or.inr hb
  · have key : ∀ j (hj : j < l.length), j ≠ i → Disj (l[j]) H' := fun j hj hne b hb hb' => by
      rcases h1 b hb' with h | h
      · rcases Nat.lt_or_gt_of_ne hne with hlt | hgt
        · exact List.pairwise_iff_getElem.1 s.dis j i hj hil hlt b hb (hie ▸ h)
        · exact List.pairwise_iff_getElem.1 s.dis i j hil hj hgt b (hie ▸ h) hb
      · exact hd b (s.sub _ (List.getElem_mem hj) b hb) h
    rw [List.pairwise_iff_getElem]
    intro a c ha hc hac
    rw [List.length_set] at ha hc
    rw [List.getElem_set, List.getElem_set]
    by_cases e1 : i = a
    · rw [if_pos e1, if_neg (by omega)]
      exact (key c hc (by omega)).symm
    · rw [if_neg e1]
      by_cases e2 : i = c
      · rw [if_pos e2]; exact key a ha (fun h => e1 h.symm)
      · rw [if_neg e2]; exact List.pairwise_iff_getElem.1 s.dis a c ha hc hac

section
variable {w0 : World} {M : Bl} {u : World} {N : Bl}
theorem Ow.focus2 {α β : Type} [GT α] [GT β] {xs : List α} {p : LP α} {F : Bl} (o : Ow w0 M u N F xs p) {k : Nat} (hk : k < xs.length) (get : α → β) (pget : GT.Ptr α → GT.Ptr β) (set : α → β → α) (pset : GT.Ptr α → GT.Ptr β → GT.Ptr α)
    (hP : ∀ (G : Bl) (u : World) (x : α) (r : GT.Ptr α), GT.own KK G u x r → ∃ H : Bl, GT.own KK H u (get x) (pget r) ∧ (∀ b, H b → G b) ∧ ∀ (u' : World) (y : β) (q : GT.Ptr β) (H' Fy : Bl), GT.own KK H' u' y q → (∀ b, H' b → H b ∨ Fy b) → Disj G Fy → (∀ b, G b → ¬ H b → u'.heap[b]? = u.heap[b]?) → GT.cells y q = GT.cells (get x) (pget r) → GT.own KK (Or G H') u' (set x y) (pset r q) ∧ GT.cells (set x y) (pset r q) = GT.cells x r) :
    ∃ H : Bl, Ow w0 M u N H (get (el xs k)) (pget (p.2 k)) ∧ (∀ b, H b → F b) ∧ ∀ (u' : World) (N' : Bl) (y : β) (q : GT.Ptr β) (H' Fy : Bl), (∀ b, N b → ¬ H b → N' b ∧ u'.heap[b]? = u.heap[b]?) → Ow w0 M u' N' H' y q → (∀ b, H' b → H b ∨ Fy b) → Disj F Fy → GT.cells y q = GT.cells (get (el xs k)) (pget (p.2 k)) →
      (∀ b, H b → N' b) → ∃ p2, Ow w0 M u' N' (Or F H') (xs.set k (set (el xs k) y)) (p.1, p2) := by
  have ho : LOwn KK F u xs p := o.own
  obtain ⟨G, g1, g2, g3⟩ := ho.el
  obtain ⟨H, h1, h2, h3⟩ := hP (G k) u (el xs k) (p.2 k) (g1 k hk)
  have hHF : ∀ b, H b → F b := fun b hb => (g2 k hk b (h2 b hb)).1
  refine ⟨H, ⟨h1, fun b hb => o.sub b (hHF b hb), fun b hb => o.young b (hHF b hb)⟩, hHF, fun u' N' y q H' Fy up oy hs hd hc hHN => ?_⟩
  have keep : ∀ b, F b → ¬ H b → u'.heap[b]? = u.heap[b]? := fun b hb hn => (up b (o.sub b hb) hn).2
  have hcap := ho.cap
  have hnn : p.1.nil = false := ho.nonil (by omega)
  have hrowb : ¬ H p.1.b := fun hb => (g2 k hk _ (h2 _ hb)).2 rfl
  have hrowF : F p.1.b := (ho.row hnn).1
  obtain ⟨b1, b2⟩ := h3 u' y q H' Fy oy.own hs (fun b hb hf => hd b (g2 k hk b hb).1 hf) (fun b hb hn => keep b (g2 k hk b hb).1 hn) hc
  refine ⟨fun i => if i = k then pset (p.2 k) q else p.2 i, ⟨?_, ?_, fun b hb => hb.elim (o.young b) (oy.young b)⟩⟩
  · show LOwn KK (Or F H') u' _ _
    refine ⟨by rw [List.length_set]; exact ho.le, by rw [List.length_set]; exact ho.cap, ho.capm, ho.null, fun z => ⟨Or.inl (ho.row z).1, ?_⟩, fun i hi => ?_, fun i => if i = k then Or (G k) H' else G i, fun i hi => ?_, ?_, ?_⟩
    · rw [keep _ hrowF hrowb]; exact (ho.row z).2
    · rw [List.length_set] at hi
      have hcell : CellsAt u' p.1.b (p.1.off + i * GT.width α) (GT.cells (el xs i) (p.2 i)) := (ho.cell i hi).agree (keep _ hrowF hrowb)
      by_cases e : i = k
      · subst e
        rw [el_set_self hi]
        simp only [if_true]
        rw [b2]; exact hcell
      · rw [el_set_ne e]
        simp only [if_neg e]
        exact hcell
    · rw [List.length_set] at hi
      by_cases e : i = k
      · subst e
        rw [el_set_self hi]
        simp only [if_true]
        exact b1
      · rw [el_set_ne e]
        simp only [if_neg e]
        exact GT.own_agree (g1 i hi) fun b hb _ => keep b (g2 i hi b hb).1 fun hH => g3 i k hi hk e b hb (h2 b hH)
    · intro i hi; rw [List.length_set] at hi
      intro b hb
      by_cases e : i = k
      · subst e
        simp only [if_true] at hb
        rcases hb with hb | hb
        · exact ⟨Or.inl (g2 i hi b hb).1, (g2 i hi b hb).2⟩
        · refine ⟨Or.inr hb, fun e2 => ?_⟩
          rcases hs b hb with h | h
          · exact hrowb (e2 ▸ h)
          · exact hd _ hrowF (e2 ▸ h)
      · simp only [if_neg e] at hb
        exact ⟨Or.inl (g2 i hi b hb).1, (g2 i hi b hb).2⟩
    · have key : ∀ i, i < xs.length → i ≠ k → Disj (G i) (Or (G k) H') := fun i hi hne b hb hb' => by
        rcases hb' with hb' | hb'
        · exact g3 i k hi hk hne b hb hb'
        · rcases hs b hb' with h | h
          · exact g3 i k hi hk hne b hb (h2 b h)
          · exact hd b (g2 i hi b hb).1 h
      intro i j hi hj hij; rw [List.length_set] at hi hj
      by_cases e1 : i = k
      · by_cases e2 : j = k
        · exact absurd (e1.trans e2.symm) hij
        · simp only [if_pos e1, if_neg e2]; exact (key j hj e2).symm
      · by_cases e2 : j = k
        · simp only [if_neg e1, if_pos e2]; exact key i hi e1
        · simp only [if_neg e1, if_neg e2]; exact g3 i j hi hj hij
  · intro b hb
    rcases hb with hb | hb
    · by_cases hH : H b
      · exact hHN b hH
      · exact (up b (o.sub b hb) hH).1
    · exact oy.sub b hb

theorem foc2_id {β : Type} [GT β] {xs : List β} {p : LP β} {F : Bl} (o : Ow w0 M u N F xs p) {k : Nat} (hk : k < xs.length) :
    ∃ H : Bl, Ow w0 M u N H (el xs k) (p.2 k) ∧ (∀ b, H b → F b) ∧ ∀ (u' : World) (N' : Bl) (y : β) (q : GT.Ptr (β)) (H' Fy : Bl), (∀ b, N b → ¬ H b → N' b ∧ u'.heap[b]? = u.heap[b]?) → Ow w0 M u' N' H' y q → (∀ b, H' b → H b ∨ Fy b) → Disj F Fy → GT.cells y q = GT.cells (el xs k) (p.2 k) → (∀ b, H b → N' b) →
      ∃ p2, Ow w0 M u' N' (Or F H') (xs.set k y) (p.1, p2) :=
  o.focus2 hk (fun x => x) (fun r => r) (fun _ y => y) (fun _ q => q) fun G u x r h => ⟨G, h, fun _ z => z, fun _ _ _ _ _ h' _ _ _ hc => ⟨GT.own_mono h' (Nat.le_refl _) (fun _ z => Or.inr z), hc⟩⟩
theorem foc2_Kept_known {xs : List TKept} {p : LP TKept} {F : Bl} (o : Ow w0 M u N F xs p) {k : Nat} (hk : k < xs.length) :
    ∃ H : Bl, Ow w0 M u N H (el xs k).known (p.2 k).known ∧ (∀ b, H b → F b) ∧ ∀ (u' : World) (N' : Bl) (y : List Bool) (q : GT.Ptr (List Bool)) (H' Fy : Bl), (∀ b, N b → ¬ H b → N' b ∧ u'.heap[b]? = u.heap[b]?) → Ow w0 M u' N' H' y q → (∀ b, H' b → H b ∨ Fy b) → Disj F Fy → GT.cells y q = GT.cells (el xs k).known (p.2 k).known → (∀ b, H b → N' b) →
      ∃ p2, Ow w0 M u' N' (Or F H') (xs.set k { el xs k with known := y }) (p.1, p2) :=
  o.focus2 hk (fun x => x.known) (fun r => r.known) (fun x y => { x with known := y }) (fun r q => { r with known := q }) fun G u x r h => by
    obtain ⟨G0, G1, g0, g1, s⟩ := h
    refine ⟨G0, g0, s.sub _ (by simp), fun u' y q H' Fy h' hs hd hw hc => ⟨⟨H', G1, h', GT.own_agree g1 fun b hb _ => hw b (s.sub _ (by simp) b hb) fun hH => (pw s.dis (i := 0) (j := 1) (by decide) rfl rfl) b hH hb, sepd_set s (i := 0) rfl hs hd⟩, ?_⟩⟩
    have e := (List.cons.inj hc).1
    show [slv y.length q.1, slv x.slots.length r.slots.1] = [slv x.known.length r.known.1, slv x.slots.length r.slots.1]
    rw [e]
theorem owl_Kept_known {K : Nat} {G Fy : Bl} {u : World} {x : TKept} {p : PKept} {l : List Bool} {q : GT.Ptr (List Bool)} (h : GT.own K G u x p) (hl : GT.own K Fy u l q) (hd : Disj G Fy) : GT.own K (Or G Fy) u ({ x with known := l } : TKept) { p with known := q } := by
  obtain ⟨G0, G1, g0, g1, s⟩ := h
  exact ⟨Fy, G1, hl, g1, sepd_set s (i := 0) rfl (fun _ z => .inr z) hd⟩
theorem foc2_Kept_slots {xs : List TKept} {p : LP TKept} {F : Bl} (o : Ow w0 M u N F xs p) {k : Nat} (hk : k < xs.length) :
    ∃ H : Bl, Ow w0 M u N H (el xs k).slots (p.2 k).slots ∧ (∀ b, H b → F b) ∧ ∀ (u' : World) (N' : Bl) (y : List TSlot) (q : GT.Ptr (List TSlot)) (H' Fy : Bl), (∀ b, N b → ¬ H b → N' b ∧ u'.heap[b]? = u.heap[b]?) → Ow w0 M u' N' H' y q → (∀ b, H' b → H b ∨ Fy b) → Disj F Fy → GT.cells y q = GT.cells (el xs k).slots (p.2 k).slots → (∀ b, H b → N' b) →
      ∃ p2, Ow w0 M u' N' (Or F H') (xs.set k { el xs k with slots := y }) (p.1, p2) :=
  o.focus2 hk (fun x => x.slots) (fun r => r.slots) (fun x y => { x with slots := y }) (fun r q => { r with slots := q }) fun G u x r h => by
    obtain ⟨G0, G1, g0, g1, s⟩ := h
    refine ⟨G1, g1, s.sub _ (by simp), fun u' y q H' Fy h' hs hd hw hc => ⟨⟨G0, H', GT.own_agree g0 fun b hb _ => hw b (s.sub _ (by simp) b hb) fun hH => (pw s.dis (i := 0) (j := 1) (by decide) rfl rfl) b hb hH, h', sepd_set s (i := 1) rfl hs hd⟩, ?_⟩⟩
    have e := (List.cons.inj hc).1
    show [slv x.known.length r.known.1, slv y.length q.1] = [slv x.known.length r.known.1, slv x.slots.length r.slots.1]
    rw [e]
theorem owl_Kept_slots {K : Nat} {G Fy : Bl} {u : World} {x : TKept} {p : PKept} {l : List TSlot} {q : GT.Ptr (List TSlot)} (h : GT.own K G u x p) (hl : GT.own K Fy u l q) (hd : Disj G Fy) : GT.own K (Or G Fy) u ({ x with slots := l } : TKept) { p with slots := q } := by
  obtain ⟨G0, G1, g0, g1, s⟩ := h
  exact ⟨G0, Fy, g0, hl, sepd_set s (i := 1) rfl (fun _ z => .inr z) hd⟩
theorem foc2_Guest_prog {xs : List TGuest} {p : LP TGuest} {F : Bl} (o : Ow w0 M u N F xs p) {k : Nat} (hk : k < xs.length) :
    ∃ H : Bl, Ow w0 M u N H (el xs k).prog (p.2 k).prog ∧ (∀ b, H b → F b) ∧ ∀ (u' : World) (N' : Bl) (y : List TIns) (q : GT.Ptr (List TIns)) (H' Fy : Bl), (∀ b, N b → ¬ H b → N' b ∧ u'.heap[b]? = u.heap[b]?) → Ow w0 M u' N' H' y q → (∀ b, H' b → H b ∨ Fy b) → Disj F Fy → GT.cells y q = GT.cells (el xs k).prog (p.2 k).prog → (∀ b, H b → N' b) →
      ∃ p2, Ow w0 M u' N' (Or F H') (xs.set k { el xs k with prog := y }) (p.1, p2) :=
  o.focus2 hk (fun x => x.prog) (fun r => r.prog) (fun x y => { x with prog := y }) (fun r q => { r with prog := q }) fun G u x r h => by
    obtain ⟨G0, G1, G2, G3, g0, g1, g2, g3, s, f0, f1, f2, f3, f4⟩ := h
    refine ⟨G0, g0, s.sub _ (by simp), fun u' y q H' Fy h' hs hd hw hc => ⟨⟨H', G1, G2, G3, h', GT.own_agree g1 fun b hb _ => hw b (s.sub _ (by simp) b hb) fun hH => (pw s.dis (i := 0) (j := 1) (by decide) rfl rfl) b hH hb, GT.own_agree g2 fun b hb _ => hw b (s.sub _ (by simp) b hb) fun hH => (pw s.dis (i := 0) (j := 2) (by decide) rfl rfl) b hH hb, GT.own_agree g3 fun b hb _ => hw b (s.sub _ (by simp) b hb) fun hH => (pw s.dis (i := 0) (j := 3) (by decide) rfl rfl) b hH hb, sepd_set s (i := 0) rfl hs hd, f0, f1, f2, f3, f4⟩, ?_⟩⟩
    have e := (List.cons.inj hc).1
    show [slv y.length q.1, I x.acc, I x.pc, slv x.written.length r.written.1, slv x.live.length r.live.1, I x.ctl.traps, I x.ctl.post, B x.ctl.opn, I x.pend, I x.exit.kind, I x.exit.page, B x.exit.wr, I x.exit.n, B x.halted, slv x.seen.length r.seen.1] = [slv x.prog.length r.prog.1, I x.acc, I x.pc, slv x.written.length r.written.1, slv x.live.length r.live.1, I x.ctl.traps, I x.ctl.post, B x.ctl.opn, I x.pend, I x.exit.kind, I x.exit.page, B x.exit.wr, I x.exit.n, B x.halted, slv x.seen.length r.seen.1]
    rw [e]
theorem owl_Guest_prog {K : Nat} {G Fy : Bl} {u : World} {x : TGuest} {p : PGuest} {l : List TIns} {q : GT.Ptr (List TIns)} (h : GT.own K G u x p) (hl : GT.own K Fy u l q) (hd : Disj G Fy) : GT.own K (Or G Fy) u ({ x with prog := l } : TGuest) { p with prog := q } := by
  obtain ⟨G0, G1, G2, G3, g0, g1, g2, g3, s, f0, f1, f2, f3, f4⟩ := h
  exact ⟨Fy, G1, G2, G3, hl, g1, g2, g3, sepd_set s (i := 0) rfl (fun _ z => .inr z) hd, f0, f1, f2, f3, f4⟩
theorem foc2_Guest_written {xs : List TGuest} {p : LP TGuest} {F : Bl} (o : Ow w0 M u N F xs p) {k : Nat} (hk : k < xs.length) :
    ∃ H : Bl, Ow w0 M u N H (el xs k).written (p.2 k).written ∧ (∀ b, H b → F b) ∧ ∀ (u' : World) (N' : Bl) (y : List TSlot) (q : GT.Ptr (List TSlot)) (H' Fy : Bl), (∀ b, N b → ¬ H b → N' b ∧ u'.heap[b]? = u.heap[b]?) → Ow w0 M u' N' H' y q → (∀ b, H' b → H b ∨ Fy b) → Disj F Fy → GT.cells y q = GT.cells (el xs k).written (p.2 k).written → (∀ b, H b → N' b) →
      ∃ p2, Ow w0 M u' N' (Or F H') (xs.set k { el xs k with written := y }) (p.1, p2) :=
  o.focus2 hk (fun x => x.written) (fun r => r.written) (fun x y => { x with written := y }) (fun r q => { r with written := q }) fun G u x r h => by
    obtain ⟨G0, G1, G2, G3, g0, g1, g2, g3, s, f0, f1, f2, f3, f4⟩ := h
    refine ⟨G1, g1, s.sub _ (by simp), fun u' y q H' Fy h' hs hd hw hc => ⟨⟨G0, H', G2, G3, GT.own_agree g0 fun b hb _ => hw b (s.sub _ (by simp) b hb) fun hH => (pw s.dis (i := 0) (j := 1) (by decide) rfl rfl) b hb hH, h', GT.own_agree g2 fun b hb _ => hw b (s.sub _ (by simp) b hb) fun hH => (pw s.dis (i := 1) (j := 2) (by decide) rfl rfl) b hH hb, GT.own_agree g3 fun b hb _ => hw b (s.sub _ (by simp) b hb) fun hH => (pw s.dis (i := 1) (j := 3) (by decide) rfl rfl) b hH hb, sepd_set s (i := 1) rfl hs hd, f0, f1, f2, f3, f4⟩, ?_⟩⟩
    have e := (List.cons.inj hc).1
    show [slv x.prog.length r.prog.1, I x.acc, I x.pc, slv y.length q.1, slv x.live.length r.live.1, I x.ctl.traps, I x.ctl.post, B x.ctl.opn, I x.pend, I x.exit.kind, I x.exit.page, B x.exit.wr, I x.exit.n, B x.halted, slv x.seen.length r.seen.1] = [slv x.prog.length r.prog.1, I x.acc, I x.pc, slv x.written.length r.written.1, slv x.live.length r.live.1, I x.ctl.traps, I x.ctl.post, B x.ctl.opn, I x.pend, I x.exit.kind, I x.exit.page, B x.exit.wr, I x.exit.n, B x.halted, slv x.seen.length r.seen.1]
    rw [e]
theorem owl_Guest_written {K : Nat} {G Fy : Bl} {u : World} {x : TGuest} {p : PGuest} {l : List TSlot} {q : GT.Ptr (List TSlot)} (h : GT.own K G u x p) (hl : GT.own K Fy u l q) (hd : Disj G Fy) : GT.own K (Or G Fy) u ({ x with written := l } : TGuest) { p with written := q } := by
  obtain ⟨G0, G1, G2, G3, g0, g1, g2, g3, s, f0, f1, f2, f3, f4⟩ := h
  exact ⟨G0, Fy, G2, G3, g0, hl, g2, g3, sepd_set s (i := 1) rfl (fun _ z => .inr z) hd, f0, f1, f2, f3, f4⟩
theorem foc2_Guest_live {xs : List TGuest} {p : LP TGuest} {F : Bl} (o : Ow w0 M u N F xs p) {k : Nat} (hk : k < xs.length) :
    ∃ H : Bl, Ow w0 M u N H (el xs k).live (p.2 k).live ∧ (∀ b, H b → F b) ∧ ∀ (u' : World) (N' : Bl) (y : List TSlot) (q : GT.Ptr (List TSlot)) (H' Fy : Bl), (∀ b, N b → ¬ H b → N' b ∧ u'.heap[b]? = u.heap[b]?) → Ow w0 M u' N' H' y q → (∀ b, H' b → H b ∨ Fy b) → Disj F Fy → GT.cells y q = GT.cells (el xs k).live (p.2 k).live → (∀ b, H b → N' b) →
      ∃ p2, Ow w0 M u' N' (Or F H') (xs.set k { el xs k with live := y }) (p.1, p2) :=
  o.focus2 hk (fun x => x.live) (fun r => r.live) (fun x y => { x with live := y }) (fun r q => { r with live := q }) fun G u x r h => by
    obtain ⟨G0, G1, G2, G3, g0, g1, g2, g3, s, f0, f1, f2, f3, f4⟩ := h
    refine ⟨G2, g2, s.sub _ (by simp), fun u' y q H' Fy h' hs hd hw hc => ⟨⟨G0, G1, H', G3, GT.own_agree g0 fun b hb _ => hw b (s.sub _ (by simp) b hb) fun hH => (pw s.dis (i := 0) (j := 2) (by decide) rfl rfl) b hb hH, GT.own_agree g1 fun b hb _ => hw b (s.sub _ (by simp) b hb) fun hH => (pw s.dis (i := 1) (j := 2) (by decide) rfl rfl) b hb hH, h', GT.own_agree g3 fun b hb _ => hw b (s.sub _ (by simp) b hb) fun hH => (pw s.dis (i := 2) (j := 3) (by decide) rfl rfl) b hH hb, sepd_set s (i := 2) rfl hs hd, f0, f1, f2, f3, f4⟩, ?_⟩⟩
    have e := (List.cons.inj hc).1
    show [slv x.prog.length r.prog.1, I x.acc, I x.pc, slv x.written.length r.written.1, slv y.length q.1, I x.ctl.traps, I x.ctl.post, B x.ctl.opn, I x.pend, I x.exit.kind, I x.exit.page, B x.exit.wr, I x.exit.n, B x.halted, slv x.seen.length r.seen.1] = [slv x.prog.length r.prog.1, I x.acc, I x.pc, slv x.written.length r.written.1, slv x.live.length r.live.1, I x.ctl.traps, I x.ctl.post, B x.ctl.opn, I x.pend, I x.exit.kind, I x.exit.page, B x.exit.wr, I x.exit.n, B x.halted, slv x.seen.length r.seen.1]
    rw [e]
theorem owl_Guest_live {K : Nat} {G Fy : Bl} {u : World} {x : TGuest} {p : PGuest} {l : List TSlot} {q : GT.Ptr (List TSlot)} (h : GT.own K G u x p) (hl : GT.own K Fy u l q) (hd : Disj G Fy) : GT.own K (Or G Fy) u ({ x with live := l } : TGuest) { p with live := q } := by
  obtain ⟨G0, G1, G2, G3, g0, g1, g2, g3, s, f0, f1, f2, f3, f4⟩ := h
  exact ⟨G0, G1, Fy, G3, g0, g1, hl, g3, sepd_set s (i := 2) rfl (fun _ z => .inr z) hd, f0, f1, f2, f3, f4⟩
theorem foc2_Guest_seen {xs : List TGuest} {p : LP TGuest} {F : Bl} (o : Ow w0 M u N F xs p) {k : Nat} (hk : k < xs.length) :
    ∃ H : Bl, Ow w0 M u N H (el xs k).seen (p.2 k).seen ∧ (∀ b, H b → F b) ∧ ∀ (u' : World) (N' : Bl) (y : List Int) (q : GT.Ptr (List Int)) (H' Fy : Bl), (∀ b, N b → ¬ H b → N' b ∧ u'.heap[b]? = u.heap[b]?) → Ow w0 M u' N' H' y q → (∀ b, H' b → H b ∨ Fy b) → Disj F Fy → GT.cells y q = GT.cells (el xs k).seen (p.2 k).seen → (∀ b, H b → N' b) →
      ∃ p2, Ow w0 M u' N' (Or F H') (xs.set k { el xs k with seen := y }) (p.1, p2) :=
  o.focus2 hk (fun x => x.seen) (fun r => r.seen) (fun x y => { x with seen := y }) (fun r q => { r with seen := q }) fun G u x r h => by
    obtain ⟨G0, G1, G2, G3, g0, g1, g2, g3, s, f0, f1, f2, f3, f4⟩ := h
    refine ⟨G3, g3, s.sub _ (by simp), fun u' y q H' Fy h' hs hd hw hc => ⟨⟨G0, G1, G2, H', GT.own_agree g0 fun b hb _ => hw b (s.sub _ (by simp) b hb) fun hH => (pw s.dis (i := 0) (j := 3) (by decide) rfl rfl) b hb hH, GT.own_agree g1 fun b hb _ => hw b (s.sub _ (by simp) b hb) fun hH => (pw s.dis (i := 1) (j := 3) (by decide) rfl rfl) b hb hH, GT.own_agree g2 fun b hb _ => hw b (s.sub _ (by simp) b hb) fun hH => (pw s.dis (i := 2) (j := 3) (by decide) rfl rfl) b hb hH, h', sepd_set s (i := 3) rfl hs hd, f0, f1, f2, f3, f4⟩, ?_⟩⟩
    have e := (List.cons.inj hc).1
    show [slv x.prog.length r.prog.1, I x.acc, I x.pc, slv x.written.length r.written.1, slv x.live.length r.live.1, I x.ctl.traps, I x.ctl.post, B x.ctl.opn, I x.pend, I x.exit.kind, I x.exit.page, B x.exit.wr, I x.exit.n, B x.halted, slv y.length q.1] = [slv x.prog.length r.prog.1, I x.acc, I x.pc, slv x.written.length r.written.1, slv x.live.length r.live.1, I x.ctl.traps, I x.ctl.post, B x.ctl.opn, I x.pend, I x.exit.kind, I x.exit.page, B x.exit.wr, I x.exit.n, B x.halted, slv x.seen.length r.seen.1]
    rw [e]
theorem owl_Guest_seen {K : Nat} {G Fy : Bl} {u : World} {x : TGuest} {p : PGuest} {l : List Int} {q : GT.Ptr (List Int)} (h : GT.own K G u x p) (hl : GT.own K Fy u l q) (hd : Disj G Fy) : GT.own K (Or G Fy) u ({ x with seen := l } : TGuest) { p with seen := q } := by
  obtain ⟨G0, G1, G2, G3, g0, g1, g2, g3, s, f0, f1, f2, f3, f4⟩ := h
  exact ⟨G0, G1, G2, Fy, g0, g1, g2, hl, sepd_set s (i := 3) rfl (fun _ z => .inr z) hd, f0, f1, f2, f3, f4⟩
theorem foc2_Mon_outer {xs : List TMon} {p : LP TMon} {F : Bl} (o : Ow w0 M u N F xs p) {k : Nat} (hk : k < xs.length) :
    ∃ H : Bl, Ow w0 M u N H (el xs k).outer (p.2 k).outer ∧ (∀ b, H b → F b) ∧ ∀ (u' : World) (N' : Bl) (y : List TSlot) (q : GT.Ptr (List TSlot)) (H' Fy : Bl), (∀ b, N b → ¬ H b → N' b ∧ u'.heap[b]? = u.heap[b]?) → Ow w0 M u' N' H' y q → (∀ b, H' b → H b ∨ Fy b) → Disj F Fy → GT.cells y q = GT.cells (el xs k).outer (p.2 k).outer → (∀ b, H b → N' b) →
      ∃ p2, Ow w0 M u' N' (Or F H') (xs.set k { el xs k with outer := y }) (p.1, p2) :=
  o.focus2 hk (fun x => x.outer) (fun r => r.outer) (fun x y => { x with outer := y }) (fun r q => { r with outer := q }) fun G u x r h => by
    obtain ⟨G0, G1, G2, G3, G4, G5, g0, g1, g2, g3, g4, g5, s, f0, f1, f2⟩ := h
    refine ⟨G0, g0, s.sub _ (by simp), fun u' y q H' Fy h' hs hd hw hc => ⟨⟨H', G1, G2, G3, G4, G5, h', GT.own_agree g1 fun b hb _ => hw b (s.sub _ (by simp) b hb) fun hH => (pw s.dis (i := 0) (j := 1) (by decide) rfl rfl) b hH hb, GT.own_agree g2 fun b hb _ => hw b (s.sub _ (by simp) b hb) fun hH => (pw s.dis (i := 0) (j := 2) (by decide) rfl rfl) b hH hb, GT.own_agree g3 fun b hb _ => hw b (s.sub _ (by simp) b hb) fun hH => (pw s.dis (i := 0) (j := 3) (by decide) rfl rfl) b hH hb, GT.own_agree g4 fun b hb _ => hw b (s.sub _ (by simp) b hb) fun hH => (pw s.dis (i := 0) (j := 4) (by decide) rfl rfl) b hH hb, GT.own_agree g5 fun b hb _ => hw b (s.sub _ (by simp) b hb) fun hH => (pw s.dis (i := 0) (j := 5) (by decide) rfl rfl) b hH hb, sepd_set s (i := 0) rfl hs hd, f0, f1, f2⟩, ?_⟩⟩
    have e := (List.cons.inj hc).1
    show [slv y.length q.1, slv x.out.length r.out.1, slv x.dirty.length r.dirty.1, slv x.guests.length r.guests.1, slv x.outs.length r.outs.1, I x.pend, I x.traps, slv x.tables.length r.tables.1, I x.owned] = [slv x.outer.length r.outer.1, slv x.out.length r.out.1, slv x.dirty.length r.dirty.1, slv x.guests.length r.guests.1, slv x.outs.length r.outs.1, I x.pend, I x.traps, slv x.tables.length r.tables.1, I x.owned]
    rw [e]
theorem owl_Mon_outer {K : Nat} {G Fy : Bl} {u : World} {x : TMon} {p : PMon} {l : List TSlot} {q : GT.Ptr (List TSlot)} (h : GT.own K G u x p) (hl : GT.own K Fy u l q) (hd : Disj G Fy) : GT.own K (Or G Fy) u ({ x with outer := l } : TMon) { p with outer := q } := by
  obtain ⟨G0, G1, G2, G3, G4, G5, g0, g1, g2, g3, g4, g5, s, f0, f1, f2⟩ := h
  exact ⟨Fy, G1, G2, G3, G4, G5, hl, g1, g2, g3, g4, g5, sepd_set s (i := 0) rfl (fun _ z => .inr z) hd, f0, f1, f2⟩
theorem foc2_Mon_out {xs : List TMon} {p : LP TMon} {F : Bl} (o : Ow w0 M u N F xs p) {k : Nat} (hk : k < xs.length) :
    ∃ H : Bl, Ow w0 M u N H (el xs k).out (p.2 k).out ∧ (∀ b, H b → F b) ∧ ∀ (u' : World) (N' : Bl) (y : List (List Int)) (q : GT.Ptr (List (List Int))) (H' Fy : Bl), (∀ b, N b → ¬ H b → N' b ∧ u'.heap[b]? = u.heap[b]?) → Ow w0 M u' N' H' y q → (∀ b, H' b → H b ∨ Fy b) → Disj F Fy → GT.cells y q = GT.cells (el xs k).out (p.2 k).out → (∀ b, H b → N' b) →
      ∃ p2, Ow w0 M u' N' (Or F H') (xs.set k { el xs k with out := y }) (p.1, p2) :=
  o.focus2 hk (fun x => x.out) (fun r => r.out) (fun x y => { x with out := y }) (fun r q => { r with out := q }) fun G u x r h => by
    obtain ⟨G0, G1, G2, G3, G4, G5, g0, g1, g2, g3, g4, g5, s, f0, f1, f2⟩ := h
    refine ⟨G1, g1, s.sub _ (by simp), fun u' y q H' Fy h' hs hd hw hc => ⟨⟨G0, H', G2, G3, G4, G5, GT.own_agree g0 fun b hb _ => hw b (s.sub _ (by simp) b hb) fun hH => (pw s.dis (i := 0) (j := 1) (by decide) rfl rfl) b hb hH, h', GT.own_agree g2 fun b hb _ => hw b (s.sub _ (by simp) b hb) fun hH => (pw s.dis (i := 1) (j := 2) (by decide) rfl rfl) b hH hb, GT.own_agree g3 fun b hb _ => hw b (s.sub _ (by simp) b hb) fun hH => (pw s.dis (i := 1) (j := 3) (by decide) rfl rfl) b hH hb, GT.own_agree g4 fun b hb _ => hw b (s.sub _ (by simp) b hb) fun hH => (pw s.dis (i := 1) (j := 4) (by decide) rfl rfl) b hH hb, GT.own_agree g5 fun b hb _ => hw b (s.sub _ (by simp) b hb) fun hH => (pw s.dis (i := 1) (j := 5) (by decide) rfl rfl) b hH hb, sepd_set s (i := 1) rfl hs hd, f0, f1, f2⟩, ?_⟩⟩
    have e := (List.cons.inj hc).1
    show [slv x.outer.length r.outer.1, slv y.length q.1, slv x.dirty.length r.dirty.1, slv x.guests.length r.guests.1, slv x.outs.length r.outs.1, I x.pend, I x.traps, slv x.tables.length r.tables.1, I x.owned] = [slv x.outer.length r.outer.1, slv x.out.length r.out.1, slv x.dirty.length r.dirty.1, slv x.guests.length r.guests.1, slv x.outs.length r.outs.1, I x.pend, I x.traps, slv x.tables.length r.tables.1, I x.owned]
    rw [e]
theorem owl_Mon_out {K : Nat} {G Fy : Bl} {u : World} {x : TMon} {p : PMon} {l : List (List Int)} {q : GT.Ptr (List (List Int))} (h : GT.own K G u x p) (hl : GT.own K Fy u l q) (hd : Disj G Fy) : GT.own K (Or G Fy) u ({ x with out := l } : TMon) { p with out := q } := by
  obtain ⟨G0, G1, G2, G3, G4, G5, g0, g1, g2, g3, g4, g5, s, f0, f1, f2⟩ := h
  exact ⟨G0, Fy, G2, G3, G4, G5, g0, hl, g2, g3, g4, g5, sepd_set s (i := 1) rfl (fun _ z => .inr z) hd, f0, f1, f2⟩
theorem foc2_Mon_dirty {xs : List TMon} {p : LP TMon} {F : Bl} (o : Ow w0 M u N F xs p) {k : Nat} (hk : k < xs.length) :
    ∃ H : Bl, Ow w0 M u N H (el xs k).dirty (p.2 k).dirty ∧ (∀ b, H b → F b) ∧ ∀ (u' : World) (N' : Bl) (y : List Bool) (q : GT.Ptr (List Bool)) (H' Fy : Bl), (∀ b, N b → ¬ H b → N' b ∧ u'.heap[b]? = u.heap[b]?) → Ow w0 M u' N' H' y q → (∀ b, H' b → H b ∨ Fy b) → Disj F Fy → GT.cells y q = GT.cells (el xs k).dirty (p.2 k).dirty → (∀ b, H b → N' b) →
      ∃ p2, Ow w0 M u' N' (Or F H') (xs.set k { el xs k with dirty := y }) (p.1, p2) :=
  o.focus2 hk (fun x => x.dirty) (fun r => r.dirty) (fun x y => { x with dirty := y }) (fun r q => { r with dirty := q }) fun G u x r h => by
    obtain ⟨G0, G1, G2, G3, G4, G5, g0, g1, g2, g3, g4, g5, s, f0, f1, f2⟩ := h
    refine ⟨G2, g2, s.sub _ (by simp), fun u' y q H' Fy h' hs hd hw hc => ⟨⟨G0, G1, H', G3, G4, G5, GT.own_agree g0 fun b hb _ => hw b (s.sub _ (by simp) b hb) fun hH => (pw s.dis (i := 0) (j := 2) (by decide) rfl rfl) b hb hH, GT.own_agree g1 fun b hb _ => hw b (s.sub _ (by simp) b hb) fun hH => (pw s.dis (i := 1) (j := 2) (by decide) rfl rfl) b hb hH, h', GT.own_agree g3 fun b hb _ => hw b (s.sub _ (by simp) b hb) fun hH => (pw s.dis (i := 2) (j := 3) (by decide) rfl rfl) b hH hb, GT.own_agree g4 fun b hb _ => hw b (s.sub _ (by simp) b hb) fun hH => (pw s.dis (i := 2) (j := 4) (by decide) rfl rfl) b hH hb, GT.own_agree g5 fun b hb _ => hw b (s.sub _ (by simp) b hb) fun hH => (pw s.dis (i := 2) (j := 5) (by decide) rfl rfl) b hH hb, sepd_set s (i := 2) rfl hs hd, f0, f1, f2⟩, ?_⟩⟩
    have e := (List.cons.inj hc).1
    show [slv x.outer.length r.outer.1, slv x.out.length r.out.1, slv y.length q.1, slv x.guests.length r.guests.1, slv x.outs.length r.outs.1, I x.pend, I x.traps, slv x.tables.length r.tables.1, I x.owned] = [slv x.outer.length r.outer.1, slv x.out.length r.out.1, slv x.dirty.length r.dirty.1, slv x.guests.length r.guests.1, slv x.outs.length r.outs.1, I x.pend, I x.traps, slv x.tables.length r.tables.1, I x.owned]
    rw [e]
theorem owl_Mon_dirty {K : Nat} {G Fy : Bl} {u : World} {x : TMon} {p : PMon} {l : List Bool} {q : GT.Ptr (List Bool)} (h : GT.own K G u x p) (hl : GT.own K Fy u l q) (hd : Disj G Fy) : GT.own K (Or G Fy) u ({ x with dirty := l } : TMon) { p with dirty := q } := by
  obtain ⟨G0, G1, G2, G3, G4, G5, g0, g1, g2, g3, g4, g5, s, f0, f1, f2⟩ := h
  exact ⟨G0, G1, Fy, G3, G4, G5, g0, g1, hl, g3, g4, g5, sepd_set s (i := 2) rfl (fun _ z => .inr z) hd, f0, f1, f2⟩
theorem foc2_Mon_guests {xs : List TMon} {p : LP TMon} {F : Bl} (o : Ow w0 M u N F xs p) {k : Nat} (hk : k < xs.length) :
    ∃ H : Bl, Ow w0 M u N H (el xs k).guests (p.2 k).guests ∧ (∀ b, H b → F b) ∧ ∀ (u' : World) (N' : Bl) (y : List TGuest) (q : GT.Ptr (List TGuest)) (H' Fy : Bl), (∀ b, N b → ¬ H b → N' b ∧ u'.heap[b]? = u.heap[b]?) → Ow w0 M u' N' H' y q → (∀ b, H' b → H b ∨ Fy b) → Disj F Fy → GT.cells y q = GT.cells (el xs k).guests (p.2 k).guests → (∀ b, H b → N' b) →
      ∃ p2, Ow w0 M u' N' (Or F H') (xs.set k { el xs k with guests := y }) (p.1, p2) :=
  o.focus2 hk (fun x => x.guests) (fun r => r.guests) (fun x y => { x with guests := y }) (fun r q => { r with guests := q }) fun G u x r h => by
    obtain ⟨G0, G1, G2, G3, G4, G5, g0, g1, g2, g3, g4, g5, s, f0, f1, f2⟩ := h
    refine ⟨G3, g3, s.sub _ (by simp), fun u' y q H' Fy h' hs hd hw hc => ⟨⟨G0, G1, G2, H', G4, G5, GT.own_agree g0 fun b hb _ => hw b (s.sub _ (by simp) b hb) fun hH => (pw s.dis (i := 0) (j := 3) (by decide) rfl rfl) b hb hH, GT.own_agree g1 fun b hb _ => hw b (s.sub _ (by simp) b hb) fun hH => (pw s.dis (i := 1) (j := 3) (by decide) rfl rfl) b hb hH, GT.own_agree g2 fun b hb _ => hw b (s.sub _ (by simp) b hb) fun hH => (pw s.dis (i := 2) (j := 3) (by decide) rfl rfl) b hb hH, h', GT.own_agree g4 fun b hb _ => hw b (s.sub _ (by simp) b hb) fun hH => (pw s.dis (i := 3) (j := 4) (by decide) rfl rfl) b hH hb, GT.own_agree g5 fun b hb _ => hw b (s.sub _ (by simp) b hb) fun hH => (pw s.dis (i := 3) (j := 5) (by decide) rfl rfl) b hH hb, sepd_set s (i := 3) rfl hs hd, f0, f1, f2⟩, ?_⟩⟩
    have e := (List.cons.inj hc).1
    show [slv x.outer.length r.outer.1, slv x.out.length r.out.1, slv x.dirty.length r.dirty.1, slv y.length q.1, slv x.outs.length r.outs.1, I x.pend, I x.traps, slv x.tables.length r.tables.1, I x.owned] = [slv x.outer.length r.outer.1, slv x.out.length r.out.1, slv x.dirty.length r.dirty.1, slv x.guests.length r.guests.1, slv x.outs.length r.outs.1, I x.pend, I x.traps, slv x.tables.length r.tables.1, I x.owned]
    rw [e]
theorem owl_Mon_guests {K : Nat} {G Fy : Bl} {u : World} {x : TMon} {p : PMon} {l : List TGuest} {q : GT.Ptr (List TGuest)} (h : GT.own K G u x p) (hl : GT.own K Fy u l q) (hd : Disj G Fy) : GT.own K (Or G Fy) u ({ x with guests := l } : TMon) { p with guests := q } := by
  obtain ⟨G0, G1, G2, G3, G4, G5, g0, g1, g2, g3, g4, g5, s, f0, f1, f2⟩ := h
  exact ⟨G0, G1, G2, Fy, G4, G5, g0, g1, g2, hl, g4, g5, sepd_set s (i := 3) rfl (fun _ z => .inr z) hd, f0, f1, f2⟩
theorem foc2_Mon_outs {xs : List TMon} {p : LP TMon} {F : Bl} (o : Ow w0 M u N F xs p) {k : Nat} (hk : k < xs.length) :
    ∃ H : Bl, Ow w0 M u N H (el xs k).outs (p.2 k).outs ∧ (∀ b, H b → F b) ∧ ∀ (u' : World) (N' : Bl) (y : List Int) (q : GT.Ptr (List Int)) (H' Fy : Bl), (∀ b, N b → ¬ H b → N' b ∧ u'.heap[b]? = u.heap[b]?) → Ow w0 M u' N' H' y q → (∀ b, H' b → H b ∨ Fy b) → Disj F Fy → GT.cells y q = GT.cells (el xs k).outs (p.2 k).outs → (∀ b, H b → N' b) →
      ∃ p2, Ow w0 M u' N' (Or F H') (xs.set k { el xs k with outs := y }) (p.1, p2) :=
  o.focus2 hk (fun x => x.outs) (fun r => r.outs) (fun x y => { x with outs := y }) (fun r q => { r with outs := q }) fun G u x r h => by
    obtain ⟨G0, G1, G2, G3, G4, G5, g0, g1, g2, g3, g4, g5, s, f0, f1, f2⟩ := h
    refine ⟨G4, g4, s.sub _ (by simp), fun u' y q H' Fy h' hs hd hw hc => ⟨⟨G0, G1, G2, G3, H', G5, GT.own_agree g0 fun b hb _ => hw b (s.sub _ (by simp) b hb) fun hH => (pw s.dis (i := 0) (j := 4) (by decide) rfl rfl) b hb hH, GT.own_agree g1 fun b hb _ => hw b (s.sub _ (by simp) b hb) fun hH => (pw s.dis (i := 1) (j := 4) (by decide) rfl rfl) b hb hH, GT.own_agree g2 fun b hb _ => hw b (s.sub _ (by simp) b hb) fun hH => (pw s.dis (i := 2) (j := 4) (by decide) rfl rfl) b hb hH, GT.own_agree g3 fun b hb _ => hw b (s.sub _ (by simp) b hb) fun hH => (pw s.dis (i := 3) (j := 4) (by decide) rfl rfl) b hb hH, h', GT.own_agree g5 fun b hb _ => hw b (s.sub _ (by simp) b hb) fun hH => (pw s.dis (i := 4) (j := 5) (by decide) rfl rfl) b hH hb, sepd_set s (i := 4) rfl hs hd, f0, f1, f2⟩, ?_⟩⟩
    have e := (List.cons.inj hc).1
    show [slv x.outer.length r.outer.1, slv x.out.length r.out.1, slv x.dirty.length r.dirty.1, slv x.guests.length r.guests.1, slv y.length q.1, I x.pend, I x.traps, slv x.tables.length r.tables.1, I x.owned] = [slv x.outer.length r.outer.1, slv x.out.length r.out.1, slv x.dirty.length r.dirty.1, slv x.guests.length r.guests.1, slv x.outs.length r.outs.1, I x.pend, I x.traps, slv x.tables.length r.tables.1, I x.owned]
    rw [e]
theorem owl_Mon_outs {K : Nat} {G Fy : Bl} {u : World} {x : TMon} {p : PMon} {l : List Int} {q : GT.Ptr (List Int)} (h : GT.own K G u x p) (hl : GT.own K Fy u l q) (hd : Disj G Fy) : GT.own K (Or G Fy) u ({ x with outs := l } : TMon) { p with outs := q } := by
  obtain ⟨G0, G1, G2, G3, G4, G5, g0, g1, g2, g3, g4, g5, s, f0, f1, f2⟩ := h
  exact ⟨G0, G1, G2, G3, Fy, G5, g0, g1, g2, g3, hl, g5, sepd_set s (i := 4) rfl (fun _ z => .inr z) hd, f0, f1, f2⟩
theorem foc2_Mon_tables {xs : List TMon} {p : LP TMon} {F : Bl} (o : Ow w0 M u N F xs p) {k : Nat} (hk : k < xs.length) :
    ∃ H : Bl, Ow w0 M u N H (el xs k).tables (p.2 k).tables ∧ (∀ b, H b → F b) ∧ ∀ (u' : World) (N' : Bl) (y : List TKept) (q : GT.Ptr (List TKept)) (H' Fy : Bl), (∀ b, N b → ¬ H b → N' b ∧ u'.heap[b]? = u.heap[b]?) → Ow w0 M u' N' H' y q → (∀ b, H' b → H b ∨ Fy b) → Disj F Fy → GT.cells y q = GT.cells (el xs k).tables (p.2 k).tables → (∀ b, H b → N' b) →
      ∃ p2, Ow w0 M u' N' (Or F H') (xs.set k { el xs k with tables := y }) (p.1, p2) :=
  o.focus2 hk (fun x => x.tables) (fun r => r.tables) (fun x y => { x with tables := y }) (fun r q => { r with tables := q }) fun G u x r h => by
    obtain ⟨G0, G1, G2, G3, G4, G5, g0, g1, g2, g3, g4, g5, s, f0, f1, f2⟩ := h
    refine ⟨G5, g5, s.sub _ (by simp), fun u' y q H' Fy h' hs hd hw hc => ⟨⟨G0, G1, G2, G3, G4, H', GT.own_agree g0 fun b hb _ => hw b (s.sub _ (by simp) b hb) fun hH => (pw s.dis (i := 0) (j := 5) (by decide) rfl rfl) b hb hH, GT.own_agree g1 fun b hb _ => hw b (s.sub _ (by simp) b hb) fun hH => (pw s.dis (i := 1) (j := 5) (by decide) rfl rfl) b hb hH, GT.own_agree g2 fun b hb _ => hw b (s.sub _ (by simp) b hb) fun hH => (pw s.dis (i := 2) (j := 5) (by decide) rfl rfl) b hb hH, GT.own_agree g3 fun b hb _ => hw b (s.sub _ (by simp) b hb) fun hH => (pw s.dis (i := 3) (j := 5) (by decide) rfl rfl) b hb hH, GT.own_agree g4 fun b hb _ => hw b (s.sub _ (by simp) b hb) fun hH => (pw s.dis (i := 4) (j := 5) (by decide) rfl rfl) b hb hH, h', sepd_set s (i := 5) rfl hs hd, f0, f1, f2⟩, ?_⟩⟩
    have e := (List.cons.inj hc).1
    show [slv x.outer.length r.outer.1, slv x.out.length r.out.1, slv x.dirty.length r.dirty.1, slv x.guests.length r.guests.1, slv x.outs.length r.outs.1, I x.pend, I x.traps, slv y.length q.1, I x.owned] = [slv x.outer.length r.outer.1, slv x.out.length r.out.1, slv x.dirty.length r.dirty.1, slv x.guests.length r.guests.1, slv x.outs.length r.outs.1, I x.pend, I x.traps, slv x.tables.length r.tables.1, I x.owned]
    rw [e]
theorem owl_Mon_tables {K : Nat} {G Fy : Bl} {u : World} {x : TMon} {p : PMon} {l : List TKept} {q : GT.Ptr (List TKept)} (h : GT.own K G u x p) (hl : GT.own K Fy u l q) (hd : Disj G Fy) : GT.own K (Or G Fy) u ({ x with tables := l } : TMon) { p with tables := q } := by
  obtain ⟨G0, G1, G2, G3, G4, G5, g0, g1, g2, g3, g4, g5, s, f0, f1, f2⟩ := h
  exact ⟨G0, G1, G2, G3, G4, Fy, g0, g1, g2, g3, g4, hl, sepd_set s (i := 5) rfl (fun _ z => .inr z) hd, f0, f1, f2⟩
theorem foc2_Bare_mem {xs : List TBare} {p : LP TBare} {F : Bl} (o : Ow w0 M u N F xs p) {k : Nat} (hk : k < xs.length) :
    ∃ H : Bl, Ow w0 M u N H (el xs k).mem (p.2 k).mem ∧ (∀ b, H b → F b) ∧ ∀ (u' : World) (N' : Bl) (y : List (List Int)) (q : GT.Ptr (List (List Int))) (H' Fy : Bl), (∀ b, N b → ¬ H b → N' b ∧ u'.heap[b]? = u.heap[b]?) → Ow w0 M u' N' H' y q → (∀ b, H' b → H b ∨ Fy b) → Disj F Fy → GT.cells y q = GT.cells (el xs k).mem (p.2 k).mem → (∀ b, H b → N' b) →
      ∃ p2, Ow w0 M u' N' (Or F H') (xs.set k { el xs k with mem := y }) (p.1, p2) :=
  o.focus2 hk (fun x => x.mem) (fun r => r.mem) (fun x y => { x with mem := y }) (fun r q => { r with mem := q }) fun G u x r h => by
    obtain ⟨G0, G1, G2, g0, g1, g2, s, f0⟩ := h
    refine ⟨G0, g0, s.sub _ (by simp), fun u' y q H' Fy h' hs hd hw hc => ⟨⟨H', G1, G2, h', GT.own_agree g1 fun b hb _ => hw b (s.sub _ (by simp) b hb) fun hH => (pw s.dis (i := 0) (j := 1) (by decide) rfl rfl) b hH hb, GT.own_agree g2 fun b hb _ => hw b (s.sub _ (by simp) b hb) fun hH => (pw s.dis (i := 0) (j := 2) (by decide) rfl rfl) b hH hb, sepd_set s (i := 0) rfl hs hd, f0⟩, ?_⟩⟩
    have e := (List.cons.inj hc).1
    show [slv y.length q.1, slv x.guests.length r.guests.1, slv x.outs.length r.outs.1, I x.pend] = [slv x.mem.length r.mem.1, slv x.guests.length r.guests.1, slv x.outs.length r.outs.1, I x.pend]
    rw [e]
theorem owl_Bare_mem {K : Nat} {G Fy : Bl} {u : World} {x : TBare} {p : PBare} {l : List (List Int)} {q : GT.Ptr (List (List Int))} (h : GT.own K G u x p) (hl : GT.own K Fy u l q) (hd : Disj G Fy) : GT.own K (Or G Fy) u ({ x with mem := l } : TBare) { p with mem := q } := by
  obtain ⟨G0, G1, G2, g0, g1, g2, s, f0⟩ := h
  exact ⟨Fy, G1, G2, hl, g1, g2, sepd_set s (i := 0) rfl (fun _ z => .inr z) hd, f0⟩
theorem foc2_Bare_guests {xs : List TBare} {p : LP TBare} {F : Bl} (o : Ow w0 M u N F xs p) {k : Nat} (hk : k < xs.length) :
    ∃ H : Bl, Ow w0 M u N H (el xs k).guests (p.2 k).guests ∧ (∀ b, H b → F b) ∧ ∀ (u' : World) (N' : Bl) (y : List TGuest) (q : GT.Ptr (List TGuest)) (H' Fy : Bl), (∀ b, N b → ¬ H b → N' b ∧ u'.heap[b]? = u.heap[b]?) → Ow w0 M u' N' H' y q → (∀ b, H' b → H b ∨ Fy b) → Disj F Fy → GT.cells y q = GT.cells (el xs k).guests (p.2 k).guests → (∀ b, H b → N' b) →
      ∃ p2, Ow w0 M u' N' (Or F H') (xs.set k { el xs k with guests := y }) (p.1, p2) :=
  o.focus2 hk (fun x => x.guests) (fun r => r.guests) (fun x y => { x with guests := y }) (fun r q => { r with guests := q }) fun G u x r h => by
    obtain ⟨G0, G1, G2, g0, g1, g2, s, f0⟩ := h
    refine ⟨G1, g1, s.sub _ (by simp), fun u' y q H' Fy h' hs hd hw hc => ⟨⟨G0, H', G2, GT.own_agree g0 fun b hb _ => hw b (s.sub _ (by simp) b hb) fun hH => (pw s.dis (i := 0) (j := 1) (by decide) rfl rfl) b hb hH, h', GT.own_agree g2 fun b hb _ => hw b (s.sub _ (by simp) b hb) fun hH => (pw s.dis (i := 1) (j := 2) (by decide) rfl rfl) b hH hb, sepd_set s (i := 1) rfl hs hd, f0⟩, ?_⟩⟩
    have e := (List.cons.inj hc).1
    show [slv x.mem.length r.mem.1, slv y.length q.1, slv x.outs.length r.outs.1, I x.pend] = [slv x.mem.length r.mem.1, slv x.guests.length r.guests.1, slv x.outs.length r.outs.1, I x.pend]
    rw [e]
theorem owl_Bare_guests {K : Nat} {G Fy : Bl} {u : World} {x : TBare} {p : PBare} {l : List TGuest} {q : GT.Ptr (List TGuest)} (h : GT.own K G u x p) (hl : GT.own K Fy u l q) (hd : Disj G Fy) : GT.own K (Or G Fy) u ({ x with guests := l } : TBare) { p with guests := q } := by
  obtain ⟨G0, G1, G2, g0, g1, g2, s, f0⟩ := h
  exact ⟨G0, Fy, G2, g0, hl, g2, sepd_set s (i := 1) rfl (fun _ z => .inr z) hd, f0⟩
theorem foc2_Bare_outs {xs : List TBare} {p : LP TBare} {F : Bl} (o : Ow w0 M u N F xs p) {k : Nat} (hk : k < xs.length) :
    ∃ H : Bl, Ow w0 M u N H (el xs k).outs (p.2 k).outs ∧ (∀ b, H b → F b) ∧ ∀ (u' : World) (N' : Bl) (y : List Int) (q : GT.Ptr (List Int)) (H' Fy : Bl), (∀ b, N b → ¬ H b → N' b ∧ u'.heap[b]? = u.heap[b]?) → Ow w0 M u' N' H' y q → (∀ b, H' b → H b ∨ Fy b) → Disj F Fy → GT.cells y q = GT.cells (el xs k).outs (p.2 k).outs → (∀ b, H b → N' b) →
      ∃ p2, Ow w0 M u' N' (Or F H') (xs.set k { el xs k with outs := y }) (p.1, p2) :=
  o.focus2 hk (fun x => x.outs) (fun r => r.outs) (fun x y => { x with outs := y }) (fun r q => { r with outs := q }) fun G u x r h => by
    obtain ⟨G0, G1, G2, g0, g1, g2, s, f0⟩ := h
    refine ⟨G2, g2, s.sub _ (by simp), fun u' y q H' Fy h' hs hd hw hc => ⟨⟨G0, G1, H', GT.own_agree g0 fun b hb _ => hw b (s.sub _ (by simp) b hb) fun hH => (pw s.dis (i := 0) (j := 2) (by decide) rfl rfl) b hb hH, GT.own_agree g1 fun b hb _ => hw b (s.sub _ (by simp) b hb) fun hH => (pw s.dis (i := 1) (j := 2) (by decide) rfl rfl) b hb hH, h', sepd_set s (i := 2) rfl hs hd, f0⟩, ?_⟩⟩
    have e := (List.cons.inj hc).1
    show [slv x.mem.length r.mem.1, slv x.guests.length r.guests.1, slv y.length q.1, I x.pend] = [slv x.mem.length r.mem.1, slv x.guests.length r.guests.1, slv x.outs.length r.outs.1, I x.pend]
    rw [e]
theorem owl_Bare_outs {K : Nat} {G Fy : Bl} {u : World} {x : TBare} {p : PBare} {l : List Int} {q : GT.Ptr (List Int)} (h : GT.own K G u x p) (hl : GT.own K Fy u l q) (hd : Disj G Fy) : GT.own K (Or G Fy) u ({ x with outs := l } : TBare) { p with outs := q } := by
  obtain ⟨G0, G1, G2, g0, g1, g2, s, f0⟩ := h
  exact ⟨G0, G1, Fy, g0, g1, hl, sepd_set s (i := 2) rfl (fun _ z => .inr z) hd, f0⟩
theorem foc2_Host_mem {xs : List THost} {p : LP THost} {F : Bl} (o : Ow w0 M u N F xs p) {k : Nat} (hk : k < xs.length) :
    ∃ H : Bl, Ow w0 M u N H (el xs k).mem (p.2 k).mem ∧ (∀ b, H b → F b) ∧ ∀ (u' : World) (N' : Bl) (y : List (List Int)) (q : GT.Ptr (List (List Int))) (H' Fy : Bl), (∀ b, N b → ¬ H b → N' b ∧ u'.heap[b]? = u.heap[b]?) → Ow w0 M u' N' H' y q → (∀ b, H' b → H b ∨ Fy b) → Disj F Fy → GT.cells y q = GT.cells (el xs k).mem (p.2 k).mem → (∀ b, H b → N' b) →
      ∃ p2, Ow w0 M u' N' (Or F H') (xs.set k { el xs k with mem := y }) (p.1, p2) :=
  o.focus2 hk (fun x => x.mem) (fun r => r.mem) (fun x y => { x with mem := y }) (fun r q => { r with mem := q }) fun G u x r h => by
    obtain ⟨G0, G1, G2, G3, g0, g1, g2, g3, s⟩ := h
    refine ⟨G0, g0, s.sub _ (by simp), fun u' y q H' Fy h' hs hd hw hc => ⟨⟨H', G1, G2, G3, h', GT.own_agree g1 fun b hb _ => hw b (s.sub _ (by simp) b hb) fun hH => (pw s.dis (i := 0) (j := 1) (by decide) rfl rfl) b hH hb, GT.own_agree g2 fun b hb _ => hw b (s.sub _ (by simp) b hb) fun hH => (pw s.dis (i := 0) (j := 2) (by decide) rfl rfl) b hH hb, GT.own_agree g3 fun b hb _ => hw b (s.sub _ (by simp) b hb) fun hH => (pw s.dis (i := 0) (j := 3) (by decide) rfl rfl) b hH hb, sepd_set s (i := 0) rfl hs hd⟩, ?_⟩⟩
    have e := (List.cons.inj hc).1
    show [slv y.length q.1, slv x.mons.length r.mons.1, slv x.buf.length r.buf.1, slv x.iobuf.length r.iobuf.1] = [slv x.mem.length r.mem.1, slv x.mons.length r.mons.1, slv x.buf.length r.buf.1, slv x.iobuf.length r.iobuf.1]
    rw [e]
theorem owl_Host_mem {K : Nat} {G Fy : Bl} {u : World} {x : THost} {p : PHost} {l : List (List Int)} {q : GT.Ptr (List (List Int))} (h : GT.own K G u x p) (hl : GT.own K Fy u l q) (hd : Disj G Fy) : GT.own K (Or G Fy) u ({ x with mem := l } : THost) { p with mem := q } := by
  obtain ⟨G0, G1, G2, G3, g0, g1, g2, g3, s⟩ := h
  exact ⟨Fy, G1, G2, G3, hl, g1, g2, g3, sepd_set s (i := 0) rfl (fun _ z => .inr z) hd⟩
theorem foc2_Host_mons {xs : List THost} {p : LP THost} {F : Bl} (o : Ow w0 M u N F xs p) {k : Nat} (hk : k < xs.length) :
    ∃ H : Bl, Ow w0 M u N H (el xs k).mons (p.2 k).mons ∧ (∀ b, H b → F b) ∧ ∀ (u' : World) (N' : Bl) (y : List TMon) (q : GT.Ptr (List TMon)) (H' Fy : Bl), (∀ b, N b → ¬ H b → N' b ∧ u'.heap[b]? = u.heap[b]?) → Ow w0 M u' N' H' y q → (∀ b, H' b → H b ∨ Fy b) → Disj F Fy → GT.cells y q = GT.cells (el xs k).mons (p.2 k).mons → (∀ b, H b → N' b) →
      ∃ p2, Ow w0 M u' N' (Or F H') (xs.set k { el xs k with mons := y }) (p.1, p2) :=
  o.focus2 hk (fun x => x.mons) (fun r => r.mons) (fun x y => { x with mons := y }) (fun r q => { r with mons := q }) fun G u x r h => by
    obtain ⟨G0, G1, G2, G3, g0, g1, g2, g3, s⟩ := h
    refine ⟨G1, g1, s.sub _ (by simp), fun u' y q H' Fy h' hs hd hw hc => ⟨⟨G0, H', G2, G3, GT.own_agree g0 fun b hb _ => hw b (s.sub _ (by simp) b hb) fun hH => (pw s.dis (i := 0) (j := 1) (by decide) rfl rfl) b hb hH, h', GT.own_agree g2 fun b hb _ => hw b (s.sub _ (by simp) b hb) fun hH => (pw s.dis (i := 1) (j := 2) (by decide) rfl rfl) b hH hb, GT.own_agree g3 fun b hb _ => hw b (s.sub _ (by simp) b hb) fun hH => (pw s.dis (i := 1) (j := 3) (by decide) rfl rfl) b hH hb, sepd_set s (i := 1) rfl hs hd⟩, ?_⟩⟩
    have e := (List.cons.inj hc).1
    show [slv x.mem.length r.mem.1, slv y.length q.1, slv x.buf.length r.buf.1, slv x.iobuf.length r.iobuf.1] = [slv x.mem.length r.mem.1, slv x.mons.length r.mons.1, slv x.buf.length r.buf.1, slv x.iobuf.length r.iobuf.1]
    rw [e]
theorem owl_Host_mons {K : Nat} {G Fy : Bl} {u : World} {x : THost} {p : PHost} {l : List TMon} {q : GT.Ptr (List TMon)} (h : GT.own K G u x p) (hl : GT.own K Fy u l q) (hd : Disj G Fy) : GT.own K (Or G Fy) u ({ x with mons := l } : THost) { p with mons := q } := by
  obtain ⟨G0, G1, G2, G3, g0, g1, g2, g3, s⟩ := h
  exact ⟨G0, Fy, G2, G3, g0, hl, g2, g3, sepd_set s (i := 1) rfl (fun _ z => .inr z) hd⟩
theorem foc2_Host_buf {xs : List THost} {p : LP THost} {F : Bl} (o : Ow w0 M u N F xs p) {k : Nat} (hk : k < xs.length) :
    ∃ H : Bl, Ow w0 M u N H (el xs k).buf (p.2 k).buf ∧ (∀ b, H b → F b) ∧ ∀ (u' : World) (N' : Bl) (y : List TEntry) (q : GT.Ptr (List TEntry)) (H' Fy : Bl), (∀ b, N b → ¬ H b → N' b ∧ u'.heap[b]? = u.heap[b]?) → Ow w0 M u' N' H' y q → (∀ b, H' b → H b ∨ Fy b) → Disj F Fy → GT.cells y q = GT.cells (el xs k).buf (p.2 k).buf → (∀ b, H b → N' b) →
      ∃ p2, Ow w0 M u' N' (Or F H') (xs.set k { el xs k with buf := y }) (p.1, p2) :=
  o.focus2 hk (fun x => x.buf) (fun r => r.buf) (fun x y => { x with buf := y }) (fun r q => { r with buf := q }) fun G u x r h => by
    obtain ⟨G0, G1, G2, G3, g0, g1, g2, g3, s⟩ := h
    refine ⟨G2, g2, s.sub _ (by simp), fun u' y q H' Fy h' hs hd hw hc => ⟨⟨G0, G1, H', G3, GT.own_agree g0 fun b hb _ => hw b (s.sub _ (by simp) b hb) fun hH => (pw s.dis (i := 0) (j := 2) (by decide) rfl rfl) b hb hH, GT.own_agree g1 fun b hb _ => hw b (s.sub _ (by simp) b hb) fun hH => (pw s.dis (i := 1) (j := 2) (by decide) rfl rfl) b hb hH, h', GT.own_agree g3 fun b hb _ => hw b (s.sub _ (by simp) b hb) fun hH => (pw s.dis (i := 2) (j := 3) (by decide) rfl rfl) b hH hb, sepd_set s (i := 2) rfl hs hd⟩, ?_⟩⟩
    have e := (List.cons.inj hc).1
    show [slv x.mem.length r.mem.1, slv x.mons.length r.mons.1, slv y.length q.1, slv x.iobuf.length r.iobuf.1] = [slv x.mem.length r.mem.1, slv x.mons.length r.mons.1, slv x.buf.length r.buf.1, slv x.iobuf.length r.iobuf.1]
    rw [e]
theorem owl_Host_buf {K : Nat} {G Fy : Bl} {u : World} {x : THost} {p : PHost} {l : List TEntry} {q : GT.Ptr (List TEntry)} (h : GT.own K G u x p) (hl : GT.own K Fy u l q) (hd : Disj G Fy) : GT.own K (Or G Fy) u ({ x with buf := l } : THost) { p with buf := q } := by
  obtain ⟨G0, G1, G2, G3, g0, g1, g2, g3, s⟩ := h
  exact ⟨G0, G1, Fy, G3, g0, g1, hl, g3, sepd_set s (i := 2) rfl (fun _ z => .inr z) hd⟩
theorem foc2_Host_iobuf {xs : List THost} {p : LP THost} {F : Bl} (o : Ow w0 M u N F xs p) {k : Nat} (hk : k < xs.length) :
    ∃ H : Bl, Ow w0 M u N H (el xs k).iobuf (p.2 k).iobuf ∧ (∀ b, H b → F b) ∧ ∀ (u' : World) (N' : Bl) (y : List TEntry) (q : GT.Ptr (List TEntry)) (H' Fy : Bl), (∀ b, N b → ¬ H b → N' b ∧ u'.heap[b]? = u.heap[b]?) → Ow w0 M u' N' H' y q → (∀ b, H' b → H b ∨ Fy b) → Disj F Fy → GT.cells y q = GT.cells (el xs k).iobuf (p.2 k).iobuf → (∀ b, H b → N' b) →
      ∃ p2, Ow w0 M u' N' (Or F H') (xs.set k { el xs k with iobuf := y }) (p.1, p2) :=
  o.focus2 hk (fun x => x.iobuf) (fun r => r.iobuf) (fun x y => { x with iobuf := y }) (fun r q => { r with iobuf := q }) fun G u x r h => by
    obtain ⟨G0, G1, G2, G3, g0, g1, g2, g3, s⟩ := h
    refine ⟨G3, g3, s.sub _ (by simp), fun u' y q H' Fy h' hs hd hw hc => ⟨⟨G0, G1, G2, H', GT.own_agree g0 fun b hb _ => hw b (s.sub _ (by simp) b hb) fun hH => (pw s.dis (i := 0) (j := 3) (by decide) rfl rfl) b hb hH, GT.own_agree g1 fun b hb _ => hw b (s.sub _ (by simp) b hb) fun hH => (pw s.dis (i := 1) (j := 3) (by decide) rfl rfl) b hb hH, GT.own_agree g2 fun b hb _ => hw b (s.sub _ (by simp) b hb) fun hH => (pw s.dis (i := 2) (j := 3) (by decide) rfl rfl) b hb hH, h', sepd_set s (i := 3) rfl hs hd⟩, ?_⟩⟩
    have e := (List.cons.inj hc).1
    show [slv x.mem.length r.mem.1, slv x.mons.length r.mons.1, slv x.buf.length r.buf.1, slv y.length q.1] = [slv x.mem.length r.mem.1, slv x.mons.length r.mons.1, slv x.buf.length r.buf.1, slv x.iobuf.length r.iobuf.1]
    rw [e]
theorem owl_Host_iobuf {K : Nat} {G Fy : Bl} {u : World} {x : THost} {p : PHost} {l : List TEntry} {q : GT.Ptr (List TEntry)} (h : GT.own K G u x p) (hl : GT.own K Fy u l q) (hd : Disj G Fy) : GT.own K (Or G Fy) u ({ x with iobuf := l } : THost) { p with iobuf := q } := by
  obtain ⟨G0, G1, G2, G3, g0, g1, g2, g3, s⟩ := h
  exact ⟨G0, G1, G2, Fy, g0, g1, g2, hl, sepd_set s (i := 3) rfl (fun _ z => .inr z) hd⟩
end
end Go.Proofs.Ytpjhamcanhnfjaa
