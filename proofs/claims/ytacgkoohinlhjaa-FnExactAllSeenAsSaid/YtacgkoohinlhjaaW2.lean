/- The walks: what each function that the laws reach computes (part 2). -/
import Derived.Test.YtacgkoohinlhjaaW1
import Derived.Test.YtacgkoohinlhjaaProg
import Derived.KernelRfl
namespace Go.Proofs.Ytacgkoohinlhjaa
open Go
set_option linter.unusedVariables false
set_option linter.unusedSimpArgs false

set_option maxRecDepth 100000 in
theorem c_spec_l07Copy (w0 : World) (k : TKept) (pk : PKept) (hk : GT.rd KK (Lt w0.heap.size) w0 k pk) : Calls Go.Proofs.Try.prog 83 [GT.val (α := TKept) k pk].toArray w0 (Ret1 NoB w0 (k : TKept)) := by
  refine Calls.walk (args := [GT.val (α := TKept) k pk]) NoB Go.Proofs.Try.func83 rfl rfl ?_
  intro ac β S
  have hlek_known : k.known.length ≤ 4194304 := LRd.le (RKept.known (d := k) hk)
  have hlek_slots : k.slots.length ≤ 4194304 := LRd.le (RKept.slots (d := k) hk)
  refine wp_seq ?_
  refine RG.start ?_
  refine S.quiet (k := 2) (keep := [1, 2]) (m := 2) (σ' := ⟨[(1, .p 0 0), (2, .p 1 0)], [GT.cells (α := TKept) k pk, [slv (([] : List Bool)).length (GT.pdflt (α := List Bool)).1, slv (([] : List TSlot)).length (GT.pdflt (α := List TSlot)).1]]⟩) .nil (by kernel_rfl) ?_
  clear S; intro ac w β S
  refine RG.done rfl (nx_then ?_)
  refine wp_seq ?_
  replace S := S.prune (keep := [1, 2]) (m := 2) (σ' := ⟨[(1, .p 0 0), (2, .p 1 0)], [GT.cells (α := TKept) k pk, [slv (([] : List Bool)).length (GT.pdflt (α := List Bool)).1, slv (([] : List TSlot)).length (GT.pdflt (α := List TSlot)).1]]⟩) (by kernel_rfl)
  obtain ⟨u0, N0, β0, S⟩ : ∃ (u0 : World) (N0 : Bl) (β0 : Nat → Nat), St Go.Proofs.Try.prog Go.Proofs.Try.f83.ntmps w0 NoB u0 N0 β0 ⟨[(1, .p 0 0), (2, .p 1 0)], [GT.cells (α := TKept) k pk, [slv (([] : List Bool)).length (GT.pdflt (α := List Bool)).1, slv (([] : List TSlot)).length (GT.pdflt (α := List TSlot)).1]]⟩ ac w := ⟨_, _, _, S.cast (by kernel_rfl)⟩
  refine wp_region_cut (fun ac w => ∃ (q55 : GT.Ptr (List Bool)) (F56 : Bl) (q58 : GT.Ptr (List TSlot)) (F59 : Bl) (u : World) (N : Bl) (β : Nat → Nat), St Go.Proofs.Try.prog Go.Proofs.Try.f83.ntmps w0 NoB u N β ⟨[(2, .p 1 0)], [GT.cells (α := TKept) k pk, [slv ((([] : List Bool) ++ k.known)).length q55.1, slv ((([] : List TSlot) ++ k.slots)).length q58.1]]⟩ ac w ∧ Ow w0 NoB u N F56 (([] : List Bool) ++ k.known) q55 ∧ Ow w0 NoB u N F59 (([] : List TSlot) ++ k.slots) q58 ∧ Disj F56 F59) ?_ ?_
  · refine S.draw0 (f := 10) 9 rfl rfl ?_
    clear S; intro w S
    refine S.hoist (i := 1) (path := [1]) (keep := [1, 2, 4]) (m := 2) (σ' := ⟨[(1, .p 0 0), (2, .p 1 0), (4, .p 0 0)], [GT.cells (α := TKept) k pk, [slv (([] : List Bool)).length (GT.pdflt (α := List Bool)).1, slv (([] : List TSlot)).length (GT.pdflt (α := List TSlot)).1]]⟩) (by kernel_rfl) (by kernel_rfl) .nil (by kernel_rfl) ?_
    clear S; intro ac S
    refine S.hoist (i := 2) (path := [2]) (keep := [1, 2, 5]) (m := 2) (σ' := ⟨[(1, .p 0 0), (2, .p 1 0), (5, .v (slv (k.known).length pk.known.1))], [GT.cells (α := TKept) k pk, [slv (([] : List Bool)).length (GT.pdflt (α := List Bool)).1, slv (([] : List TSlot)).length (GT.pdflt (α := List TSlot)).1]]⟩) (by kernel_rfl) (by kernel_rfl) .nil (by kernel_rfl) ?_
    clear S; intro ac S
    refine S.hoist (i := 5) (path := [5]) (keep := [2, 5, 8]) (m := 2) (σ' := ⟨[(2, .p 1 0), (5, .v (slv (k.known).length pk.known.1)), (8, .p 0 1)], [GT.cells (α := TKept) k pk, [slv (([] : List Bool)).length (GT.pdflt (α := List Bool)).1, slv (([] : List TSlot)).length (GT.pdflt (α := List TSlot)).1]]⟩) (by kernel_rfl) (by kernel_rfl) .nil (by kernel_rfl) ?_
    clear S; intro ac S
    refine S.hoist (i := 6) (path := [6]) (keep := [2, 5, 9]) (m := 2) (σ' := ⟨[(2, .p 1 0), (5, .v (slv (k.known).length pk.known.1)), (9, .v (slv (k.slots).length pk.slots.1))], [GT.cells (α := TKept) k pk, [slv (([] : List Bool)).length (GT.pdflt (α := List Bool)).1, slv (([] : List TSlot)).length (GT.pdflt (α := List TSlot)).1]]⟩) (by kernel_rfl) (by kernel_rfl) .nil (by kernel_rfl) ?_
    clear S; intro ac S
    refine WD.nameW fun W hW => ?_
    refine WD.castW (l' := mkL 10 [1, 2, 5, 6]) (by kernel_rfl) ?_
    have hK60 : ∀ (ac : Act) (w : World) (q55 : GT.Ptr (List Bool)) (F56 : Bl) (q58 : GT.Ptr (List TSlot)) (F59 : Bl) (u : World) (N : Bl) (β : Nat → Nat) (S : St Go.Proofs.Try.prog Go.Proofs.Try.f83.ntmps w0 NoB u N β ⟨[(2, .p 1 0)], [GT.cells (α := TKept) k pk, [slv ((([] : List Bool) ++ k.known)).length q55.1, slv ((([] : List TSlot) ++ k.slots)).length q58.1]]⟩ ac w) (o54 : Ow w0 NoB u N F56 (([] : List Bool) ++ k.known) q55) (o57 : Ow w0 NoB u N F59 (([] : List TSlot) ++ k.slots) q58) (d61 : Disj F56 F59) (hb : ∀ b, N0 b → N b ∧ u.heap[b]? = u0.heap[b]?) (hB : ∀ k, k < 2 → β k = β0 k), W 0 (mkL 10 [0, 1, 2, 3, 4, 5, 6, 7, 8, 9]) ac w := by
      intro ac w q55 F56 q58 F59 u N β S o54 o57 d61 hb hB
      rw [hW]
      refine WD.done (by kernel_rfl) ?_ _
      replace S := S.prune (keep := [2]) (m := 2) (σ' := ⟨[(2, .p 1 0)], [GT.cells (α := TKept) k pk, [slv ((([] : List Bool) ++ k.known)).length q55.1, slv ((([] : List TSlot) ++ k.slots)).length q58.1]]⟩) (by kernel_rfl)
      exact ⟨rfl, q55, F56, q58, F59, _, _, _, S.cast (by kernel_rfl), o54, o57, d61⟩
    have hK62 : ∀ (ac : Act) (w : World) (q49 : GT.Ptr (List Bool)) (F50 : Bl) (q52 : GT.Ptr (List TSlot)) (F53 : Bl) (u : World) (N : Bl) (β : Nat → Nat) (S : St Go.Proofs.Try.prog Go.Proofs.Try.f83.ntmps w0 NoB u N β ⟨[(2, .p 1 0), (11, .v (GT.val (α := TKept) (⟨(([] : List Bool) ++ k.known), (([] : List TSlot) ++ k.slots)⟩ : TKept) (⟨q49, q52⟩ : PKept)))], [GT.cells (α := TKept) k pk, [slv (([] : List Bool)).length (GT.pdflt (α := List Bool)).1, slv (([] : List TSlot)).length (GT.pdflt (α := List TSlot)).1]]⟩ ac w) (o48 : Ow w0 NoB u N F50 (([] : List Bool) ++ k.known) q49) (o51 : Ow w0 NoB u N F53 (([] : List TSlot) ++ k.slots) q52) (d63 : Disj F50 F53) (hb : ∀ b, N0 b → N b ∧ u.heap[b]? = u0.heap[b]?) (hB : ∀ k, k < 2 → β k = β0 k), W 1 (mkL 10 [0, 1, 2, 3, 4, 5, 6, 7, 8]) ac w := by
      intro ac w q49 F50 q52 F53 u N β S o48 o51 d63 hb hB
      rw [hW]
      refine WD.one (i := 9) (by kernel_rfl) ?_
      refine S.stepq (i := 9) (keep := [2]) (m := 2) (σ' := ⟨[(2, .p 1 0)], [GT.cells (α := TKept) k pk, [slv ((([] : List Bool) ++ k.known)).length q49.1, slv ((([] : List TSlot) ++ k.slots)).length q52.1]]⟩) .nil (by kernel_rfl) ?_
      clear S; intro ac w β S hβ
      have hB2 := fun k (hk : k < 2) => (hβ k (Nat.lt_of_lt_of_le hk (Nat.le_of_ble_eq_true rfl))).trans (hB k hk)
      refine WD.last (by kernel_rfl) ?_
      clear hβ
      replace S := S.prune (keep := [2]) (m := 2) (σ' := ⟨[(2, .p 1 0)], [GT.cells (α := TKept) k pk, [slv ((([] : List Bool) ++ k.known)).length q49.1, slv ((([] : List TSlot) ++ k.slots)).length q52.1]]⟩) (by kernel_rfl)
      exact WD.ofW hW (by kernel_rfl) (hK60 ac w q49 F50 q52 F53 _ _ _ (S.cast (by kernel_rfl)) o48 o51 d63 hb hB2)
    have hK64 : ∀ (ac : Act) (w : World) (q46 : GT.Ptr (List TSlot)) (F47 : Bl) (q24 : GT.Ptr (List Bool)) (F25 : Bl) (u : World) (N : Bl) (β : Nat → Nat) (S : St Go.Proofs.Try.prog Go.Proofs.Try.f83.ntmps w0 NoB u N β ⟨[(2, .p 1 0), (6, .v (slv ((([] : List Bool) ++ k.known)).length q24.1)), (10, .v (slv ((([] : List TSlot) ++ k.slots)).length q46.1))], [GT.cells (α := TKept) k pk, [slv (([] : List Bool)).length (GT.pdflt (α := List Bool)).1, slv (([] : List TSlot)).length (GT.pdflt (α := List TSlot)).1]]⟩ ac w) (o45 : Ow w0 NoB u N F47 (([] : List TSlot) ++ k.slots) q46) (o23 : Ow w0 NoB u N F25 (([] : List Bool) ++ k.known) q24) (d65 : Disj F47 F25) (hb : ∀ b, N0 b → N b ∧ u.heap[b]? = u0.heap[b]?) (hB : ∀ k, k < 2 → β k = β0 k), W 2 (mkL 10 [0, 1, 2, 3, 4, 5, 6, 7]) ac w := by
      intro ac w q46 F47 q24 F25 u N β S o45 o23 d65 hb hB
      rw [hW]
      refine WD.one (i := 8) (by kernel_rfl) ?_
      refine S.stepq (i := 8) (keep := [2, 11]) (m := 2) (σ' := ⟨[(2, .p 1 0), (11, .v (GT.val (α := TKept) (⟨(([] : List Bool) ++ k.known), (([] : List TSlot) ++ k.slots)⟩ : TKept) (⟨q24, q46⟩ : PKept)))], [GT.cells (α := TKept) k pk, [slv (([] : List Bool)).length (GT.pdflt (α := List Bool)).1, slv (([] : List TSlot)).length (GT.pdflt (α := List TSlot)).1]]⟩) (.cons (Q_sem (s := Instr.build 101 [(0, slv ((([] : List Bool) ++ k.known)).length q24.1), (1, slv ((([] : List TSlot) ++ k.slots)).length q46.1)].toArray) (v := .agg [slv ((([] : List Bool) ++ k.known)).length q24.1, slv ((([] : List TSlot) ++ k.slots)).length q46.1].toArray) (fun w => by kernel_rfl)) .nil) (by kernel_rfl) ?_
      clear S; intro ac w β S hβ
      have hB2 := fun k (hk : k < 2) => (hβ k (Nat.lt_of_lt_of_le hk (Nat.le_of_ble_eq_true rfl))).trans (hB k hk)
      refine WD.stayK S (fun b h => ⟨(hb b h).1, (hb b h).2⟩) hB2 (fun _ _ h => h) ?_
      clear hβ
      replace S := S.prune (keep := [2, 11]) (m := 2) (σ' := ⟨[(2, .p 1 0), (11, .v (GT.val (α := TKept) (⟨(([] : List Bool) ++ k.known), (([] : List TSlot) ++ k.slots)⟩ : TKept) (⟨q24, q46⟩ : PKept)))], [GT.cells (α := TKept) k pk, [slv (([] : List Bool)).length (GT.pdflt (α := List Bool)).1, slv (([] : List TSlot)).length (GT.pdflt (α := List TSlot)).1]]⟩) (by kernel_rfl)
      exact WD.ofW hW (by kernel_rfl) (hK62 ac w q24 F25 q46 F47 _ _ _ (S.cast (by kernel_rfl)) o23 o45 (Disj.symm d65) hb hB2)
    have hK66 : ∀ (ac : Act) (w : World) (q24 : GT.Ptr (List Bool)) (F25 : Bl) (q15 : GT.Ptr (List TSlot)) (F16 : Bl) (u : World) (N : Bl) (β : Nat → Nat) (S : St Go.Proofs.Try.prog Go.Proofs.Try.f83.ntmps w0 NoB u N β ⟨[(2, .p 1 0), (6, .v (slv ((([] : List Bool) ++ k.known)).length q24.1)), (7, .v (slv 0 q15.1)), (9, .v (slv (k.slots).length pk.slots.1))], [GT.cells (α := TKept) k pk, [slv (([] : List Bool)).length (GT.pdflt (α := List Bool)).1, slv (([] : List TSlot)).length (GT.pdflt (α := List TSlot)).1]]⟩ ac w) (o23 : Ow w0 NoB u N F25 (([] : List Bool) ++ k.known) q24) (o14 : Ow w0 NoB u N F16 ([] : List TSlot) q15) (d67 : Disj F25 F16) (hb : ∀ b, N0 b → N b ∧ u.heap[b]? = u0.heap[b]? ∧ ¬ F16 b) (hB : ∀ k, k < 2 → β k = β0 k), W 3 (mkL 10 [0, 1, 2, 3, 4, 5, 6]) ac w := by
      intro ac w q24 F25 q15 F16 u N β S o23 o14 d67 hb hB
      rw [hW]
      refine WD.one (i := 7) (by kernel_rfl) ?_
      have b72 : (k.slots).length ≤ 4194304 := LRd.le (RKept.slots (d := k) (S.arg hk))
      refine id (S.appFlat (α := TSlot) o14 ((RKept.slots (d := k) (S.arg hk))) (fun _ _ h => h) (by' := 16) (d := 10) (lx := 0) (ly := (k.slots).length) rfl rfl (by kernel_rfl) (show _ ≤ 4194304 by simp only [List.length_append, List.length_cons, List.length_nil]; omega) ?_)
      clear S; intro ac w N q68 F69 S up o70 d71
      have hb73 := fun b h => (⟨(up b (hb b h).1 (hb b h).2.2).1, (up b (hb b h).1 (hb b h).2.2).2.trans (hb b h).2.1⟩ : _ ∧ _)
      refine WD.stayK S (fun b h => ⟨(hb73 b h).1, (hb73 b h).2⟩) hB (fun _ _ h => h) ?_
      have d74 : Disj F25 F69 := d71 _ d67 o23.sub
      replace o23 := o23.upF d67 up
      clear up d71
      replace S := S.prune (keep := [2, 6, 10]) (m := 2) (σ' := ⟨[(2, .p 1 0), (6, .v (slv ((([] : List Bool) ++ k.known)).length q24.1)), (10, .v (slv ((([] : List TSlot) ++ k.slots)).length q68.1))], [GT.cells (α := TKept) k pk, [slv (([] : List Bool)).length (GT.pdflt (α := List Bool)).1, slv (([] : List TSlot)).length (GT.pdflt (α := List TSlot)).1]]⟩) (by kernel_rfl)
      exact WD.ofW hW (by kernel_rfl) (hK64 ac w q68 F69 q24 F25 _ _ _ (S.cast (by kernel_rfl)) o70 o23 (Disj.symm d74) hb73 hB)
    have hK75 : ∀ (ac : Act) (w : World) (q24 : GT.Ptr (List Bool)) (F25 : Bl) (u : World) (N : Bl) (β : Nat → Nat) (S : St Go.Proofs.Try.prog Go.Proofs.Try.f83.ntmps w0 NoB u N β ⟨[(2, .p 1 0), (6, .v (slv ((([] : List Bool) ++ k.known)).length q24.1)), (9, .v (slv (k.slots).length pk.slots.1))], [GT.cells (α := TKept) k pk, [slv (([] : List Bool)).length (GT.pdflt (α := List Bool)).1, slv (([] : List TSlot)).length (GT.pdflt (α := List TSlot)).1]]⟩ ac w) (o23 : Ow w0 NoB u N F25 (([] : List Bool) ++ k.known) q24) (hb : ∀ b, N0 b → N b ∧ u.heap[b]? = u0.heap[b]?) (hB : ∀ k, k < 2 → β k = β0 k), W 4 (mkL 10 [0, 1, 2, 3, 5, 6]) ac w := by
      intro ac w q24 F25 u N β S o23 hb hB
      rw [hW]
      refine WD.one (i := 4) (by kernel_rfl) ?_
      refine id (S.bs0 (α := TSlot) (d := 7) (by kernel_rfl) ?_)
      clear S; intro ac w N q76 F77 S up o78 d79
      have hb80 := fun b h => (⟨(up b (hb b h).1).1, (up b (hb b h).1).2.trans (hb b h).2, d79 b (hb b h).1⟩ : _ ∧ _ ∧ _)
      refine WD.stayK S (fun b h => ⟨(hb80 b h).1, (hb80 b h).2.1⟩) hB (fun _ _ h => h) ?_
      have d81 : Disj F25 F77 := fun b x y => d79 b (o23.sub b x) y
      replace o23 := o23.up up
      clear up d79
      replace S := S.prune (keep := [2, 6, 7, 9]) (m := 2) (σ' := ⟨[(2, .p 1 0), (6, .v (slv ((([] : List Bool) ++ k.known)).length q24.1)), (7, .v (slv 0 q76.1)), (9, .v (slv (k.slots).length pk.slots.1))], [GT.cells (α := TKept) k pk, [slv (([] : List Bool)).length (GT.pdflt (α := List Bool)).1, slv (([] : List TSlot)).length (GT.pdflt (α := List TSlot)).1]]⟩) (by kernel_rfl)
      exact WD.ofW hW (by kernel_rfl) (hK66 ac w q24 F25 q76 F77 _ _ _ (S.cast (by kernel_rfl)) o23 o78 d81 hb80 hB)
    have hK82 : ∀ (ac : Act) (w : World) (q7 : GT.Ptr (List Bool)) (F8 : Bl) (q15 : GT.Ptr (List TSlot)) (F16 : Bl) (u : World) (N : Bl) (β : Nat → Nat) (S : St Go.Proofs.Try.prog Go.Proofs.Try.f83.ntmps w0 NoB u N β ⟨[(2, .p 1 0), (3, .v (slv 0 q7.1)), (5, .v (slv (k.known).length pk.known.1)), (7, .v (slv 0 q15.1)), (9, .v (slv (k.slots).length pk.slots.1))], [GT.cells (α := TKept) k pk, [slv (([] : List Bool)).length (GT.pdflt (α := List Bool)).1, slv (([] : List TSlot)).length (GT.pdflt (α := List TSlot)).1]]⟩ ac w) (o6 : Ow w0 NoB u N F8 ([] : List Bool) q7) (o14 : Ow w0 NoB u N F16 ([] : List TSlot) q15) (d83 : Disj F8 F16) (hb : ∀ b, N0 b → N b ∧ u.heap[b]? = u0.heap[b]? ∧ ¬ F8 b ∧ ¬ F16 b) (hB : ∀ k, k < 2 → β k = β0 k), W 4 (mkL 10 [0, 1, 2, 4, 5, 6]) ac w := by
      intro ac w q7 F8 q15 F16 u N β S o6 o14 d83 hb hB
      rw [hW]
      refine WD.one (i := 3) (by kernel_rfl) ?_
      have b88 : (k.known).length ≤ 4194304 := LRd.le (RKept.known (d := k) (S.arg hk))
      refine id (S.appFlat (α := Bool) o6 ((RKept.known (d := k) (S.arg hk))) (fun _ _ h => h) (by' := 1) (d := 6) (lx := 0) (ly := (k.known).length) rfl rfl (by kernel_rfl) (show _ ≤ 4194304 by simp only [List.length_append, List.length_cons, List.length_nil]; omega) ?_)
      clear S; intro ac w N q84 F85 S up o86 d87
      have hb89 := fun b h => (⟨(up b (hb b h).1 (hb b h).2.2.1).1, (up b (hb b h).1 (hb b h).2.2.1).2.trans (hb b h).2.1, (hb b h).2.2.2⟩ : _ ∧ _ ∧ _)
      refine WD.stayK S (fun b h => ⟨(hb89 b h).1, (hb89 b h).2.1⟩) hB (fun _ _ h => h) ?_
      have d90 : Disj F16 F85 := d87 _ (Disj.symm d83) o14.sub
      replace o14 := o14.upF (Disj.symm d83) up
      clear up d87
      replace S := S.prune (keep := [2, 6, 7, 9]) (m := 2) (σ' := ⟨[(2, .p 1 0), (6, .v (slv ((([] : List Bool) ++ k.known)).length q84.1)), (7, .v (slv 0 q15.1)), (9, .v (slv (k.slots).length pk.slots.1))], [GT.cells (α := TKept) k pk, [slv (([] : List Bool)).length (GT.pdflt (α := List Bool)).1, slv (([] : List TSlot)).length (GT.pdflt (α := List TSlot)).1]]⟩) (by kernel_rfl)
      exact WD.ofW hW (by kernel_rfl) (hK66 ac w q84 F85 q15 F16 _ _ _ (S.cast (by kernel_rfl)) o86 o14 (Disj.symm d90) hb89 hB)
    have hK91 : ∀ (ac : Act) (w : World) (q7 : GT.Ptr (List Bool)) (F8 : Bl) (u : World) (N : Bl) (β : Nat → Nat) (S : St Go.Proofs.Try.prog Go.Proofs.Try.f83.ntmps w0 NoB u N β ⟨[(2, .p 1 0), (3, .v (slv 0 q7.1)), (5, .v (slv (k.known).length pk.known.1)), (9, .v (slv (k.slots).length pk.slots.1))], [GT.cells (α := TKept) k pk, [slv (([] : List Bool)).length (GT.pdflt (α := List Bool)).1, slv (([] : List TSlot)).length (GT.pdflt (α := List TSlot)).1]]⟩ ac w) (o6 : Ow w0 NoB u N F8 ([] : List Bool) q7) (hb : ∀ b, N0 b → N b ∧ u.heap[b]? = u0.heap[b]? ∧ ¬ F8 b) (hB : ∀ k, k < 2 → β k = β0 k), W 5 (mkL 10 [0, 1, 2, 5, 6]) ac w := by
      intro ac w q7 F8 u N β S o6 hb hB
      rw [hW]
      refine WD.many (rs := [3, 4]) (by kernel_rfl) rfl (List.forall_mem_cons.2 ⟨?_, List.forall_mem_cons.2 ⟨?_, List.forall_mem_nil _⟩⟩)
      · have b96 : (k.known).length ≤ 4194304 := LRd.le (RKept.known (d := k) (S.arg hk))
        refine id (S.appFlat (α := Bool) o6 ((RKept.known (d := k) (S.arg hk))) (fun _ _ h => h) (by' := 1) (d := 6) (lx := 0) (ly := (k.known).length) rfl rfl (by kernel_rfl) (show _ ≤ 4194304 by simp only [List.length_append, List.length_cons, List.length_nil]; omega) ?_)
        clear S; intro ac w N q92 F93 S up o94 d95
        have hb97 := fun b h => (⟨(up b (hb b h).1 (hb b h).2.2).1, (up b (hb b h).1 (hb b h).2.2).2.trans (hb b h).2.1⟩ : _ ∧ _)
        refine WD.stayK S (fun b h => ⟨(hb97 b h).1, (hb97 b h).2⟩) hB (fun _ _ h => h) ?_
        clear up d95
        replace S := S.prune (keep := [2, 6, 9]) (m := 2) (σ' := ⟨[(2, .p 1 0), (6, .v (slv ((([] : List Bool) ++ k.known)).length q92.1)), (9, .v (slv (k.slots).length pk.slots.1))], [GT.cells (α := TKept) k pk, [slv (([] : List Bool)).length (GT.pdflt (α := List Bool)).1, slv (([] : List TSlot)).length (GT.pdflt (α := List TSlot)).1]]⟩) (by kernel_rfl)
        exact WD.ofW hW (by kernel_rfl) (hK75 ac w q92 F93 _ _ _ (S.cast (by kernel_rfl)) o94 hb97 hB)
      · refine id (S.bs0 (α := TSlot) (d := 7) (by kernel_rfl) ?_)
        clear S; intro ac w N q98 F99 S up o100 d101
        have hb102 := fun b h => (⟨(up b (hb b h).1).1, (up b (hb b h).1).2.trans (hb b h).2.1, (hb b h).2.2, d101 b (hb b h).1⟩ : _ ∧ _ ∧ _ ∧ _)
        refine WD.stayK S (fun b h => ⟨(hb102 b h).1, (hb102 b h).2.1⟩) hB (fun _ _ h => h) ?_
        have d103 : Disj F8 F99 := fun b x y => d101 b (o6.sub b x) y
        replace o6 := o6.up up
        clear up d101
        replace S := S.prune (keep := [2, 3, 5, 7, 9]) (m := 2) (σ' := ⟨[(2, .p 1 0), (3, .v (slv 0 q7.1)), (5, .v (slv (k.known).length pk.known.1)), (7, .v (slv 0 q98.1)), (9, .v (slv (k.slots).length pk.slots.1))], [GT.cells (α := TKept) k pk, [slv (([] : List Bool)).length (GT.pdflt (α := List Bool)).1, slv (([] : List TSlot)).length (GT.pdflt (α := List TSlot)).1]]⟩) (by kernel_rfl)
        exact WD.ofW hW (by kernel_rfl) (hK82 ac w q7 F8 q98 F99 _ _ _ (S.cast (by kernel_rfl)) o6 o100 d103 hb102 hB)
    have hK104 : ∀ (ac : Act) (w : World) (q15 : GT.Ptr (List TSlot)) (F16 : Bl) (u : World) (N : Bl) (β : Nat → Nat) (S : St Go.Proofs.Try.prog Go.Proofs.Try.f83.ntmps w0 NoB u N β ⟨[(2, .p 1 0), (5, .v (slv (k.known).length pk.known.1)), (7, .v (slv 0 q15.1)), (9, .v (slv (k.slots).length pk.slots.1))], [GT.cells (α := TKept) k pk, [slv (([] : List Bool)).length (GT.pdflt (α := List Bool)).1, slv (([] : List TSlot)).length (GT.pdflt (α := List TSlot)).1]]⟩ ac w) (o14 : Ow w0 NoB u N F16 ([] : List TSlot) q15) (hb : ∀ b, N0 b → N b ∧ u.heap[b]? = u0.heap[b]? ∧ ¬ F16 b) (hB : ∀ k, k < 2 → β k = β0 k), W 5 (mkL 10 [1, 2, 4, 5, 6]) ac w := by
      intro ac w q15 F16 u N β S o14 hb hB
      rw [hW]
      refine WD.one (i := 0) (by kernel_rfl) ?_
      refine id (S.bs0 (α := Bool) (d := 3) (by kernel_rfl) ?_)
      clear S; intro ac w N q105 F106 S up o107 d108
      have hb109 := fun b h => (⟨(up b (hb b h).1).1, (up b (hb b h).1).2.trans (hb b h).2.1, d108 b (hb b h).1, (hb b h).2.2⟩ : _ ∧ _ ∧ _ ∧ _)
      refine WD.stayK S (fun b h => ⟨(hb109 b h).1, (hb109 b h).2.1⟩) hB (fun _ _ h => h) ?_
      have d110 : Disj F16 F106 := fun b x y => d108 b (o14.sub b x) y
      replace o14 := o14.up up
      clear up d108
      replace S := S.prune (keep := [2, 3, 5, 7, 9]) (m := 2) (σ' := ⟨[(2, .p 1 0), (3, .v (slv 0 q105.1)), (5, .v (slv (k.known).length pk.known.1)), (7, .v (slv 0 q15.1)), (9, .v (slv (k.slots).length pk.slots.1))], [GT.cells (α := TKept) k pk, [slv (([] : List Bool)).length (GT.pdflt (α := List Bool)).1, slv (([] : List TSlot)).length (GT.pdflt (α := List TSlot)).1]]⟩) (by kernel_rfl)
      exact WD.ofW hW (by kernel_rfl) (hK82 ac w q105 F106 q15 F16 _ _ _ (S.cast (by kernel_rfl)) o107 o14 (Disj.symm d110) hb109 hB)
    have hb : ∀ b, N0 b → N0 b ∧ u0.heap[b]? = u0.heap[b]? := fun b h => ⟨h, rfl⟩
    have hB : ∀ k, k < 2 → β0 k = β0 k := fun _ _ => rfl
    rw [hW]
    refine WD.many (rs := [0, 4]) (by kernel_rfl) rfl (List.forall_mem_cons.2 ⟨?_, List.forall_mem_cons.2 ⟨?_, List.forall_mem_nil _⟩⟩)
    · refine id (S.bs0 (α := Bool) (d := 3) (by kernel_rfl) ?_)
      clear S; intro ac w N q111 F112 S up o113 d114
      have hb115 := fun b h => (⟨(up b (hb b h).1).1, (up b (hb b h).1).2.trans (hb b h).2, d114 b (hb b h).1⟩ : _ ∧ _ ∧ _)
      refine WD.stayK S (fun b h => ⟨(hb115 b h).1, (hb115 b h).2.1⟩) hB (fun _ _ h => h) ?_
      clear up d114
      replace S := S.prune (keep := [2, 3, 5, 9]) (m := 2) (σ' := ⟨[(2, .p 1 0), (3, .v (slv 0 q111.1)), (5, .v (slv (k.known).length pk.known.1)), (9, .v (slv (k.slots).length pk.slots.1))], [GT.cells (α := TKept) k pk, [slv (([] : List Bool)).length (GT.pdflt (α := List Bool)).1, slv (([] : List TSlot)).length (GT.pdflt (α := List TSlot)).1]]⟩) (by kernel_rfl)
      exact WD.ofW hW (by kernel_rfl) (hK91 ac w q111 F112 _ _ _ (S.cast (by kernel_rfl)) o113 hb115 hB)
    · refine id (S.bs0 (α := TSlot) (d := 7) (by kernel_rfl) ?_)
      clear S; intro ac w N q116 F117 S up o118 d119
      have hb120 := fun b h => (⟨(up b (hb b h).1).1, (up b (hb b h).1).2.trans (hb b h).2, d119 b (hb b h).1⟩ : _ ∧ _ ∧ _)
      refine WD.stayK S (fun b h => ⟨(hb120 b h).1, (hb120 b h).2.1⟩) hB (fun _ _ h => h) ?_
      clear up d119
      replace S := S.prune (keep := [2, 5, 7, 9]) (m := 2) (σ' := ⟨[(2, .p 1 0), (5, .v (slv (k.known).length pk.known.1)), (7, .v (slv 0 q116.1)), (9, .v (slv (k.slots).length pk.slots.1))], [GT.cells (α := TKept) k pk, [slv (([] : List Bool)).length (GT.pdflt (α := List Bool)).1, slv (([] : List TSlot)).length (GT.pdflt (α := List TSlot)).1]]⟩) (by kernel_rfl)
      exact WD.ofW hW (by kernel_rfl) (hK104 ac w q116 F117 _ _ _ (S.cast (by kernel_rfl)) o118 hb120 hB)
  clear S
  rintro ac w ⟨q55, F56, q58, F59, u, N, β, S, o54, o57, d121⟩
  refine id (nx_then ?_)
  refine wp_ret ?_
  refine S.ret (vs := [GT.val (α := TKept) (⟨(([] : List Bool) ++ k.known), (([] : List TSlot) ++ k.slots)⟩ : TKept) (⟨q55, q58⟩ : PKept)]) (by kernel_rfl) ?_
  have o122 := ow_Kept (x := (⟨(([] : List Bool) ++ k.known), (([] : List TSlot) ++ k.slots)⟩ : TKept)) (p := (⟨q55, q58⟩ : PKept)) o54 o57 d121 
  exact ret1_of S (show k = (⟨(([] : List Bool) ++ k.known), (([] : List TSlot) ++ k.slots)⟩ : TKept) by clear S; (first | rfl | simp)) rfl o122

set_option maxRecDepth 100000 in
theorem c_spec_l21Mon (w0 : World) (m : TMon) (pm : PMon) (hm : GT.rd KK (Lt w0.heap.size) w0 m pm) : Calls Go.Proofs.Try.prog 40 [GT.val (α := TMon) m pm].toArray w0 (Ret1 NoB w0 (m : TMon)) := by
  refine Calls.walk (args := [GT.val (α := TMon) m pm]) NoB Go.Proofs.Try.func40 rfl rfl ?_
  intro ac β S
  have hlem_outer : m.outer.length ≤ 4194304 := LRd.le (RMon.outer (d := m) hm)
  have hlem_out : m.out.length ≤ 4194304 := LRd.le (RMon.out (d := m) hm)
  have hlem_dirty : m.dirty.length ≤ 4194304 := LRd.le (RMon.dirty (d := m) hm)
  have hlem_guests : m.guests.length ≤ 4194304 := LRd.le (RMon.guests (d := m) hm)
  have hlem_outs : m.outs.length ≤ 4194304 := LRd.le (RMon.outs (d := m) hm)
  have hlem_tables : m.tables.length ≤ 4194304 := LRd.le (RMon.tables (d := m) hm)
  refine wp_seq ?_
  refine RG.start ?_
  refine S.quiet (k := 2) (keep := [1, 2]) (m := 2) (σ' := ⟨[(1, .p 0 0), (2, .p 1 0)], [GT.cells (α := TMon) m pm, [slv (([] : List TSlot)).length (GT.pdflt (α := List TSlot)).1, slv (([] : List (List Int))).length (GT.pdflt (α := List (List Int))).1, slv (([] : List Bool)).length (GT.pdflt (α := List Bool)).1, slv (([] : List TGuest)).length (GT.pdflt (α := List TGuest)).1, slv (([] : List Int)).length (GT.pdflt (α := List Int)).1, I 0, I 0, slv (([] : List TKept)).length (GT.pdflt (α := List TKept)).1, I 0]]⟩) .nil (by kernel_rfl) ?_
  clear S; intro ac w β S
  refine RG.done rfl (nx_then ?_)
  refine wp_seq ?_
  refine RG.start ?_
  refine RG.op rfl (S.bs0 (α := TSlot) (d := 5) (by kernel_rfl) ?_)
  clear S; intro ac w N q1 F2 S up o3 d4
  clear up d4
  refine S.quiet (k := 2) (keep := [1, 2, 5, 7]) (m := 2) (σ' := ⟨[(1, .p 0 0), (2, .p 1 0), (5, .v (slv 0 q1.1)), (7, .v (slv (m.outer).length pm.outer.1))], [GT.cells (α := TMon) m pm, [slv (([] : List TSlot)).length (GT.pdflt (α := List TSlot)).1, slv (([] : List (List Int))).length (GT.pdflt (α := List (List Int))).1, slv (([] : List Bool)).length (GT.pdflt (α := List Bool)).1, slv (([] : List TGuest)).length (GT.pdflt (α := List TGuest)).1, slv (([] : List Int)).length (GT.pdflt (α := List Int)).1, I 0, I 0, slv (([] : List TKept)).length (GT.pdflt (α := List TKept)).1, I 0]]⟩) .nil (by kernel_rfl) ?_
  clear S; intro ac w β S
  have b9 : (m.outer).length ≤ 4194304 := LRd.le (RMon.outer (d := m) (S.arg hm))
  refine RG.op rfl (S.appFlat (α := TSlot) o3 ((RMon.outer (d := m) (S.arg hm))) (fun _ _ h => h) (by' := 16) (d := 8) (lx := 0) (ly := (m.outer).length) rfl rfl (by kernel_rfl) (show _ ≤ 4194304 by simp only [List.length_append, List.length_cons, List.length_nil]; omega) ?_)
  clear S; intro ac w N q5 F6 S up o7 d8
  clear up d8
  refine S.quiet (k := 2) (keep := [1, 2]) (m := 2) (σ' := ⟨[(1, .p 0 0), (2, .p 1 0)], [[slv ((([] : List TSlot) ++ m.outer)).length q5.1, slv (m.out).length pm.out.1, slv (m.dirty).length pm.dirty.1, slv (m.guests).length pm.guests.1, slv (m.outs).length pm.outs.1, I m.pend, I m.traps, slv (m.tables).length pm.tables.1, I m.owned], [slv (([] : List TSlot)).length (GT.pdflt (α := List TSlot)).1, slv (([] : List (List Int))).length (GT.pdflt (α := List (List Int))).1, slv (([] : List Bool)).length (GT.pdflt (α := List Bool)).1, slv (([] : List TGuest)).length (GT.pdflt (α := List TGuest)).1, slv (([] : List Int)).length (GT.pdflt (α := List Int)).1, I 0, I 0, slv (([] : List TKept)).length (GT.pdflt (α := List TKept)).1, I 0]]⟩) .nil (by kernel_rfl) ?_
  clear S; intro ac w β S
  refine RG.done rfl (nx_then ?_)
  refine wp_seq ?_
  refine RG.start ?_
  refine S.quiet (k := 2) (keep := [1, 2, 11]) (m := 2) (σ' := ⟨[(1, .p 0 0), (2, .p 1 0), (11, .v (slv (m.out).length pm.out.1))], [[slv ((([] : List TSlot) ++ m.outer)).length q5.1, slv (m.out).length pm.out.1, slv (m.dirty).length pm.dirty.1, slv (m.guests).length pm.guests.1, slv (m.outs).length pm.outs.1, I m.pend, I m.traps, slv (m.tables).length pm.tables.1, I m.owned], [slv (([] : List TSlot)).length (GT.pdflt (α := List TSlot)).1, slv (([] : List (List Int))).length (GT.pdflt (α := List (List Int))).1, slv (([] : List Bool)).length (GT.pdflt (α := List Bool)).1, slv (([] : List TGuest)).length (GT.pdflt (α := List TGuest)).1, slv (([] : List Int)).length (GT.pdflt (α := List Int)).1, I 0, I 0, slv (([] : List TKept)).length (GT.pdflt (α := List TKept)).1, I 0]]⟩) .nil (by kernel_rfl) ?_
  clear S; intro ac w β S
  refine RG.op rfl (S.call1 (r := m.out) (d := 12) (c_spec_l04Copy w m.out pm.out (S.rd (RMon.out (d := m) (S.arg hm)))) (by kernel_rfl) rfl ?_)
  clear S; intro ac w N q10 F11 S up o12 d13
  have d14 : Disj F6 F11 := fun b x y => d13 b (o7.sub b x) y
  replace o7 := o7.up up
  clear up d13
  refine S.quiet (k := 2) (keep := [1, 2]) (m := 2) (σ' := ⟨[(1, .p 0 0), (2, .p 1 0)], [[slv ((([] : List TSlot) ++ m.outer)).length q5.1, slv (m.out).length q10.1, slv (m.dirty).length pm.dirty.1, slv (m.guests).length pm.guests.1, slv (m.outs).length pm.outs.1, I m.pend, I m.traps, slv (m.tables).length pm.tables.1, I m.owned], [slv (([] : List TSlot)).length (GT.pdflt (α := List TSlot)).1, slv (([] : List (List Int))).length (GT.pdflt (α := List (List Int))).1, slv (([] : List Bool)).length (GT.pdflt (α := List Bool)).1, slv (([] : List TGuest)).length (GT.pdflt (α := List TGuest)).1, slv (([] : List Int)).length (GT.pdflt (α := List Int)).1, I 0, I 0, slv (([] : List TKept)).length (GT.pdflt (α := List TKept)).1, I 0]]⟩) .nil (by kernel_rfl) ?_
  clear S; intro ac w β S
  refine RG.done rfl (nx_then ?_)
  refine wp_seq ?_
  refine RG.start ?_
  refine RG.op rfl (S.bs0 (α := Bool) (d := 14) (by kernel_rfl) ?_)
  clear S; intro ac w N q15 F16 S up o17 d18
  have d19 : Disj F6 F16 := fun b x y => d18 b (o7.sub b x) y
  have d20 : Disj F11 F16 := fun b x y => d18 b (o12.sub b x) y
  replace o7 := o7.up up
  replace o12 := o12.up up
  clear up d18
  refine S.quiet (k := 2) (keep := [1, 2, 14, 16]) (m := 2) (σ' := ⟨[(1, .p 0 0), (2, .p 1 0), (14, .v (slv 0 q15.1)), (16, .v (slv (m.dirty).length pm.dirty.1))], [[slv ((([] : List TSlot) ++ m.outer)).length q5.1, slv (m.out).length q10.1, slv (m.dirty).length pm.dirty.1, slv (m.guests).length pm.guests.1, slv (m.outs).length pm.outs.1, I m.pend, I m.traps, slv (m.tables).length pm.tables.1, I m.owned], [slv (([] : List TSlot)).length (GT.pdflt (α := List TSlot)).1, slv (([] : List (List Int))).length (GT.pdflt (α := List (List Int))).1, slv (([] : List Bool)).length (GT.pdflt (α := List Bool)).1, slv (([] : List TGuest)).length (GT.pdflt (α := List TGuest)).1, slv (([] : List Int)).length (GT.pdflt (α := List Int)).1, I 0, I 0, slv (([] : List TKept)).length (GT.pdflt (α := List TKept)).1, I 0]]⟩) .nil (by kernel_rfl) ?_
  clear S; intro ac w β S
  have b25 : (m.dirty).length ≤ 4194304 := LRd.le (RMon.dirty (d := m) (S.arg hm))
  refine RG.op rfl (S.appFlat (α := Bool) o17 ((RMon.dirty (d := m) (S.arg hm))) (fun _ _ h => h) (by' := 1) (d := 17) (lx := 0) (ly := (m.dirty).length) rfl rfl (by kernel_rfl) (show _ ≤ 4194304 by simp only [List.length_append, List.length_cons, List.length_nil]; omega) ?_)
  clear S; intro ac w N q21 F22 S up o23 d24
  have d26 : Disj F6 F22 := d24 _ d19 o7.sub
  have d27 : Disj F11 F22 := d24 _ d20 o12.sub
  replace o7 := o7.upF d19 up
  replace o12 := o12.upF d20 up
  clear up d24
  refine S.quiet (k := 2) (keep := [1, 2]) (m := 2) (σ' := ⟨[(1, .p 0 0), (2, .p 1 0)], [[slv ((([] : List TSlot) ++ m.outer)).length q5.1, slv (m.out).length q10.1, slv ((([] : List Bool) ++ m.dirty)).length q21.1, slv (m.guests).length pm.guests.1, slv (m.outs).length pm.outs.1, I m.pend, I m.traps, slv (m.tables).length pm.tables.1, I m.owned], [slv (([] : List TSlot)).length (GT.pdflt (α := List TSlot)).1, slv (([] : List (List Int))).length (GT.pdflt (α := List (List Int))).1, slv (([] : List Bool)).length (GT.pdflt (α := List Bool)).1, slv (([] : List TGuest)).length (GT.pdflt (α := List TGuest)).1, slv (([] : List Int)).length (GT.pdflt (α := List Int)).1, I 0, I 0, slv (([] : List TKept)).length (GT.pdflt (α := List TKept)).1, I 0]]⟩) .nil (by kernel_rfl) ?_
  clear S; intro ac w β S
  refine RG.done rfl (nx_then ?_)
  refine wp_seq ?_
  refine RG.start ?_
  refine S.quiet (k := 2) (keep := [1, 2, 20]) (m := 2) (σ' := ⟨[(1, .p 0 0), (2, .p 1 0), (20, .v (slv (m.guests).length pm.guests.1))], [[slv ((([] : List TSlot) ++ m.outer)).length q5.1, slv (m.out).length q10.1, slv ((([] : List Bool) ++ m.dirty)).length q21.1, slv (m.guests).length pm.guests.1, slv (m.outs).length pm.outs.1, I m.pend, I m.traps, slv (m.tables).length pm.tables.1, I m.owned], [slv (([] : List TSlot)).length (GT.pdflt (α := List TSlot)).1, slv (([] : List (List Int))).length (GT.pdflt (α := List (List Int))).1, slv (([] : List Bool)).length (GT.pdflt (α := List Bool)).1, slv (([] : List TGuest)).length (GT.pdflt (α := List TGuest)).1, slv (([] : List Int)).length (GT.pdflt (α := List Int)).1, I 0, I 0, slv (([] : List TKept)).length (GT.pdflt (α := List TKept)).1, I 0]]⟩) .nil (by kernel_rfl) ?_
  clear S; intro ac w β S
  refine RG.op rfl (S.call1 (r := m.guests) (d := 21) (c_spec_l17Guests w m.guests pm.guests (S.rd (RMon.guests (d := m) (S.arg hm)))) (by kernel_rfl) rfl ?_)
  clear S; intro ac w N q28 F29 S up o30 d31
  have d32 : Disj F6 F29 := fun b x y => d31 b (o7.sub b x) y
  have d33 : Disj F11 F29 := fun b x y => d31 b (o12.sub b x) y
  have d34 : Disj F22 F29 := fun b x y => d31 b (o23.sub b x) y
  replace o7 := o7.up up
  replace o12 := o12.up up
  replace o23 := o23.up up
  clear up d31
  refine S.quiet (k := 2) (keep := [1, 2]) (m := 2) (σ' := ⟨[(1, .p 0 0), (2, .p 1 0)], [[slv ((([] : List TSlot) ++ m.outer)).length q5.1, slv (m.out).length q10.1, slv ((([] : List Bool) ++ m.dirty)).length q21.1, slv (m.guests).length q28.1, slv (m.outs).length pm.outs.1, I m.pend, I m.traps, slv (m.tables).length pm.tables.1, I m.owned], [slv (([] : List TSlot)).length (GT.pdflt (α := List TSlot)).1, slv (([] : List (List Int))).length (GT.pdflt (α := List (List Int))).1, slv (([] : List Bool)).length (GT.pdflt (α := List Bool)).1, slv (([] : List TGuest)).length (GT.pdflt (α := List TGuest)).1, slv (([] : List Int)).length (GT.pdflt (α := List Int)).1, I 0, I 0, slv (([] : List TKept)).length (GT.pdflt (α := List TKept)).1, I 0]]⟩) .nil (by kernel_rfl) ?_
  clear S; intro ac w β S
  refine RG.done rfl (nx_then ?_)
  refine wp_seq ?_
  refine RG.start ?_
  refine RG.op rfl (S.bs0 (α := Int) (d := 23) (by kernel_rfl) ?_)
  clear S; intro ac w N q35 F36 S up o37 d38
  have d39 : Disj F6 F36 := fun b x y => d38 b (o7.sub b x) y
  have d40 : Disj F11 F36 := fun b x y => d38 b (o12.sub b x) y
  have d41 : Disj F22 F36 := fun b x y => d38 b (o23.sub b x) y
  have d42 : Disj F29 F36 := fun b x y => d38 b (o30.sub b x) y
  replace o7 := o7.up up
  replace o12 := o12.up up
  replace o23 := o23.up up
  replace o30 := o30.up up
  clear up d38
  refine S.quiet (k := 2) (keep := [1, 2, 23, 25]) (m := 2) (σ' := ⟨[(1, .p 0 0), (2, .p 1 0), (23, .v (slv 0 q35.1)), (25, .v (slv (m.outs).length pm.outs.1))], [[slv ((([] : List TSlot) ++ m.outer)).length q5.1, slv (m.out).length q10.1, slv ((([] : List Bool) ++ m.dirty)).length q21.1, slv (m.guests).length q28.1, slv (m.outs).length pm.outs.1, I m.pend, I m.traps, slv (m.tables).length pm.tables.1, I m.owned], [slv (([] : List TSlot)).length (GT.pdflt (α := List TSlot)).1, slv (([] : List (List Int))).length (GT.pdflt (α := List (List Int))).1, slv (([] : List Bool)).length (GT.pdflt (α := List Bool)).1, slv (([] : List TGuest)).length (GT.pdflt (α := List TGuest)).1, slv (([] : List Int)).length (GT.pdflt (α := List Int)).1, I 0, I 0, slv (([] : List TKept)).length (GT.pdflt (α := List TKept)).1, I 0]]⟩) .nil (by kernel_rfl) ?_
  clear S; intro ac w β S
  have b47 : (m.outs).length ≤ 4194304 := LRd.le (RMon.outs (d := m) (S.arg hm))
  refine RG.op rfl (S.appFlat (α := Int) o37 ((RMon.outs (d := m) (S.arg hm))) (fun _ _ h => h) (by' := 8) (d := 26) (lx := 0) (ly := (m.outs).length) rfl rfl (by kernel_rfl) (show _ ≤ 4194304 by simp only [List.length_append, List.length_cons, List.length_nil]; omega) ?_)
  clear S; intro ac w N q43 F44 S up o45 d46
  have d48 : Disj F6 F44 := d46 _ d39 o7.sub
  have d49 : Disj F11 F44 := d46 _ d40 o12.sub
  have d50 : Disj F22 F44 := d46 _ d41 o23.sub
  have d51 : Disj F29 F44 := d46 _ d42 o30.sub
  replace o7 := o7.upF d39 up
  replace o12 := o12.upF d40 up
  replace o23 := o23.upF d41 up
  replace o30 := o30.upF d42 up
  clear up d46
  refine S.quiet (k := 2) (keep := [1, 2]) (m := 2) (σ' := ⟨[(1, .p 0 0), (2, .p 1 0)], [[slv ((([] : List TSlot) ++ m.outer)).length q5.1, slv (m.out).length q10.1, slv ((([] : List Bool) ++ m.dirty)).length q21.1, slv (m.guests).length q28.1, slv ((([] : List Int) ++ m.outs)).length q43.1, I m.pend, I m.traps, slv (m.tables).length pm.tables.1, I m.owned], [slv (([] : List TSlot)).length (GT.pdflt (α := List TSlot)).1, slv (([] : List (List Int))).length (GT.pdflt (α := List (List Int))).1, slv (([] : List Bool)).length (GT.pdflt (α := List Bool)).1, slv (([] : List TGuest)).length (GT.pdflt (α := List TGuest)).1, slv (([] : List Int)).length (GT.pdflt (α := List Int)).1, I 0, I 0, slv (([] : List TKept)).length (GT.pdflt (α := List TKept)).1, I 0]]⟩) .nil (by kernel_rfl) ?_
  clear S; intro ac w β S
  refine RG.done rfl (nx_then ?_)
  refine wp_seq ?_
  refine RG.start ?_
  refine RG.op rfl (S.bs0 (α := TKept) (d := 28) (by kernel_rfl) ?_)
  clear S; intro ac w N q52 F53 S up o54 d55
  have d56 : Disj F6 F53 := fun b x y => d55 b (o7.sub b x) y
  have d57 : Disj F11 F53 := fun b x y => d55 b (o12.sub b x) y
  have d58 : Disj F22 F53 := fun b x y => d55 b (o23.sub b x) y
  have d59 : Disj F29 F53 := fun b x y => d55 b (o30.sub b x) y
  have d60 : Disj F44 F53 := fun b x y => d55 b (o45.sub b x) y
  replace o7 := o7.up up
  replace o12 := o12.up up
  replace o23 := o23.up up
  replace o30 := o30.up up
  replace o45 := o45.up up
  clear up d55
  refine S.quiet (k := 1) (keep := [1, 2, 3]) (m := 2) (σ' := ⟨[(1, .p 0 0), (2, .p 1 0), (3, .v (slv 0 q52.1))], [[slv ((([] : List TSlot) ++ m.outer)).length q5.1, slv (m.out).length q10.1, slv ((([] : List Bool) ++ m.dirty)).length q21.1, slv (m.guests).length q28.1, slv ((([] : List Int) ++ m.outs)).length q43.1, I m.pend, I m.traps, slv (m.tables).length pm.tables.1, I m.owned], [slv (([] : List TSlot)).length (GT.pdflt (α := List TSlot)).1, slv (([] : List (List Int))).length (GT.pdflt (α := List (List Int))).1, slv (([] : List Bool)).length (GT.pdflt (α := List Bool)).1, slv (([] : List TGuest)).length (GT.pdflt (α := List TGuest)).1, slv (([] : List Int)).length (GT.pdflt (α := List Int)).1, I 0, I 0, slv (([] : List TKept)).length (GT.pdflt (α := List TKept)).1, I 0]]⟩) .nil (by kernel_rfl) ?_
  clear S; intro ac w β S
  refine RG.done rfl (nx_then ?_)
  refine wp_seq ?_
  refine wp_seq ?_
  refine RG.start ?_
  refine S.quiet (k := 1) (keep := [1, 2, 3, 4]) (m := 2) (σ' := ⟨[(1, .p 0 0), (2, .p 1 0), (3, .v (slv 0 q52.1)), (4, .v (I 0))], [[slv ((([] : List TSlot) ++ m.outer)).length q5.1, slv (m.out).length q10.1, slv ((([] : List Bool) ++ m.dirty)).length q21.1, slv (m.guests).length q28.1, slv ((([] : List Int) ++ m.outs)).length q43.1, I m.pend, I m.traps, slv (m.tables).length pm.tables.1, I m.owned], [slv (([] : List TSlot)).length (GT.pdflt (α := List TSlot)).1, slv (([] : List (List Int))).length (GT.pdflt (α := List (List Int))).1, slv (([] : List Bool)).length (GT.pdflt (α := List Bool)).1, slv (([] : List TGuest)).length (GT.pdflt (α := List TGuest)).1, slv (([] : List Int)).length (GT.pdflt (α := List Int)).1, I 0, I 0, slv (([] : List TKept)).length (GT.pdflt (α := List TKept)).1, I 0]]⟩) .nil (by kernel_rfl) ?_
  clear S; intro ac w β S
  refine RG.done rfl (nx_then ?_)
  refine wp_block ?_
  replace S := S.prune (keep := [1, 2, 3, 4]) (m := 2) (σ' := ⟨[(1, .p 0 0), (2, .p 1 0), (3, .v (slv 0 q52.1)), (4, .v (I 0))], [[slv ((([] : List TSlot) ++ m.outer)).length q5.1, slv (m.out).length q10.1, slv ((([] : List Bool) ++ m.dirty)).length q21.1, slv (m.guests).length q28.1, slv ((([] : List Int) ++ m.outs)).length q43.1, I m.pend, I m.traps, slv (m.tables).length pm.tables.1, I m.owned], [slv (([] : List TSlot)).length (GT.pdflt (α := List TSlot)).1, slv (([] : List (List Int))).length (GT.pdflt (α := List (List Int))).1, slv (([] : List Bool)).length (GT.pdflt (α := List Bool)).1, slv (([] : List TGuest)).length (GT.pdflt (α := List TGuest)).1, slv (([] : List Int)).length (GT.pdflt (α := List Int)).1, I 0, I 0, slv (([] : List TKept)).length (GT.pdflt (α := List TKept)).1, I 0]]⟩) (by kernel_rfl)
  refine wp_loop_down (fun mm ac w => ∃ (k : Nat) (acc : List TKept) (q61 : GT.Ptr (List TKept)) (F62 : Bl) (u : World) (N : Bl) (β : Nat → Nat), mm = (m.tables).length - k ∧ (k ≤ (m.tables).length) ∧ (acc = (m.tables).take k) ∧ St Go.Proofs.Try.prog Go.Proofs.Try.f40.ntmps w0 NoB u N β ⟨[(1, .p 0 0), (2, .p 1 0), (3, .v (slv (acc).length q61.1)), (4, .v (I (k : Int)))], [[slv ((([] : List TSlot) ++ m.outer)).length q5.1, slv (m.out).length q10.1, slv ((([] : List Bool) ++ m.dirty)).length q21.1, slv (m.guests).length q28.1, slv ((([] : List Int) ++ m.outs)).length q43.1, I m.pend, I m.traps, slv (m.tables).length pm.tables.1, I m.owned], [slv (([] : List TSlot)).length (GT.pdflt (α := List TSlot)).1, slv (([] : List (List Int))).length (GT.pdflt (α := List (List Int))).1, slv (([] : List Bool)).length (GT.pdflt (α := List Bool)).1, slv (([] : List TGuest)).length (GT.pdflt (α := List TGuest)).1, slv (([] : List Int)).length (GT.pdflt (α := List Int)).1, I 0, I 0, slv (([] : List TKept)).length (GT.pdflt (α := List TKept)).1, I 0]]⟩ ac w ∧ Ow w0 NoB u N F62 acc q61 ∧ Ow w0 NoB u N F6 (([] : List TSlot) ++ m.outer) q5 ∧ Ow w0 NoB u N F11 m.out q10 ∧ Ow w0 NoB u N F22 (([] : List Bool) ++ m.dirty) q21 ∧ Ow w0 NoB u N F29 m.guests q28 ∧ Ow w0 NoB u N F44 (([] : List Int) ++ m.outs) q43 ∧ Disj F62 F6 ∧ Disj F62 F11 ∧ Disj F62 F22 ∧ Disj F62 F29 ∧ Disj F62 F44) _ ⟨0, ([] : List TKept), q52, F53, _, _, _, rfl, (by first | omega | (simp; done) | (simp; omega)), (by simp), S.cast (by kernel_rfl), o54, o7, o12, o23, o30, o45, (Disj.symm d56), (Disj.symm d57), (Disj.symm d58), (Disj.symm d59), (Disj.symm d60)⟩ ?_
  clear S o12 o23 o30 o45 o54 o7
  rintro mm ac w ⟨k, acc, q61, F62, u, N, β, rfl, hk, hacc, S, o63, o7, o12, o23, o30, o45, d64, d65, d66, d67, d68⟩
  have hlacc : acc.length = k := by rw [hacc]; simp; omega
  refine wp_seq ?_
  refine wp_seq ?_
  refine RG.start ?_
  refine S.quiet (k := 5) (keep := [1, 2, 3, 4, 33]) (m := 2) (σ' := ⟨[(1, .p 0 0), (2, .p 1 0), (3, .v (slv (acc).length q61.1)), (4, .v (I (k : Int))), (33, .v (B (decide ((k : Int) < ((m.tables).length : Int)))))], [[slv ((([] : List TSlot) ++ m.outer)).length q5.1, slv (m.out).length q10.1, slv ((([] : List Bool) ++ m.dirty)).length q21.1, slv (m.guests).length q28.1, slv ((([] : List Int) ++ m.outs)).length q43.1, I m.pend, I m.traps, slv (m.tables).length pm.tables.1, I m.owned], [slv (([] : List TSlot)).length (GT.pdflt (α := List TSlot)).1, slv (([] : List (List Int))).length (GT.pdflt (α := List (List Int))).1, slv (([] : List Bool)).length (GT.pdflt (α := List Bool)).1, slv (([] : List TGuest)).length (GT.pdflt (α := List TGuest)).1, slv (([] : List Int)).length (GT.pdflt (α := List Int)).1, I 0, I 0, slv (([] : List TKept)).length (GT.pdflt (α := List TKept)).1, I 0]]⟩) .nil (by kernel_rfl) ?_
  clear S; intro ac w β S
  refine RG.done rfl (nx_then ?_)
  refine S.cond (e := (decide ((k : Int) < ((m.tables).length : Int)))) (by kernel_rfl) (fun h69 => ?_) (fun h69 => ?_)
  · have g70 : (k : Int) < ((m.tables).length : Int) := of_decide_eq_true h69
    refine wp_skip (nx_then ?_)
    refine wp_seq ?_
    refine wp_block ?_
    refine RG.start ?_
    refine S.quiet (k := 6) (keep := [1, 2, 4, 36, 41]) (m := 2) (σ' := ⟨[(1, .p 0 0), (2, .p 1 0), (4, .v (I (k : Int))), (36, .v (slv (acc).length q61.1)), (41, .v (GT.val (α := TKept) (el m.tables k) (pm.tables.2 k)))], [[slv ((([] : List TSlot) ++ m.outer)).length q5.1, slv (m.out).length q10.1, slv ((([] : List Bool) ++ m.dirty)).length q21.1, slv (m.guests).length q28.1, slv ((([] : List Int) ++ m.outs)).length q43.1, I m.pend, I m.traps, slv (m.tables).length pm.tables.1, I m.owned], [slv (([] : List TSlot)).length (GT.pdflt (α := List TSlot)).1, slv (([] : List (List Int))).length (GT.pdflt (α := List (List Int))).1, slv (([] : List Bool)).length (GT.pdflt (α := List Bool)).1, slv (([] : List TGuest)).length (GT.pdflt (α := List TGuest)).1, slv (([] : List Int)).length (GT.pdflt (α := List Int)).1, I 0, I 0, slv (([] : List TKept)).length (GT.pdflt (α := List TKept)).1, I 0]]⟩) (.cons (Q_idx (RMon.tables (d := m) (S.arg hm)) (l := (m.tables).length) (k := k) (i := (k : Int)) rfl rfl (by omega) Go.Proofs.Try.underlying44 (by kernel_rfl)) (.cons (Q_el (RMon.tables (d := m) (S.arg hm)) (t := 101) (k := k) (by omega) rfl (by kernel_rfl) (by kernel_rfl)) .nil)) (by kernel_rfl) ?_
    clear S; intro ac w β S
    refine RG.op rfl (S.call1 (r := (el m.tables k)) (d := 42) (c_spec_l07Copy w (el m.tables k) (pm.tables.2 k) (S.rd (LRd.el (RMon.tables (d := m) (S.arg hm)) k (by omega)))) (by kernel_rfl) rfl ?_)
    clear S; intro ac w N q71 F72 S up o73 d74
    have d75 : Disj F62 F72 := fun b x y => d74 b (o63.sub b x) y
    have d76 : Disj F6 F72 := fun b x y => d74 b (o7.sub b x) y
    have d77 : Disj F11 F72 := fun b x y => d74 b (o12.sub b x) y
    have d78 : Disj F22 F72 := fun b x y => d74 b (o23.sub b x) y
    have d79 : Disj F29 F72 := fun b x y => d74 b (o30.sub b x) y
    have d80 : Disj F44 F72 := fun b x y => d74 b (o45.sub b x) y
    replace o63 := o63.up up
    replace o7 := o7.up up
    replace o12 := o12.up up
    replace o23 := o23.up up
    replace o30 := o30.up up
    replace o45 := o45.up up
    clear up d74
    obtain ⟨F81, F84, o82, o85, s83, s86, d87⟩ := sp_Kept o73
    have o92 := ow_Kept (x := (el m.tables k)) (p := q71) o82 o85 d87 
    refine RG.op rfl (S.bs1 (α := TKept) (x := (el m.tables k)) (p := q71) o92.own o92.sub o92.young (d := 43) (by kernel_rfl) ?_)
    clear S; intro ac w N q88 F89 S up o90 d91
    have d93 : Disj F62 F89 := d91 _ (Disj.symm (Disj.or (Disj.part (Disj.symm d75) s83) (Disj.or (Disj.part (Disj.symm d75) s86) Disj.nob))) o63.sub
    have d94 : Disj F6 F89 := d91 _ (Disj.symm (Disj.or (Disj.part (Disj.symm d76) s83) (Disj.or (Disj.part (Disj.symm d76) s86) Disj.nob))) o7.sub
    have d95 : Disj F11 F89 := d91 _ (Disj.symm (Disj.or (Disj.part (Disj.symm d77) s83) (Disj.or (Disj.part (Disj.symm d77) s86) Disj.nob))) o12.sub
    have d96 : Disj F22 F89 := d91 _ (Disj.symm (Disj.or (Disj.part (Disj.symm d78) s83) (Disj.or (Disj.part (Disj.symm d78) s86) Disj.nob))) o23.sub
    have d97 : Disj F29 F89 := d91 _ (Disj.symm (Disj.or (Disj.part (Disj.symm d79) s83) (Disj.or (Disj.part (Disj.symm d79) s86) Disj.nob))) o30.sub
    have d98 : Disj F44 F89 := d91 _ (Disj.symm (Disj.or (Disj.part (Disj.symm d80) s83) (Disj.or (Disj.part (Disj.symm d80) s86) Disj.nob))) o45.sub
    replace o63 := o63.up up
    replace o7 := o7.up up
    replace o12 := o12.up up
    replace o23 := o23.up up
    replace o30 := o30.up up
    replace o45 := o45.up up
    clear up d91
    refine RG.op rfl (S.appOwn (α := TKept) o63 o90 d93 (by' := 48) (d := 44) (lx := (acc).length) (ly := 1) rfl rfl (by kernel_rfl) (show _ ≤ 4194304 by simp only [List.length_append, List.length_cons, List.length_nil]; omega) ?_)
    clear S; intro ac w N q99 F100 S up o101 d102
    have d103 : Disj F6 F100 := d102 _ (Disj.symm d64) d94 o7.sub
    have d104 : Disj F11 F100 := d102 _ (Disj.symm d65) d95 o12.sub
    have d105 : Disj F22 F100 := d102 _ (Disj.symm d66) d96 o23.sub
    have d106 : Disj F29 F100 := d102 _ (Disj.symm d67) d97 o30.sub
    have d107 : Disj F44 F100 := d102 _ (Disj.symm d68) d98 o45.sub
    replace o7 := o7.upF (Disj.symm d64) up
    replace o12 := o12.upF (Disj.symm d65) up
    replace o23 := o23.upF (Disj.symm d66) up
    replace o30 := o30.upF (Disj.symm d67) up
    replace o45 := o45.upF (Disj.symm d68) up
    clear up d102
    refine S.quiet (k := 1) (keep := [1, 2, 3, 4]) (m := 2) (σ' := ⟨[(1, .p 0 0), (2, .p 1 0), (3, .v (slv ((acc ++ [(el m.tables k)])).length q99.1)), (4, .v (I (k : Int)))], [[slv ((([] : List TSlot) ++ m.outer)).length q5.1, slv (m.out).length q10.1, slv ((([] : List Bool) ++ m.dirty)).length q21.1, slv (m.guests).length q28.1, slv ((([] : List Int) ++ m.outs)).length q43.1, I m.pend, I m.traps, slv (m.tables).length pm.tables.1, I m.owned], [slv (([] : List TSlot)).length (GT.pdflt (α := List TSlot)).1, slv (([] : List (List Int))).length (GT.pdflt (α := List (List Int))).1, slv (([] : List Bool)).length (GT.pdflt (α := List Bool)).1, slv (([] : List TGuest)).length (GT.pdflt (α := List TGuest)).1, slv (([] : List Int)).length (GT.pdflt (α := List Int)).1, I 0, I 0, slv (([] : List TKept)).length (GT.pdflt (α := List TKept)).1, I 0]]⟩) .nil (by kernel_rfl) ?_
    clear S; intro ac w β S
    refine RG.done rfl (nx_block (nx_then ?_))
    refine RG.start ?_
    refine S.quiet (k := 3) (keep := [1, 2, 3, 4]) (m := 2) (σ' := ⟨[(1, .p 0 0), (2, .p 1 0), (3, .v (slv ((acc ++ [(el m.tables k)])).length q99.1)), (4, .v (I ((k : Int) + 1)))], [[slv ((([] : List TSlot) ++ m.outer)).length q5.1, slv (m.out).length q10.1, slv ((([] : List Bool) ++ m.dirty)).length q21.1, slv (m.guests).length q28.1, slv ((([] : List Int) ++ m.outs)).length q43.1, I m.pend, I m.traps, slv (m.tables).length pm.tables.1, I m.owned], [slv (([] : List TSlot)).length (GT.pdflt (α := List TSlot)).1, slv (([] : List (List Int))).length (GT.pdflt (α := List (List Int))).1, slv (([] : List Bool)).length (GT.pdflt (α := List Bool)).1, slv (([] : List TGuest)).length (GT.pdflt (α := List TGuest)).1, slv (([] : List Int)).length (GT.pdflt (α := List Int)).1, I 0, I 0, slv (([] : List TKept)).length (GT.pdflt (α := List TKept)).1, I 0]]⟩) (.cons (Q_add (x := (k : Int)) (y := 1) ⟨by omega, by omega⟩) .nil) (by kernel_rfl) ?_
    clear S; intro ac w β S
    refine RG.done rfl (nx_then ?_)
    replace S := S.prune (keep := [1, 2, 3, 4]) (m := 2) (σ' := ⟨[(1, .p 0 0), (2, .p 1 0), (3, .v (slv ((acc ++ [(el m.tables k)])).length q99.1)), (4, .v (I ((k : Int) + 1)))], [[slv ((([] : List TSlot) ++ m.outer)).length q5.1, slv (m.out).length q10.1, slv ((([] : List Bool) ++ m.dirty)).length q21.1, slv (m.guests).length q28.1, slv ((([] : List Int) ++ m.outs)).length q43.1, I m.pend, I m.traps, slv (m.tables).length pm.tables.1, I m.owned], [slv (([] : List TSlot)).length (GT.pdflt (α := List TSlot)).1, slv (([] : List (List Int))).length (GT.pdflt (α := List (List Int))).1, slv (([] : List Bool)).length (GT.pdflt (α := List Bool)).1, slv (([] : List TGuest)).length (GT.pdflt (α := List TGuest)).1, slv (([] : List Int)).length (GT.pdflt (α := List Int)).1, I 0, I 0, slv (([] : List TKept)).length (GT.pdflt (α := List TKept)).1, I 0]]⟩) (by kernel_rfl)
    refine ⟨(m.tables).length - (k + 1), by omega, k + 1, (acc ++ [(el m.tables k)]), q99, F100, _, _, _, rfl, ?_, ?_, S.cast (by kernel_rfl), o101, o7, o12, o23, o30, o45, (Disj.symm d103), (Disj.symm d104), (Disj.symm d105), (Disj.symm d106), (Disj.symm d107)⟩
    · clear S; first | omega | (simp [*]; done) | (simp [*]; omega)
    · clear S; (first | (rw [take_el (by omega), hacc]; done) | (rw [take_el (by omega), hacc]; simp; done))
  · have g108 : ¬ ((k : Int) < ((m.tables).length : Int)) := of_decide_eq_false h69
    refine wp_exit (ex_then (ex_then (ex_hit (nx_then ?_))))
    refine wp_seq ?_
    refine RG.start ?_
    refine S.quiet (k := 3) (keep := [1, 2]) (m := 2) (σ' := ⟨[(1, .p 0 0), (2, .p 1 0)], [[slv ((([] : List TSlot) ++ m.outer)).length q5.1, slv (m.out).length q10.1, slv ((([] : List Bool) ++ m.dirty)).length q21.1, slv (m.guests).length q28.1, slv ((([] : List Int) ++ m.outs)).length q43.1, I m.pend, I m.traps, slv (acc).length q61.1, I m.owned], [slv (([] : List TSlot)).length (GT.pdflt (α := List TSlot)).1, slv (([] : List (List Int))).length (GT.pdflt (α := List (List Int))).1, slv (([] : List Bool)).length (GT.pdflt (α := List Bool)).1, slv (([] : List TGuest)).length (GT.pdflt (α := List TGuest)).1, slv (([] : List Int)).length (GT.pdflt (α := List Int)).1, I 0, I 0, slv (([] : List TKept)).length (GT.pdflt (α := List TKept)).1, I 0]]⟩) .nil (by kernel_rfl) ?_
    clear S; intro ac w β S
    refine RG.done rfl (nx_then ?_)
    refine wp_seq ?_
    refine RG.start ?_
    refine S.quiet (k := 2) (keep := [2]) (m := 2) (σ' := ⟨[(2, .p 1 0)], [[slv ((([] : List TSlot) ++ m.outer)).length q5.1, slv (m.out).length q10.1, slv ((([] : List Bool) ++ m.dirty)).length q21.1, slv (m.guests).length q28.1, slv ((([] : List Int) ++ m.outs)).length q43.1, I m.pend, I m.traps, slv (acc).length q61.1, I m.owned], [slv ((([] : List TSlot) ++ m.outer)).length q5.1, slv (m.out).length q10.1, slv ((([] : List Bool) ++ m.dirty)).length q21.1, slv (m.guests).length q28.1, slv ((([] : List Int) ++ m.outs)).length q43.1, I m.pend, I m.traps, slv (acc).length q61.1, I m.owned]]⟩) .nil (by kernel_rfl) ?_
    clear S; intro ac w β S
    refine RG.done rfl (nx_then ?_)
    refine wp_ret ?_
    refine S.ret (vs := [GT.val (α := TMon) (⟨(([] : List TSlot) ++ m.outer), m.out, (([] : List Bool) ++ m.dirty), m.guests, (([] : List Int) ++ m.outs), m.pend, m.traps, acc, m.owned⟩ : TMon) (⟨q5, q10, q21, q28, q43, q61⟩ : PMon)]) (by kernel_rfl) ?_
    have o109 := ow_Mon (x := (⟨(([] : List TSlot) ++ m.outer), m.out, (([] : List Bool) ++ m.dirty), m.guests, (([] : List Int) ++ m.outs), m.pend, m.traps, acc, m.owned⟩ : TMon)) (p := (⟨q5, q10, q21, q28, q43, q61⟩ : PMon)) o7 o12 o23 o30 o45 o63 d14 d26 d32 d48 (Disj.symm d64) d27 d33 d49 (Disj.symm d65) d34 d50 (Disj.symm d66) d51 (Disj.symm d67) (Disj.symm d68) (RMon.pend (d := m) (S.arg hm)) (RMon.traps (d := m) (S.arg hm)) (RMon.owned (d := m) (S.arg hm))
    exact ret1_of S (show m = (⟨(([] : List TSlot) ++ m.outer), m.out, (([] : List Bool) ++ m.dirty), m.guests, (([] : List Int) ++ m.outs), m.pend, m.traps, acc, m.owned⟩ : TMon) by clear S; (first | rfl | (rw [hacc, take_all (by omega)]; simp; done) | simp)) rfl o109

set_option maxRecDepth 100000 in
theorem c_spec_MonAt (w0 : World) (h : THost) (ph : PHost) (hh : GT.rd KK (Lt w0.heap.size) w0 h ph) (m : Int) : Calls Go.Proofs.Try.prog 71 [GT.val (α := THost) h ph, I m].toArray w0 (Ret2 NoB w0 ((f_monAt h m).1 : TMon) ((f_monAt h m).2 : Bool)) := by
  refine Calls.walk (args := [GT.val (α := THost) h ph, I m]) NoB Go.Proofs.Try.func71 rfl rfl ?_
  intro ac β S
  have hleh_mem : h.mem.length ≤ 4194304 := LRd.le (RHost.mem (d := h) hh)
  have hleh_mons : h.mons.length ≤ 4194304 := LRd.le (RHost.mons (d := h) hh)
  have hleh_buf : h.buf.length ≤ 4194304 := LRd.le (RHost.buf (d := h) hh)
  have hleh_iobuf : h.iobuf.length ≤ 4194304 := LRd.le (RHost.iobuf (d := h) hh)
  refine wp_seq ?_
  refine RG.start ?_
  refine S.quiet (k := 3) (keep := [1, 2, 4]) (m := 2) (σ' := ⟨[(1, .v (I m)), (2, .p 0 0), (4, .p 1 0)], [GT.cells (α := THost) h ph, [slv (([] : List TSlot)).length (GT.pdflt (α := List TSlot)).1, slv (([] : List (List Int))).length (GT.pdflt (α := List (List Int))).1, slv (([] : List Bool)).length (GT.pdflt (α := List Bool)).1, slv (([] : List TGuest)).length (GT.pdflt (α := List TGuest)).1, slv (([] : List Int)).length (GT.pdflt (α := List Int)).1, I 0, I 0, slv (([] : List TKept)).length (GT.pdflt (α := List TKept)).1, I 0]]⟩) .nil (by kernel_rfl) ?_
  clear S; intro ac w β S
  refine RG.done rfl (nx_then ?_)
  refine wp_seq ?_
  refine wp_seq ?_
  refine RG.start ?_
  refine S.quiet (k := 7) (keep := [1, 2, 4, 12]) (m := 2) (σ' := ⟨[(1, .v (I m)), (2, .p 0 0), (4, .p 1 0), (12, .v (B (!(f_within m 0 (((h.mons).length : Int) - 1)))))], [GT.cells (α := THost) h ph, [slv (([] : List TSlot)).length (GT.pdflt (α := List TSlot)).1, slv (([] : List (List Int))).length (GT.pdflt (α := List (List Int))).1, slv (([] : List Bool)).length (GT.pdflt (α := List Bool)).1, slv (([] : List TGuest)).length (GT.pdflt (α := List TGuest)).1, slv (([] : List Int)).length (GT.pdflt (α := List Int)).1, I 0, I 0, slv (([] : List TKept)).length (GT.pdflt (α := List TKept)).1, I 0]]⟩) (.cons (Q_sub (x := ((h.mons).length : Int)) (y := 1) ⟨by omega, by omega⟩) (.cons (Q_call fun w hw => c_spec_l01In w m 0 (((h.mons).length : Int) - 1)) .nil)) (by kernel_rfl) ?_
  clear S; intro ac w β S
  refine RG.done rfl (nx_then ?_)
  refine S.cond (e := (!(f_within m 0 (((h.mons).length : Int) - 1)))) (by kernel_rfl) (fun h1 => ?_) (fun h1 => ?_)
  · have h2 : (f_within m 0 (((h.mons).length : Int) - 1)) = false := not_t h1
    have g3 := within_f h2
    refine wp_seq ?_
    refine RG.start ?_
    refine S.quiet (k := 3) (keep := [4, 5]) (m := 2) (σ' := ⟨[(4, .p 1 0), (5, .v (B false))], [GT.cells (α := THost) h ph, [slv (([] : List TSlot)).length (GT.pdflt (α := List TSlot)).1, slv (([] : List (List Int))).length (GT.pdflt (α := List (List Int))).1, slv (([] : List Bool)).length (GT.pdflt (α := List Bool)).1, slv (([] : List TGuest)).length (GT.pdflt (α := List TGuest)).1, slv (([] : List Int)).length (GT.pdflt (α := List Int)).1, I 0, I 0, slv (([] : List TKept)).length (GT.pdflt (α := List TKept)).1, I 0]]⟩) (.cons (Q_sem (s := Instr.build 46 [].toArray) (v := .agg [slv (([] : List TSlot)).length (GT.pdflt (α := List TSlot)).1, slv (([] : List (List Int))).length (GT.pdflt (α := List (List Int))).1, slv (([] : List Bool)).length (GT.pdflt (α := List Bool)).1, slv (([] : List TGuest)).length (GT.pdflt (α := List TGuest)).1, slv (([] : List Int)).length (GT.pdflt (α := List Int)).1, I 0, I 0, slv (([] : List TKept)).length (GT.pdflt (α := List TKept)).1, I 0].toArray) (fun w => by kernel_rfl)) .nil) (by kernel_rfl) ?_
    clear S; intro ac w β S
    refine RG.done rfl (nx_then ?_)
    refine wp_ret (rt_then ?_)
    refine S.ret (vs := [GT.val (α := TMon) (⟨([] : List TSlot), ([] : List (List Int)), ([] : List Bool), ([] : List TGuest), ([] : List Int), 0, 0, ([] : List TKept), 0⟩ : TMon) (⟨(GT.pdflt (α := List TSlot)), (GT.pdflt (α := List (List Int))), (GT.pdflt (α := List Bool)), (GT.pdflt (α := List TGuest)), (GT.pdflt (α := List Int)), (GT.pdflt (α := List TKept))⟩ : PMon), B false]) (by kernel_rfl) ?_
    have o4 := S.nilOw (α := TSlot)
    have o5 := S.nilOw (α := List Int)
    have o6 := S.nilOw (α := Bool)
    have o7 := S.nilOw (α := TGuest)
    have o8 := S.nilOw (α := Int)
    have o9 := S.nilOw (α := TKept)
    have o10 := ow_Mon (x := (⟨([] : List TSlot), ([] : List (List Int)), ([] : List Bool), ([] : List TGuest), ([] : List Int), 0, 0, ([] : List TKept), 0⟩ : TMon)) (p := (⟨(GT.pdflt (α := List TSlot)), (GT.pdflt (α := List (List Int))), (GT.pdflt (α := List Bool)), (GT.pdflt (α := List TGuest)), (GT.pdflt (α := List Int)), (GT.pdflt (α := List TKept))⟩ : PMon)) o4 o5 o6 o7 o8 o9 (fun b _ h => False.elim h) (fun b _ h => False.elim h) (fun b _ h => False.elim h) (fun b _ h => False.elim h) (fun b _ h => False.elim h) (fun b _ h => False.elim h) (fun b _ h => False.elim h) (fun b _ h => False.elim h) (fun b _ h => False.elim h) (fun b _ h => False.elim h) (fun b _ h => False.elim h) (fun b _ h => False.elim h) (fun b _ h => False.elim h) (fun b _ h => False.elim h) (fun b _ h => False.elim h) (show In64 0 from ⟨by decide, by decide⟩) (show In64 0 from ⟨by decide, by decide⟩) (show In64 0 from ⟨by decide, by decide⟩)
    exact ret2_of (p' := ()) S (show (f_monAt h m).1 = (⟨([] : List TSlot), ([] : List (List Int)), ([] : List Bool), ([] : List TGuest), ([] : List Int), 0, 0, ([] : List TKept), 0⟩ : TMon) by clear S; (first | (unfold f_monAt; rw [if_pos (by omega)]) | (unfold f_monAt; rw [if_neg (by omega)]))) (show (f_monAt h m).2 = false by clear S; (first | (unfold f_monAt; rw [if_pos (by omega)]) | (unfold f_monAt; rw [if_neg (by omega)]))) rfl rfl o10 trivial
  · have h11 : (f_within m 0 (((h.mons).length : Int) - 1)) = true := not_f h1
    have g12 := within_t h11
    refine wp_skip (nx_then ?_)
    refine wp_seq ?_
    refine RG.start ?_
    refine S.quiet (k := 5) (keep := [4, 18]) (m := 2) (σ' := ⟨[(4, .p 1 0), (18, .v (GT.val (α := TMon) (el h.mons ((m).toNat)) (ph.mons.2 ((m).toNat))))], [GT.cells (α := THost) h ph, [slv (([] : List TSlot)).length (GT.pdflt (α := List TSlot)).1, slv (([] : List (List Int))).length (GT.pdflt (α := List (List Int))).1, slv (([] : List Bool)).length (GT.pdflt (α := List Bool)).1, slv (([] : List TGuest)).length (GT.pdflt (α := List TGuest)).1, slv (([] : List Int)).length (GT.pdflt (α := List Int)).1, I 0, I 0, slv (([] : List TKept)).length (GT.pdflt (α := List TKept)).1, I 0]]⟩) (.cons (Q_idx (RHost.mons (d := h) (S.arg hh)) (l := (h.mons).length) (k := (m).toNat) (i := m) rfl (by omega) (by omega) Go.Proofs.Try.underlying36 (by kernel_rfl)) (.cons (Q_el (RHost.mons (d := h) (S.arg hh)) (t := 46) (k := (m).toNat) (by omega) rfl (by kernel_rfl) (by kernel_rfl)) .nil)) (by kernel_rfl) ?_
    clear S; intro ac w β S
    refine RG.op rfl (S.call1 (r := (el h.mons ((m).toNat))) (d := 19) (c_spec_l21Mon w (el h.mons ((m).toNat)) (ph.mons.2 ((m).toNat)) (S.rd (LRd.el (RHost.mons (d := h) (S.arg hh)) ((m).toNat) (by omega)))) (by kernel_rfl) rfl ?_)
    clear S; intro ac w N q13 F14 S up o15 d16
    clear up d16
    have i32 : In64 (el h.mons ((m).toNat)).pend := RMon.pend (d := (el h.mons ((m).toNat))) o15.rn
    have i33 : In64 (el h.mons ((m).toNat)).traps := RMon.traps (d := (el h.mons ((m).toNat))) o15.rn
    have i37 : In64 (el h.mons ((m).toNat)).owned := RMon.owned (d := (el h.mons ((m).toNat))) o15.rn
    obtain ⟨F17, F20, F23, F26, F29, F34, o18, o21, o24, o27, o30, o35, s19, s22, s25, s28, s31, s36, d38, d39, d40, d41, d42, d43, d44, d45, d46, d47, d48, d49, d50, d51, d52⟩ := sp_Mon o15
    refine S.quiet (k := 2) (keep := [4, 5]) (m := 2) (σ' := ⟨[(4, .p 1 0), (5, .v (B true))], [GT.cells (α := THost) h ph, [slv ((el h.mons ((m).toNat)).outer).length q13.outer.1, slv ((el h.mons ((m).toNat)).out).length q13.out.1, slv ((el h.mons ((m).toNat)).dirty).length q13.dirty.1, slv ((el h.mons ((m).toNat)).guests).length q13.guests.1, slv ((el h.mons ((m).toNat)).outs).length q13.outs.1, I ((el h.mons ((m).toNat)).pend), I ((el h.mons ((m).toNat)).traps), slv ((el h.mons ((m).toNat)).tables).length q13.tables.1, I ((el h.mons ((m).toNat)).owned)]]⟩) .nil (by kernel_rfl) ?_
    clear S; intro ac w β S
    refine RG.done rfl (nx_then ?_)
    refine wp_ret ?_
    refine S.ret (vs := [GT.val (α := TMon) (el h.mons ((m).toNat)) q13, B true]) (by kernel_rfl) ?_
    have o53 := ow_Mon (x := (el h.mons ((m).toNat))) (p := q13) o18 o21 o24 o27 o30 o35 d38 d39 d40 d41 d42 d43 d44 d45 d46 d47 d48 d49 d50 d51 d52 i32 i33 i37
    exact ret2_of (p' := ()) S (show (f_monAt h m).1 = (el h.mons ((m).toNat)) by clear S; (first | (unfold f_monAt; rw [if_pos (by omega)]) | (unfold f_monAt; rw [if_neg (by omega)]))) (show (f_monAt h m).2 = true by clear S; (first | (unfold f_monAt; rw [if_pos (by omega)]) | (unfold f_monAt; rw [if_neg (by omega)]))) rfl rfl o53 trivial

set_option maxRecDepth 100000 in
theorem c_spec_NoSlot (w0 : World)  : Calls Go.Proofs.Try.prog 117 [].toArray w0 (fun e w' => e = .returned (GT.val (α := TSlot) (⟨-1, 0⟩ : TSlot) ()) ∧ Chg NoB w0 w') := by
  refine Calls.walk (args := []) NoB Go.Proofs.Try.func117 rfl rfl ?_
  intro ac β S
  refine wp_seq ?_
  refine RG.start ?_
  refine S.quiet (k := 1) (keep := [0]) (m := 1) (σ' := ⟨[(0, .p 0 0)], [[I 0, I 0]]⟩) .nil (by kernel_rfl) ?_
  clear S; intro ac w β S
  refine RG.done rfl (nx_then ?_)
  refine wp_seq ?_
  refine RG.start ?_
  refine S.quiet (k := 2) (keep := [0]) (m := 1) (σ' := ⟨[(0, .p 0 0)], [[I (-1), I 0]]⟩) (.cons (Q_sem (s := Instr.build 120 [(0, I (-1))].toArray) (v := .agg [I (-1), I 0].toArray) (fun w => by kernel_rfl)) .nil) (by kernel_rfl) ?_
  clear S; intro ac w β S
  refine RG.done rfl (nx_then ?_)
  refine wp_ret ?_
  refine S.ret (vs := [GT.val (α := TSlot) (⟨(-1), 0⟩ : TSlot) ()]) (by kernel_rfl) ?_
  exact ⟨retV (p := ()) (show (⟨(-1), 0⟩ : TSlot) = (⟨-1, 0⟩ : TSlot) by clear S; first | rfl | (simp [id, *]; done) | (simp [id, *]; omega) | (simp_all [id]; done) | (simp_all [id]; omega)), S.chg⟩

set_option maxRecDepth 100000 in
theorem c_spec_SlotAt (w0 : World) (t : List TSlot) (pt : LP TSlot) (ht : GT.rd KK (Lt w0.heap.size) w0 t pt) (page : Int) : Calls Go.Proofs.Try.prog 101 [slv (t).length pt.1, I page].toArray w0 (fun e w' => e = .returned (GT.val (α := TSlot) (f_slotAt t page) ()) ∧ Chg NoB w0 w') := by
  refine Calls.walk (args := [slv (t).length pt.1, I page]) NoB Go.Proofs.Try.func101 rfl rfl ?_
  intro ac β S
  have hlet : t.length ≤ 4194304 := LRd.le ht
  refine wp_seq ?_
  refine RG.start ?_
  refine S.quiet (k := 1) (keep := [0, 1, 4]) (m := 1) (σ' := ⟨[(0, .v (slv (t).length pt.1)), (1, .v (I page)), (4, .p 0 0)], [[I 0, I 0]]⟩) .nil (by kernel_rfl) ?_
  clear S; intro ac w β S
  refine RG.done rfl (nx_then ?_)
  refine wp_seq ?_
  refine wp_seq ?_
  refine RG.start ?_
  refine S.quiet (k := 6) (keep := [0, 1, 4, 10]) (m := 1) (σ' := ⟨[(0, .v (slv (t).length pt.1)), (1, .v (I page)), (4, .p 0 0), (10, .v (B (!(f_within page 0 (((t).length : Int) - 1)))))], [[I 0, I 0]]⟩) (.cons (Q_sub (x := ((t).length : Int)) (y := 1) ⟨by omega, by omega⟩) (.cons (Q_call fun w hw => c_spec_l01In w page 0 (((t).length : Int) - 1)) .nil)) (by kernel_rfl) ?_
  clear S; intro ac w β S
  refine RG.done rfl (nx_then ?_)
  refine S.cond (e := (!(f_within page 0 (((t).length : Int) - 1)))) (by kernel_rfl) (fun h1 => ?_) (fun h1 => ?_)
  · have h2 : (f_within page 0 (((t).length : Int) - 1)) = false := not_t h1
    have g3 := within_f h2
    refine wp_seq ?_
    refine RG.start ?_
    refine S.quiet (k := 2) (keep := [4]) (m := 1) (σ' := ⟨[(4, .p 0 0)], [GT.cells (α := TSlot) ((⟨-1, 0⟩ : TSlot)) ()]⟩) (.cons (Q_call fun w hw => c_spec_NoSlot w ) .nil) (by kernel_rfl) ?_
    clear S; intro ac w β S
    refine RG.done rfl (nx_then ?_)
    refine wp_ret (rt_then ?_)
    refine S.ret (vs := [GT.val (α := TSlot) ((⟨-1, 0⟩ : TSlot)) ()]) (by kernel_rfl) ?_
    exact ⟨retV (p := ()) (show ((⟨-1, 0⟩ : TSlot)) = f_slotAt t page by clear S; (first | (unfold f_slotAt; rw [if_pos (by omega)]) | (unfold f_slotAt; rw [if_neg (by omega)]))), S.chg⟩
  · have h4 : (f_within page 0 (((t).length : Int) - 1)) = true := not_f h1
    have g5 := within_t h4
    refine wp_skip (nx_then ?_)
    refine wp_seq ?_
    refine RG.start ?_
    refine S.quiet (k := 5) (keep := [4]) (m := 1) (σ' := ⟨[(4, .p 0 0)], [GT.cells (α := TSlot) (el t ((page).toNat)) ()]⟩) (.cons (Q_idx (S.arg ht) (l := (t).length) (k := (page).toNat) (i := page) rfl (by omega) (by omega) Go.Proofs.Try.underlying42 (by kernel_rfl)) (.cons (Q_el (S.arg ht) (t := 120) (k := (page).toNat) (by omega) rfl (by kernel_rfl) (by kernel_rfl)) .nil)) (by kernel_rfl) ?_
    clear S; intro ac w β S
    refine RG.done rfl (nx_then ?_)
    refine wp_ret ?_
    refine S.ret (vs := [GT.val (α := TSlot) (el t ((page).toNat)) ()]) (by kernel_rfl) ?_
    exact ⟨retV (p := ()) (show (el t ((page).toNat)) = f_slotAt t page by clear S; (first | (unfold f_slotAt; rw [if_pos (by omega)]) | (unfold f_slotAt; rw [if_neg (by omega)]))), S.chg⟩

set_option maxRecDepth 100000 in
theorem c_spec_PageAt (w0 : World) (m : List (List Int)) (pm : LP (List Int)) (hm : GT.rd KK (Lt w0.heap.size) w0 m pm) (page : Int) : Calls Go.Proofs.Try.prog 102 [slv (m).length pm.1, I page].toArray w0 (Ret1 NoB w0 (f_pageAt m page : List Int)) := by
  refine Calls.walk (args := [slv (m).length pm.1, I page]) NoB Go.Proofs.Try.func102 rfl rfl ?_
  intro ac β S
  have hlem : m.length ≤ 4194304 := LRd.le hm
  refine wp_seq ?_
  refine RG.start ?_
  refine S.quiet (k := 1) (keep := [0, 1]) (m := 0) (σ' := ⟨[(0, .v (slv (m).length pm.1)), (1, .v (I page))], []⟩) .nil (by kernel_rfl) ?_
  clear S; intro ac w β S
  refine RG.done rfl (nx_then ?_)
  refine wp_seq ?_
  refine wp_seq ?_
  refine RG.start ?_
  refine S.quiet (k := 6) (keep := [0, 1, 10]) (m := 0) (σ' := ⟨[(0, .v (slv (m).length pm.1)), (1, .v (I page)), (10, .v (B (!(f_within page 0 (((m).length : Int) - 1)))))], []⟩) (.cons (Q_sub (x := ((m).length : Int)) (y := 1) ⟨by omega, by omega⟩) (.cons (Q_call fun w hw => c_spec_l01In w page 0 (((m).length : Int) - 1)) .nil)) (by kernel_rfl) ?_
  clear S; intro ac w β S
  refine RG.done rfl (nx_then ?_)
  refine S.cond (e := (!(f_within page 0 (((m).length : Int) - 1)))) (by kernel_rfl) (fun h1 => ?_) (fun h1 => ?_)
  · have h2 : (f_within page 0 (((m).length : Int) - 1)) = false := not_t h1
    have g3 := within_f h2
    refine wp_seq ?_
    refine RG.start ?_
    refine RG.op rfl (S.make (α := Int) (m := 4) (by' := 8) (d := 11) (by kernel_rfl) (by omega) (show 4 ≤ 4194304 by omega) ?_)
    clear S; intro ac w N q4 F5 S up o6 d7
    clear up d7
    refine S.quiet (k := 1) (keep := [4]) (m := 0) (σ' := ⟨[(4, .v (slv 4 q4.1))], []⟩) .nil (by kernel_rfl) ?_
    clear S; intro ac w β S
    refine RG.done rfl (nx_then ?_)
    refine wp_ret (rt_then ?_)
    refine S.ret (vs := [slv 4 q4.1]) (by kernel_rfl) ?_
    exact ret1_of S (show f_pageAt m page = (List.replicate 4 (GT.dflt : Int)) by clear S; (first | (unfold f_pageAt; rw [if_pos (by omega)]; done) | (unfold f_pageAt; rw [if_pos (by omega)]; first | rfl | (simp; done)) | (unfold f_pageAt; rw [if_neg (by omega)]; done) | (unfold f_pageAt; rw [if_neg (by omega)]; first | rfl | (simp; done)))) (by rw [show 4 = ((List.replicate 4 (GT.dflt : Int))).length from (by simp)]; rfl) o6
  · have h8 : (f_within page 0 (((m).length : Int) - 1)) = true := not_f h1
    have g9 := within_t h8
    refine wp_skip (nx_then ?_)
    refine wp_seq ?_
    refine RG.start ?_
    refine RG.op rfl (S.bs0 (α := Int) (d := 12) (by kernel_rfl) ?_)
    clear S; intro ac w N q10 F11 S up o12 d13
    clear up d13
    refine S.quiet (k := 4) (keep := [12, 16]) (m := 0) (σ' := ⟨[(12, .v (slv 0 q10.1)), (16, .v (slv ((el m ((page).toNat))).length (pm.2 ((page).toNat)).1))], []⟩) (.cons (Q_idx (S.arg hm) (l := (m).length) (k := (page).toNat) (i := page) rfl (by omega) (by omega) Go.Proofs.Try.underlying22 (by kernel_rfl)) (.cons (Q_el1 (S.arg hm) (t := 30) (k := (page).toNat) (by omega) rfl (by kernel_rfl)) .nil)) (by kernel_rfl) ?_
    clear S; intro ac w β S
    have b18 : ((el m ((page).toNat))).length ≤ 4194304 := LRd.le (LRd.el (S.arg hm) ((page).toNat) (by omega))
    refine RG.op rfl (S.appFlat (α := Int) o12 ((LRd.el (S.arg hm) ((page).toNat) (by omega))) (fun _ _ h => h) (by' := 8) (d := 17) (lx := 0) (ly := ((el m ((page).toNat))).length) rfl rfl (by kernel_rfl) (show _ ≤ 4194304 by simp only [List.length_append, List.length_cons, List.length_nil]; omega) ?_)
    clear S; intro ac w N q14 F15 S up o16 d17
    clear up d17
    refine S.quiet (k := 1) (keep := [4]) (m := 0) (σ' := ⟨[(4, .v (slv ((([] : List Int) ++ (el m ((page).toNat)))).length q14.1))], []⟩) .nil (by kernel_rfl) ?_
    clear S; intro ac w β S
    refine RG.done rfl (nx_then ?_)
    refine wp_ret ?_
    refine S.ret (vs := [slv ((([] : List Int) ++ (el m ((page).toNat)))).length q14.1]) (by kernel_rfl) ?_
    exact ret1_of S (show f_pageAt m page = (([] : List Int) ++ (el m ((page).toNat))) by clear S; (first | (unfold f_pageAt; rw [if_pos (by omega)]; done) | (unfold f_pageAt; rw [if_pos (by omega)]; first | rfl | (simp; done)) | (unfold f_pageAt; rw [if_neg (by omega)]; done) | (unfold f_pageAt; rw [if_neg (by omega)]; first | rfl | (simp; done)))) rfl o16

set_option maxRecDepth 100000 in
theorem c_spec_PageOf (w0 : World) (h : THost) (ph : PHost) (hh : GT.rd KK (Lt w0.heap.size) w0 h ph) (m : Int) (page : Int) : Calls Go.Proofs.Try.prog 72 [GT.val (α := THost) h ph, I m, I page].toArray w0 (Ret1 NoB w0 (f_pageOf h m page : List Int)) := by
  refine Calls.walk (args := [GT.val (α := THost) h ph, I m, I page]) NoB Go.Proofs.Try.func72 rfl rfl ?_
  intro ac β S
  have hleh_mem : h.mem.length ≤ 4194304 := LRd.le (RHost.mem (d := h) hh)
  have hleh_mons : h.mons.length ≤ 4194304 := LRd.le (RHost.mons (d := h) hh)
  have hleh_buf : h.buf.length ≤ 4194304 := LRd.le (RHost.buf (d := h) hh)
  have hleh_iobuf : h.iobuf.length ≤ 4194304 := LRd.le (RHost.iobuf (d := h) hh)
  refine wp_seq ?_
  refine RG.start ?_
  refine S.quiet (k := 2) (keep := [1, 2, 3]) (m := 1) (σ' := ⟨[(1, .v (I m)), (2, .v (I page)), (3, .p 0 0)], [GT.cells (α := THost) h ph]⟩) .nil (by kernel_rfl) ?_
  clear S; intro ac w β S
  refine RG.done rfl (nx_then ?_)
  refine wp_seq ?_
  refine wp_seq ?_
  refine RG.start ?_
  refine S.quiet (k := 8) (keep := [1, 2, 3, 16]) (m := 1) (σ' := ⟨[(1, .v (I m)), (2, .v (I page)), (3, .p 0 0), (16, .v (B (!(f_within m 0 (((h.mons).length : Int) - 1)))))], [GT.cells (α := THost) h ph]⟩) (.cons (Q_sub (x := ((h.mons).length : Int)) (y := 1) ⟨by omega, by omega⟩) (.cons (Q_call fun w hw => c_spec_l01In w m 0 (((h.mons).length : Int) - 1)) .nil)) (by kernel_rfl) ?_
  clear S; intro ac w β S
  rcases Bool.eq_false_or_eq_true (!(f_within m 0 (((h.mons).length : Int) - 1))) with h1 | h1 <;> rw [h1] at S
  · have h2 : (f_within m 0 (((h.mons).length : Int) - 1)) = false := not_t h1
    have g3 := within_f h2
    refine S.quiet (k := 4) (keep := [1, 2, 3, 20]) (m := 1) (σ' := ⟨[(1, .v (I m)), (2, .v (I page)), (3, .p 0 0), (20, .v (B true))], [GT.cells (α := THost) h ph]⟩) .nil (by kernel_rfl) ?_
    clear S; intro ac w β S
    refine RG.done rfl (nx_then ?_)
    refine S.cond (e := true) (by kernel_rfl) (fun _ => ?_) (fun hx => by cases hx)
    refine wp_seq ?_
    refine RG.start ?_
    refine RG.op rfl (S.make (α := Int) (m := 4) (by' := 8) (d := 21) (by kernel_rfl) (by omega) (show 4 ≤ 4194304 by omega) ?_)
    clear S; intro ac w N q4 F5 S up o6 d7
    clear up d7
    refine S.quiet (k := 1) (keep := [6]) (m := 0) (σ' := ⟨[(6, .v (slv 4 q4.1))], []⟩) .nil (by kernel_rfl) ?_
    clear S; intro ac w β S
    refine RG.done rfl (nx_then ?_)
    refine wp_ret (rt_then ?_)
    refine S.ret (vs := [slv 4 q4.1]) (by kernel_rfl) ?_
    exact ret1_of S (show f_pageOf h m page = (List.replicate 4 (GT.dflt : Int)) by clear S; (unfold f_pageOf; (repeat' split) <;> first | rfl | (exfalso; omega) | (exfalso; simp_all; done) | (exfalso; simp_all; omega))) (by rw [show 4 = ((List.replicate 4 (GT.dflt : Int))).length from (by simp)]; rfl) o6
  · have h8 : (f_within m 0 (((h.mons).length : Int) - 1)) = true := not_f h1
    have g9 := within_t h8
    refine S.quiet (k := 4) (keep := [1, 2, 3, 20]) (m := 1) (σ' := ⟨[(1, .v (I m)), (2, .v (I page)), (3, .p 0 0), (20, .v (B (!(f_within page 0 7))))], [GT.cells (α := THost) h ph]⟩) (.cons (Q_call fun w hw => c_spec_l01In w page 0 7) .nil) (by kernel_rfl) ?_
    clear S; intro ac w β S
    refine RG.done rfl (nx_then ?_)
    refine S.cond (e := (!(f_within page 0 7))) (by kernel_rfl) (fun h10 => ?_) (fun h10 => ?_)
    · have h11 : (f_within page 0 7) = false := not_t h10
      have g12 := within_f h11
      refine wp_seq ?_
      refine RG.start ?_
      refine RG.op rfl (S.make (α := Int) (m := 4) (by' := 8) (d := 21) (by kernel_rfl) (by omega) (show 4 ≤ 4194304 by omega) ?_)
      clear S; intro ac w N q13 F14 S up o15 d16
      clear up d16
      refine S.quiet (k := 1) (keep := [6]) (m := 0) (σ' := ⟨[(6, .v (slv 4 q13.1))], []⟩) .nil (by kernel_rfl) ?_
      clear S; intro ac w β S
      refine RG.done rfl (nx_then ?_)
      refine wp_ret (rt_then ?_)
      refine S.ret (vs := [slv 4 q13.1]) (by kernel_rfl) ?_
      exact ret1_of S (show f_pageOf h m page = (List.replicate 4 (GT.dflt : Int)) by clear S; (unfold f_pageOf; (repeat' split) <;> first | rfl | (exfalso; omega) | (exfalso; simp_all; done) | (exfalso; simp_all; omega))) (by rw [show 4 = ((List.replicate 4 (GT.dflt : Int))).length from (by simp)]; rfl) o15
    · have h17 : (f_within page 0 7) = true := not_f h10
      have g18 := within_t h17
      refine wp_skip (nx_then ?_)
      refine wp_seq ?_
      refine RG.start ?_
      refine S.quiet (k := 7) (keep := [2, 3, 7]) (m := 2) (σ' := ⟨[(2, .v (I page)), (3, .p 0 0), (7, .p 1 0)], [GT.cells (α := THost) h ph, GT.cells (α := TMon) (el h.mons ((m).toNat)) (ph.mons.2 ((m).toNat))]⟩) (.cons (Q_idx (RHost.mons (d := h) (S.arg hh)) (l := (h.mons).length) (k := (m).toNat) (i := m) rfl (by omega) (by omega) Go.Proofs.Try.underlying36 (by kernel_rfl)) (.cons (Q_el (RHost.mons (d := h) (S.arg hh)) (t := 46) (k := (m).toNat) (by omega) rfl (by kernel_rfl) (by kernel_rfl)) .nil)) (by kernel_rfl) ?_
      clear S; intro ac w β S
      refine RG.done rfl (nx_then ?_)
      refine wp_seq ?_
      refine wp_seq ?_
      refine RG.start ?_
      refine S.quiet (k := 6) (keep := [2, 3, 7, 8]) (m := 3) (σ' := ⟨[(2, .v (I page)), (3, .p 0 0), (7, .p 1 0), (8, .p 2 0)], [GT.cells (α := THost) h ph, GT.cells (α := TMon) (el h.mons ((m).toNat)) (ph.mons.2 ((m).toNat)), GT.cells (α := TSlot) (f_slotAt ((el h.mons ((m).toNat)).outer) page) ()]⟩) (.cons (Q_call fun w hw => c_spec_SlotAt w ((el h.mons ((m).toNat)).outer) ((ph.mons.2 ((m).toNat)).outer) (rd_of (RMon.outer (d := (el h.mons ((m).toNat))) (LRd.el (RHost.mons (d := h) (S.arg hh)) ((m).toNat) (by omega))) hw) page) .nil) (by kernel_rfl) ?_
      clear S; intro ac w β S
      refine RG.done rfl (nx_then ?_)
      refine wp_seq ?_
      refine RG.start ?_
      refine S.quiet (k := 3) (keep := [2, 3, 7, 8, 33]) (m := 3) (σ' := ⟨[(2, .v (I page)), (3, .p 0 0), (7, .p 1 0), (8, .p 2 0), (33, .v (B ((f_slotAt ((el h.mons ((m).toNat)).outer) page).page != (-1))))], [GT.cells (α := THost) h ph, GT.cells (α := TMon) (el h.mons ((m).toNat)) (ph.mons.2 ((m).toNat)), GT.cells (α := TSlot) (f_slotAt ((el h.mons ((m).toNat)).outer) page) ()]⟩) .nil (by kernel_rfl) ?_
      clear S; intro ac w β S
      refine RG.done rfl (nx_then ?_)
      refine S.cond (e := ((f_slotAt ((el h.mons ((m).toNat)).outer) page).page != (-1))) (by kernel_rfl) (fun h19 => ?_) (fun h19 => ?_)
      · have g20 : ¬ ((f_slotAt ((el h.mons ((m).toNat)).outer) page).page = (-1)) := bne_iff_ne.1 h19
        refine wp_seq ?_
        refine RG.start ?_
        refine S.quiet (k := 4) (keep := [35, 37]) (m := 0) (σ' := ⟨[(35, .v (slv (h.mem).length ph.mem.1)), (37, .v (I ((f_slotAt ((el h.mons ((m).toNat)).outer) page).page)))], []⟩) .nil (by kernel_rfl) ?_
        clear S; intro ac w β S
        refine RG.op rfl (S.call1 (r := f_pageAt h.mem ((f_slotAt ((el h.mons ((m).toNat)).outer) page).page)) (d := 38) (c_spec_PageAt w h.mem ph.mem (S.rd (RHost.mem (d := h) (S.arg hh))) ((f_slotAt ((el h.mons ((m).toNat)).outer) page).page)) (by kernel_rfl) rfl ?_)
        clear S; intro ac w N q21 F22 S up o23 d24
        clear up d24
        refine S.quiet (k := 1) (keep := [6]) (m := 0) (σ' := ⟨[(6, .v (slv ((f_pageAt h.mem ((f_slotAt ((el h.mons ((m).toNat)).outer) page).page))).length q21.1))], []⟩) .nil (by kernel_rfl) ?_
        clear S; intro ac w β S
        refine RG.done rfl (nx_then ?_)
        refine wp_ret (rt_then ?_)
        refine S.ret (vs := [slv ((f_pageAt h.mem ((f_slotAt ((el h.mons ((m).toNat)).outer) page).page))).length q21.1]) (by kernel_rfl) ?_
        exact ret1_of S (show f_pageOf h m page = (f_pageAt h.mem ((f_slotAt ((el h.mons ((m).toNat)).outer) page).page)) by clear S; (unfold f_pageOf; (repeat' split) <;> first | rfl | (exfalso; omega) | (exfalso; simp_all; done) | (exfalso; simp_all; omega))) rfl o23
      · have g25 : (f_slotAt ((el h.mons ((m).toNat)).outer) page).page = (-1) := ne_f h19
        refine wp_skip (nx_then ?_)
        refine wp_seq ?_
        refine RG.start ?_
        refine S.quiet (k := 3) (keep := [40, 41]) (m := 0) (σ' := ⟨[(40, .v (slv ((el h.mons ((m).toNat)).out).length ((ph.mons.2 ((m).toNat)).out).1)), (41, .v (I page))], []⟩) .nil (by kernel_rfl) ?_
        clear S; intro ac w β S
        refine RG.op rfl (S.call1 (r := f_pageAt ((el h.mons ((m).toNat)).out) page) (d := 42) (c_spec_PageAt w ((el h.mons ((m).toNat)).out) ((ph.mons.2 ((m).toNat)).out) (S.rd (RMon.out (d := (el h.mons ((m).toNat))) (LRd.el (RHost.mons (d := h) (S.arg hh)) ((m).toNat) (by omega)))) page) (by kernel_rfl) rfl ?_)
        clear S; intro ac w N q26 F27 S up o28 d29
        clear up d29
        refine S.quiet (k := 1) (keep := [6]) (m := 0) (σ' := ⟨[(6, .v (slv ((f_pageAt ((el h.mons ((m).toNat)).out) page)).length q26.1))], []⟩) .nil (by kernel_rfl) ?_
        clear S; intro ac w β S
        refine RG.done rfl (nx_then ?_)
        refine wp_ret ?_
        refine S.ret (vs := [slv ((f_pageAt ((el h.mons ((m).toNat)).out) page)).length q26.1]) (by kernel_rfl) ?_
        exact ret1_of S (show f_pageOf h m page = (f_pageAt ((el h.mons ((m).toNat)).out) page) by clear S; (unfold f_pageOf; (repeat' split) <;> first | rfl | (exfalso; omega) | (exfalso; simp_all; done) | (exfalso; simp_all; omega))) rfl o28

set_option maxRecDepth 100000 in
theorem c_spec_SeenAs (w0 : World) (h : THost) (ph : PHost) (hh : GT.rd KK (Lt w0.heap.size) w0 h ph) (m : Int) : Calls Go.Proofs.Try.prog 18 [GT.val (α := THost) h ph, I m].toArray w0 (Ret1 NoB w0 (f_seenAs h m : TBare)) := by
  refine Calls.walk (args := [GT.val (α := THost) h ph, I m]) NoB Go.Proofs.Try.func18 rfl rfl ?_
  intro ac β S
  have hleh_mem : h.mem.length ≤ 4194304 := LRd.le (RHost.mem (d := h) hh)
  have hleh_mons : h.mons.length ≤ 4194304 := LRd.le (RHost.mons (d := h) hh)
  have hleh_buf : h.buf.length ≤ 4194304 := LRd.le (RHost.buf (d := h) hh)
  have hleh_iobuf : h.iobuf.length ≤ 4194304 := LRd.le (RHost.iobuf (d := h) hh)
  refine wp_seq ?_
  refine RG.start ?_
  refine S.quiet (k := 2) (keep := [1, 2, 4]) (m := 2) (σ' := ⟨[(1, .v (I m)), (2, .p 0 0), (4, .p 1 0)], [GT.cells (α := THost) h ph, [slv (([] : List (List Int))).length (GT.pdflt (α := List (List Int))).1, slv (([] : List TGuest)).length (GT.pdflt (α := List TGuest)).1, slv (([] : List Int)).length (GT.pdflt (α := List Int)).1, I 0]]⟩) .nil (by kernel_rfl) ?_
  clear S; intro ac w β S
  refine RG.done rfl (nx_then ?_)
  refine wp_seq ?_
  refine RG.start ?_
  refine S.quiet (k := 2) (keep := [1, 2, 4, 10, 11]) (m := 2) (σ' := ⟨[(1, .v (I m)), (2, .p 0 0), (4, .p 1 0), (10, .v (GT.val (α := THost) h ph)), (11, .v (I m))], [GT.cells (α := THost) h ph, [slv (([] : List (List Int))).length (GT.pdflt (α := List (List Int))).1, slv (([] : List TGuest)).length (GT.pdflt (α := List TGuest)).1, slv (([] : List Int)).length (GT.pdflt (α := List Int)).1, I 0]]⟩) .nil (by kernel_rfl) ?_
  clear S; intro ac w β S
  refine RG.op rfl (S.call2 (r := (f_monAt h m).1) (r' := (f_monAt h m).2) (d := 12) (c_spec_MonAt w h ph (S.rd (S.arg hh)) m) (by kernel_rfl) rfl ?_)
  clear S; intro ac w N q1 q2 F3 F4 S up o5 o6 d7 d8 d9
  clear up d7
  clear d8
  have i25 : In64 ((f_monAt h m).1).pend := RMon.pend (d := ((f_monAt h m).1)) o5.rn
  have i26 : In64 ((f_monAt h m).1).traps := RMon.traps (d := ((f_monAt h m).1)) o5.rn
  have i30 : In64 ((f_monAt h m).1).owned := RMon.owned (d := ((f_monAt h m).1)) o5.rn
  obtain ⟨F10, F13, F16, F19, F22, F27, o11, o14, o17, o20, o23, o28, s12, s15, s18, s21, s24, s29, d31, d32, d33, d34, d35, d36, d37, d38, d39, d40, d41, d42, d43, d44, d45⟩ := sp_Mon o5
  refine S.quiet (k := 6) (keep := [1, 2, 4, 5, 6]) (m := 3) (σ' := ⟨[(1, .v (I m)), (2, .p 0 0), (4, .p 1 0), (5, .p 2 0), (6, .v (B ((f_monAt h m).2)))], [GT.cells (α := THost) h ph, [slv (([] : List (List Int))).length (GT.pdflt (α := List (List Int))).1, slv (([] : List TGuest)).length (GT.pdflt (α := List TGuest)).1, slv (([] : List Int)).length (GT.pdflt (α := List Int)).1, I 0], [slv (((f_monAt h m).1).outer).length q1.outer.1, slv (((f_monAt h m).1).out).length q1.out.1, slv (((f_monAt h m).1).dirty).length q1.dirty.1, slv (((f_monAt h m).1).guests).length q1.guests.1, slv (((f_monAt h m).1).outs).length q1.outs.1, I (((f_monAt h m).1).pend), I (((f_monAt h m).1).traps), slv (((f_monAt h m).1).tables).length q1.tables.1, I (((f_monAt h m).1).owned)]]⟩) .nil (by kernel_rfl) ?_
  clear S; intro ac w β S
  refine RG.done rfl (nx_then ?_)
  refine wp_seq ?_
  refine wp_seq ?_
  refine RG.start ?_
  refine S.quiet (k := 2) (keep := [1, 2, 4, 5, 16]) (m := 3) (σ' := ⟨[(1, .v (I m)), (2, .p 0 0), (4, .p 1 0), (5, .p 2 0), (16, .v (B (!((f_monAt h m).2))))], [GT.cells (α := THost) h ph, [slv (([] : List (List Int))).length (GT.pdflt (α := List (List Int))).1, slv (([] : List TGuest)).length (GT.pdflt (α := List TGuest)).1, slv (([] : List Int)).length (GT.pdflt (α := List Int)).1, I 0], [slv (((f_monAt h m).1).outer).length q1.outer.1, slv (((f_monAt h m).1).out).length q1.out.1, slv (((f_monAt h m).1).dirty).length q1.dirty.1, slv (((f_monAt h m).1).guests).length q1.guests.1, slv (((f_monAt h m).1).outs).length q1.outs.1, I (((f_monAt h m).1).pend), I (((f_monAt h m).1).traps), slv (((f_monAt h m).1).tables).length q1.tables.1, I (((f_monAt h m).1).owned)]]⟩) .nil (by kernel_rfl) ?_
  clear S; intro ac w β S
  refine RG.done rfl (nx_then ?_)
  refine S.cond (e := (!((f_monAt h m).2))) (by kernel_rfl) (fun h46 => ?_) (fun h46 => ?_)
  · have h47 : (f_monAt h m).2 = false := not_t h46
    refine wp_seq ?_
    refine RG.start ?_
    refine S.quiet (k := 2) (keep := [4]) (m := 2) (σ' := ⟨[(4, .p 1 0)], [GT.cells (α := THost) h ph, [slv (([] : List (List Int))).length (GT.pdflt (α := List (List Int))).1, slv (([] : List TGuest)).length (GT.pdflt (α := List TGuest)).1, slv (([] : List Int)).length (GT.pdflt (α := List Int)).1, I 0]]⟩) (.cons (Q_sem (s := Instr.build 54 [].toArray) (v := .agg [slv (([] : List (List Int))).length (GT.pdflt (α := List (List Int))).1, slv (([] : List TGuest)).length (GT.pdflt (α := List TGuest)).1, slv (([] : List Int)).length (GT.pdflt (α := List Int)).1, I 0].toArray) (fun w => by kernel_rfl)) .nil) (by kernel_rfl) ?_
    clear S; intro ac w β S
    refine RG.done rfl (nx_then ?_)
    refine wp_ret (rt_then ?_)
    refine S.ret (vs := [GT.val (α := TBare) (⟨([] : List (List Int)), ([] : List TGuest), ([] : List Int), 0⟩ : TBare) (⟨(GT.pdflt (α := List (List Int))), (GT.pdflt (α := List TGuest)), (GT.pdflt (α := List Int))⟩ : PBare)]) (by kernel_rfl) ?_
    have o48 := S.nilOw (α := List Int)
    have o49 := S.nilOw (α := TGuest)
    have o50 := S.nilOw (α := Int)
    have o51 := ow_Bare (x := (⟨([] : List (List Int)), ([] : List TGuest), ([] : List Int), 0⟩ : TBare)) (p := (⟨(GT.pdflt (α := List (List Int))), (GT.pdflt (α := List TGuest)), (GT.pdflt (α := List Int))⟩ : PBare)) o48 o49 o50 (fun b _ h => False.elim h) (fun b _ h => False.elim h) (fun b _ h => False.elim h) (show In64 0 from ⟨by decide, by decide⟩)
    exact ret1_of S (show f_seenAs h m = (⟨([] : List (List Int)), ([] : List TGuest), ([] : List Int), 0⟩ : TBare) by clear S; (first | (unfold f_seenAs; rw [if_neg (monAt_f (by assumption))]; done) | (unfold f_seenAs; rw [if_pos (monAt_t (by assumption)), monAt_1 (monAt_t (by assumption)), hacc, show i = 8 by omega]))) rfl o51
  · have h52 : (f_monAt h m).2 = true := not_f h46
    refine wp_skip (nx_then ?_)
    refine wp_seq ?_
    refine RG.start ?_
    refine S.quiet (k := 9) (keep := [1, 2, 4, 7]) (m := 4) (σ' := ⟨[(1, .v (I m)), (2, .p 0 0), (4, .p 1 0), (7, .p 3 0)], [GT.cells (α := THost) h ph, [slv (([] : List (List Int))).length (GT.pdflt (α := List (List Int))).1, slv (([] : List TGuest)).length (GT.pdflt (α := List TGuest)).1, slv (([] : List Int)).length (GT.pdflt (α := List Int)).1, I 0], [slv (((f_monAt h m).1).outer).length q1.outer.1, slv (((f_monAt h m).1).out).length q1.out.1, slv (((f_monAt h m).1).dirty).length q1.dirty.1, slv (((f_monAt h m).1).guests).length q1.guests.1, slv (((f_monAt h m).1).outs).length q1.outs.1, I (((f_monAt h m).1).pend), I (((f_monAt h m).1).traps), slv (((f_monAt h m).1).tables).length q1.tables.1, I (((f_monAt h m).1).owned)], [slv (([] : List (List Int))).length (GT.pdflt (α := List (List Int))).1, slv (((f_monAt h m).1).guests).length q1.guests.1, slv (((f_monAt h m).1).outs).length q1.outs.1, I (((f_monAt h m).1).pend)]]⟩) (.cons (Q_sem (s := Instr.build 54 [(1, slv (((f_monAt h m).1).guests).length q1.guests.1), (2, slv (((f_monAt h m).1).outs).length q1.outs.1), (3, I (((f_monAt h m).1).pend))].toArray) (v := .agg [slv (([] : List (List Int))).length (GT.pdflt (α := List (List Int))).1, slv (((f_monAt h m).1).guests).length q1.guests.1, slv (((f_monAt h m).1).outs).length q1.outs.1, I (((f_monAt h m).1).pend)].toArray) (fun w => by kernel_rfl)) .nil) (by kernel_rfl) ?_
    clear S; intro ac w β S
    refine RG.done rfl (nx_then ?_)
    refine wp_seq ?_
    refine wp_seq ?_
    refine RG.start ?_
    refine S.quiet (k := 1) (keep := [1, 2, 4, 7, 8]) (m := 4) (σ' := ⟨[(1, .v (I m)), (2, .p 0 0), (4, .p 1 0), (7, .p 3 0), (8, .v (I 0))], [GT.cells (α := THost) h ph, [slv (([] : List (List Int))).length (GT.pdflt (α := List (List Int))).1, slv (([] : List TGuest)).length (GT.pdflt (α := List TGuest)).1, slv (([] : List Int)).length (GT.pdflt (α := List Int)).1, I 0], [slv (((f_monAt h m).1).outer).length q1.outer.1, slv (((f_monAt h m).1).out).length q1.out.1, slv (((f_monAt h m).1).dirty).length q1.dirty.1, slv (((f_monAt h m).1).guests).length q1.guests.1, slv (((f_monAt h m).1).outs).length q1.outs.1, I (((f_monAt h m).1).pend), I (((f_monAt h m).1).traps), slv (((f_monAt h m).1).tables).length q1.tables.1, I (((f_monAt h m).1).owned)], [slv (([] : List (List Int))).length (GT.pdflt (α := List (List Int))).1, slv (((f_monAt h m).1).guests).length q1.guests.1, slv (((f_monAt h m).1).outs).length q1.outs.1, I (((f_monAt h m).1).pend)]]⟩) .nil (by kernel_rfl) ?_
    clear S; intro ac w β S
    refine RG.done rfl (nx_then ?_)
    refine wp_block ?_
    replace S := S.prune (keep := [1, 2, 4, 7, 8]) (m := 4) (σ' := ⟨[(1, .v (I m)), (2, .p 0 0), (4, .p 1 0), (7, .p 3 0), (8, .v (I 0))], [GT.cells (α := THost) h ph, [slv (([] : List (List Int))).length (GT.pdflt (α := List (List Int))).1, slv (([] : List TGuest)).length (GT.pdflt (α := List TGuest)).1, slv (([] : List Int)).length (GT.pdflt (α := List Int)).1, I 0], [slv (((f_monAt h m).1).outer).length q1.outer.1, slv (((f_monAt h m).1).out).length q1.out.1, slv (((f_monAt h m).1).dirty).length q1.dirty.1, slv (((f_monAt h m).1).guests).length q1.guests.1, slv (((f_monAt h m).1).outs).length q1.outs.1, I (((f_monAt h m).1).pend), I (((f_monAt h m).1).traps), slv (((f_monAt h m).1).tables).length q1.tables.1, I (((f_monAt h m).1).owned)], [slv (([] : List (List Int))).length (GT.pdflt (α := List (List Int))).1, slv (((f_monAt h m).1).guests).length q1.guests.1, slv (((f_monAt h m).1).outs).length q1.outs.1, I (((f_monAt h m).1).pend)]]⟩) (by kernel_rfl)
    have o56 := S.nilOw (α := List Int)
    refine wp_loop_down (fun mm ac w => ∃ (i : Nat) (acc : List (List Int)) (q53 : GT.Ptr (List (List Int))) (F54 : Bl) (u : World) (N : Bl) (β : Nat → Nat), mm = 8 - i ∧ (i ≤ 8) ∧ (acc = (List.range i).map (fun (j : Nat) => f_pageOf h m (j : Int))) ∧ St Go.Proofs.Try.prog Go.Proofs.Try.f18.ntmps w0 NoB u N β ⟨[(1, .v (I m)), (2, .p 0 0), (4, .p 1 0), (7, .p 3 0), (8, .v (I (i : Int)))], [GT.cells (α := THost) h ph, [slv (([] : List (List Int))).length (GT.pdflt (α := List (List Int))).1, slv (([] : List TGuest)).length (GT.pdflt (α := List TGuest)).1, slv (([] : List Int)).length (GT.pdflt (α := List Int)).1, I 0], [slv (((f_monAt h m).1).outer).length q1.outer.1, slv (((f_monAt h m).1).out).length q1.out.1, slv (((f_monAt h m).1).dirty).length q1.dirty.1, slv (((f_monAt h m).1).guests).length q1.guests.1, slv (((f_monAt h m).1).outs).length q1.outs.1, I (((f_monAt h m).1).pend), I (((f_monAt h m).1).traps), slv (((f_monAt h m).1).tables).length q1.tables.1, I (((f_monAt h m).1).owned)], [slv (acc).length q53.1, slv (((f_monAt h m).1).guests).length q1.guests.1, slv (((f_monAt h m).1).outs).length q1.outs.1, I (((f_monAt h m).1).pend)]]⟩ ac w ∧ Ow w0 NoB u N F54 acc q53 ∧ Ow w0 NoB u N F10 (((f_monAt h m).1).outer) q1.outer ∧ Ow w0 NoB u N F13 (((f_monAt h m).1).out) q1.out ∧ Ow w0 NoB u N F16 (((f_monAt h m).1).dirty) q1.dirty ∧ Ow w0 NoB u N F19 (((f_monAt h m).1).guests) q1.guests ∧ Ow w0 NoB u N F22 (((f_monAt h m).1).outs) q1.outs ∧ Ow w0 NoB u N F27 (((f_monAt h m).1).tables) q1.tables ∧ Disj F54 F10 ∧ Disj F54 F13 ∧ Disj F54 F16 ∧ Disj F54 F19 ∧ Disj F54 F22 ∧ Disj F54 F27) _ ⟨0, ([] : List (List Int)), (GT.pdflt (α := List (List Int))), NoB, _, _, _, rfl, (by first | omega | (simp; done) | (simp; omega)), (by rfl), S.cast (by kernel_rfl), o56, o11, o14, o17, o20, o23, o28, (Disj.symm (fun b _ h => False.elim h)), (Disj.symm (fun b _ h => False.elim h)), (Disj.symm (fun b _ h => False.elim h)), (Disj.symm (fun b _ h => False.elim h)), (Disj.symm (fun b _ h => False.elim h)), (Disj.symm (fun b _ h => False.elim h))⟩ ?_
    clear S o11 o14 o17 o20 o23 o28 o56 o6
    rintro mm ac w ⟨i, acc, q53, F54, u, N, β, rfl, hi, hacc, S, o55, o11, o14, o17, o20, o23, o28, d57, d58, d59, d60, d61, d62⟩
    have hlacc : acc.length = i := by rw [hacc]; simp
    refine wp_seq ?_
    refine wp_seq ?_
    refine RG.start ?_
    refine S.quiet (k := 2) (keep := [1, 2, 4, 7, 8, 26]) (m := 4) (σ' := ⟨[(1, .v (I m)), (2, .p 0 0), (4, .p 1 0), (7, .p 3 0), (8, .v (I (i : Int))), (26, .v (B (decide ((i : Int) < 8))))], [GT.cells (α := THost) h ph, [slv (([] : List (List Int))).length (GT.pdflt (α := List (List Int))).1, slv (([] : List TGuest)).length (GT.pdflt (α := List TGuest)).1, slv (([] : List Int)).length (GT.pdflt (α := List Int)).1, I 0], [slv (((f_monAt h m).1).outer).length q1.outer.1, slv (((f_monAt h m).1).out).length q1.out.1, slv (((f_monAt h m).1).dirty).length q1.dirty.1, slv (((f_monAt h m).1).guests).length q1.guests.1, slv (((f_monAt h m).1).outs).length q1.outs.1, I (((f_monAt h m).1).pend), I (((f_monAt h m).1).traps), slv (((f_monAt h m).1).tables).length q1.tables.1, I (((f_monAt h m).1).owned)], [slv (acc).length q53.1, slv (((f_monAt h m).1).guests).length q1.guests.1, slv (((f_monAt h m).1).outs).length q1.outs.1, I (((f_monAt h m).1).pend)]]⟩) .nil (by kernel_rfl) ?_
    clear S; intro ac w β S
    refine RG.done rfl (nx_then ?_)
    refine S.cond (e := (decide ((i : Int) < 8))) (by kernel_rfl) (fun h63 => ?_) (fun h63 => ?_)
    · have g64 : (i : Int) < 8 := of_decide_eq_true h63
      refine wp_skip (nx_then ?_)
      refine wp_seq ?_
      refine wp_block ?_
      refine S.draw0 (f := 10) 7 rfl rfl ?_
      clear S; intro w S
      refine S.hoist (i := 0) (path := [1, 0]) (keep := [1, 2, 4, 7, 8, 29]) (m := 4) (σ' := ⟨[(1, .v (I m)), (2, .p 0 0), (4, .p 1 0), (7, .p 3 0), (8, .v (I (i : Int))), (29, .p 3 0)], [GT.cells (α := THost) h ph, [slv (([] : List (List Int))).length (GT.pdflt (α := List (List Int))).1, slv (([] : List TGuest)).length (GT.pdflt (α := List TGuest)).1, slv (([] : List Int)).length (GT.pdflt (α := List Int)).1, I 0], [slv (((f_monAt h m).1).outer).length q1.outer.1, slv (((f_monAt h m).1).out).length q1.out.1, slv (((f_monAt h m).1).dirty).length q1.dirty.1, slv (((f_monAt h m).1).guests).length q1.guests.1, slv (((f_monAt h m).1).outs).length q1.outs.1, I (((f_monAt h m).1).pend), I (((f_monAt h m).1).traps), slv (((f_monAt h m).1).tables).length q1.tables.1, I (((f_monAt h m).1).owned)], [slv (acc).length q53.1, slv (((f_monAt h m).1).guests).length q1.guests.1, slv (((f_monAt h m).1).outs).length q1.outs.1, I (((f_monAt h m).1).pend)]]⟩) (by kernel_rfl) (by kernel_rfl) .nil (by kernel_rfl) ?_
      clear S; intro ac S
      refine S.hoist (i := 1) (path := [1]) (keep := [1, 2, 4, 7, 8, 30]) (m := 4) (σ' := ⟨[(1, .v (I m)), (2, .p 0 0), (4, .p 1 0), (7, .p 3 0), (8, .v (I (i : Int))), (30, .v (slv (acc).length q53.1))], [GT.cells (α := THost) h ph, [slv (([] : List (List Int))).length (GT.pdflt (α := List (List Int))).1, slv (([] : List TGuest)).length (GT.pdflt (α := List TGuest)).1, slv (([] : List Int)).length (GT.pdflt (α := List Int)).1, I 0], [slv (((f_monAt h m).1).outer).length q1.outer.1, slv (((f_monAt h m).1).out).length q1.out.1, slv (((f_monAt h m).1).dirty).length q1.dirty.1, slv (((f_monAt h m).1).guests).length q1.guests.1, slv (((f_monAt h m).1).outs).length q1.outs.1, I (((f_monAt h m).1).pend), I (((f_monAt h m).1).traps), slv (((f_monAt h m).1).tables).length q1.tables.1, I (((f_monAt h m).1).owned)], [slv (acc).length q53.1, slv (((f_monAt h m).1).guests).length q1.guests.1, slv (((f_monAt h m).1).outs).length q1.outs.1, I (((f_monAt h m).1).pend)]]⟩) (by kernel_rfl) (by kernel_rfl) .nil (by kernel_rfl) ?_
      clear S; intro ac S
      refine S.hoist (i := 2) (path := [5, 2]) (keep := [1, 2, 4, 7, 8, 30, 31]) (m := 4) (σ' := ⟨[(1, .v (I m)), (2, .p 0 0), (4, .p 1 0), (7, .p 3 0), (8, .v (I (i : Int))), (30, .v (slv (acc).length q53.1)), (31, .v (GT.val (α := THost) h ph))], [GT.cells (α := THost) h ph, [slv (([] : List (List Int))).length (GT.pdflt (α := List (List Int))).1, slv (([] : List TGuest)).length (GT.pdflt (α := List TGuest)).1, slv (([] : List Int)).length (GT.pdflt (α := List Int)).1, I 0], [slv (((f_monAt h m).1).outer).length q1.outer.1, slv (((f_monAt h m).1).out).length q1.out.1, slv (((f_monAt h m).1).dirty).length q1.dirty.1, slv (((f_monAt h m).1).guests).length q1.guests.1, slv (((f_monAt h m).1).outs).length q1.outs.1, I (((f_monAt h m).1).pend), I (((f_monAt h m).1).traps), slv (((f_monAt h m).1).tables).length q1.tables.1, I (((f_monAt h m).1).owned)], [slv (acc).length q53.1, slv (((f_monAt h m).1).guests).length q1.guests.1, slv (((f_monAt h m).1).outs).length q1.outs.1, I (((f_monAt h m).1).pend)]]⟩) (by kernel_rfl) (by kernel_rfl) .nil (by kernel_rfl) ?_
      clear S; intro ac S
      refine S.hoist (i := 3) (path := [5, 3]) (keep := [1, 2, 4, 7, 8, 30, 31, 32]) (m := 4) (σ' := ⟨[(1, .v (I m)), (2, .p 0 0), (4, .p 1 0), (7, .p 3 0), (8, .v (I (i : Int))), (30, .v (slv (acc).length q53.1)), (31, .v (GT.val (α := THost) h ph)), (32, .v (I m))], [GT.cells (α := THost) h ph, [slv (([] : List (List Int))).length (GT.pdflt (α := List (List Int))).1, slv (([] : List TGuest)).length (GT.pdflt (α := List TGuest)).1, slv (([] : List Int)).length (GT.pdflt (α := List Int)).1, I 0], [slv (((f_monAt h m).1).outer).length q1.outer.1, slv (((f_monAt h m).1).out).length q1.out.1, slv (((f_monAt h m).1).dirty).length q1.dirty.1, slv (((f_monAt h m).1).guests).length q1.guests.1, slv (((f_monAt h m).1).outs).length q1.outs.1, I (((f_monAt h m).1).pend), I (((f_monAt h m).1).traps), slv (((f_monAt h m).1).tables).length q1.tables.1, I (((f_monAt h m).1).owned)], [slv (acc).length q53.1, slv (((f_monAt h m).1).guests).length q1.guests.1, slv (((f_monAt h m).1).outs).length q1.outs.1, I (((f_monAt h m).1).pend)]]⟩) (by kernel_rfl) (by kernel_rfl) .nil (by kernel_rfl) ?_
      clear S; intro ac S
      refine S.hoist (i := 4) (path := [5, 4]) (keep := [1, 2, 4, 7, 8, 30, 31, 32, 33]) (m := 4) (σ' := ⟨[(1, .v (I m)), (2, .p 0 0), (4, .p 1 0), (7, .p 3 0), (8, .v (I (i : Int))), (30, .v (slv (acc).length q53.1)), (31, .v (GT.val (α := THost) h ph)), (32, .v (I m)), (33, .v (I (i : Int)))], [GT.cells (α := THost) h ph, [slv (([] : List (List Int))).length (GT.pdflt (α := List (List Int))).1, slv (([] : List TGuest)).length (GT.pdflt (α := List TGuest)).1, slv (([] : List Int)).length (GT.pdflt (α := List Int)).1, I 0], [slv (((f_monAt h m).1).outer).length q1.outer.1, slv (((f_monAt h m).1).out).length q1.out.1, slv (((f_monAt h m).1).dirty).length q1.dirty.1, slv (((f_monAt h m).1).guests).length q1.guests.1, slv (((f_monAt h m).1).outs).length q1.outs.1, I (((f_monAt h m).1).pend), I (((f_monAt h m).1).traps), slv (((f_monAt h m).1).tables).length q1.tables.1, I (((f_monAt h m).1).owned)], [slv (acc).length q53.1, slv (((f_monAt h m).1).guests).length q1.guests.1, slv (((f_monAt h m).1).outs).length q1.outs.1, I (((f_monAt h m).1).pend)]]⟩) (by kernel_rfl) (by kernel_rfl) .nil (by kernel_rfl) ?_
      clear S; intro ac S
      refine WD.one (i := 5) (by kernel_rfl) ?_
      refine id (S.call1 (r := f_pageOf h m (i : Int)) (d := 34) (c_spec_PageOf w h ph (S.rd (S.arg hh)) m (i : Int)) (by kernel_rfl) rfl ?_)
      clear S; intro ac w N q65 F66 S up o67 d68
      refine WD.next S up rfl ?_
      have d69 : Disj F54 F66 := fun b x y => d68 b (o55.sub b x) y
      have d70 : Disj F10 F66 := fun b x y => d68 b (o11.sub b x) y
      have d71 : Disj F13 F66 := fun b x y => d68 b (o14.sub b x) y
      have d72 : Disj F16 F66 := fun b x y => d68 b (o17.sub b x) y
      have d73 : Disj F19 F66 := fun b x y => d68 b (o20.sub b x) y
      have d74 : Disj F22 F66 := fun b x y => d68 b (o23.sub b x) y
      have d75 : Disj F27 F66 := fun b x y => d68 b (o28.sub b x) y
      replace o55 := o55.up up
      replace o11 := o11.up up
      replace o14 := o14.up up
      replace o17 := o17.up up
      replace o20 := o20.up up
      replace o23 := o23.up up
      replace o28 := o28.up up
      clear up d68
      refine WD.one (i := 6) (by kernel_rfl) ?_
      refine id (S.bs1 (α := List Int) (x := (f_pageOf h m (i : Int))) (p := q65) o67.own o67.sub o67.young (d := 35) (by kernel_rfl) ?_)
      clear S; intro ac w N q76 F77 S up o78 d79
      refine WD.next S up rfl ?_
      have d80 : Disj F54 F77 := d79 _ d69 o55.sub
      have d81 : Disj F10 F77 := d79 _ d70 o11.sub
      have d82 : Disj F13 F77 := d79 _ d71 o14.sub
      have d83 : Disj F16 F77 := d79 _ d72 o17.sub
      have d84 : Disj F19 F77 := d79 _ d73 o20.sub
      have d85 : Disj F22 F77 := d79 _ d74 o23.sub
      have d86 : Disj F27 F77 := d79 _ d75 o28.sub
      replace o55 := o55.up up
      replace o11 := o11.up up
      replace o14 := o14.up up
      replace o17 := o17.up up
      replace o20 := o20.up up
      replace o23 := o23.up up
      replace o28 := o28.up up
      clear up d79
      refine WD.one (i := 7) (by kernel_rfl) ?_
      refine id (S.appOwn (α := List Int) o55 o78 d80 (by' := 24) (d := 36) (lx := (acc).length) (ly := 1) rfl rfl (by kernel_rfl) (show _ ≤ 4194304 by simp only [List.length_append, List.length_cons, List.length_nil]; omega) ?_)
      clear S; intro ac w N q87 F88 S up o89 d90
      refine WD.last (by kernel_rfl) ?_
      have d91 : Disj F10 F88 := d90 _ (Disj.symm d57) d81 o11.sub
      have d92 : Disj F13 F88 := d90 _ (Disj.symm d58) d82 o14.sub
      have d93 : Disj F16 F88 := d90 _ (Disj.symm d59) d83 o17.sub
      have d94 : Disj F19 F88 := d90 _ (Disj.symm d60) d84 o20.sub
      have d95 : Disj F22 F88 := d90 _ (Disj.symm d61) d85 o23.sub
      have d96 : Disj F27 F88 := d90 _ (Disj.symm d62) d86 o28.sub
      replace o11 := o11.upF (Disj.symm d57) up
      replace o14 := o14.upF (Disj.symm d58) up
      replace o17 := o17.upF (Disj.symm d59) up
      replace o20 := o20.upF (Disj.symm d60) up
      replace o23 := o23.upF (Disj.symm d61) up
      replace o28 := o28.upF (Disj.symm d62) up
      clear up d90
      refine WD.one (i := 8) (by kernel_rfl) ?_
      refine S.stepq (i := 8) (keep := [1, 2, 4, 7, 8, 36, 37]) (m := 4) (σ' := ⟨[(1, .v (I m)), (2, .p 0 0), (4, .p 1 0), (7, .p 3 0), (8, .v (I (i : Int))), (36, .v (slv ((acc ++ [(f_pageOf h m (i : Int))])).length q87.1)), (37, .p 3 0)], [GT.cells (α := THost) h ph, [slv (([] : List (List Int))).length (GT.pdflt (α := List (List Int))).1, slv (([] : List TGuest)).length (GT.pdflt (α := List TGuest)).1, slv (([] : List Int)).length (GT.pdflt (α := List Int)).1, I 0], [slv (((f_monAt h m).1).outer).length q1.outer.1, slv (((f_monAt h m).1).out).length q1.out.1, slv (((f_monAt h m).1).dirty).length q1.dirty.1, slv (((f_monAt h m).1).guests).length q1.guests.1, slv (((f_monAt h m).1).outs).length q1.outs.1, I (((f_monAt h m).1).pend), I (((f_monAt h m).1).traps), slv (((f_monAt h m).1).tables).length q1.tables.1, I (((f_monAt h m).1).owned)], [slv (acc).length q53.1, slv (((f_monAt h m).1).guests).length q1.guests.1, slv (((f_monAt h m).1).outs).length q1.outs.1, I (((f_monAt h m).1).pend)]]⟩) .nil (by kernel_rfl) ?_
      clear S; intro ac w β S hβ
      refine WD.last (by kernel_rfl) ?_
      clear hβ
      refine WD.one (i := 9) (by kernel_rfl) ?_
      refine S.stepq (i := 9) (keep := [1, 2, 4, 7, 8]) (m := 4) (σ' := ⟨[(1, .v (I m)), (2, .p 0 0), (4, .p 1 0), (7, .p 3 0), (8, .v (I (i : Int)))], [GT.cells (α := THost) h ph, [slv (([] : List (List Int))).length (GT.pdflt (α := List (List Int))).1, slv (([] : List TGuest)).length (GT.pdflt (α := List TGuest)).1, slv (([] : List Int)).length (GT.pdflt (α := List Int)).1, I 0], [slv (((f_monAt h m).1).outer).length q1.outer.1, slv (((f_monAt h m).1).out).length q1.out.1, slv (((f_monAt h m).1).dirty).length q1.dirty.1, slv (((f_monAt h m).1).guests).length q1.guests.1, slv (((f_monAt h m).1).outs).length q1.outs.1, I (((f_monAt h m).1).pend), I (((f_monAt h m).1).traps), slv (((f_monAt h m).1).tables).length q1.tables.1, I (((f_monAt h m).1).owned)], [slv ((acc ++ [(f_pageOf h m (i : Int))])).length q87.1, slv (((f_monAt h m).1).guests).length q1.guests.1, slv (((f_monAt h m).1).outs).length q1.outs.1, I (((f_monAt h m).1).pend)]]⟩) .nil (by kernel_rfl) ?_
      clear S; intro ac w β S hβ
      refine WD.last (by kernel_rfl) ?_
      clear hβ
      refine WD.done (by kernel_rfl) ?_ _
      replace S := S.prune (keep := [1, 2, 4, 7, 8]) (m := 4) (σ' := ⟨[(1, .v (I m)), (2, .p 0 0), (4, .p 1 0), (7, .p 3 0), (8, .v (I (i : Int)))], [GT.cells (α := THost) h ph, [slv (([] : List (List Int))).length (GT.pdflt (α := List (List Int))).1, slv (([] : List TGuest)).length (GT.pdflt (α := List TGuest)).1, slv (([] : List Int)).length (GT.pdflt (α := List Int)).1, I 0], [slv (((f_monAt h m).1).outer).length q1.outer.1, slv (((f_monAt h m).1).out).length q1.out.1, slv (((f_monAt h m).1).dirty).length q1.dirty.1, slv (((f_monAt h m).1).guests).length q1.guests.1, slv (((f_monAt h m).1).outs).length q1.outs.1, I (((f_monAt h m).1).pend), I (((f_monAt h m).1).traps), slv (((f_monAt h m).1).tables).length q1.tables.1, I (((f_monAt h m).1).owned)], [slv ((acc ++ [(f_pageOf h m (i : Int))])).length q87.1, slv (((f_monAt h m).1).guests).length q1.guests.1, slv (((f_monAt h m).1).outs).length q1.outs.1, I (((f_monAt h m).1).pend)]]⟩) (by kernel_rfl)
      refine id (nx_block (nx_then ?_))
      refine RG.start ?_
      refine S.quiet (k := 3) (keep := [1, 2, 4, 7, 8]) (m := 4) (σ' := ⟨[(1, .v (I m)), (2, .p 0 0), (4, .p 1 0), (7, .p 3 0), (8, .v (I ((i : Int) + 1)))], [GT.cells (α := THost) h ph, [slv (([] : List (List Int))).length (GT.pdflt (α := List (List Int))).1, slv (([] : List TGuest)).length (GT.pdflt (α := List TGuest)).1, slv (([] : List Int)).length (GT.pdflt (α := List Int)).1, I 0], [slv (((f_monAt h m).1).outer).length q1.outer.1, slv (((f_monAt h m).1).out).length q1.out.1, slv (((f_monAt h m).1).dirty).length q1.dirty.1, slv (((f_monAt h m).1).guests).length q1.guests.1, slv (((f_monAt h m).1).outs).length q1.outs.1, I (((f_monAt h m).1).pend), I (((f_monAt h m).1).traps), slv (((f_monAt h m).1).tables).length q1.tables.1, I (((f_monAt h m).1).owned)], [slv ((acc ++ [(f_pageOf h m (i : Int))])).length q87.1, slv (((f_monAt h m).1).guests).length q1.guests.1, slv (((f_monAt h m).1).outs).length q1.outs.1, I (((f_monAt h m).1).pend)]]⟩) (.cons (Q_add (x := (i : Int)) (y := 1) ⟨by omega, by omega⟩) .nil) (by kernel_rfl) ?_
      clear S; intro ac w β S
      refine RG.done rfl (nx_then ?_)
      replace S := S.prune (keep := [1, 2, 4, 7, 8]) (m := 4) (σ' := ⟨[(1, .v (I m)), (2, .p 0 0), (4, .p 1 0), (7, .p 3 0), (8, .v (I ((i : Int) + 1)))], [GT.cells (α := THost) h ph, [slv (([] : List (List Int))).length (GT.pdflt (α := List (List Int))).1, slv (([] : List TGuest)).length (GT.pdflt (α := List TGuest)).1, slv (([] : List Int)).length (GT.pdflt (α := List Int)).1, I 0], [slv (((f_monAt h m).1).outer).length q1.outer.1, slv (((f_monAt h m).1).out).length q1.out.1, slv (((f_monAt h m).1).dirty).length q1.dirty.1, slv (((f_monAt h m).1).guests).length q1.guests.1, slv (((f_monAt h m).1).outs).length q1.outs.1, I (((f_monAt h m).1).pend), I (((f_monAt h m).1).traps), slv (((f_monAt h m).1).tables).length q1.tables.1, I (((f_monAt h m).1).owned)], [slv ((acc ++ [(f_pageOf h m (i : Int))])).length q87.1, slv (((f_monAt h m).1).guests).length q1.guests.1, slv (((f_monAt h m).1).outs).length q1.outs.1, I (((f_monAt h m).1).pend)]]⟩) (by kernel_rfl)
      refine ⟨8 - (i + 1), by omega, i + 1, (acc ++ [(f_pageOf h m (i : Int))]), q87, F88, _, _, _, rfl, ?_, ?_, S.cast (by kernel_rfl), o89, o11, o14, o17, o20, o23, o28, (Disj.symm d91), (Disj.symm d92), (Disj.symm d93), (Disj.symm d94), (Disj.symm d95), (Disj.symm d96)⟩
      · clear S; first | omega | (simp [*]; done) | (simp [*]; omega)
      · clear S; (rw [rmap_step, ← hacc])
    · have g97 : ¬ ((i : Int) < 8) := of_decide_eq_false h63
      refine wp_exit (ex_then (ex_then (ex_hit (nx_then ?_))))
      refine wp_seq ?_
      refine RG.start ?_
      refine S.quiet (k := 2) (keep := [4]) (m := 2) (σ' := ⟨[(4, .p 1 0)], [GT.cells (α := THost) h ph, [slv (acc).length q53.1, slv (((f_monAt h m).1).guests).length q1.guests.1, slv (((f_monAt h m).1).outs).length q1.outs.1, I (((f_monAt h m).1).pend)]]⟩) .nil (by kernel_rfl) ?_
      clear S; intro ac w β S
      refine RG.done rfl (nx_then ?_)
      refine wp_ret ?_
      refine S.ret (vs := [GT.val (α := TBare) (⟨acc, ((f_monAt h m).1).guests, ((f_monAt h m).1).outs, ((f_monAt h m).1).pend⟩ : TBare) (⟨q53, q1.guests, q1.outs⟩ : PBare)]) (by kernel_rfl) ?_
      have o98 := ow_Bare (x := (⟨acc, ((f_monAt h m).1).guests, ((f_monAt h m).1).outs, ((f_monAt h m).1).pend⟩ : TBare)) (p := (⟨q53, q1.guests, q1.outs⟩ : PBare)) o55 o20 o23 d60 d61 d43 i25
      exact ret1_of S (show f_seenAs h m = (⟨acc, ((f_monAt h m).1).guests, ((f_monAt h m).1).outs, ((f_monAt h m).1).pend⟩ : TBare) by clear S; (first | (unfold f_seenAs; rw [if_neg (monAt_f (by assumption))]; done) | (unfold f_seenAs; rw [if_pos (monAt_t (by assumption)), monAt_1 (monAt_t (by assumption)), hacc, show i = 8 by omega]))) rfl o98

set_option maxRecDepth 100000 in
theorem c_spec_AllSeenAs (w0 : World) (h : THost) (ph : PHost) (hh : GT.rd KK (Lt w0.heap.size) w0 h ph) : Calls Go.Proofs.Try.prog 23 [GT.val (α := THost) h ph].toArray w0 (Ret1 NoB w0 (f_allSeenAs h : List TBare)) := by
  refine Calls.walk (args := [GT.val (α := THost) h ph]) NoB Go.Proofs.Try.func23 rfl rfl ?_
  intro ac β S
  have hleh_mem : h.mem.length ≤ 4194304 := LRd.le (RHost.mem (d := h) hh)
  have hleh_mons : h.mons.length ≤ 4194304 := LRd.le (RHost.mons (d := h) hh)
  have hleh_buf : h.buf.length ≤ 4194304 := LRd.le (RHost.buf (d := h) hh)
  have hleh_iobuf : h.iobuf.length ≤ 4194304 := LRd.le (RHost.iobuf (d := h) hh)
  refine wp_seq ?_
  refine RG.start ?_
  refine S.quiet (k := 2) (keep := [1]) (m := 1) (σ' := ⟨[(1, .p 0 0)], [GT.cells (α := THost) h ph]⟩) .nil (by kernel_rfl) ?_
  clear S; intro ac w β S
  refine RG.done rfl (nx_then ?_)
  refine wp_seq ?_
  refine RG.start ?_
  refine RG.op rfl (S.bs0 (α := TBare) (d := 5) (by kernel_rfl) ?_)
  clear S; intro ac w N q1 F2 S up o3 d4
  clear up d4
  refine S.quiet (k := 1) (keep := [1, 3]) (m := 1) (σ' := ⟨[(1, .p 0 0), (3, .v (slv 0 q1.1))], [GT.cells (α := THost) h ph]⟩) .nil (by kernel_rfl) ?_
  clear S; intro ac w β S
  refine RG.done rfl (nx_then ?_)
  refine wp_seq ?_
  refine wp_seq ?_
  refine RG.start ?_
  refine S.quiet (k := 1) (keep := [1, 3, 4]) (m := 1) (σ' := ⟨[(1, .p 0 0), (3, .v (slv 0 q1.1)), (4, .v (I 0))], [GT.cells (α := THost) h ph]⟩) .nil (by kernel_rfl) ?_
  clear S; intro ac w β S
  refine RG.done rfl (nx_then ?_)
  refine wp_block ?_
  replace S := S.prune (keep := [1, 3, 4]) (m := 1) (σ' := ⟨[(1, .p 0 0), (3, .v (slv 0 q1.1)), (4, .v (I 0))], [GT.cells (α := THost) h ph]⟩) (by kernel_rfl)
  refine wp_loop_down (fun mm ac w => ∃ (i : Nat) (acc : List TBare) (q5 : GT.Ptr (List TBare)) (F6 : Bl) (u : World) (N : Bl) (β : Nat → Nat), mm = h.mons.length - i ∧ (i ≤ h.mons.length) ∧ (acc = (List.range i).map (fun (j : Nat) => f_seenAs h (j : Int))) ∧ St Go.Proofs.Try.prog Go.Proofs.Try.f23.ntmps w0 NoB u N β ⟨[(1, .p 0 0), (3, .v (slv (acc).length q5.1)), (4, .v (I (i : Int)))], [GT.cells (α := THost) h ph]⟩ ac w ∧ Ow w0 NoB u N F6 acc q5) _ ⟨0, ([] : List TBare), q1, F2, _, _, _, rfl, (by first | omega | (simp; done) | (simp; omega)), (by rfl), S.cast (by kernel_rfl), o3⟩ ?_
  clear S o3
  rintro mm ac w ⟨i, acc, q5, F6, u, N, β, rfl, hi, hacc, S, o7⟩
  have hlacc : acc.length = i := by rw [hacc]; simp
  refine wp_seq ?_
  refine wp_seq ?_
  refine RG.start ?_
  refine S.quiet (k := 5) (keep := [1, 3, 4, 10]) (m := 1) (σ' := ⟨[(1, .p 0 0), (3, .v (slv (acc).length q5.1)), (4, .v (I (i : Int))), (10, .v (B (decide ((i : Int) < ((h.mons).length : Int)))))], [GT.cells (α := THost) h ph]⟩) .nil (by kernel_rfl) ?_
  clear S; intro ac w β S
  refine RG.done rfl (nx_then ?_)
  refine S.cond (e := (decide ((i : Int) < ((h.mons).length : Int)))) (by kernel_rfl) (fun h8 => ?_) (fun h8 => ?_)
  · have g9 : (i : Int) < ((h.mons).length : Int) := of_decide_eq_true h8
    refine wp_skip (nx_then ?_)
    refine wp_seq ?_
    refine wp_block ?_
    refine RG.start ?_
    refine S.quiet (k := 3) (keep := [1, 4, 13, 14, 15]) (m := 1) (σ' := ⟨[(1, .p 0 0), (4, .v (I (i : Int))), (13, .v (slv (acc).length q5.1)), (14, .v (GT.val (α := THost) h ph)), (15, .v (I (i : Int)))], [GT.cells (α := THost) h ph]⟩) .nil (by kernel_rfl) ?_
    clear S; intro ac w β S
    refine RG.op rfl (S.call1 (r := f_seenAs h (i : Int)) (d := 16) (c_spec_SeenAs w h ph (S.rd (S.arg hh)) (i : Int)) (by kernel_rfl) rfl ?_)
    clear S; intro ac w N q10 F11 S up o12 d13
    have d14 : Disj F6 F11 := fun b x y => d13 b (o7.sub b x) y
    replace o7 := o7.up up
    clear up d13
    have i24 : In64 (f_seenAs h (i : Int)).pend := RBare.pend (d := (f_seenAs h (i : Int))) o12.rn
    obtain ⟨F15, F18, F21, o16, o19, o22, s17, s20, s23, d25, d26, d27⟩ := sp_Bare o12
    have o32 := ow_Bare (x := (f_seenAs h (i : Int))) (p := q10) o16 o19 o22 d25 d26 d27 i24
    refine RG.op rfl (S.bs1 (α := TBare) (x := (f_seenAs h (i : Int))) (p := q10) o32.own o32.sub o32.young (d := 17) (by kernel_rfl) ?_)
    clear S; intro ac w N q28 F29 S up o30 d31
    have d33 : Disj F6 F29 := d31 _ (Disj.symm (Disj.or (Disj.part (Disj.symm d14) s17) (Disj.or (Disj.part (Disj.symm d14) s20) (Disj.or (Disj.part (Disj.symm d14) s23) Disj.nob)))) o7.sub
    replace o7 := o7.up up
    clear up d31
    refine RG.op rfl (S.appOwn (α := TBare) o7 o30 d33 (by' := 80) (d := 18) (lx := (acc).length) (ly := 1) rfl rfl (by kernel_rfl) (show _ ≤ 4194304 by simp only [List.length_append, List.length_cons, List.length_nil]; omega) ?_)
    clear S; intro ac w N q34 F35 S up o36 d37
    clear up d37
    refine S.quiet (k := 1) (keep := [1, 3, 4]) (m := 1) (σ' := ⟨[(1, .p 0 0), (3, .v (slv ((acc ++ [(f_seenAs h (i : Int))])).length q34.1)), (4, .v (I (i : Int)))], [GT.cells (α := THost) h ph]⟩) .nil (by kernel_rfl) ?_
    clear S; intro ac w β S
    refine RG.done rfl (nx_block (nx_then ?_))
    refine RG.start ?_
    refine S.quiet (k := 3) (keep := [1, 3, 4]) (m := 1) (σ' := ⟨[(1, .p 0 0), (3, .v (slv ((acc ++ [(f_seenAs h (i : Int))])).length q34.1)), (4, .v (I ((i : Int) + 1)))], [GT.cells (α := THost) h ph]⟩) (.cons (Q_add (x := (i : Int)) (y := 1) ⟨by omega, by omega⟩) .nil) (by kernel_rfl) ?_
    clear S; intro ac w β S
    refine RG.done rfl (nx_then ?_)
    replace S := S.prune (keep := [1, 3, 4]) (m := 1) (σ' := ⟨[(1, .p 0 0), (3, .v (slv ((acc ++ [(f_seenAs h (i : Int))])).length q34.1)), (4, .v (I ((i : Int) + 1)))], [GT.cells (α := THost) h ph]⟩) (by kernel_rfl)
    refine ⟨h.mons.length - (i + 1), by omega, i + 1, (acc ++ [(f_seenAs h (i : Int))]), q34, F35, _, _, _, rfl, ?_, ?_, S.cast (by kernel_rfl), o36⟩
    · clear S; first | omega | (simp [*]; done) | (simp [*]; omega)
    · clear S; (rw [rmap_step, ← hacc])
  · have g38 : ¬ ((i : Int) < ((h.mons).length : Int)) := of_decide_eq_false h8
    refine wp_exit (ex_then (ex_then (ex_hit (nx_then ?_))))
    refine wp_seq ?_
    refine RG.start ?_
    refine S.quiet (k := 2) (keep := [2]) (m := 0) (σ' := ⟨[(2, .v (slv (acc).length q5.1))], []⟩) .nil (by kernel_rfl) ?_
    clear S; intro ac w β S
    refine RG.done rfl (nx_then ?_)
    refine wp_ret ?_
    refine S.ret (vs := [slv (acc).length q5.1]) (by kernel_rfl) ?_
    exact ret1_of S (show f_allSeenAs h = acc by clear S; (unfold f_allSeenAs; rw [hacc, show h.mons.length = i by omega])) rfl o7

set_option maxRecDepth 100000 in
theorem c_impl_has (w0 : World) (k : Int) (length : Int) (pre0 : -9223372036854775808 < length) : Calls Go.Proofs.Try.prog 50 [I k, I length].toArray w0 (fun e w' => e = .returned (B (f_within k 0 (length - 1))) ∧ Chg NoB w0 w') := by
  refine Calls.walk (args := [I k, I length]) NoB Go.Proofs.Try.func50 rfl rfl ?_
  intro ac β S
  refine wp_seq ?_
  refine RG.start ?_
  refine S.quiet (k := 1) (keep := [0, 1]) (m := 0) (σ' := ⟨[(0, .v (I k)), (1, .v (I length))], []⟩) .nil (by kernel_rfl) ?_
  clear S; intro ac w β S
  refine RG.done rfl (nx_then ?_)
  refine wp_seq ?_
  refine RG.start ?_
  refine S.quiet (k := 3) (keep := [0, 1, 7]) (m := 0) (σ' := ⟨[(0, .v (I k)), (1, .v (I length)), (7, .v (B (decide (k ≥ 0))))], []⟩) .nil (by kernel_rfl) ?_
  clear S; intro ac w β S
  rcases Bool.eq_false_or_eq_true (decide (k ≥ 0)) with h1 | h1 <;> rw [h1] at S
  · have g2 : k ≥ 0 := of_decide_eq_true h1
    refine S.quiet (k := 5) (keep := [4]) (m := 0) (σ' := ⟨[(4, .v (B (decide (k < length))))], []⟩) .nil (by kernel_rfl) ?_
    clear S; intro ac w β S
    refine RG.done rfl (nx_then ?_)
    refine wp_ret ?_
    refine S.ret (vs := [B (decide (k < length))]) (by kernel_rfl) ?_
    exact ⟨retB (show (decide (k < length)) = f_within k 0 (length - 1) by clear S; (rw [Bool.eq_iff_iff]; simp [f_within]; omega)), S.chg⟩
  · have g3 : ¬ (k ≥ 0) := of_decide_eq_false h1
    refine S.quiet (k := 5) (keep := [4]) (m := 0) (σ' := ⟨[(4, .v (B false))], []⟩) .nil (by kernel_rfl) ?_
    clear S; intro ac w β S
    refine RG.done rfl (nx_then ?_)
    refine wp_ret ?_
    refine S.ret (vs := [B false]) (by kernel_rfl) ?_
    exact ⟨retB (show false = f_within k 0 (length - 1) by clear S; (rw [Bool.eq_iff_iff]; simp [f_within]; omega)), S.chg⟩

set_option maxRecDepth 100000 in
theorem c_impl_copyTable (w0 : World) (l : List TSlot) (pl : LP TSlot) (hl : GT.rd KK (Lt w0.heap.size) w0 l pl) : Calls Go.Proofs.Try.prog 89 [slv (l).length pl.1].toArray w0 (Ret1 NoB w0 (l : List TSlot)) := by
  refine Calls.walk (args := [slv (l).length pl.1]) NoB Go.Proofs.Try.func89 rfl rfl ?_
  intro ac β S
  have hlel : l.length ≤ 4194304 := LRd.le hl
  refine wp_seq ?_
  refine RG.start ?_
  refine S.quiet (k := 1) (keep := [0]) (m := 0) (σ' := ⟨[(0, .v (slv (l).length pl.1))], []⟩) .nil (by kernel_rfl) ?_
  clear S; intro ac w β S
  refine RG.done rfl (nx_then ?_)
  refine wp_seq ?_
  refine RG.start ?_
  refine RG.op rfl (S.bs0 (α := TSlot) (d := 3) (by kernel_rfl) ?_)
  clear S; intro ac w N q1 F2 S up o3 d4
  clear up d4
  refine S.quiet (k := 1) (keep := [3, 4]) (m := 0) (σ' := ⟨[(3, .v (slv 0 q1.1)), (4, .v (slv (l).length pl.1))], []⟩) .nil (by kernel_rfl) ?_
  clear S; intro ac w β S
  have b9 : (l).length ≤ 4194304 := LRd.le (S.arg hl)
  refine RG.op rfl (S.appFlat (α := TSlot) o3 ((S.arg hl)) (fun _ _ h => h) (by' := 16) (d := 5) (lx := 0) (ly := (l).length) rfl rfl (by kernel_rfl) (show _ ≤ 4194304 by simp only [List.length_append, List.length_cons, List.length_nil]; omega) ?_)
  clear S; intro ac w N q5 F6 S up o7 d8
  clear up d8
  refine S.quiet (k := 1) (keep := [2]) (m := 0) (σ' := ⟨[(2, .v (slv ((([] : List TSlot) ++ l)).length q5.1))], []⟩) .nil (by kernel_rfl) ?_
  clear S; intro ac w β S
  refine RG.done rfl (nx_then ?_)
  refine wp_ret ?_
  refine S.ret (vs := [slv ((([] : List TSlot) ++ l)).length q5.1]) (by kernel_rfl) ?_
  exact ret1_of S (show l = (([] : List TSlot) ++ l) by clear S; simp) rfl o7

set_option maxRecDepth 100000 in
theorem c_impl_copyInts (w0 : World) (l : List Int) (pl : LP Int) (hl : GT.rd KK (Lt w0.heap.size) w0 l pl) : Calls Go.Proofs.Try.prog 91 [slv (l).length pl.1].toArray w0 (Ret1 NoB w0 (l : List Int)) := by
  refine Calls.walk (args := [slv (l).length pl.1]) NoB Go.Proofs.Try.func91 rfl rfl ?_
  intro ac β S
  have hlel : l.length ≤ 4194304 := LRd.le hl
  refine wp_seq ?_
  refine RG.start ?_
  refine S.quiet (k := 1) (keep := [0]) (m := 0) (σ' := ⟨[(0, .v (slv (l).length pl.1))], []⟩) .nil (by kernel_rfl) ?_
  clear S; intro ac w β S
  refine RG.done rfl (nx_then ?_)
  refine wp_seq ?_
  refine RG.start ?_
  refine RG.op rfl (S.bs0 (α := Int) (d := 3) (by kernel_rfl) ?_)
  clear S; intro ac w N q1 F2 S up o3 d4
  clear up d4
  refine S.quiet (k := 1) (keep := [3, 4]) (m := 0) (σ' := ⟨[(3, .v (slv 0 q1.1)), (4, .v (slv (l).length pl.1))], []⟩) .nil (by kernel_rfl) ?_
  clear S; intro ac w β S
  have b9 : (l).length ≤ 4194304 := LRd.le (S.arg hl)
  refine RG.op rfl (S.appFlat (α := Int) o3 ((S.arg hl)) (fun _ _ h => h) (by' := 8) (d := 5) (lx := 0) (ly := (l).length) rfl rfl (by kernel_rfl) (show _ ≤ 4194304 by simp only [List.length_append, List.length_cons, List.length_nil]; omega) ?_)
  clear S; intro ac w N q5 F6 S up o7 d8
  clear up d8
  refine S.quiet (k := 1) (keep := [2]) (m := 0) (σ' := ⟨[(2, .v (slv ((([] : List Int) ++ l)).length q5.1))], []⟩) .nil (by kernel_rfl) ?_
  clear S; intro ac w β S
  refine RG.done rfl (nx_then ?_)
  refine wp_ret ?_
  refine S.ret (vs := [slv ((([] : List Int) ++ l)).length q5.1]) (by kernel_rfl) ?_
  exact ret1_of S (show l = (([] : List Int) ++ l) by clear S; simp) rfl o7

set_option maxRecDepth 100000 in
theorem c_impl_copyMem (w0 : World) (l : List (List Int)) (pl : LP (List Int)) (hl : GT.rd KK (Lt w0.heap.size) w0 l pl) : Calls Go.Proofs.Try.prog 88 [slv (l).length pl.1].toArray w0 (Ret1 NoB w0 (l : List (List Int))) := by
  refine Calls.walk (args := [slv (l).length pl.1]) NoB Go.Proofs.Try.func88 rfl rfl ?_
  intro ac β S
  have hlel : l.length ≤ 4194304 := LRd.le hl
  refine wp_seq ?_
  refine RG.start ?_
  refine S.quiet (k := 1) (keep := [0]) (m := 0) (σ' := ⟨[(0, .v (slv (l).length pl.1))], []⟩) .nil (by kernel_rfl) ?_
  clear S; intro ac w β S
  refine RG.done rfl (nx_then ?_)
  refine wp_seq ?_
  refine RG.start ?_
  refine RG.op rfl (S.bs0 (α := List Int) (d := 6) (by kernel_rfl) ?_)
  clear S; intro ac w N q1 F2 S up o3 d4
  clear up d4
  refine S.quiet (k := 1) (keep := [0, 3]) (m := 0) (σ' := ⟨[(0, .v (slv (l).length pl.1)), (3, .v (slv 0 q1.1))], []⟩) .nil (by kernel_rfl) ?_
  clear S; intro ac w β S
  refine RG.done rfl (nx_then ?_)
  refine wp_seq ?_
  refine wp_seq ?_
  refine RG.start ?_
  refine S.quiet (k := 3) (keep := [3, 7, 8, 9]) (m := 0) (σ' := ⟨[(3, .v (slv 0 q1.1)), (7, .v (slv (l).length pl.1)), (8, .v (I ((l).length : Int))), (9, .v (I 0))], []⟩) .nil (by kernel_rfl) ?_
  clear S; intro ac w β S
  refine RG.done rfl (nx_then ?_)
  refine wp_block ?_
  replace S := S.prune (keep := [3, 7, 8, 9]) (m := 0) (σ' := ⟨[(3, .v (slv 0 q1.1)), (7, .v (slv (l).length pl.1)), (8, .v (I ((l).length : Int))), (9, .v (I 0))], []⟩) (by kernel_rfl)
  refine wp_loop_down (fun mm ac w => ∃ (k : Nat) (acc : List (List Int)) (q5 : GT.Ptr (List (List Int))) (F6 : Bl) (u : World) (N : Bl) (β : Nat → Nat), mm = (l).length - k ∧ (k ≤ (l).length) ∧ (acc = (l).take k) ∧ St Go.Proofs.Try.prog Go.Proofs.Try.f88.ntmps w0 NoB u N β ⟨[(3, .v (slv (acc).length q5.1)), (7, .v (slv (l).length pl.1)), (8, .v (I ((l).length : Int))), (9, .v (I (k : Int)))], []⟩ ac w ∧ Ow w0 NoB u N F6 acc q5) _ ⟨0, ([] : List (List Int)), q1, F2, _, _, _, rfl, (by first | omega | (simp; done) | (simp; omega)), (by simp), S.cast (by kernel_rfl), o3⟩ ?_
  clear S o3
  rintro mm ac w ⟨k, acc, q5, F6, u, N, β, rfl, hk, hacc, S, o7⟩
  have hlacc : acc.length = k := by rw [hacc]; simp; omega
  refine wp_seq ?_
  refine RG.start ?_
  refine S.quiet (k := 1) (keep := [3, 7, 8, 9, 10]) (m := 0) (σ' := ⟨[(3, .v (slv (acc).length q5.1)), (7, .v (slv (l).length pl.1)), (8, .v (I ((l).length : Int))), (9, .v (I (k : Int))), (10, .v (B (decide ((k : Int) < ((l).length : Int)))))], []⟩) .nil (by kernel_rfl) ?_
  clear S; intro ac w β S
  refine RG.done rfl (nx_then ?_)
  refine wp_seq ?_
  refine S.cond (e := (decide ((k : Int) < ((l).length : Int)))) (by kernel_rfl) (fun h8 => ?_) (fun h8 => ?_)
  · have g9 : (k : Int) < ((l).length : Int) := of_decide_eq_true h8
    refine wp_skip (nx_then ?_)
    refine wp_seq ?_
    refine wp_block ?_
    refine wp_seq ?_
    refine RG.start ?_
    refine S.quiet (k := 3) (keep := [3, 5, 7, 8, 9]) (m := 0) (σ' := ⟨[(3, .v (slv (acc).length q5.1)), (5, .v (slv ((el l k)).length (pl.2 k).1)), (7, .v (slv (l).length pl.1)), (8, .v (I ((l).length : Int))), (9, .v (I (k : Int)))], []⟩) (.cons (Q_idx (S.arg hl) (l := (l).length) (k := k) (i := (k : Int)) rfl rfl (by omega) Go.Proofs.Try.underlying22 (by kernel_rfl)) (.cons (Q_el1 (S.arg hl) (t := 30) (k := k) (by omega) rfl (by kernel_rfl)) .nil)) (by kernel_rfl) ?_
    clear S; intro ac w β S
    refine RG.done rfl (nx_then ?_)
    refine RG.start ?_
    refine S.quiet (k := 2) (keep := [7, 8, 9, 13, 14]) (m := 0) (σ' := ⟨[(7, .v (slv (l).length pl.1)), (8, .v (I ((l).length : Int))), (9, .v (I (k : Int))), (13, .v (slv (acc).length q5.1)), (14, .v (slv ((el l k)).length (pl.2 k).1))], []⟩) .nil (by kernel_rfl) ?_
    clear S; intro ac w β S
    refine RG.op rfl (S.call1 (r := (el l k)) (d := 15) (c_impl_copyInts w (el l k) (pl.2 k) (S.rd (LRd.el (S.arg hl) k (by omega)))) (by kernel_rfl) rfl ?_)
    clear S; intro ac w N q10 F11 S up o12 d13
    have d14 : Disj F6 F11 := fun b x y => d13 b (o7.sub b x) y
    replace o7 := o7.up up
    clear up d13
    refine RG.op rfl (S.bs1 (α := List Int) (x := (el l k)) (p := q10) o12.own o12.sub o12.young (d := 16) (by kernel_rfl) ?_)
    clear S; intro ac w N q15 F16 S up o17 d18
    have d19 : Disj F6 F16 := d18 _ d14 o7.sub
    replace o7 := o7.up up
    clear up d18
    refine RG.op rfl (S.appOwn (α := List Int) o7 o17 d19 (by' := 24) (d := 17) (lx := (acc).length) (ly := 1) rfl rfl (by kernel_rfl) (show _ ≤ 4194304 by simp only [List.length_append, List.length_cons, List.length_nil]; omega) ?_)
    clear S; intro ac w N q20 F21 S up o22 d23
    clear up d23
    refine S.quiet (k := 1) (keep := [3, 7, 8, 9]) (m := 0) (σ' := ⟨[(3, .v (slv ((acc ++ [(el l k)])).length q20.1)), (7, .v (slv (l).length pl.1)), (8, .v (I ((l).length : Int))), (9, .v (I (k : Int)))], []⟩) .nil (by kernel_rfl) ?_
    clear S; intro ac w β S
    refine RG.done rfl (nx_block (nx_then ?_))
    refine RG.start ?_
    refine S.quiet (k := 2) (keep := [3, 7, 8, 9]) (m := 0) (σ' := ⟨[(3, .v (slv ((acc ++ [(el l k)])).length q20.1)), (7, .v (slv (l).length pl.1)), (8, .v (I ((l).length : Int))), (9, .v (I ((k : Int) + 1)))], []⟩) (.cons (Q_add (x := (k : Int)) (y := 1) ⟨by omega, by omega⟩) .nil) (by kernel_rfl) ?_
    clear S; intro ac w β S
    refine RG.done rfl (nx_then ?_)
    replace S := S.prune (keep := [3, 7, 8, 9]) (m := 0) (σ' := ⟨[(3, .v (slv ((acc ++ [(el l k)])).length q20.1)), (7, .v (slv (l).length pl.1)), (8, .v (I ((l).length : Int))), (9, .v (I ((k : Int) + 1)))], []⟩) (by kernel_rfl)
    refine ⟨(l).length - (k + 1), by omega, k + 1, (acc ++ [(el l k)]), q20, F21, _, _, _, rfl, ?_, ?_, S.cast (by kernel_rfl), o22⟩
    · clear S; first | omega | (simp [*]; done) | (simp [*]; omega)
    · clear S; (first | (rw [take_el (by omega), hacc]; done) | (rw [take_el (by omega), hacc]; simp; done))
  · have g24 : ¬ ((k : Int) < ((l).length : Int)) := of_decide_eq_false h8
    refine wp_exit (ex_then (ex_then (ex_hit (nx_then ?_))))
    refine wp_seq ?_
    refine RG.start ?_
    refine S.quiet (k := 2) (keep := [2]) (m := 0) (σ' := ⟨[(2, .v (slv (acc).length q5.1))], []⟩) .nil (by kernel_rfl) ?_
    clear S; intro ac w β S
    refine RG.done rfl (nx_then ?_)
    refine wp_ret ?_
    refine S.ret (vs := [slv (acc).length q5.1]) (by kernel_rfl) ?_
    exact ret1_of S (show l = acc by clear S; (rw [hacc, take_all (by omega)])) rfl o7

set_option maxRecDepth 100000 in
theorem c_impl_copyProg (w0 : World) (l : List TIns) (pl : LP TIns) (hl : GT.rd KK (Lt w0.heap.size) w0 l pl) : Calls Go.Proofs.Try.prog 121 [slv (l).length pl.1].toArray w0 (Ret1 NoB w0 (l : List TIns)) := by
  refine Calls.walk (args := [slv (l).length pl.1]) NoB Go.Proofs.Try.func121 rfl rfl ?_
  intro ac β S
  have hlel : l.length ≤ 4194304 := LRd.le hl
  refine wp_seq ?_
  refine RG.start ?_
  refine S.quiet (k := 1) (keep := [0]) (m := 0) (σ' := ⟨[(0, .v (slv (l).length pl.1))], []⟩) .nil (by kernel_rfl) ?_
  clear S; intro ac w β S
  refine RG.done rfl (nx_then ?_)
  refine wp_seq ?_
  refine RG.start ?_
  refine RG.op rfl (S.bs0 (α := TIns) (d := 3) (by kernel_rfl) ?_)
  clear S; intro ac w N q1 F2 S up o3 d4
  clear up d4
  refine S.quiet (k := 1) (keep := [3, 4]) (m := 0) (σ' := ⟨[(3, .v (slv 0 q1.1)), (4, .v (slv (l).length pl.1))], []⟩) .nil (by kernel_rfl) ?_
  clear S; intro ac w β S
  have b9 : (l).length ≤ 4194304 := LRd.le (S.arg hl)
  refine RG.op rfl (S.appFlat (α := TIns) o3 ((S.arg hl)) (fun _ _ h => h) (by' := 16) (d := 5) (lx := 0) (ly := (l).length) rfl rfl (by kernel_rfl) (show _ ≤ 4194304 by simp only [List.length_append, List.length_cons, List.length_nil]; omega) ?_)
  clear S; intro ac w N q5 F6 S up o7 d8
  clear up d8
  refine S.quiet (k := 1) (keep := [2]) (m := 0) (σ' := ⟨[(2, .v (slv ((([] : List TIns) ++ l)).length q5.1))], []⟩) .nil (by kernel_rfl) ?_
  clear S; intro ac w β S
  refine RG.done rfl (nx_then ?_)
  refine wp_ret ?_
  refine S.ret (vs := [slv ((([] : List TIns) ++ l)).length q5.1]) (by kernel_rfl) ?_
  exact ret1_of S (show l = (([] : List TIns) ++ l) by clear S; simp) rfl o7

set_option maxRecDepth 100000 in
theorem c_impl_copyGuest (w0 : World) (g : TGuest) (pg : PGuest) (hg : GT.rd KK (Lt w0.heap.size) w0 g pg) : Calls Go.Proofs.Try.prog 113 [GT.val (α := TGuest) g pg].toArray w0 (Ret1 NoB w0 (g : TGuest)) := by
  refine Calls.walk (args := [GT.val (α := TGuest) g pg]) NoB Go.Proofs.Try.func113 rfl rfl ?_
  intro ac β S
  have hleg_prog : g.prog.length ≤ 4194304 := LRd.le (RGuest.prog (d := g) hg)
  have hleg_written : g.written.length ≤ 4194304 := LRd.le (RGuest.written (d := g) hg)
  have hleg_live : g.live.length ≤ 4194304 := LRd.le (RGuest.live (d := g) hg)
  have hleg_seen : g.seen.length ≤ 4194304 := LRd.le (RGuest.seen (d := g) hg)
  refine wp_seq ?_
  refine RG.start ?_
  refine S.quiet (k := 2) (keep := [1, 2]) (m := 2) (σ' := ⟨[(1, .p 0 0), (2, .p 1 0)], [GT.cells (α := TGuest) g pg, [slv (([] : List TIns)).length (GT.pdflt (α := List TIns)).1, I 0, I 0, slv (([] : List TSlot)).length (GT.pdflt (α := List TSlot)).1, slv (([] : List TSlot)).length (GT.pdflt (α := List TSlot)).1, I 0, I 0, B false, I 0, I 0, I 0, B false, I 0, B false, slv (([] : List Int)).length (GT.pdflt (α := List Int)).1]]⟩) .nil (by kernel_rfl) ?_
  clear S; intro ac w β S
  refine RG.done rfl (nx_then ?_)
  refine wp_seq ?_
  refine RG.start ?_
  refine S.quiet (k := 2) (keep := [1, 2, 4]) (m := 2) (σ' := ⟨[(1, .p 0 0), (2, .p 1 0), (4, .v (slv (g.prog).length pg.prog.1))], [GT.cells (α := TGuest) g pg, [slv (([] : List TIns)).length (GT.pdflt (α := List TIns)).1, I 0, I 0, slv (([] : List TSlot)).length (GT.pdflt (α := List TSlot)).1, slv (([] : List TSlot)).length (GT.pdflt (α := List TSlot)).1, I 0, I 0, B false, I 0, I 0, I 0, B false, I 0, B false, slv (([] : List Int)).length (GT.pdflt (α := List Int)).1]]⟩) .nil (by kernel_rfl) ?_
  clear S; intro ac w β S
  refine RG.op rfl (S.call1 (r := g.prog) (d := 5) (c_impl_copyProg w g.prog pg.prog (S.rd (RGuest.prog (d := g) (S.arg hg)))) (by kernel_rfl) rfl ?_)
  clear S; intro ac w N q1 F2 S up o3 d4
  clear up d4
  refine S.quiet (k := 2) (keep := [1, 2]) (m := 2) (σ' := ⟨[(1, .p 0 0), (2, .p 1 0)], [[slv (g.prog).length q1.1, I g.acc, I g.pc, slv (g.written).length pg.written.1, slv (g.live).length pg.live.1, I g.ctl.traps, I g.ctl.post, B g.ctl.opn, I g.pend, I g.exit.kind, I g.exit.page, B g.exit.wr, I g.exit.n, B g.halted, slv (g.seen).length pg.seen.1], [slv (([] : List TIns)).length (GT.pdflt (α := List TIns)).1, I 0, I 0, slv (([] : List TSlot)).length (GT.pdflt (α := List TSlot)).1, slv (([] : List TSlot)).length (GT.pdflt (α := List TSlot)).1, I 0, I 0, B false, I 0, I 0, I 0, B false, I 0, B false, slv (([] : List Int)).length (GT.pdflt (α := List Int)).1]]⟩) .nil (by kernel_rfl) ?_
  clear S; intro ac w β S
  refine RG.done rfl (nx_then ?_)
  refine wp_seq ?_
  refine RG.start ?_
  refine S.quiet (k := 2) (keep := [1, 2, 8]) (m := 2) (σ' := ⟨[(1, .p 0 0), (2, .p 1 0), (8, .v (slv (g.written).length pg.written.1))], [[slv (g.prog).length q1.1, I g.acc, I g.pc, slv (g.written).length pg.written.1, slv (g.live).length pg.live.1, I g.ctl.traps, I g.ctl.post, B g.ctl.opn, I g.pend, I g.exit.kind, I g.exit.page, B g.exit.wr, I g.exit.n, B g.halted, slv (g.seen).length pg.seen.1], [slv (([] : List TIns)).length (GT.pdflt (α := List TIns)).1, I 0, I 0, slv (([] : List TSlot)).length (GT.pdflt (α := List TSlot)).1, slv (([] : List TSlot)).length (GT.pdflt (α := List TSlot)).1, I 0, I 0, B false, I 0, I 0, I 0, B false, I 0, B false, slv (([] : List Int)).length (GT.pdflt (α := List Int)).1]]⟩) .nil (by kernel_rfl) ?_
  clear S; intro ac w β S
  refine RG.op rfl (S.call1 (r := g.written) (d := 9) (c_impl_copyTable w g.written pg.written (S.rd (RGuest.written (d := g) (S.arg hg)))) (by kernel_rfl) rfl ?_)
  clear S; intro ac w N q5 F6 S up o7 d8
  have d9 : Disj F2 F6 := fun b x y => d8 b (o3.sub b x) y
  replace o3 := o3.up up
  clear up d8
  refine S.quiet (k := 2) (keep := [1, 2]) (m := 2) (σ' := ⟨[(1, .p 0 0), (2, .p 1 0)], [[slv (g.prog).length q1.1, I g.acc, I g.pc, slv (g.written).length q5.1, slv (g.live).length pg.live.1, I g.ctl.traps, I g.ctl.post, B g.ctl.opn, I g.pend, I g.exit.kind, I g.exit.page, B g.exit.wr, I g.exit.n, B g.halted, slv (g.seen).length pg.seen.1], [slv (([] : List TIns)).length (GT.pdflt (α := List TIns)).1, I 0, I 0, slv (([] : List TSlot)).length (GT.pdflt (α := List TSlot)).1, slv (([] : List TSlot)).length (GT.pdflt (α := List TSlot)).1, I 0, I 0, B false, I 0, I 0, I 0, B false, I 0, B false, slv (([] : List Int)).length (GT.pdflt (α := List Int)).1]]⟩) .nil (by kernel_rfl) ?_
  clear S; intro ac w β S
  refine RG.done rfl (nx_then ?_)
  refine wp_seq ?_
  refine RG.start ?_
  refine S.quiet (k := 2) (keep := [1, 2, 12]) (m := 2) (σ' := ⟨[(1, .p 0 0), (2, .p 1 0), (12, .v (slv (g.live).length pg.live.1))], [[slv (g.prog).length q1.1, I g.acc, I g.pc, slv (g.written).length q5.1, slv (g.live).length pg.live.1, I g.ctl.traps, I g.ctl.post, B g.ctl.opn, I g.pend, I g.exit.kind, I g.exit.page, B g.exit.wr, I g.exit.n, B g.halted, slv (g.seen).length pg.seen.1], [slv (([] : List TIns)).length (GT.pdflt (α := List TIns)).1, I 0, I 0, slv (([] : List TSlot)).length (GT.pdflt (α := List TSlot)).1, slv (([] : List TSlot)).length (GT.pdflt (α := List TSlot)).1, I 0, I 0, B false, I 0, I 0, I 0, B false, I 0, B false, slv (([] : List Int)).length (GT.pdflt (α := List Int)).1]]⟩) .nil (by kernel_rfl) ?_
  clear S; intro ac w β S
  refine RG.op rfl (S.call1 (r := g.live) (d := 13) (c_impl_copyTable w g.live pg.live (S.rd (RGuest.live (d := g) (S.arg hg)))) (by kernel_rfl) rfl ?_)
  clear S; intro ac w N q10 F11 S up o12 d13
  have d14 : Disj F2 F11 := fun b x y => d13 b (o3.sub b x) y
  have d15 : Disj F6 F11 := fun b x y => d13 b (o7.sub b x) y
  replace o3 := o3.up up
  replace o7 := o7.up up
  clear up d13
  refine S.quiet (k := 2) (keep := [1, 2]) (m := 2) (σ' := ⟨[(1, .p 0 0), (2, .p 1 0)], [[slv (g.prog).length q1.1, I g.acc, I g.pc, slv (g.written).length q5.1, slv (g.live).length q10.1, I g.ctl.traps, I g.ctl.post, B g.ctl.opn, I g.pend, I g.exit.kind, I g.exit.page, B g.exit.wr, I g.exit.n, B g.halted, slv (g.seen).length pg.seen.1], [slv (([] : List TIns)).length (GT.pdflt (α := List TIns)).1, I 0, I 0, slv (([] : List TSlot)).length (GT.pdflt (α := List TSlot)).1, slv (([] : List TSlot)).length (GT.pdflt (α := List TSlot)).1, I 0, I 0, B false, I 0, I 0, I 0, B false, I 0, B false, slv (([] : List Int)).length (GT.pdflt (α := List Int)).1]]⟩) .nil (by kernel_rfl) ?_
  clear S; intro ac w β S
  refine RG.done rfl (nx_then ?_)
  refine wp_seq ?_
  refine RG.start ?_
  refine S.quiet (k := 2) (keep := [1, 2, 16]) (m := 2) (σ' := ⟨[(1, .p 0 0), (2, .p 1 0), (16, .v (slv (g.seen).length pg.seen.1))], [[slv (g.prog).length q1.1, I g.acc, I g.pc, slv (g.written).length q5.1, slv (g.live).length q10.1, I g.ctl.traps, I g.ctl.post, B g.ctl.opn, I g.pend, I g.exit.kind, I g.exit.page, B g.exit.wr, I g.exit.n, B g.halted, slv (g.seen).length pg.seen.1], [slv (([] : List TIns)).length (GT.pdflt (α := List TIns)).1, I 0, I 0, slv (([] : List TSlot)).length (GT.pdflt (α := List TSlot)).1, slv (([] : List TSlot)).length (GT.pdflt (α := List TSlot)).1, I 0, I 0, B false, I 0, I 0, I 0, B false, I 0, B false, slv (([] : List Int)).length (GT.pdflt (α := List Int)).1]]⟩) .nil (by kernel_rfl) ?_
  clear S; intro ac w β S
  refine RG.op rfl (S.call1 (r := g.seen) (d := 17) (c_impl_copyInts w g.seen pg.seen (S.rd (RGuest.seen (d := g) (S.arg hg)))) (by kernel_rfl) rfl ?_)
  clear S; intro ac w N q16 F17 S up o18 d19
  have d20 : Disj F2 F17 := fun b x y => d19 b (o3.sub b x) y
  have d21 : Disj F6 F17 := fun b x y => d19 b (o7.sub b x) y
  have d22 : Disj F11 F17 := fun b x y => d19 b (o12.sub b x) y
  replace o3 := o3.up up
  replace o7 := o7.up up
  replace o12 := o12.up up
  clear up d19
  refine S.quiet (k := 2) (keep := [1, 2]) (m := 2) (σ' := ⟨[(1, .p 0 0), (2, .p 1 0)], [[slv (g.prog).length q1.1, I g.acc, I g.pc, slv (g.written).length q5.1, slv (g.live).length q10.1, I g.ctl.traps, I g.ctl.post, B g.ctl.opn, I g.pend, I g.exit.kind, I g.exit.page, B g.exit.wr, I g.exit.n, B g.halted, slv (g.seen).length q16.1], [slv (([] : List TIns)).length (GT.pdflt (α := List TIns)).1, I 0, I 0, slv (([] : List TSlot)).length (GT.pdflt (α := List TSlot)).1, slv (([] : List TSlot)).length (GT.pdflt (α := List TSlot)).1, I 0, I 0, B false, I 0, I 0, I 0, B false, I 0, B false, slv (([] : List Int)).length (GT.pdflt (α := List Int)).1]]⟩) .nil (by kernel_rfl) ?_
  clear S; intro ac w β S
  refine RG.done rfl (nx_then ?_)
  refine wp_seq ?_
  refine RG.start ?_
  refine S.quiet (k := 2) (keep := [2]) (m := 2) (σ' := ⟨[(2, .p 1 0)], [[slv (g.prog).length q1.1, I g.acc, I g.pc, slv (g.written).length q5.1, slv (g.live).length q10.1, I g.ctl.traps, I g.ctl.post, B g.ctl.opn, I g.pend, I g.exit.kind, I g.exit.page, B g.exit.wr, I g.exit.n, B g.halted, slv (g.seen).length q16.1], [slv (g.prog).length q1.1, I g.acc, I g.pc, slv (g.written).length q5.1, slv (g.live).length q10.1, I g.ctl.traps, I g.ctl.post, B g.ctl.opn, I g.pend, I g.exit.kind, I g.exit.page, B g.exit.wr, I g.exit.n, B g.halted, slv (g.seen).length q16.1]]⟩) .nil (by kernel_rfl) ?_
  clear S; intro ac w β S
  refine RG.done rfl (nx_then ?_)
  refine wp_ret ?_
  refine S.ret (vs := [GT.val (α := TGuest) (⟨g.prog, g.acc, g.pc, g.written, g.live, g.ctl, g.pend, g.exit, g.halted, g.seen⟩ : TGuest) (⟨q1, q5, q10, q16⟩ : PGuest)]) (by kernel_rfl) ?_
  have o23 := ow_Guest (x := (⟨g.prog, g.acc, g.pc, g.written, g.live, g.ctl, g.pend, g.exit, g.halted, g.seen⟩ : TGuest)) (p := (⟨q1, q5, q10, q16⟩ : PGuest)) o3 o7 o12 o18 d9 d14 d20 d15 d21 d22 (RGuest.acc (d := g) (S.arg hg)) (RGuest.pc (d := g) (S.arg hg)) (RGuest.ctl (d := g) (S.arg hg)) (RGuest.pend (d := g) (S.arg hg)) (RGuest.exit (d := g) (S.arg hg))
  exact ret1_of S (show g = (⟨g.prog, g.acc, g.pc, g.written, g.live, g.ctl, g.pend, g.exit, g.halted, g.seen⟩ : TGuest) by clear S; (first | rfl | simp)) rfl o23

set_option maxRecDepth 100000 in
theorem c_impl_copyGuests (w0 : World) (l : List TGuest) (pl : LP TGuest) (hl : GT.rd KK (Lt w0.heap.size) w0 l pl) : Calls Go.Proofs.Try.prog 90 [slv (l).length pl.1].toArray w0 (Ret1 NoB w0 (l : List TGuest)) := by
  refine Calls.walk (args := [slv (l).length pl.1]) NoB Go.Proofs.Try.func90 rfl rfl ?_
  intro ac β S
  have hlel : l.length ≤ 4194304 := LRd.le hl
  refine wp_seq ?_
  refine RG.start ?_
  refine S.quiet (k := 1) (keep := [0]) (m := 0) (σ' := ⟨[(0, .v (slv (l).length pl.1))], []⟩) .nil (by kernel_rfl) ?_
  clear S; intro ac w β S
  refine RG.done rfl (nx_then ?_)
  refine wp_seq ?_
  refine RG.start ?_
  refine RG.op rfl (S.bs0 (α := TGuest) (d := 6) (by kernel_rfl) ?_)
  clear S; intro ac w N q1 F2 S up o3 d4
  clear up d4
  refine S.quiet (k := 1) (keep := [0, 3]) (m := 0) (σ' := ⟨[(0, .v (slv (l).length pl.1)), (3, .v (slv 0 q1.1))], []⟩) .nil (by kernel_rfl) ?_
  clear S; intro ac w β S
  refine RG.done rfl (nx_then ?_)
  refine wp_seq ?_
  refine wp_seq ?_
  refine RG.start ?_
  refine S.quiet (k := 3) (keep := [3, 7, 8, 9]) (m := 0) (σ' := ⟨[(3, .v (slv 0 q1.1)), (7, .v (slv (l).length pl.1)), (8, .v (I ((l).length : Int))), (9, .v (I 0))], []⟩) .nil (by kernel_rfl) ?_
  clear S; intro ac w β S
  refine RG.done rfl (nx_then ?_)
  refine wp_block ?_
  replace S := S.prune (keep := [3, 7, 8, 9]) (m := 0) (σ' := ⟨[(3, .v (slv 0 q1.1)), (7, .v (slv (l).length pl.1)), (8, .v (I ((l).length : Int))), (9, .v (I 0))], []⟩) (by kernel_rfl)
  refine wp_loop_down (fun mm ac w => ∃ (k : Nat) (acc : List TGuest) (q5 : GT.Ptr (List TGuest)) (F6 : Bl) (u : World) (N : Bl) (β : Nat → Nat), mm = (l).length - k ∧ (k ≤ (l).length) ∧ (acc = (l).take k) ∧ St Go.Proofs.Try.prog Go.Proofs.Try.f90.ntmps w0 NoB u N β ⟨[(3, .v (slv (acc).length q5.1)), (7, .v (slv (l).length pl.1)), (8, .v (I ((l).length : Int))), (9, .v (I (k : Int)))], []⟩ ac w ∧ Ow w0 NoB u N F6 acc q5) _ ⟨0, ([] : List TGuest), q1, F2, _, _, _, rfl, (by first | omega | (simp; done) | (simp; omega)), (by simp), S.cast (by kernel_rfl), o3⟩ ?_
  clear S o3
  rintro mm ac w ⟨k, acc, q5, F6, u, N, β, rfl, hk, hacc, S, o7⟩
  have hlacc : acc.length = k := by rw [hacc]; simp; omega
  refine wp_seq ?_
  refine RG.start ?_
  refine S.quiet (k := 1) (keep := [3, 7, 8, 9, 10]) (m := 0) (σ' := ⟨[(3, .v (slv (acc).length q5.1)), (7, .v (slv (l).length pl.1)), (8, .v (I ((l).length : Int))), (9, .v (I (k : Int))), (10, .v (B (decide ((k : Int) < ((l).length : Int)))))], []⟩) .nil (by kernel_rfl) ?_
  clear S; intro ac w β S
  refine RG.done rfl (nx_then ?_)
  refine wp_seq ?_
  refine S.cond (e := (decide ((k : Int) < ((l).length : Int)))) (by kernel_rfl) (fun h8 => ?_) (fun h8 => ?_)
  · have g9 : (k : Int) < ((l).length : Int) := of_decide_eq_true h8
    refine wp_skip (nx_then ?_)
    refine wp_seq ?_
    refine wp_block ?_
    refine wp_seq ?_
    refine RG.start ?_
    refine S.quiet (k := 4) (keep := [3, 5, 7, 8, 9]) (m := 1) (σ' := ⟨[(3, .v (slv (acc).length q5.1)), (5, .p 0 0), (7, .v (slv (l).length pl.1)), (8, .v (I ((l).length : Int))), (9, .v (I (k : Int)))], [GT.cells (α := TGuest) (el l k) (pl.2 k)]⟩) (.cons (Q_idx (S.arg hl) (l := (l).length) (k := k) (i := (k : Int)) rfl rfl (by omega) Go.Proofs.Try.underlying43 (by kernel_rfl)) (.cons (Q_el (S.arg hl) (t := 127) (k := k) (by omega) rfl (by kernel_rfl) (by kernel_rfl)) .nil)) (by kernel_rfl) ?_
    clear S; intro ac w β S
    refine RG.done rfl (nx_then ?_)
    refine RG.start ?_
    refine S.quiet (k := 2) (keep := [7, 8, 9, 13, 14]) (m := 0) (σ' := ⟨[(7, .v (slv (l).length pl.1)), (8, .v (I ((l).length : Int))), (9, .v (I (k : Int))), (13, .v (slv (acc).length q5.1)), (14, .v (GT.val (α := TGuest) (el l k) (pl.2 k)))], []⟩) .nil (by kernel_rfl) ?_
    clear S; intro ac w β S
    refine RG.op rfl (S.call1 (r := (el l k)) (d := 15) (c_impl_copyGuest w (el l k) (pl.2 k) (S.rd (LRd.el (S.arg hl) k (by omega)))) (by kernel_rfl) rfl ?_)
    clear S; intro ac w N q10 F11 S up o12 d13
    have d14 : Disj F6 F11 := fun b x y => d13 b (o7.sub b x) y
    replace o7 := o7.up up
    clear up d13
    have i18 : In64 (el l k).acc := RGuest.acc (d := (el l k)) o12.rn
    have i19 : In64 (el l k).pc := RGuest.pc (d := (el l k)) o12.rn
    have i26 : RCtl (el l k).ctl := RGuest.ctl (d := (el l k)) o12.rn
    have i27 : In64 (el l k).pend := RGuest.pend (d := (el l k)) o12.rn
    have i28 : RExit (el l k).exit := RGuest.exit (d := (el l k)) o12.rn
    obtain ⟨F15, F20, F23, F29, o16, o21, o24, o30, s17, s22, s25, s31, d32, d33, d34, d35, d36, d37⟩ := sp_Guest o12
    have o42 := ow_Guest (x := (el l k)) (p := q10) o16 o21 o24 o30 d32 d33 d34 d35 d36 d37 i18 i19 i26 i27 i28
    refine RG.op rfl (S.bs1 (α := TGuest) (x := (el l k)) (p := q10) o42.own o42.sub o42.young (d := 16) (by kernel_rfl) ?_)
    clear S; intro ac w N q38 F39 S up o40 d41
    have d43 : Disj F6 F39 := d41 _ (Disj.symm (Disj.or (Disj.part (Disj.symm d14) s17) (Disj.or (Disj.part (Disj.symm d14) s22) (Disj.or (Disj.part (Disj.symm d14) s25) (Disj.or (Disj.part (Disj.symm d14) s31) Disj.nob))))) o7.sub
    replace o7 := o7.up up
    clear up d41
    refine RG.op rfl (S.appOwn (α := TGuest) o7 o40 d43 (by' := 184) (d := 17) (lx := (acc).length) (ly := 1) rfl rfl (by kernel_rfl) (show _ ≤ 4194304 by simp only [List.length_append, List.length_cons, List.length_nil]; omega) ?_)
    clear S; intro ac w N q44 F45 S up o46 d47
    clear up d47
    refine S.quiet (k := 1) (keep := [3, 7, 8, 9]) (m := 0) (σ' := ⟨[(3, .v (slv ((acc ++ [(el l k)])).length q44.1)), (7, .v (slv (l).length pl.1)), (8, .v (I ((l).length : Int))), (9, .v (I (k : Int)))], []⟩) .nil (by kernel_rfl) ?_
    clear S; intro ac w β S
    refine RG.done rfl (nx_block (nx_then ?_))
    refine RG.start ?_
    refine S.quiet (k := 2) (keep := [3, 7, 8, 9]) (m := 0) (σ' := ⟨[(3, .v (slv ((acc ++ [(el l k)])).length q44.1)), (7, .v (slv (l).length pl.1)), (8, .v (I ((l).length : Int))), (9, .v (I ((k : Int) + 1)))], []⟩) (.cons (Q_add (x := (k : Int)) (y := 1) ⟨by omega, by omega⟩) .nil) (by kernel_rfl) ?_
    clear S; intro ac w β S
    refine RG.done rfl (nx_then ?_)
    replace S := S.prune (keep := [3, 7, 8, 9]) (m := 0) (σ' := ⟨[(3, .v (slv ((acc ++ [(el l k)])).length q44.1)), (7, .v (slv (l).length pl.1)), (8, .v (I ((l).length : Int))), (9, .v (I ((k : Int) + 1)))], []⟩) (by kernel_rfl)
    refine ⟨(l).length - (k + 1), by omega, k + 1, (acc ++ [(el l k)]), q44, F45, _, _, _, rfl, ?_, ?_, S.cast (by kernel_rfl), o46⟩
    · clear S; first | omega | (simp [*]; done) | (simp [*]; omega)
    · clear S; (first | (rw [take_el (by omega), hacc]; done) | (rw [take_el (by omega), hacc]; simp; done))
  · have g48 : ¬ ((k : Int) < ((l).length : Int)) := of_decide_eq_false h8
    refine wp_exit (ex_then (ex_then (ex_hit (nx_then ?_))))
    refine wp_seq ?_
    refine RG.start ?_
    refine S.quiet (k := 2) (keep := [2]) (m := 0) (σ' := ⟨[(2, .v (slv (acc).length q5.1))], []⟩) .nil (by kernel_rfl) ?_
    clear S; intro ac w β S
    refine RG.done rfl (nx_then ?_)
    refine wp_ret ?_
    refine S.ret (vs := [slv (acc).length q5.1]) (by kernel_rfl) ?_
    exact ret1_of S (show l = acc by clear S; (rw [hacc, take_all (by omega)])) rfl o7

set_option maxRecDepth 100000 in
theorem c_impl_copyKept (w0 : World) (k : TKept) (pk : PKept) (hk : GT.rd KK (Lt w0.heap.size) w0 k pk) : Calls Go.Proofs.Try.prog 92 [GT.val (α := TKept) k pk].toArray w0 (Ret1 NoB w0 (k : TKept)) := by
  refine Calls.walk (args := [GT.val (α := TKept) k pk]) NoB Go.Proofs.Try.func92 rfl rfl ?_
  intro ac β S
  have hlek_known : k.known.length ≤ 4194304 := LRd.le (RKept.known (d := k) hk)
  have hlek_slots : k.slots.length ≤ 4194304 := LRd.le (RKept.slots (d := k) hk)
  refine wp_seq ?_
  refine RG.start ?_
  refine S.quiet (k := 2) (keep := [1, 2]) (m := 2) (σ' := ⟨[(1, .p 0 0), (2, .p 1 0)], [GT.cells (α := TKept) k pk, [slv (([] : List Bool)).length (GT.pdflt (α := List Bool)).1, slv (([] : List TSlot)).length (GT.pdflt (α := List TSlot)).1]]⟩) .nil (by kernel_rfl) ?_
  clear S; intro ac w β S
  refine RG.done rfl (nx_then ?_)
  refine wp_seq ?_
  refine S.draw0 (f := 9) 8 rfl rfl ?_
  clear S; intro w S
  refine S.hoist (i := 1) (path := [1]) (keep := [1, 2, 4]) (m := 2) (σ' := ⟨[(1, .p 0 0), (2, .p 1 0), (4, .p 0 0)], [GT.cells (α := TKept) k pk, [slv (([] : List Bool)).length (GT.pdflt (α := List Bool)).1, slv (([] : List TSlot)).length (GT.pdflt (α := List TSlot)).1]]⟩) (by kernel_rfl) (by kernel_rfl) .nil (by kernel_rfl) ?_
  clear S; intro ac S
  refine S.hoist (i := 2) (path := [2]) (keep := [1, 2, 5]) (m := 2) (σ' := ⟨[(1, .p 0 0), (2, .p 1 0), (5, .v (slv (k.known).length pk.known.1))], [GT.cells (α := TKept) k pk, [slv (([] : List Bool)).length (GT.pdflt (α := List Bool)).1, slv (([] : List TSlot)).length (GT.pdflt (α := List TSlot)).1]]⟩) (by kernel_rfl) (by kernel_rfl) .nil (by kernel_rfl) ?_
  clear S; intro ac S
  refine S.hoist (i := 4) (path := [4]) (keep := [2, 5, 7]) (m := 2) (σ' := ⟨[(2, .p 1 0), (5, .v (slv (k.known).length pk.known.1)), (7, .p 0 1)], [GT.cells (α := TKept) k pk, [slv (([] : List Bool)).length (GT.pdflt (α := List Bool)).1, slv (([] : List TSlot)).length (GT.pdflt (α := List TSlot)).1]]⟩) (by kernel_rfl) (by kernel_rfl) .nil (by kernel_rfl) ?_
  clear S; intro ac S
  refine S.hoist (i := 5) (path := [5]) (keep := [2, 5, 8]) (m := 2) (σ' := ⟨[(2, .p 1 0), (5, .v (slv (k.known).length pk.known.1)), (8, .v (slv (k.slots).length pk.slots.1))], [GT.cells (α := TKept) k pk, [slv (([] : List Bool)).length (GT.pdflt (α := List Bool)).1, slv (([] : List TSlot)).length (GT.pdflt (α := List TSlot)).1]]⟩) (by kernel_rfl) (by kernel_rfl) .nil (by kernel_rfl) ?_
  clear S; intro ac S
  refine WD.one (i := 0) (by kernel_rfl) ?_
  refine id (S.bs0 (α := Bool) (d := 3) (by kernel_rfl) ?_)
  clear S; intro ac w N q1 F2 S up o3 d4
  have hb5 := fun b h => (⟨(up b h).1, (up b h).2, d4 b h⟩ : _ ∧ _ ∧ _)
  refine WD.keep S up rfl ?_
  clear up d4
  refine WD.one (i := 3) (by kernel_rfl) ?_
  have b10 : (k.known).length ≤ 4194304 := LRd.le (RKept.known (d := k) (S.arg hk))
  refine id (S.appFlat (α := Bool) o3 ((RKept.known (d := k) (S.arg hk))) (fun _ _ h => h) (by' := 1) (d := 6) (lx := 0) (ly := (k.known).length) rfl rfl (by kernel_rfl) (show _ ≤ 4194304 by simp only [List.length_append, List.length_cons, List.length_nil]; omega) ?_)
  clear S; intro ac w N q6 F7 S up o8 d9
  have hb11 := fun b h => (⟨(up b (hb5 b h).1 (hb5 b h).2.2).1, (up b (hb5 b h).1 (hb5 b h).2.2).2.trans (hb5 b h).2.1⟩ : _ ∧ _)
  refine WD.next S hb11 rfl ?_
  clear up d9
  refine WD.one (i := 6) (by kernel_rfl) ?_
  refine id (S.call1 (r := k.slots) (d := 9) (c_impl_copyTable w k.slots pk.slots (S.rd (RKept.slots (d := k) (S.arg hk)))) (by kernel_rfl) rfl ?_)
  clear S; intro ac w N q12 F13 S up o14 d15
  refine WD.next S up rfl ?_
  have d16 : Disj F7 F13 := fun b x y => d15 b (o8.sub b x) y
  replace o8 := o8.up up
  clear up d15
  refine S.hoist (i := 7) (path := [7]) (keep := [2, 10]) (m := 2) (σ' := ⟨[(2, .p 1 0), (10, .v (GT.val (α := TKept) (⟨(([] : List Bool) ++ k.known), k.slots⟩ : TKept) (⟨q6, q12⟩ : PKept)))], [GT.cells (α := TKept) k pk, [slv (([] : List Bool)).length (GT.pdflt (α := List Bool)).1, slv (([] : List TSlot)).length (GT.pdflt (α := List TSlot)).1]]⟩) (by kernel_rfl) (by kernel_rfl) (.cons (Q_sem (s := Instr.build 101 [(0, slv ((([] : List Bool) ++ k.known)).length q6.1), (1, slv (k.slots).length q12.1)].toArray) (v := .agg [slv ((([] : List Bool) ++ k.known)).length q6.1, slv (k.slots).length q12.1].toArray) (fun w => by kernel_rfl)) .nil) (by kernel_rfl) ?_
  clear S; intro ac S
  refine WD.one (i := 8) (by kernel_rfl) ?_
  refine S.stepq (i := 8) (keep := [2]) (m := 2) (σ' := ⟨[(2, .p 1 0)], [GT.cells (α := TKept) k pk, [slv ((([] : List Bool) ++ k.known)).length q6.1, slv (k.slots).length q12.1]]⟩) .nil (by kernel_rfl) ?_
  clear S; intro ac w β S hβ
  refine WD.last (by kernel_rfl) ?_
  clear hβ
  refine WD.done (by kernel_rfl) ?_ _
  replace S := S.prune (keep := [2]) (m := 2) (σ' := ⟨[(2, .p 1 0)], [GT.cells (α := TKept) k pk, [slv ((([] : List Bool) ++ k.known)).length q6.1, slv (k.slots).length q12.1]]⟩) (by kernel_rfl)
  refine id (nx_then ?_)
  refine wp_ret ?_
  refine S.ret (vs := [GT.val (α := TKept) (⟨(([] : List Bool) ++ k.known), k.slots⟩ : TKept) (⟨q6, q12⟩ : PKept)]) (by kernel_rfl) ?_
  have o17 := ow_Kept (x := (⟨(([] : List Bool) ++ k.known), k.slots⟩ : TKept)) (p := (⟨q6, q12⟩ : PKept)) o8 o14 d16 
  exact ret1_of S (show k = (⟨(([] : List Bool) ++ k.known), k.slots⟩ : TKept) by clear S; (first | rfl | simp)) rfl o17

set_option maxRecDepth 100000 in
theorem c_impl_copyMon (w0 : World) (m : TMon) (pm : PMon) (hm : GT.rd KK (Lt w0.heap.size) w0 m pm) : Calls Go.Proofs.Try.prog 51 [GT.val (α := TMon) m pm].toArray w0 (Ret1 NoB w0 (m : TMon)) := by
  refine Calls.walk (args := [GT.val (α := TMon) m pm]) NoB Go.Proofs.Try.func51 rfl rfl ?_
  intro ac β S
  have hlem_outer : m.outer.length ≤ 4194304 := LRd.le (RMon.outer (d := m) hm)
  have hlem_out : m.out.length ≤ 4194304 := LRd.le (RMon.out (d := m) hm)
  have hlem_dirty : m.dirty.length ≤ 4194304 := LRd.le (RMon.dirty (d := m) hm)
  have hlem_guests : m.guests.length ≤ 4194304 := LRd.le (RMon.guests (d := m) hm)
  have hlem_outs : m.outs.length ≤ 4194304 := LRd.le (RMon.outs (d := m) hm)
  have hlem_tables : m.tables.length ≤ 4194304 := LRd.le (RMon.tables (d := m) hm)
  refine wp_seq ?_
  refine RG.start ?_
  refine S.quiet (k := 2) (keep := [1, 2]) (m := 2) (σ' := ⟨[(1, .p 0 0), (2, .p 1 0)], [GT.cells (α := TMon) m pm, [slv (([] : List TSlot)).length (GT.pdflt (α := List TSlot)).1, slv (([] : List (List Int))).length (GT.pdflt (α := List (List Int))).1, slv (([] : List Bool)).length (GT.pdflt (α := List Bool)).1, slv (([] : List TGuest)).length (GT.pdflt (α := List TGuest)).1, slv (([] : List Int)).length (GT.pdflt (α := List Int)).1, I 0, I 0, slv (([] : List TKept)).length (GT.pdflt (α := List TKept)).1, I 0]]⟩) .nil (by kernel_rfl) ?_
  clear S; intro ac w β S
  refine RG.done rfl (nx_then ?_)
  refine wp_seq ?_
  refine RG.start ?_
  refine S.quiet (k := 2) (keep := [1, 2, 7]) (m := 2) (σ' := ⟨[(1, .p 0 0), (2, .p 1 0), (7, .v (slv (m.outer).length pm.outer.1))], [GT.cells (α := TMon) m pm, [slv (([] : List TSlot)).length (GT.pdflt (α := List TSlot)).1, slv (([] : List (List Int))).length (GT.pdflt (α := List (List Int))).1, slv (([] : List Bool)).length (GT.pdflt (α := List Bool)).1, slv (([] : List TGuest)).length (GT.pdflt (α := List TGuest)).1, slv (([] : List Int)).length (GT.pdflt (α := List Int)).1, I 0, I 0, slv (([] : List TKept)).length (GT.pdflt (α := List TKept)).1, I 0]]⟩) .nil (by kernel_rfl) ?_
  clear S; intro ac w β S
  refine RG.op rfl (S.call1 (r := m.outer) (d := 8) (c_impl_copyTable w m.outer pm.outer (S.rd (RMon.outer (d := m) (S.arg hm)))) (by kernel_rfl) rfl ?_)
  clear S; intro ac w N q1 F2 S up o3 d4
  clear up d4
  refine S.quiet (k := 2) (keep := [1, 2]) (m := 2) (σ' := ⟨[(1, .p 0 0), (2, .p 1 0)], [[slv (m.outer).length q1.1, slv (m.out).length pm.out.1, slv (m.dirty).length pm.dirty.1, slv (m.guests).length pm.guests.1, slv (m.outs).length pm.outs.1, I m.pend, I m.traps, slv (m.tables).length pm.tables.1, I m.owned], [slv (([] : List TSlot)).length (GT.pdflt (α := List TSlot)).1, slv (([] : List (List Int))).length (GT.pdflt (α := List (List Int))).1, slv (([] : List Bool)).length (GT.pdflt (α := List Bool)).1, slv (([] : List TGuest)).length (GT.pdflt (α := List TGuest)).1, slv (([] : List Int)).length (GT.pdflt (α := List Int)).1, I 0, I 0, slv (([] : List TKept)).length (GT.pdflt (α := List TKept)).1, I 0]]⟩) .nil (by kernel_rfl) ?_
  clear S; intro ac w β S
  refine RG.done rfl (nx_then ?_)
  refine wp_seq ?_
  refine RG.start ?_
  refine S.quiet (k := 2) (keep := [1, 2, 11]) (m := 2) (σ' := ⟨[(1, .p 0 0), (2, .p 1 0), (11, .v (slv (m.out).length pm.out.1))], [[slv (m.outer).length q1.1, slv (m.out).length pm.out.1, slv (m.dirty).length pm.dirty.1, slv (m.guests).length pm.guests.1, slv (m.outs).length pm.outs.1, I m.pend, I m.traps, slv (m.tables).length pm.tables.1, I m.owned], [slv (([] : List TSlot)).length (GT.pdflt (α := List TSlot)).1, slv (([] : List (List Int))).length (GT.pdflt (α := List (List Int))).1, slv (([] : List Bool)).length (GT.pdflt (α := List Bool)).1, slv (([] : List TGuest)).length (GT.pdflt (α := List TGuest)).1, slv (([] : List Int)).length (GT.pdflt (α := List Int)).1, I 0, I 0, slv (([] : List TKept)).length (GT.pdflt (α := List TKept)).1, I 0]]⟩) .nil (by kernel_rfl) ?_
  clear S; intro ac w β S
  refine RG.op rfl (S.call1 (r := m.out) (d := 12) (c_impl_copyMem w m.out pm.out (S.rd (RMon.out (d := m) (S.arg hm)))) (by kernel_rfl) rfl ?_)
  clear S; intro ac w N q5 F6 S up o7 d8
  have d9 : Disj F2 F6 := fun b x y => d8 b (o3.sub b x) y
  replace o3 := o3.up up
  clear up d8
  refine S.quiet (k := 2) (keep := [1, 2]) (m := 2) (σ' := ⟨[(1, .p 0 0), (2, .p 1 0)], [[slv (m.outer).length q1.1, slv (m.out).length q5.1, slv (m.dirty).length pm.dirty.1, slv (m.guests).length pm.guests.1, slv (m.outs).length pm.outs.1, I m.pend, I m.traps, slv (m.tables).length pm.tables.1, I m.owned], [slv (([] : List TSlot)).length (GT.pdflt (α := List TSlot)).1, slv (([] : List (List Int))).length (GT.pdflt (α := List (List Int))).1, slv (([] : List Bool)).length (GT.pdflt (α := List Bool)).1, slv (([] : List TGuest)).length (GT.pdflt (α := List TGuest)).1, slv (([] : List Int)).length (GT.pdflt (α := List Int)).1, I 0, I 0, slv (([] : List TKept)).length (GT.pdflt (α := List TKept)).1, I 0]]⟩) .nil (by kernel_rfl) ?_
  clear S; intro ac w β S
  refine RG.done rfl (nx_then ?_)
  refine wp_seq ?_
  refine RG.start ?_
  refine RG.op rfl (S.bs0 (α := Bool) (d := 14) (by kernel_rfl) ?_)
  clear S; intro ac w N q10 F11 S up o12 d13
  have d14 : Disj F2 F11 := fun b x y => d13 b (o3.sub b x) y
  have d15 : Disj F6 F11 := fun b x y => d13 b (o7.sub b x) y
  replace o3 := o3.up up
  replace o7 := o7.up up
  clear up d13
  refine S.quiet (k := 2) (keep := [1, 2, 14, 16]) (m := 2) (σ' := ⟨[(1, .p 0 0), (2, .p 1 0), (14, .v (slv 0 q10.1)), (16, .v (slv (m.dirty).length pm.dirty.1))], [[slv (m.outer).length q1.1, slv (m.out).length q5.1, slv (m.dirty).length pm.dirty.1, slv (m.guests).length pm.guests.1, slv (m.outs).length pm.outs.1, I m.pend, I m.traps, slv (m.tables).length pm.tables.1, I m.owned], [slv (([] : List TSlot)).length (GT.pdflt (α := List TSlot)).1, slv (([] : List (List Int))).length (GT.pdflt (α := List (List Int))).1, slv (([] : List Bool)).length (GT.pdflt (α := List Bool)).1, slv (([] : List TGuest)).length (GT.pdflt (α := List TGuest)).1, slv (([] : List Int)).length (GT.pdflt (α := List Int)).1, I 0, I 0, slv (([] : List TKept)).length (GT.pdflt (α := List TKept)).1, I 0]]⟩) .nil (by kernel_rfl) ?_
  clear S; intro ac w β S
  have b20 : (m.dirty).length ≤ 4194304 := LRd.le (RMon.dirty (d := m) (S.arg hm))
  refine RG.op rfl (S.appFlat (α := Bool) o12 ((RMon.dirty (d := m) (S.arg hm))) (fun _ _ h => h) (by' := 1) (d := 17) (lx := 0) (ly := (m.dirty).length) rfl rfl (by kernel_rfl) (show _ ≤ 4194304 by simp only [List.length_append, List.length_cons, List.length_nil]; omega) ?_)
  clear S; intro ac w N q16 F17 S up o18 d19
  have d21 : Disj F2 F17 := d19 _ d14 o3.sub
  have d22 : Disj F6 F17 := d19 _ d15 o7.sub
  replace o3 := o3.upF d14 up
  replace o7 := o7.upF d15 up
  clear up d19
  refine S.quiet (k := 2) (keep := [1, 2]) (m := 2) (σ' := ⟨[(1, .p 0 0), (2, .p 1 0)], [[slv (m.outer).length q1.1, slv (m.out).length q5.1, slv ((([] : List Bool) ++ m.dirty)).length q16.1, slv (m.guests).length pm.guests.1, slv (m.outs).length pm.outs.1, I m.pend, I m.traps, slv (m.tables).length pm.tables.1, I m.owned], [slv (([] : List TSlot)).length (GT.pdflt (α := List TSlot)).1, slv (([] : List (List Int))).length (GT.pdflt (α := List (List Int))).1, slv (([] : List Bool)).length (GT.pdflt (α := List Bool)).1, slv (([] : List TGuest)).length (GT.pdflt (α := List TGuest)).1, slv (([] : List Int)).length (GT.pdflt (α := List Int)).1, I 0, I 0, slv (([] : List TKept)).length (GT.pdflt (α := List TKept)).1, I 0]]⟩) .nil (by kernel_rfl) ?_
  clear S; intro ac w β S
  refine RG.done rfl (nx_then ?_)
  refine wp_seq ?_
  refine RG.start ?_
  refine S.quiet (k := 2) (keep := [1, 2, 20]) (m := 2) (σ' := ⟨[(1, .p 0 0), (2, .p 1 0), (20, .v (slv (m.guests).length pm.guests.1))], [[slv (m.outer).length q1.1, slv (m.out).length q5.1, slv ((([] : List Bool) ++ m.dirty)).length q16.1, slv (m.guests).length pm.guests.1, slv (m.outs).length pm.outs.1, I m.pend, I m.traps, slv (m.tables).length pm.tables.1, I m.owned], [slv (([] : List TSlot)).length (GT.pdflt (α := List TSlot)).1, slv (([] : List (List Int))).length (GT.pdflt (α := List (List Int))).1, slv (([] : List Bool)).length (GT.pdflt (α := List Bool)).1, slv (([] : List TGuest)).length (GT.pdflt (α := List TGuest)).1, slv (([] : List Int)).length (GT.pdflt (α := List Int)).1, I 0, I 0, slv (([] : List TKept)).length (GT.pdflt (α := List TKept)).1, I 0]]⟩) .nil (by kernel_rfl) ?_
  clear S; intro ac w β S
  refine RG.op rfl (S.call1 (r := m.guests) (d := 21) (c_impl_copyGuests w m.guests pm.guests (S.rd (RMon.guests (d := m) (S.arg hm)))) (by kernel_rfl) rfl ?_)
  clear S; intro ac w N q23 F24 S up o25 d26
  have d27 : Disj F2 F24 := fun b x y => d26 b (o3.sub b x) y
  have d28 : Disj F6 F24 := fun b x y => d26 b (o7.sub b x) y
  have d29 : Disj F17 F24 := fun b x y => d26 b (o18.sub b x) y
  replace o3 := o3.up up
  replace o7 := o7.up up
  replace o18 := o18.up up
  clear up d26
  refine S.quiet (k := 2) (keep := [1, 2]) (m := 2) (σ' := ⟨[(1, .p 0 0), (2, .p 1 0)], [[slv (m.outer).length q1.1, slv (m.out).length q5.1, slv ((([] : List Bool) ++ m.dirty)).length q16.1, slv (m.guests).length q23.1, slv (m.outs).length pm.outs.1, I m.pend, I m.traps, slv (m.tables).length pm.tables.1, I m.owned], [slv (([] : List TSlot)).length (GT.pdflt (α := List TSlot)).1, slv (([] : List (List Int))).length (GT.pdflt (α := List (List Int))).1, slv (([] : List Bool)).length (GT.pdflt (α := List Bool)).1, slv (([] : List TGuest)).length (GT.pdflt (α := List TGuest)).1, slv (([] : List Int)).length (GT.pdflt (α := List Int)).1, I 0, I 0, slv (([] : List TKept)).length (GT.pdflt (α := List TKept)).1, I 0]]⟩) .nil (by kernel_rfl) ?_
  clear S; intro ac w β S
  refine RG.done rfl (nx_then ?_)
  refine wp_seq ?_
  refine RG.start ?_
  refine S.quiet (k := 2) (keep := [1, 2, 24]) (m := 2) (σ' := ⟨[(1, .p 0 0), (2, .p 1 0), (24, .v (slv (m.outs).length pm.outs.1))], [[slv (m.outer).length q1.1, slv (m.out).length q5.1, slv ((([] : List Bool) ++ m.dirty)).length q16.1, slv (m.guests).length q23.1, slv (m.outs).length pm.outs.1, I m.pend, I m.traps, slv (m.tables).length pm.tables.1, I m.owned], [slv (([] : List TSlot)).length (GT.pdflt (α := List TSlot)).1, slv (([] : List (List Int))).length (GT.pdflt (α := List (List Int))).1, slv (([] : List Bool)).length (GT.pdflt (α := List Bool)).1, slv (([] : List TGuest)).length (GT.pdflt (α := List TGuest)).1, slv (([] : List Int)).length (GT.pdflt (α := List Int)).1, I 0, I 0, slv (([] : List TKept)).length (GT.pdflt (α := List TKept)).1, I 0]]⟩) .nil (by kernel_rfl) ?_
  clear S; intro ac w β S
  refine RG.op rfl (S.call1 (r := m.outs) (d := 25) (c_impl_copyInts w m.outs pm.outs (S.rd (RMon.outs (d := m) (S.arg hm)))) (by kernel_rfl) rfl ?_)
  clear S; intro ac w N q30 F31 S up o32 d33
  have d34 : Disj F2 F31 := fun b x y => d33 b (o3.sub b x) y
  have d35 : Disj F6 F31 := fun b x y => d33 b (o7.sub b x) y
  have d36 : Disj F17 F31 := fun b x y => d33 b (o18.sub b x) y
  have d37 : Disj F24 F31 := fun b x y => d33 b (o25.sub b x) y
  replace o3 := o3.up up
  replace o7 := o7.up up
  replace o18 := o18.up up
  replace o25 := o25.up up
  clear up d33
  refine S.quiet (k := 2) (keep := [1, 2]) (m := 2) (σ' := ⟨[(1, .p 0 0), (2, .p 1 0)], [[slv (m.outer).length q1.1, slv (m.out).length q5.1, slv ((([] : List Bool) ++ m.dirty)).length q16.1, slv (m.guests).length q23.1, slv (m.outs).length q30.1, I m.pend, I m.traps, slv (m.tables).length pm.tables.1, I m.owned], [slv (([] : List TSlot)).length (GT.pdflt (α := List TSlot)).1, slv (([] : List (List Int))).length (GT.pdflt (α := List (List Int))).1, slv (([] : List Bool)).length (GT.pdflt (α := List Bool)).1, slv (([] : List TGuest)).length (GT.pdflt (α := List TGuest)).1, slv (([] : List Int)).length (GT.pdflt (α := List Int)).1, I 0, I 0, slv (([] : List TKept)).length (GT.pdflt (α := List TKept)).1, I 0]]⟩) .nil (by kernel_rfl) ?_
  clear S; intro ac w β S
  refine RG.done rfl (nx_then ?_)
  refine wp_seq ?_
  refine RG.start ?_
  refine RG.op rfl (S.bs0 (α := TKept) (d := 27) (by kernel_rfl) ?_)
  clear S; intro ac w N q38 F39 S up o40 d41
  have d42 : Disj F2 F39 := fun b x y => d41 b (o3.sub b x) y
  have d43 : Disj F6 F39 := fun b x y => d41 b (o7.sub b x) y
  have d44 : Disj F17 F39 := fun b x y => d41 b (o18.sub b x) y
  have d45 : Disj F24 F39 := fun b x y => d41 b (o25.sub b x) y
  have d46 : Disj F31 F39 := fun b x y => d41 b (o32.sub b x) y
  replace o3 := o3.up up
  replace o7 := o7.up up
  replace o18 := o18.up up
  replace o25 := o25.up up
  replace o32 := o32.up up
  clear up d41
  refine S.quiet (k := 1) (keep := [1, 2, 3]) (m := 2) (σ' := ⟨[(1, .p 0 0), (2, .p 1 0), (3, .v (slv 0 q38.1))], [[slv (m.outer).length q1.1, slv (m.out).length q5.1, slv ((([] : List Bool) ++ m.dirty)).length q16.1, slv (m.guests).length q23.1, slv (m.outs).length q30.1, I m.pend, I m.traps, slv (m.tables).length pm.tables.1, I m.owned], [slv (([] : List TSlot)).length (GT.pdflt (α := List TSlot)).1, slv (([] : List (List Int))).length (GT.pdflt (α := List (List Int))).1, slv (([] : List Bool)).length (GT.pdflt (α := List Bool)).1, slv (([] : List TGuest)).length (GT.pdflt (α := List TGuest)).1, slv (([] : List Int)).length (GT.pdflt (α := List Int)).1, I 0, I 0, slv (([] : List TKept)).length (GT.pdflt (α := List TKept)).1, I 0]]⟩) .nil (by kernel_rfl) ?_
  clear S; intro ac w β S
  refine RG.done rfl (nx_then ?_)
  refine wp_seq ?_
  refine wp_seq ?_
  refine RG.start ?_
  refine S.quiet (k := 4) (keep := [1, 2, 3, 29, 30, 31]) (m := 2) (σ' := ⟨[(1, .p 0 0), (2, .p 1 0), (3, .v (slv 0 q38.1)), (29, .v (slv (m.tables).length pm.tables.1)), (30, .v (I ((m.tables).length : Int))), (31, .v (I 0))], [[slv (m.outer).length q1.1, slv (m.out).length q5.1, slv ((([] : List Bool) ++ m.dirty)).length q16.1, slv (m.guests).length q23.1, slv (m.outs).length q30.1, I m.pend, I m.traps, slv (m.tables).length pm.tables.1, I m.owned], [slv (([] : List TSlot)).length (GT.pdflt (α := List TSlot)).1, slv (([] : List (List Int))).length (GT.pdflt (α := List (List Int))).1, slv (([] : List Bool)).length (GT.pdflt (α := List Bool)).1, slv (([] : List TGuest)).length (GT.pdflt (α := List TGuest)).1, slv (([] : List Int)).length (GT.pdflt (α := List Int)).1, I 0, I 0, slv (([] : List TKept)).length (GT.pdflt (α := List TKept)).1, I 0]]⟩) .nil (by kernel_rfl) ?_
  clear S; intro ac w β S
  refine RG.done rfl (nx_then ?_)
  refine wp_block ?_
  replace S := S.prune (keep := [1, 2, 3, 29, 30, 31]) (m := 2) (σ' := ⟨[(1, .p 0 0), (2, .p 1 0), (3, .v (slv 0 q38.1)), (29, .v (slv (m.tables).length pm.tables.1)), (30, .v (I ((m.tables).length : Int))), (31, .v (I 0))], [[slv (m.outer).length q1.1, slv (m.out).length q5.1, slv ((([] : List Bool) ++ m.dirty)).length q16.1, slv (m.guests).length q23.1, slv (m.outs).length q30.1, I m.pend, I m.traps, slv (m.tables).length pm.tables.1, I m.owned], [slv (([] : List TSlot)).length (GT.pdflt (α := List TSlot)).1, slv (([] : List (List Int))).length (GT.pdflt (α := List (List Int))).1, slv (([] : List Bool)).length (GT.pdflt (α := List Bool)).1, slv (([] : List TGuest)).length (GT.pdflt (α := List TGuest)).1, slv (([] : List Int)).length (GT.pdflt (α := List Int)).1, I 0, I 0, slv (([] : List TKept)).length (GT.pdflt (α := List TKept)).1, I 0]]⟩) (by kernel_rfl)
  refine wp_loop_down (fun mm ac w => ∃ (k : Nat) (acc : List TKept) (q47 : GT.Ptr (List TKept)) (F48 : Bl) (u : World) (N : Bl) (β : Nat → Nat), mm = (m.tables).length - k ∧ (k ≤ (m.tables).length) ∧ (acc = (m.tables).take k) ∧ St Go.Proofs.Try.prog Go.Proofs.Try.f51.ntmps w0 NoB u N β ⟨[(1, .p 0 0), (2, .p 1 0), (3, .v (slv (acc).length q47.1)), (29, .v (slv (m.tables).length pm.tables.1)), (30, .v (I ((m.tables).length : Int))), (31, .v (I (k : Int)))], [[slv (m.outer).length q1.1, slv (m.out).length q5.1, slv ((([] : List Bool) ++ m.dirty)).length q16.1, slv (m.guests).length q23.1, slv (m.outs).length q30.1, I m.pend, I m.traps, slv (m.tables).length pm.tables.1, I m.owned], [slv (([] : List TSlot)).length (GT.pdflt (α := List TSlot)).1, slv (([] : List (List Int))).length (GT.pdflt (α := List (List Int))).1, slv (([] : List Bool)).length (GT.pdflt (α := List Bool)).1, slv (([] : List TGuest)).length (GT.pdflt (α := List TGuest)).1, slv (([] : List Int)).length (GT.pdflt (α := List Int)).1, I 0, I 0, slv (([] : List TKept)).length (GT.pdflt (α := List TKept)).1, I 0]]⟩ ac w ∧ Ow w0 NoB u N F48 acc q47 ∧ Ow w0 NoB u N F2 m.outer q1 ∧ Ow w0 NoB u N F6 m.out q5 ∧ Ow w0 NoB u N F17 (([] : List Bool) ++ m.dirty) q16 ∧ Ow w0 NoB u N F24 m.guests q23 ∧ Ow w0 NoB u N F31 m.outs q30 ∧ Disj F48 F2 ∧ Disj F48 F6 ∧ Disj F48 F17 ∧ Disj F48 F24 ∧ Disj F48 F31) _ ⟨0, ([] : List TKept), q38, F39, _, _, _, rfl, (by first | omega | (simp; done) | (simp; omega)), (by simp), S.cast (by kernel_rfl), o40, o3, o7, o18, o25, o32, (Disj.symm d42), (Disj.symm d43), (Disj.symm d44), (Disj.symm d45), (Disj.symm d46)⟩ ?_
  clear S o18 o25 o3 o32 o40 o7
  rintro mm ac w ⟨k, acc, q47, F48, u, N, β, rfl, hk, hacc, S, o49, o3, o7, o18, o25, o32, d50, d51, d52, d53, d54⟩
  have hlacc : acc.length = k := by rw [hacc]; simp; omega
  refine wp_seq ?_
  refine RG.start ?_
  refine S.quiet (k := 1) (keep := [1, 2, 3, 29, 30, 31, 32]) (m := 2) (σ' := ⟨[(1, .p 0 0), (2, .p 1 0), (3, .v (slv (acc).length q47.1)), (29, .v (slv (m.tables).length pm.tables.1)), (30, .v (I ((m.tables).length : Int))), (31, .v (I (k : Int))), (32, .v (B (decide ((k : Int) < ((m.tables).length : Int)))))], [[slv (m.outer).length q1.1, slv (m.out).length q5.1, slv ((([] : List Bool) ++ m.dirty)).length q16.1, slv (m.guests).length q23.1, slv (m.outs).length q30.1, I m.pend, I m.traps, slv (m.tables).length pm.tables.1, I m.owned], [slv (([] : List TSlot)).length (GT.pdflt (α := List TSlot)).1, slv (([] : List (List Int))).length (GT.pdflt (α := List (List Int))).1, slv (([] : List Bool)).length (GT.pdflt (α := List Bool)).1, slv (([] : List TGuest)).length (GT.pdflt (α := List TGuest)).1, slv (([] : List Int)).length (GT.pdflt (α := List Int)).1, I 0, I 0, slv (([] : List TKept)).length (GT.pdflt (α := List TKept)).1, I 0]]⟩) .nil (by kernel_rfl) ?_
  clear S; intro ac w β S
  refine RG.done rfl (nx_then ?_)
  refine wp_seq ?_
  refine S.cond (e := (decide ((k : Int) < ((m.tables).length : Int)))) (by kernel_rfl) (fun h55 => ?_) (fun h55 => ?_)
  · have g56 : (k : Int) < ((m.tables).length : Int) := of_decide_eq_true h55
    refine wp_skip (nx_then ?_)
    refine wp_seq ?_
    refine wp_block ?_
    refine wp_seq ?_
    refine RG.start ?_
    refine S.quiet (k := 4) (keep := [1, 2, 3, 5, 29, 30, 31]) (m := 3) (σ' := ⟨[(1, .p 0 0), (2, .p 1 0), (3, .v (slv (acc).length q47.1)), (5, .p 2 0), (29, .v (slv (m.tables).length pm.tables.1)), (30, .v (I ((m.tables).length : Int))), (31, .v (I (k : Int)))], [[slv (m.outer).length q1.1, slv (m.out).length q5.1, slv ((([] : List Bool) ++ m.dirty)).length q16.1, slv (m.guests).length q23.1, slv (m.outs).length q30.1, I m.pend, I m.traps, slv (m.tables).length pm.tables.1, I m.owned], [slv (([] : List TSlot)).length (GT.pdflt (α := List TSlot)).1, slv (([] : List (List Int))).length (GT.pdflt (α := List (List Int))).1, slv (([] : List Bool)).length (GT.pdflt (α := List Bool)).1, slv (([] : List TGuest)).length (GT.pdflt (α := List TGuest)).1, slv (([] : List Int)).length (GT.pdflt (α := List Int)).1, I 0, I 0, slv (([] : List TKept)).length (GT.pdflt (α := List TKept)).1, I 0], GT.cells (α := TKept) (el m.tables k) (pm.tables.2 k)]⟩) (.cons (Q_idx (RMon.tables (d := m) (S.arg hm)) (l := (m.tables).length) (k := k) (i := (k : Int)) rfl rfl (by omega) Go.Proofs.Try.underlying44 (by kernel_rfl)) (.cons (Q_el (RMon.tables (d := m) (S.arg hm)) (t := 101) (k := k) (by omega) rfl (by kernel_rfl) (by kernel_rfl)) .nil)) (by kernel_rfl) ?_
    clear S; intro ac w β S
    refine RG.done rfl (nx_then ?_)
    refine RG.start ?_
    refine S.quiet (k := 2) (keep := [1, 2, 29, 30, 31, 35, 36]) (m := 2) (σ' := ⟨[(1, .p 0 0), (2, .p 1 0), (29, .v (slv (m.tables).length pm.tables.1)), (30, .v (I ((m.tables).length : Int))), (31, .v (I (k : Int))), (35, .v (slv (acc).length q47.1)), (36, .v (GT.val (α := TKept) (el m.tables k) (pm.tables.2 k)))], [[slv (m.outer).length q1.1, slv (m.out).length q5.1, slv ((([] : List Bool) ++ m.dirty)).length q16.1, slv (m.guests).length q23.1, slv (m.outs).length q30.1, I m.pend, I m.traps, slv (m.tables).length pm.tables.1, I m.owned], [slv (([] : List TSlot)).length (GT.pdflt (α := List TSlot)).1, slv (([] : List (List Int))).length (GT.pdflt (α := List (List Int))).1, slv (([] : List Bool)).length (GT.pdflt (α := List Bool)).1, slv (([] : List TGuest)).length (GT.pdflt (α := List TGuest)).1, slv (([] : List Int)).length (GT.pdflt (α := List Int)).1, I 0, I 0, slv (([] : List TKept)).length (GT.pdflt (α := List TKept)).1, I 0]]⟩) .nil (by kernel_rfl) ?_
    clear S; intro ac w β S
    refine RG.op rfl (S.call1 (r := (el m.tables k)) (d := 37) (c_impl_copyKept w (el m.tables k) (pm.tables.2 k) (S.rd (LRd.el (RMon.tables (d := m) (S.arg hm)) k (by omega)))) (by kernel_rfl) rfl ?_)
    clear S; intro ac w N q57 F58 S up o59 d60
    have d61 : Disj F48 F58 := fun b x y => d60 b (o49.sub b x) y
    have d62 : Disj F2 F58 := fun b x y => d60 b (o3.sub b x) y
    have d63 : Disj F6 F58 := fun b x y => d60 b (o7.sub b x) y
    have d64 : Disj F17 F58 := fun b x y => d60 b (o18.sub b x) y
    have d65 : Disj F24 F58 := fun b x y => d60 b (o25.sub b x) y
    have d66 : Disj F31 F58 := fun b x y => d60 b (o32.sub b x) y
    replace o49 := o49.up up
    replace o3 := o3.up up
    replace o7 := o7.up up
    replace o18 := o18.up up
    replace o25 := o25.up up
    replace o32 := o32.up up
    clear up d60
    obtain ⟨F67, F70, o68, o71, s69, s72, d73⟩ := sp_Kept o59
    have o78 := ow_Kept (x := (el m.tables k)) (p := q57) o68 o71 d73 
    refine RG.op rfl (S.bs1 (α := TKept) (x := (el m.tables k)) (p := q57) o78.own o78.sub o78.young (d := 38) (by kernel_rfl) ?_)
    clear S; intro ac w N q74 F75 S up o76 d77
    have d79 : Disj F48 F75 := d77 _ (Disj.symm (Disj.or (Disj.part (Disj.symm d61) s69) (Disj.or (Disj.part (Disj.symm d61) s72) Disj.nob))) o49.sub
    have d80 : Disj F2 F75 := d77 _ (Disj.symm (Disj.or (Disj.part (Disj.symm d62) s69) (Disj.or (Disj.part (Disj.symm d62) s72) Disj.nob))) o3.sub
    have d81 : Disj F6 F75 := d77 _ (Disj.symm (Disj.or (Disj.part (Disj.symm d63) s69) (Disj.or (Disj.part (Disj.symm d63) s72) Disj.nob))) o7.sub
    have d82 : Disj F17 F75 := d77 _ (Disj.symm (Disj.or (Disj.part (Disj.symm d64) s69) (Disj.or (Disj.part (Disj.symm d64) s72) Disj.nob))) o18.sub
    have d83 : Disj F24 F75 := d77 _ (Disj.symm (Disj.or (Disj.part (Disj.symm d65) s69) (Disj.or (Disj.part (Disj.symm d65) s72) Disj.nob))) o25.sub
    have d84 : Disj F31 F75 := d77 _ (Disj.symm (Disj.or (Disj.part (Disj.symm d66) s69) (Disj.or (Disj.part (Disj.symm d66) s72) Disj.nob))) o32.sub
    replace o49 := o49.up up
    replace o3 := o3.up up
    replace o7 := o7.up up
    replace o18 := o18.up up
    replace o25 := o25.up up
    replace o32 := o32.up up
    clear up d77
    refine RG.op rfl (S.appOwn (α := TKept) o49 o76 d79 (by' := 48) (d := 39) (lx := (acc).length) (ly := 1) rfl rfl (by kernel_rfl) (show _ ≤ 4194304 by simp only [List.length_append, List.length_cons, List.length_nil]; omega) ?_)
    clear S; intro ac w N q85 F86 S up o87 d88
    have d89 : Disj F2 F86 := d88 _ (Disj.symm d50) d80 o3.sub
    have d90 : Disj F6 F86 := d88 _ (Disj.symm d51) d81 o7.sub
    have d91 : Disj F17 F86 := d88 _ (Disj.symm d52) d82 o18.sub
    have d92 : Disj F24 F86 := d88 _ (Disj.symm d53) d83 o25.sub
    have d93 : Disj F31 F86 := d88 _ (Disj.symm d54) d84 o32.sub
    replace o3 := o3.upF (Disj.symm d50) up
    replace o7 := o7.upF (Disj.symm d51) up
    replace o18 := o18.upF (Disj.symm d52) up
    replace o25 := o25.upF (Disj.symm d53) up
    replace o32 := o32.upF (Disj.symm d54) up
    clear up d88
    refine S.quiet (k := 1) (keep := [1, 2, 3, 29, 30, 31]) (m := 2) (σ' := ⟨[(1, .p 0 0), (2, .p 1 0), (3, .v (slv ((acc ++ [(el m.tables k)])).length q85.1)), (29, .v (slv (m.tables).length pm.tables.1)), (30, .v (I ((m.tables).length : Int))), (31, .v (I (k : Int)))], [[slv (m.outer).length q1.1, slv (m.out).length q5.1, slv ((([] : List Bool) ++ m.dirty)).length q16.1, slv (m.guests).length q23.1, slv (m.outs).length q30.1, I m.pend, I m.traps, slv (m.tables).length pm.tables.1, I m.owned], [slv (([] : List TSlot)).length (GT.pdflt (α := List TSlot)).1, slv (([] : List (List Int))).length (GT.pdflt (α := List (List Int))).1, slv (([] : List Bool)).length (GT.pdflt (α := List Bool)).1, slv (([] : List TGuest)).length (GT.pdflt (α := List TGuest)).1, slv (([] : List Int)).length (GT.pdflt (α := List Int)).1, I 0, I 0, slv (([] : List TKept)).length (GT.pdflt (α := List TKept)).1, I 0]]⟩) .nil (by kernel_rfl) ?_
    clear S; intro ac w β S
    refine RG.done rfl (nx_block (nx_then ?_))
    refine RG.start ?_
    refine S.quiet (k := 2) (keep := [1, 2, 3, 29, 30, 31]) (m := 2) (σ' := ⟨[(1, .p 0 0), (2, .p 1 0), (3, .v (slv ((acc ++ [(el m.tables k)])).length q85.1)), (29, .v (slv (m.tables).length pm.tables.1)), (30, .v (I ((m.tables).length : Int))), (31, .v (I ((k : Int) + 1)))], [[slv (m.outer).length q1.1, slv (m.out).length q5.1, slv ((([] : List Bool) ++ m.dirty)).length q16.1, slv (m.guests).length q23.1, slv (m.outs).length q30.1, I m.pend, I m.traps, slv (m.tables).length pm.tables.1, I m.owned], [slv (([] : List TSlot)).length (GT.pdflt (α := List TSlot)).1, slv (([] : List (List Int))).length (GT.pdflt (α := List (List Int))).1, slv (([] : List Bool)).length (GT.pdflt (α := List Bool)).1, slv (([] : List TGuest)).length (GT.pdflt (α := List TGuest)).1, slv (([] : List Int)).length (GT.pdflt (α := List Int)).1, I 0, I 0, slv (([] : List TKept)).length (GT.pdflt (α := List TKept)).1, I 0]]⟩) (.cons (Q_add (x := (k : Int)) (y := 1) ⟨by omega, by omega⟩) .nil) (by kernel_rfl) ?_
    clear S; intro ac w β S
    refine RG.done rfl (nx_then ?_)
    replace S := S.prune (keep := [1, 2, 3, 29, 30, 31]) (m := 2) (σ' := ⟨[(1, .p 0 0), (2, .p 1 0), (3, .v (slv ((acc ++ [(el m.tables k)])).length q85.1)), (29, .v (slv (m.tables).length pm.tables.1)), (30, .v (I ((m.tables).length : Int))), (31, .v (I ((k : Int) + 1)))], [[slv (m.outer).length q1.1, slv (m.out).length q5.1, slv ((([] : List Bool) ++ m.dirty)).length q16.1, slv (m.guests).length q23.1, slv (m.outs).length q30.1, I m.pend, I m.traps, slv (m.tables).length pm.tables.1, I m.owned], [slv (([] : List TSlot)).length (GT.pdflt (α := List TSlot)).1, slv (([] : List (List Int))).length (GT.pdflt (α := List (List Int))).1, slv (([] : List Bool)).length (GT.pdflt (α := List Bool)).1, slv (([] : List TGuest)).length (GT.pdflt (α := List TGuest)).1, slv (([] : List Int)).length (GT.pdflt (α := List Int)).1, I 0, I 0, slv (([] : List TKept)).length (GT.pdflt (α := List TKept)).1, I 0]]⟩) (by kernel_rfl)
    refine ⟨(m.tables).length - (k + 1), by omega, k + 1, (acc ++ [(el m.tables k)]), q85, F86, _, _, _, rfl, ?_, ?_, S.cast (by kernel_rfl), o87, o3, o7, o18, o25, o32, (Disj.symm d89), (Disj.symm d90), (Disj.symm d91), (Disj.symm d92), (Disj.symm d93)⟩
    · clear S; first | omega | (simp [*]; done) | (simp [*]; omega)
    · clear S; (first | (rw [take_el (by omega), hacc]; done) | (rw [take_el (by omega), hacc]; simp; done))
  · have g94 : ¬ ((k : Int) < ((m.tables).length : Int)) := of_decide_eq_false h55
    refine wp_exit (ex_then (ex_then (ex_hit (nx_then ?_))))
    refine wp_seq ?_
    refine RG.start ?_
    refine S.quiet (k := 3) (keep := [1, 2]) (m := 2) (σ' := ⟨[(1, .p 0 0), (2, .p 1 0)], [[slv (m.outer).length q1.1, slv (m.out).length q5.1, slv ((([] : List Bool) ++ m.dirty)).length q16.1, slv (m.guests).length q23.1, slv (m.outs).length q30.1, I m.pend, I m.traps, slv (acc).length q47.1, I m.owned], [slv (([] : List TSlot)).length (GT.pdflt (α := List TSlot)).1, slv (([] : List (List Int))).length (GT.pdflt (α := List (List Int))).1, slv (([] : List Bool)).length (GT.pdflt (α := List Bool)).1, slv (([] : List TGuest)).length (GT.pdflt (α := List TGuest)).1, slv (([] : List Int)).length (GT.pdflt (α := List Int)).1, I 0, I 0, slv (([] : List TKept)).length (GT.pdflt (α := List TKept)).1, I 0]]⟩) .nil (by kernel_rfl) ?_
    clear S; intro ac w β S
    refine RG.done rfl (nx_then ?_)
    refine wp_seq ?_
    refine RG.start ?_
    refine S.quiet (k := 2) (keep := [2]) (m := 2) (σ' := ⟨[(2, .p 1 0)], [[slv (m.outer).length q1.1, slv (m.out).length q5.1, slv ((([] : List Bool) ++ m.dirty)).length q16.1, slv (m.guests).length q23.1, slv (m.outs).length q30.1, I m.pend, I m.traps, slv (acc).length q47.1, I m.owned], [slv (m.outer).length q1.1, slv (m.out).length q5.1, slv ((([] : List Bool) ++ m.dirty)).length q16.1, slv (m.guests).length q23.1, slv (m.outs).length q30.1, I m.pend, I m.traps, slv (acc).length q47.1, I m.owned]]⟩) .nil (by kernel_rfl) ?_
    clear S; intro ac w β S
    refine RG.done rfl (nx_then ?_)
    refine wp_ret ?_
    refine S.ret (vs := [GT.val (α := TMon) (⟨m.outer, m.out, (([] : List Bool) ++ m.dirty), m.guests, m.outs, m.pend, m.traps, acc, m.owned⟩ : TMon) (⟨q1, q5, q16, q23, q30, q47⟩ : PMon)]) (by kernel_rfl) ?_
    have o95 := ow_Mon (x := (⟨m.outer, m.out, (([] : List Bool) ++ m.dirty), m.guests, m.outs, m.pend, m.traps, acc, m.owned⟩ : TMon)) (p := (⟨q1, q5, q16, q23, q30, q47⟩ : PMon)) o3 o7 o18 o25 o32 o49 d9 d21 d27 d34 (Disj.symm d50) d22 d28 d35 (Disj.symm d51) d29 d36 (Disj.symm d52) d37 (Disj.symm d53) (Disj.symm d54) (RMon.pend (d := m) (S.arg hm)) (RMon.traps (d := m) (S.arg hm)) (RMon.owned (d := m) (S.arg hm))
    exact ret1_of S (show m = (⟨m.outer, m.out, (([] : List Bool) ++ m.dirty), m.guests, m.outs, m.pend, m.traps, acc, m.owned⟩ : TMon) by clear S; (first | rfl | (rw [hacc, take_all (by omega)]; simp; done) | simp)) rfl o95

set_option maxRecDepth 100000 in
theorem c_impl_MonAt (w0 : World) (h : THost) (ph : PHost) (hh : GT.rd KK (Lt w0.heap.size) w0 h ph) (m : Int) : Calls Go.Proofs.Try.prog 73 [GT.val (α := THost) h ph, I m].toArray w0 (Ret2 NoB w0 ((f_monAt h m).1 : TMon) ((f_monAt h m).2 : Bool)) := by
  refine Calls.walk (args := [GT.val (α := THost) h ph, I m]) NoB Go.Proofs.Try.func73 rfl rfl ?_
  intro ac β S
  have hleh_mem : h.mem.length ≤ 4194304 := LRd.le (RHost.mem (d := h) hh)
  have hleh_mons : h.mons.length ≤ 4194304 := LRd.le (RHost.mons (d := h) hh)
  have hleh_buf : h.buf.length ≤ 4194304 := LRd.le (RHost.buf (d := h) hh)
  have hleh_iobuf : h.iobuf.length ≤ 4194304 := LRd.le (RHost.iobuf (d := h) hh)
  refine wp_seq ?_
  refine RG.start ?_
  refine S.quiet (k := 3) (keep := [1, 2, 4]) (m := 2) (σ' := ⟨[(1, .v (I m)), (2, .p 0 0), (4, .p 1 0)], [GT.cells (α := THost) h ph, [slv (([] : List TSlot)).length (GT.pdflt (α := List TSlot)).1, slv (([] : List (List Int))).length (GT.pdflt (α := List (List Int))).1, slv (([] : List Bool)).length (GT.pdflt (α := List Bool)).1, slv (([] : List TGuest)).length (GT.pdflt (α := List TGuest)).1, slv (([] : List Int)).length (GT.pdflt (α := List Int)).1, I 0, I 0, slv (([] : List TKept)).length (GT.pdflt (α := List TKept)).1, I 0]]⟩) .nil (by kernel_rfl) ?_
  clear S; intro ac w β S
  refine RG.done rfl (nx_then ?_)
  refine wp_seq ?_
  refine wp_seq ?_
  refine RG.start ?_
  refine S.quiet (k := 6) (keep := [1, 2, 4, 11]) (m := 2) (σ' := ⟨[(1, .v (I m)), (2, .p 0 0), (4, .p 1 0), (11, .v (B (!(f_within m 0 (((h.mons).length : Int) - 1)))))], [GT.cells (α := THost) h ph, [slv (([] : List TSlot)).length (GT.pdflt (α := List TSlot)).1, slv (([] : List (List Int))).length (GT.pdflt (α := List (List Int))).1, slv (([] : List Bool)).length (GT.pdflt (α := List Bool)).1, slv (([] : List TGuest)).length (GT.pdflt (α := List TGuest)).1, slv (([] : List Int)).length (GT.pdflt (α := List Int)).1, I 0, I 0, slv (([] : List TKept)).length (GT.pdflt (α := List TKept)).1, I 0]]⟩) (.cons (Q_call fun w hw => c_impl_has w m ((h.mons).length : Int) (by omega)) .nil) (by kernel_rfl) ?_
  clear S; intro ac w β S
  refine RG.done rfl (nx_then ?_)
  refine S.cond (e := (!(f_within m 0 (((h.mons).length : Int) - 1)))) (by kernel_rfl) (fun h1 => ?_) (fun h1 => ?_)
  · have h2 : (f_within m 0 (((h.mons).length : Int) - 1)) = false := not_t h1
    have g3 := within_f h2
    refine wp_seq ?_
    refine RG.start ?_
    refine S.quiet (k := 3) (keep := [4, 5]) (m := 2) (σ' := ⟨[(4, .p 1 0), (5, .v (B false))], [GT.cells (α := THost) h ph, [slv (([] : List TSlot)).length (GT.pdflt (α := List TSlot)).1, slv (([] : List (List Int))).length (GT.pdflt (α := List (List Int))).1, slv (([] : List Bool)).length (GT.pdflt (α := List Bool)).1, slv (([] : List TGuest)).length (GT.pdflt (α := List TGuest)).1, slv (([] : List Int)).length (GT.pdflt (α := List Int)).1, I 0, I 0, slv (([] : List TKept)).length (GT.pdflt (α := List TKept)).1, I 0]]⟩) (.cons (Q_sem (s := Instr.build 46 [].toArray) (v := .agg [slv (([] : List TSlot)).length (GT.pdflt (α := List TSlot)).1, slv (([] : List (List Int))).length (GT.pdflt (α := List (List Int))).1, slv (([] : List Bool)).length (GT.pdflt (α := List Bool)).1, slv (([] : List TGuest)).length (GT.pdflt (α := List TGuest)).1, slv (([] : List Int)).length (GT.pdflt (α := List Int)).1, I 0, I 0, slv (([] : List TKept)).length (GT.pdflt (α := List TKept)).1, I 0].toArray) (fun w => by kernel_rfl)) .nil) (by kernel_rfl) ?_
    clear S; intro ac w β S
    refine RG.done rfl (nx_then ?_)
    refine wp_ret (rt_then ?_)
    refine S.ret (vs := [GT.val (α := TMon) (⟨([] : List TSlot), ([] : List (List Int)), ([] : List Bool), ([] : List TGuest), ([] : List Int), 0, 0, ([] : List TKept), 0⟩ : TMon) (⟨(GT.pdflt (α := List TSlot)), (GT.pdflt (α := List (List Int))), (GT.pdflt (α := List Bool)), (GT.pdflt (α := List TGuest)), (GT.pdflt (α := List Int)), (GT.pdflt (α := List TKept))⟩ : PMon), B false]) (by kernel_rfl) ?_
    have o4 := S.nilOw (α := TSlot)
    have o5 := S.nilOw (α := List Int)
    have o6 := S.nilOw (α := Bool)
    have o7 := S.nilOw (α := TGuest)
    have o8 := S.nilOw (α := Int)
    have o9 := S.nilOw (α := TKept)
    have o10 := ow_Mon (x := (⟨([] : List TSlot), ([] : List (List Int)), ([] : List Bool), ([] : List TGuest), ([] : List Int), 0, 0, ([] : List TKept), 0⟩ : TMon)) (p := (⟨(GT.pdflt (α := List TSlot)), (GT.pdflt (α := List (List Int))), (GT.pdflt (α := List Bool)), (GT.pdflt (α := List TGuest)), (GT.pdflt (α := List Int)), (GT.pdflt (α := List TKept))⟩ : PMon)) o4 o5 o6 o7 o8 o9 (fun b _ h => False.elim h) (fun b _ h => False.elim h) (fun b _ h => False.elim h) (fun b _ h => False.elim h) (fun b _ h => False.elim h) (fun b _ h => False.elim h) (fun b _ h => False.elim h) (fun b _ h => False.elim h) (fun b _ h => False.elim h) (fun b _ h => False.elim h) (fun b _ h => False.elim h) (fun b _ h => False.elim h) (fun b _ h => False.elim h) (fun b _ h => False.elim h) (fun b _ h => False.elim h) (show In64 0 from ⟨by decide, by decide⟩) (show In64 0 from ⟨by decide, by decide⟩) (show In64 0 from ⟨by decide, by decide⟩)
    exact ret2_of (p' := ()) S (show (f_monAt h m).1 = (⟨([] : List TSlot), ([] : List (List Int)), ([] : List Bool), ([] : List TGuest), ([] : List Int), 0, 0, ([] : List TKept), 0⟩ : TMon) by clear S; (first | (unfold f_monAt; rw [if_pos (by omega)]) | (unfold f_monAt; rw [if_neg (by omega)]))) (show (f_monAt h m).2 = false by clear S; (first | (unfold f_monAt; rw [if_pos (by omega)]) | (unfold f_monAt; rw [if_neg (by omega)]))) rfl rfl o10 trivial
  · have h11 : (f_within m 0 (((h.mons).length : Int) - 1)) = true := not_f h1
    have g12 := within_t h11
    refine wp_skip (nx_then ?_)
    refine wp_seq ?_
    refine RG.start ?_
    refine S.quiet (k := 5) (keep := [4, 17]) (m := 2) (σ' := ⟨[(4, .p 1 0), (17, .v (GT.val (α := TMon) (el h.mons ((m).toNat)) (ph.mons.2 ((m).toNat))))], [GT.cells (α := THost) h ph, [slv (([] : List TSlot)).length (GT.pdflt (α := List TSlot)).1, slv (([] : List (List Int))).length (GT.pdflt (α := List (List Int))).1, slv (([] : List Bool)).length (GT.pdflt (α := List Bool)).1, slv (([] : List TGuest)).length (GT.pdflt (α := List TGuest)).1, slv (([] : List Int)).length (GT.pdflt (α := List Int)).1, I 0, I 0, slv (([] : List TKept)).length (GT.pdflt (α := List TKept)).1, I 0]]⟩) (.cons (Q_idx (RHost.mons (d := h) (S.arg hh)) (l := (h.mons).length) (k := (m).toNat) (i := m) rfl (by omega) (by omega) Go.Proofs.Try.underlying36 (by kernel_rfl)) (.cons (Q_el (RHost.mons (d := h) (S.arg hh)) (t := 46) (k := (m).toNat) (by omega) rfl (by kernel_rfl) (by kernel_rfl)) .nil)) (by kernel_rfl) ?_
    clear S; intro ac w β S
    refine RG.op rfl (S.call1 (r := (el h.mons ((m).toNat))) (d := 18) (c_impl_copyMon w (el h.mons ((m).toNat)) (ph.mons.2 ((m).toNat)) (S.rd (LRd.el (RHost.mons (d := h) (S.arg hh)) ((m).toNat) (by omega)))) (by kernel_rfl) rfl ?_)
    clear S; intro ac w N q13 F14 S up o15 d16
    clear up d16
    have i32 : In64 (el h.mons ((m).toNat)).pend := RMon.pend (d := (el h.mons ((m).toNat))) o15.rn
    have i33 : In64 (el h.mons ((m).toNat)).traps := RMon.traps (d := (el h.mons ((m).toNat))) o15.rn
    have i37 : In64 (el h.mons ((m).toNat)).owned := RMon.owned (d := (el h.mons ((m).toNat))) o15.rn
    obtain ⟨F17, F20, F23, F26, F29, F34, o18, o21, o24, o27, o30, o35, s19, s22, s25, s28, s31, s36, d38, d39, d40, d41, d42, d43, d44, d45, d46, d47, d48, d49, d50, d51, d52⟩ := sp_Mon o15
    refine S.quiet (k := 2) (keep := [4, 5]) (m := 2) (σ' := ⟨[(4, .p 1 0), (5, .v (B true))], [GT.cells (α := THost) h ph, [slv ((el h.mons ((m).toNat)).outer).length q13.outer.1, slv ((el h.mons ((m).toNat)).out).length q13.out.1, slv ((el h.mons ((m).toNat)).dirty).length q13.dirty.1, slv ((el h.mons ((m).toNat)).guests).length q13.guests.1, slv ((el h.mons ((m).toNat)).outs).length q13.outs.1, I ((el h.mons ((m).toNat)).pend), I ((el h.mons ((m).toNat)).traps), slv ((el h.mons ((m).toNat)).tables).length q13.tables.1, I ((el h.mons ((m).toNat)).owned)]]⟩) .nil (by kernel_rfl) ?_
    clear S; intro ac w β S
    refine RG.done rfl (nx_then ?_)
    refine wp_ret ?_
    refine S.ret (vs := [GT.val (α := TMon) (el h.mons ((m).toNat)) q13, B true]) (by kernel_rfl) ?_
    have o53 := ow_Mon (x := (el h.mons ((m).toNat))) (p := q13) o18 o21 o24 o27 o30 o35 d38 d39 d40 d41 d42 d43 d44 d45 d46 d47 d48 d49 d50 d51 d52 i32 i33 i37
    exact ret2_of (p' := ()) S (show (f_monAt h m).1 = (el h.mons ((m).toNat)) by clear S; (first | (unfold f_monAt; rw [if_pos (by omega)]) | (unfold f_monAt; rw [if_neg (by omega)]))) (show (f_monAt h m).2 = true by clear S; (first | (unfold f_monAt; rw [if_pos (by omega)]) | (unfold f_monAt; rw [if_neg (by omega)]))) rfl rfl o53 trivial

set_option maxRecDepth 100000 in
theorem c_impl_NoSlot (w0 : World)  : Calls Go.Proofs.Try.prog 118 [].toArray w0 (fun e w' => e = .returned (GT.val (α := TSlot) (⟨-1, 0⟩ : TSlot) ()) ∧ Chg NoB w0 w') := by
  refine Calls.walk (args := []) NoB Go.Proofs.Try.func118 rfl rfl ?_
  intro ac β S
  refine wp_seq ?_
  refine RG.start ?_
  refine S.quiet (k := 1) (keep := [0]) (m := 1) (σ' := ⟨[(0, .p 0 0)], [[I 0, I 0]]⟩) .nil (by kernel_rfl) ?_
  clear S; intro ac w β S
  refine RG.done rfl (nx_then ?_)
  refine wp_seq ?_
  refine RG.start ?_
  refine S.quiet (k := 2) (keep := [0]) (m := 1) (σ' := ⟨[(0, .p 0 0)], [[I (-1), I 0]]⟩) (.cons (Q_sem (s := Instr.build 120 [(0, I (-1))].toArray) (v := .agg [I (-1), I 0].toArray) (fun w => by kernel_rfl)) .nil) (by kernel_rfl) ?_
  clear S; intro ac w β S
  refine RG.done rfl (nx_then ?_)
  refine wp_ret ?_
  refine S.ret (vs := [GT.val (α := TSlot) (⟨(-1), 0⟩ : TSlot) ()]) (by kernel_rfl) ?_
  exact ⟨retV (p := ()) (show (⟨(-1), 0⟩ : TSlot) = (⟨-1, 0⟩ : TSlot) by clear S; first | rfl | (simp [id, *]; done) | (simp [id, *]; omega) | (simp_all [id]; done) | (simp_all [id]; omega)), S.chg⟩

set_option maxRecDepth 100000 in
theorem c_impl_SlotAt (w0 : World) (t : List TSlot) (pt : LP TSlot) (ht : GT.rd KK (Lt w0.heap.size) w0 t pt) (page : Int) : Calls Go.Proofs.Try.prog 103 [slv (t).length pt.1, I page].toArray w0 (fun e w' => e = .returned (GT.val (α := TSlot) (f_slotAt t page) ()) ∧ Chg NoB w0 w') := by
  refine Calls.walk (args := [slv (t).length pt.1, I page]) NoB Go.Proofs.Try.func103 rfl rfl ?_
  intro ac β S
  have hlet : t.length ≤ 4194304 := LRd.le ht
  refine wp_seq ?_
  refine RG.start ?_
  refine S.quiet (k := 1) (keep := [0, 1, 4]) (m := 1) (σ' := ⟨[(0, .v (slv (t).length pt.1)), (1, .v (I page)), (4, .p 0 0)], [[I 0, I 0]]⟩) .nil (by kernel_rfl) ?_
  clear S; intro ac w β S
  refine RG.done rfl (nx_then ?_)
  refine wp_seq ?_
  refine wp_seq ?_
  refine RG.start ?_
  refine S.quiet (k := 5) (keep := [0, 1, 4, 9]) (m := 1) (σ' := ⟨[(0, .v (slv (t).length pt.1)), (1, .v (I page)), (4, .p 0 0), (9, .v (B (!(f_within page 0 (((t).length : Int) - 1)))))], [[I 0, I 0]]⟩) (.cons (Q_call fun w hw => c_impl_has w page ((t).length : Int) (by omega)) .nil) (by kernel_rfl) ?_
  clear S; intro ac w β S
  refine RG.done rfl (nx_then ?_)
  refine S.cond (e := (!(f_within page 0 (((t).length : Int) - 1)))) (by kernel_rfl) (fun h1 => ?_) (fun h1 => ?_)
  · have h2 : (f_within page 0 (((t).length : Int) - 1)) = false := not_t h1
    have g3 := within_f h2
    refine wp_seq ?_
    refine RG.start ?_
    refine S.quiet (k := 2) (keep := [4]) (m := 1) (σ' := ⟨[(4, .p 0 0)], [GT.cells (α := TSlot) ((⟨-1, 0⟩ : TSlot)) ()]⟩) (.cons (Q_call fun w hw => c_impl_NoSlot w ) .nil) (by kernel_rfl) ?_
    clear S; intro ac w β S
    refine RG.done rfl (nx_then ?_)
    refine wp_ret (rt_then ?_)
    refine S.ret (vs := [GT.val (α := TSlot) ((⟨-1, 0⟩ : TSlot)) ()]) (by kernel_rfl) ?_
    exact ⟨retV (p := ()) (show ((⟨-1, 0⟩ : TSlot)) = f_slotAt t page by clear S; (first | (unfold f_slotAt; rw [if_pos (by omega)]) | (unfold f_slotAt; rw [if_neg (by omega)]))), S.chg⟩
  · have h4 : (f_within page 0 (((t).length : Int) - 1)) = true := not_f h1
    have g5 := within_t h4
    refine wp_skip (nx_then ?_)
    refine wp_seq ?_
    refine RG.start ?_
    refine S.quiet (k := 5) (keep := [4]) (m := 1) (σ' := ⟨[(4, .p 0 0)], [GT.cells (α := TSlot) (el t ((page).toNat)) ()]⟩) (.cons (Q_idx (S.arg ht) (l := (t).length) (k := (page).toNat) (i := page) rfl (by omega) (by omega) Go.Proofs.Try.underlying42 (by kernel_rfl)) (.cons (Q_el (S.arg ht) (t := 120) (k := (page).toNat) (by omega) rfl (by kernel_rfl) (by kernel_rfl)) .nil)) (by kernel_rfl) ?_
    clear S; intro ac w β S
    refine RG.done rfl (nx_then ?_)
    refine wp_ret ?_
    refine S.ret (vs := [GT.val (α := TSlot) (el t ((page).toNat)) ()]) (by kernel_rfl) ?_
    exact ⟨retV (p := ()) (show (el t ((page).toNat)) = f_slotAt t page by clear S; (first | (unfold f_slotAt; rw [if_pos (by omega)]) | (unfold f_slotAt; rw [if_neg (by omega)]))), S.chg⟩

set_option maxRecDepth 100000 in
theorem c_impl_PageAt (w0 : World) (m : List (List Int)) (pm : LP (List Int)) (hm : GT.rd KK (Lt w0.heap.size) w0 m pm) (page : Int) : Calls Go.Proofs.Try.prog 104 [slv (m).length pm.1, I page].toArray w0 (Ret1 NoB w0 (f_pageAt m page : List Int)) := by
  refine Calls.walk (args := [slv (m).length pm.1, I page]) NoB Go.Proofs.Try.func104 rfl rfl ?_
  intro ac β S
  have hlem : m.length ≤ 4194304 := LRd.le hm
  refine wp_seq ?_
  refine RG.start ?_
  refine S.quiet (k := 1) (keep := [0, 1]) (m := 0) (σ' := ⟨[(0, .v (slv (m).length pm.1)), (1, .v (I page))], []⟩) .nil (by kernel_rfl) ?_
  clear S; intro ac w β S
  refine RG.done rfl (nx_then ?_)
  refine wp_seq ?_
  refine wp_seq ?_
  refine RG.start ?_
  refine S.quiet (k := 5) (keep := [0, 1, 9]) (m := 0) (σ' := ⟨[(0, .v (slv (m).length pm.1)), (1, .v (I page)), (9, .v (B (!(f_within page 0 (((m).length : Int) - 1)))))], []⟩) (.cons (Q_call fun w hw => c_impl_has w page ((m).length : Int) (by omega)) .nil) (by kernel_rfl) ?_
  clear S; intro ac w β S
  refine RG.done rfl (nx_then ?_)
  refine S.cond (e := (!(f_within page 0 (((m).length : Int) - 1)))) (by kernel_rfl) (fun h1 => ?_) (fun h1 => ?_)
  · have h2 : (f_within page 0 (((m).length : Int) - 1)) = false := not_t h1
    have g3 := within_f h2
    refine wp_seq ?_
    refine RG.start ?_
    refine RG.op rfl (S.make (α := Int) (m := 4) (by' := 8) (d := 10) (by kernel_rfl) (by omega) (show 4 ≤ 4194304 by omega) ?_)
    clear S; intro ac w N q4 F5 S up o6 d7
    clear up d7
    refine S.quiet (k := 1) (keep := [4]) (m := 0) (σ' := ⟨[(4, .v (slv 4 q4.1))], []⟩) .nil (by kernel_rfl) ?_
    clear S; intro ac w β S
    refine RG.done rfl (nx_then ?_)
    refine wp_ret (rt_then ?_)
    refine S.ret (vs := [slv 4 q4.1]) (by kernel_rfl) ?_
    exact ret1_of S (show f_pageAt m page = (List.replicate 4 (GT.dflt : Int)) by clear S; (first | (unfold f_pageAt; rw [if_pos (by omega)]; done) | (unfold f_pageAt; rw [if_pos (by omega)]; first | rfl | (simp; done)) | (unfold f_pageAt; rw [if_neg (by omega)]; done) | (unfold f_pageAt; rw [if_neg (by omega)]; first | rfl | (simp; done)))) (by rw [show 4 = ((List.replicate 4 (GT.dflt : Int))).length from (by simp)]; rfl) o6
  · have h8 : (f_within page 0 (((m).length : Int) - 1)) = true := not_f h1
    have g9 := within_t h8
    refine wp_skip (nx_then ?_)
    refine wp_seq ?_
    refine RG.start ?_
    refine S.quiet (k := 4) (keep := [14]) (m := 0) (σ' := ⟨[(14, .v (slv ((el m ((page).toNat))).length (pm.2 ((page).toNat)).1))], []⟩) (.cons (Q_idx (S.arg hm) (l := (m).length) (k := (page).toNat) (i := page) rfl (by omega) (by omega) Go.Proofs.Try.underlying22 (by kernel_rfl)) (.cons (Q_el1 (S.arg hm) (t := 30) (k := (page).toNat) (by omega) rfl (by kernel_rfl)) .nil)) (by kernel_rfl) ?_
    clear S; intro ac w β S
    refine RG.op rfl (S.call1 (r := (el m ((page).toNat))) (d := 15) (c_impl_copyInts w (el m ((page).toNat)) (pm.2 ((page).toNat)) (S.rd (LRd.el (S.arg hm) ((page).toNat) (by omega)))) (by kernel_rfl) rfl ?_)
    clear S; intro ac w N q10 F11 S up o12 d13
    clear up d13
    refine S.quiet (k := 1) (keep := [4]) (m := 0) (σ' := ⟨[(4, .v (slv ((el m ((page).toNat))).length q10.1))], []⟩) .nil (by kernel_rfl) ?_
    clear S; intro ac w β S
    refine RG.done rfl (nx_then ?_)
    refine wp_ret ?_
    refine S.ret (vs := [slv ((el m ((page).toNat))).length q10.1]) (by kernel_rfl) ?_
    exact ret1_of S (show f_pageAt m page = (el m ((page).toNat)) by clear S; (first | (unfold f_pageAt; rw [if_pos (by omega)]; done) | (unfold f_pageAt; rw [if_pos (by omega)]; first | rfl | (simp; done)) | (unfold f_pageAt; rw [if_neg (by omega)]; done) | (unfold f_pageAt; rw [if_neg (by omega)]; first | rfl | (simp; done)))) rfl o12

set_option maxRecDepth 100000 in
theorem c_impl_PageOf (w0 : World) (h : THost) (ph : PHost) (hh : GT.rd KK (Lt w0.heap.size) w0 h ph) (m : Int) (page : Int) : Calls Go.Proofs.Try.prog 74 [GT.val (α := THost) h ph, I m, I page].toArray w0 (Ret1 NoB w0 (f_pageOf h m page : List Int)) := by
  refine Calls.walk (args := [GT.val (α := THost) h ph, I m, I page]) NoB Go.Proofs.Try.func74 rfl rfl ?_
  intro ac β S
  have hleh_mem : h.mem.length ≤ 4194304 := LRd.le (RHost.mem (d := h) hh)
  have hleh_mons : h.mons.length ≤ 4194304 := LRd.le (RHost.mons (d := h) hh)
  have hleh_buf : h.buf.length ≤ 4194304 := LRd.le (RHost.buf (d := h) hh)
  have hleh_iobuf : h.iobuf.length ≤ 4194304 := LRd.le (RHost.iobuf (d := h) hh)
  refine wp_seq ?_
  refine RG.start ?_
  refine S.quiet (k := 2) (keep := [1, 2, 3]) (m := 1) (σ' := ⟨[(1, .v (I m)), (2, .v (I page)), (3, .p 0 0)], [GT.cells (α := THost) h ph]⟩) .nil (by kernel_rfl) ?_
  clear S; intro ac w β S
  refine RG.done rfl (nx_then ?_)
  refine wp_seq ?_
  refine wp_seq ?_
  refine RG.start ?_
  refine S.quiet (k := 7) (keep := [1, 2, 3, 15]) (m := 1) (σ' := ⟨[(1, .v (I m)), (2, .v (I page)), (3, .p 0 0), (15, .v (B (!(f_within m 0 (((h.mons).length : Int) - 1)))))], [GT.cells (α := THost) h ph]⟩) (.cons (Q_call fun w hw => c_impl_has w m ((h.mons).length : Int) (by omega)) .nil) (by kernel_rfl) ?_
  clear S; intro ac w β S
  rcases Bool.eq_false_or_eq_true (!(f_within m 0 (((h.mons).length : Int) - 1))) with h1 | h1 <;> rw [h1] at S
  · have h2 : (f_within m 0 (((h.mons).length : Int) - 1)) = false := not_t h1
    have g3 := within_f h2
    refine S.quiet (k := 4) (keep := [1, 2, 3, 19]) (m := 1) (σ' := ⟨[(1, .v (I m)), (2, .v (I page)), (3, .p 0 0), (19, .v (B true))], [GT.cells (α := THost) h ph]⟩) .nil (by kernel_rfl) ?_
    clear S; intro ac w β S
    refine RG.done rfl (nx_then ?_)
    refine S.cond (e := true) (by kernel_rfl) (fun _ => ?_) (fun hx => by cases hx)
    refine wp_seq ?_
    refine RG.start ?_
    refine RG.op rfl (S.make (α := Int) (m := 4) (by' := 8) (d := 20) (by kernel_rfl) (by omega) (show 4 ≤ 4194304 by omega) ?_)
    clear S; intro ac w N q4 F5 S up o6 d7
    clear up d7
    refine S.quiet (k := 1) (keep := [6]) (m := 0) (σ' := ⟨[(6, .v (slv 4 q4.1))], []⟩) .nil (by kernel_rfl) ?_
    clear S; intro ac w β S
    refine RG.done rfl (nx_then ?_)
    refine wp_ret (rt_then ?_)
    refine S.ret (vs := [slv 4 q4.1]) (by kernel_rfl) ?_
    exact ret1_of S (show f_pageOf h m page = (List.replicate 4 (GT.dflt : Int)) by clear S; (unfold f_pageOf; (repeat' split) <;> first | rfl | (exfalso; omega) | (exfalso; simp_all; done) | (exfalso; simp_all; omega))) (by rw [show 4 = ((List.replicate 4 (GT.dflt : Int))).length from (by simp)]; rfl) o6
  · have h8 : (f_within m 0 (((h.mons).length : Int) - 1)) = true := not_f h1
    have g9 := within_t h8
    refine S.quiet (k := 4) (keep := [1, 2, 3, 19]) (m := 1) (σ' := ⟨[(1, .v (I m)), (2, .v (I page)), (3, .p 0 0), (19, .v (B (!(f_within page 0 (8 - 1)))))], [GT.cells (α := THost) h ph]⟩) (.cons (Q_call fun w hw => c_impl_has w page 8 (by omega)) .nil) (by kernel_rfl) ?_
    clear S; intro ac w β S
    refine RG.done rfl (nx_then ?_)
    refine S.cond (e := (!(f_within page 0 (8 - 1)))) (by kernel_rfl) (fun h10 => ?_) (fun h10 => ?_)
    · have h11 : (f_within page 0 (8 - 1)) = false := not_t h10
      have g12 := within_f h11
      refine wp_seq ?_
      refine RG.start ?_
      refine RG.op rfl (S.make (α := Int) (m := 4) (by' := 8) (d := 20) (by kernel_rfl) (by omega) (show 4 ≤ 4194304 by omega) ?_)
      clear S; intro ac w N q13 F14 S up o15 d16
      clear up d16
      refine S.quiet (k := 1) (keep := [6]) (m := 0) (σ' := ⟨[(6, .v (slv 4 q13.1))], []⟩) .nil (by kernel_rfl) ?_
      clear S; intro ac w β S
      refine RG.done rfl (nx_then ?_)
      refine wp_ret (rt_then ?_)
      refine S.ret (vs := [slv 4 q13.1]) (by kernel_rfl) ?_
      exact ret1_of S (show f_pageOf h m page = (List.replicate 4 (GT.dflt : Int)) by clear S; (unfold f_pageOf; (repeat' split) <;> first | rfl | (exfalso; omega) | (exfalso; simp_all; done) | (exfalso; simp_all; omega))) (by rw [show 4 = ((List.replicate 4 (GT.dflt : Int))).length from (by simp)]; rfl) o15
    · have h17 : (f_within page 0 (8 - 1)) = true := not_f h10
      have g18 := within_t h17
      refine wp_skip (nx_then ?_)
      refine wp_seq ?_
      refine RG.start ?_
      refine S.quiet (k := 7) (keep := [2, 3, 7]) (m := 2) (σ' := ⟨[(2, .v (I page)), (3, .p 0 0), (7, .p 1 0)], [GT.cells (α := THost) h ph, GT.cells (α := TMon) (el h.mons ((m).toNat)) (ph.mons.2 ((m).toNat))]⟩) (.cons (Q_idx (RHost.mons (d := h) (S.arg hh)) (l := (h.mons).length) (k := (m).toNat) (i := m) rfl (by omega) (by omega) Go.Proofs.Try.underlying36 (by kernel_rfl)) (.cons (Q_el (RHost.mons (d := h) (S.arg hh)) (t := 46) (k := (m).toNat) (by omega) rfl (by kernel_rfl) (by kernel_rfl)) .nil)) (by kernel_rfl) ?_
      clear S; intro ac w β S
      refine RG.done rfl (nx_then ?_)
      refine wp_seq ?_
      refine wp_seq ?_
      refine RG.start ?_
      refine S.quiet (k := 6) (keep := [2, 3, 7, 8]) (m := 3) (σ' := ⟨[(2, .v (I page)), (3, .p 0 0), (7, .p 1 0), (8, .p 2 0)], [GT.cells (α := THost) h ph, GT.cells (α := TMon) (el h.mons ((m).toNat)) (ph.mons.2 ((m).toNat)), GT.cells (α := TSlot) (f_slotAt ((el h.mons ((m).toNat)).outer) page) ()]⟩) (.cons (Q_call fun w hw => c_impl_SlotAt w ((el h.mons ((m).toNat)).outer) ((ph.mons.2 ((m).toNat)).outer) (rd_of (RMon.outer (d := (el h.mons ((m).toNat))) (LRd.el (RHost.mons (d := h) (S.arg hh)) ((m).toNat) (by omega))) hw) page) .nil) (by kernel_rfl) ?_
      clear S; intro ac w β S
      refine RG.done rfl (nx_then ?_)
      refine wp_seq ?_
      refine RG.start ?_
      refine S.quiet (k := 3) (keep := [2, 3, 7, 8, 32]) (m := 3) (σ' := ⟨[(2, .v (I page)), (3, .p 0 0), (7, .p 1 0), (8, .p 2 0), (32, .v (B ((f_slotAt ((el h.mons ((m).toNat)).outer) page).page != (-1))))], [GT.cells (α := THost) h ph, GT.cells (α := TMon) (el h.mons ((m).toNat)) (ph.mons.2 ((m).toNat)), GT.cells (α := TSlot) (f_slotAt ((el h.mons ((m).toNat)).outer) page) ()]⟩) .nil (by kernel_rfl) ?_
      clear S; intro ac w β S
      refine RG.done rfl (nx_then ?_)
      refine S.cond (e := ((f_slotAt ((el h.mons ((m).toNat)).outer) page).page != (-1))) (by kernel_rfl) (fun h19 => ?_) (fun h19 => ?_)
      · have g20 : ¬ ((f_slotAt ((el h.mons ((m).toNat)).outer) page).page = (-1)) := bne_iff_ne.1 h19
        refine wp_seq ?_
        refine RG.start ?_
        refine S.quiet (k := 4) (keep := [34, 36]) (m := 0) (σ' := ⟨[(34, .v (slv (h.mem).length ph.mem.1)), (36, .v (I ((f_slotAt ((el h.mons ((m).toNat)).outer) page).page)))], []⟩) .nil (by kernel_rfl) ?_
        clear S; intro ac w β S
        refine RG.op rfl (S.call1 (r := f_pageAt h.mem ((f_slotAt ((el h.mons ((m).toNat)).outer) page).page)) (d := 37) (c_impl_PageAt w h.mem ph.mem (S.rd (RHost.mem (d := h) (S.arg hh))) ((f_slotAt ((el h.mons ((m).toNat)).outer) page).page)) (by kernel_rfl) rfl ?_)
        clear S; intro ac w N q21 F22 S up o23 d24
        clear up d24
        refine S.quiet (k := 1) (keep := [6]) (m := 0) (σ' := ⟨[(6, .v (slv ((f_pageAt h.mem ((f_slotAt ((el h.mons ((m).toNat)).outer) page).page))).length q21.1))], []⟩) .nil (by kernel_rfl) ?_
        clear S; intro ac w β S
        refine RG.done rfl (nx_then ?_)
        refine wp_ret (rt_then ?_)
        refine S.ret (vs := [slv ((f_pageAt h.mem ((f_slotAt ((el h.mons ((m).toNat)).outer) page).page))).length q21.1]) (by kernel_rfl) ?_
        exact ret1_of S (show f_pageOf h m page = (f_pageAt h.mem ((f_slotAt ((el h.mons ((m).toNat)).outer) page).page)) by clear S; (unfold f_pageOf; (repeat' split) <;> first | rfl | (exfalso; omega) | (exfalso; simp_all; done) | (exfalso; simp_all; omega))) rfl o23
      · have g25 : (f_slotAt ((el h.mons ((m).toNat)).outer) page).page = (-1) := ne_f h19
        refine wp_skip (nx_then ?_)
        refine wp_seq ?_
        refine RG.start ?_
        refine S.quiet (k := 3) (keep := [39, 40]) (m := 0) (σ' := ⟨[(39, .v (slv ((el h.mons ((m).toNat)).out).length ((ph.mons.2 ((m).toNat)).out).1)), (40, .v (I page))], []⟩) .nil (by kernel_rfl) ?_
        clear S; intro ac w β S
        refine RG.op rfl (S.call1 (r := f_pageAt ((el h.mons ((m).toNat)).out) page) (d := 41) (c_impl_PageAt w ((el h.mons ((m).toNat)).out) ((ph.mons.2 ((m).toNat)).out) (S.rd (RMon.out (d := (el h.mons ((m).toNat))) (LRd.el (RHost.mons (d := h) (S.arg hh)) ((m).toNat) (by omega)))) page) (by kernel_rfl) rfl ?_)
        clear S; intro ac w N q26 F27 S up o28 d29
        clear up d29
        refine S.quiet (k := 1) (keep := [6]) (m := 0) (σ' := ⟨[(6, .v (slv ((f_pageAt ((el h.mons ((m).toNat)).out) page)).length q26.1))], []⟩) .nil (by kernel_rfl) ?_
        clear S; intro ac w β S
        refine RG.done rfl (nx_then ?_)
        refine wp_ret ?_
        refine S.ret (vs := [slv ((f_pageAt ((el h.mons ((m).toNat)).out) page)).length q26.1]) (by kernel_rfl) ?_
        exact ret1_of S (show f_pageOf h m page = (f_pageAt ((el h.mons ((m).toNat)).out) page) by clear S; (unfold f_pageOf; (repeat' split) <;> first | rfl | (exfalso; omega) | (exfalso; simp_all; done) | (exfalso; simp_all; omega))) rfl o28

set_option maxRecDepth 100000 in
theorem c_impl_SeenAs (w0 : World) (h : THost) (ph : PHost) (hh : GT.rd KK (Lt w0.heap.size) w0 h ph) (m : Int) : Calls Go.Proofs.Try.prog 19 [GT.val (α := THost) h ph, I m].toArray w0 (Ret1 NoB w0 (f_seenAs h m : TBare)) := by
  refine Calls.walk (args := [GT.val (α := THost) h ph, I m]) NoB Go.Proofs.Try.func19 rfl rfl ?_
  intro ac β S
  have hleh_mem : h.mem.length ≤ 4194304 := LRd.le (RHost.mem (d := h) hh)
  have hleh_mons : h.mons.length ≤ 4194304 := LRd.le (RHost.mons (d := h) hh)
  have hleh_buf : h.buf.length ≤ 4194304 := LRd.le (RHost.buf (d := h) hh)
  have hleh_iobuf : h.iobuf.length ≤ 4194304 := LRd.le (RHost.iobuf (d := h) hh)
  refine wp_seq ?_
  refine RG.start ?_
  refine S.quiet (k := 2) (keep := [1, 2, 4]) (m := 2) (σ' := ⟨[(1, .v (I m)), (2, .p 0 0), (4, .p 1 0)], [GT.cells (α := THost) h ph, [slv (([] : List (List Int))).length (GT.pdflt (α := List (List Int))).1, slv (([] : List TGuest)).length (GT.pdflt (α := List TGuest)).1, slv (([] : List Int)).length (GT.pdflt (α := List Int)).1, I 0]]⟩) .nil (by kernel_rfl) ?_
  clear S; intro ac w β S
  refine RG.done rfl (nx_then ?_)
  refine wp_seq ?_
  refine RG.start ?_
  refine S.quiet (k := 2) (keep := [1, 2, 4, 10, 11]) (m := 2) (σ' := ⟨[(1, .v (I m)), (2, .p 0 0), (4, .p 1 0), (10, .v (GT.val (α := THost) h ph)), (11, .v (I m))], [GT.cells (α := THost) h ph, [slv (([] : List (List Int))).length (GT.pdflt (α := List (List Int))).1, slv (([] : List TGuest)).length (GT.pdflt (α := List TGuest)).1, slv (([] : List Int)).length (GT.pdflt (α := List Int)).1, I 0]]⟩) .nil (by kernel_rfl) ?_
  clear S; intro ac w β S
  refine RG.op rfl (S.call2 (r := (f_monAt h m).1) (r' := (f_monAt h m).2) (d := 12) (c_impl_MonAt w h ph (S.rd (S.arg hh)) m) (by kernel_rfl) rfl ?_)
  clear S; intro ac w N q1 q2 F3 F4 S up o5 o6 d7 d8 d9
  clear up d7
  clear d8
  have i25 : In64 ((f_monAt h m).1).pend := RMon.pend (d := ((f_monAt h m).1)) o5.rn
  have i26 : In64 ((f_monAt h m).1).traps := RMon.traps (d := ((f_monAt h m).1)) o5.rn
  have i30 : In64 ((f_monAt h m).1).owned := RMon.owned (d := ((f_monAt h m).1)) o5.rn
  obtain ⟨F10, F13, F16, F19, F22, F27, o11, o14, o17, o20, o23, o28, s12, s15, s18, s21, s24, s29, d31, d32, d33, d34, d35, d36, d37, d38, d39, d40, d41, d42, d43, d44, d45⟩ := sp_Mon o5
  refine S.quiet (k := 6) (keep := [1, 2, 4, 5, 6]) (m := 3) (σ' := ⟨[(1, .v (I m)), (2, .p 0 0), (4, .p 1 0), (5, .p 2 0), (6, .v (B ((f_monAt h m).2)))], [GT.cells (α := THost) h ph, [slv (([] : List (List Int))).length (GT.pdflt (α := List (List Int))).1, slv (([] : List TGuest)).length (GT.pdflt (α := List TGuest)).1, slv (([] : List Int)).length (GT.pdflt (α := List Int)).1, I 0], [slv (((f_monAt h m).1).outer).length q1.outer.1, slv (((f_monAt h m).1).out).length q1.out.1, slv (((f_monAt h m).1).dirty).length q1.dirty.1, slv (((f_monAt h m).1).guests).length q1.guests.1, slv (((f_monAt h m).1).outs).length q1.outs.1, I (((f_monAt h m).1).pend), I (((f_monAt h m).1).traps), slv (((f_monAt h m).1).tables).length q1.tables.1, I (((f_monAt h m).1).owned)]]⟩) .nil (by kernel_rfl) ?_
  clear S; intro ac w β S
  refine RG.done rfl (nx_then ?_)
  refine wp_seq ?_
  refine wp_seq ?_
  refine RG.start ?_
  refine S.quiet (k := 2) (keep := [1, 2, 4, 5, 16]) (m := 3) (σ' := ⟨[(1, .v (I m)), (2, .p 0 0), (4, .p 1 0), (5, .p 2 0), (16, .v (B (!((f_monAt h m).2))))], [GT.cells (α := THost) h ph, [slv (([] : List (List Int))).length (GT.pdflt (α := List (List Int))).1, slv (([] : List TGuest)).length (GT.pdflt (α := List TGuest)).1, slv (([] : List Int)).length (GT.pdflt (α := List Int)).1, I 0], [slv (((f_monAt h m).1).outer).length q1.outer.1, slv (((f_monAt h m).1).out).length q1.out.1, slv (((f_monAt h m).1).dirty).length q1.dirty.1, slv (((f_monAt h m).1).guests).length q1.guests.1, slv (((f_monAt h m).1).outs).length q1.outs.1, I (((f_monAt h m).1).pend), I (((f_monAt h m).1).traps), slv (((f_monAt h m).1).tables).length q1.tables.1, I (((f_monAt h m).1).owned)]]⟩) .nil (by kernel_rfl) ?_
  clear S; intro ac w β S
  refine RG.done rfl (nx_then ?_)
  refine S.cond (e := (!((f_monAt h m).2))) (by kernel_rfl) (fun h46 => ?_) (fun h46 => ?_)
  · have h47 : (f_monAt h m).2 = false := not_t h46
    refine wp_seq ?_
    refine RG.start ?_
    refine S.quiet (k := 2) (keep := [4]) (m := 2) (σ' := ⟨[(4, .p 1 0)], [GT.cells (α := THost) h ph, [slv (([] : List (List Int))).length (GT.pdflt (α := List (List Int))).1, slv (([] : List TGuest)).length (GT.pdflt (α := List TGuest)).1, slv (([] : List Int)).length (GT.pdflt (α := List Int)).1, I 0]]⟩) (.cons (Q_sem (s := Instr.build 54 [].toArray) (v := .agg [slv (([] : List (List Int))).length (GT.pdflt (α := List (List Int))).1, slv (([] : List TGuest)).length (GT.pdflt (α := List TGuest)).1, slv (([] : List Int)).length (GT.pdflt (α := List Int)).1, I 0].toArray) (fun w => by kernel_rfl)) .nil) (by kernel_rfl) ?_
    clear S; intro ac w β S
    refine RG.done rfl (nx_then ?_)
    refine wp_ret (rt_then ?_)
    refine S.ret (vs := [GT.val (α := TBare) (⟨([] : List (List Int)), ([] : List TGuest), ([] : List Int), 0⟩ : TBare) (⟨(GT.pdflt (α := List (List Int))), (GT.pdflt (α := List TGuest)), (GT.pdflt (α := List Int))⟩ : PBare)]) (by kernel_rfl) ?_
    have o48 := S.nilOw (α := List Int)
    have o49 := S.nilOw (α := TGuest)
    have o50 := S.nilOw (α := Int)
    have o51 := ow_Bare (x := (⟨([] : List (List Int)), ([] : List TGuest), ([] : List Int), 0⟩ : TBare)) (p := (⟨(GT.pdflt (α := List (List Int))), (GT.pdflt (α := List TGuest)), (GT.pdflt (α := List Int))⟩ : PBare)) o48 o49 o50 (fun b _ h => False.elim h) (fun b _ h => False.elim h) (fun b _ h => False.elim h) (show In64 0 from ⟨by decide, by decide⟩)
    exact ret1_of S (show f_seenAs h m = (⟨([] : List (List Int)), ([] : List TGuest), ([] : List Int), 0⟩ : TBare) by clear S; (first | (unfold f_seenAs; rw [if_neg (monAt_f (by assumption))]; done) | (unfold f_seenAs; rw [if_pos (monAt_t (by assumption)), monAt_1 (monAt_t (by assumption)), hacc, show i = 8 by omega]))) rfl o51
  · have h52 : (f_monAt h m).2 = true := not_f h46
    refine wp_skip (nx_then ?_)
    refine wp_seq ?_
    refine RG.start ?_
    refine S.quiet (k := 9) (keep := [1, 2, 4, 7]) (m := 4) (σ' := ⟨[(1, .v (I m)), (2, .p 0 0), (4, .p 1 0), (7, .p 3 0)], [GT.cells (α := THost) h ph, [slv (([] : List (List Int))).length (GT.pdflt (α := List (List Int))).1, slv (([] : List TGuest)).length (GT.pdflt (α := List TGuest)).1, slv (([] : List Int)).length (GT.pdflt (α := List Int)).1, I 0], [slv (((f_monAt h m).1).outer).length q1.outer.1, slv (((f_monAt h m).1).out).length q1.out.1, slv (((f_monAt h m).1).dirty).length q1.dirty.1, slv (((f_monAt h m).1).guests).length q1.guests.1, slv (((f_monAt h m).1).outs).length q1.outs.1, I (((f_monAt h m).1).pend), I (((f_monAt h m).1).traps), slv (((f_monAt h m).1).tables).length q1.tables.1, I (((f_monAt h m).1).owned)], [slv (([] : List (List Int))).length (GT.pdflt (α := List (List Int))).1, slv (((f_monAt h m).1).guests).length q1.guests.1, slv (((f_monAt h m).1).outs).length q1.outs.1, I (((f_monAt h m).1).pend)]]⟩) (.cons (Q_sem (s := Instr.build 54 [(1, slv (((f_monAt h m).1).guests).length q1.guests.1), (2, slv (((f_monAt h m).1).outs).length q1.outs.1), (3, I (((f_monAt h m).1).pend))].toArray) (v := .agg [slv (([] : List (List Int))).length (GT.pdflt (α := List (List Int))).1, slv (((f_monAt h m).1).guests).length q1.guests.1, slv (((f_monAt h m).1).outs).length q1.outs.1, I (((f_monAt h m).1).pend)].toArray) (fun w => by kernel_rfl)) .nil) (by kernel_rfl) ?_
    clear S; intro ac w β S
    refine RG.done rfl (nx_then ?_)
    refine wp_seq ?_
    refine wp_seq ?_
    refine RG.start ?_
    refine S.quiet (k := 1) (keep := [1, 2, 4, 7, 8]) (m := 4) (σ' := ⟨[(1, .v (I m)), (2, .p 0 0), (4, .p 1 0), (7, .p 3 0), (8, .v (I 0))], [GT.cells (α := THost) h ph, [slv (([] : List (List Int))).length (GT.pdflt (α := List (List Int))).1, slv (([] : List TGuest)).length (GT.pdflt (α := List TGuest)).1, slv (([] : List Int)).length (GT.pdflt (α := List Int)).1, I 0], [slv (((f_monAt h m).1).outer).length q1.outer.1, slv (((f_monAt h m).1).out).length q1.out.1, slv (((f_monAt h m).1).dirty).length q1.dirty.1, slv (((f_monAt h m).1).guests).length q1.guests.1, slv (((f_monAt h m).1).outs).length q1.outs.1, I (((f_monAt h m).1).pend), I (((f_monAt h m).1).traps), slv (((f_monAt h m).1).tables).length q1.tables.1, I (((f_monAt h m).1).owned)], [slv (([] : List (List Int))).length (GT.pdflt (α := List (List Int))).1, slv (((f_monAt h m).1).guests).length q1.guests.1, slv (((f_monAt h m).1).outs).length q1.outs.1, I (((f_monAt h m).1).pend)]]⟩) .nil (by kernel_rfl) ?_
    clear S; intro ac w β S
    refine RG.done rfl (nx_then ?_)
    refine wp_block ?_
    replace S := S.prune (keep := [1, 2, 4, 7, 8]) (m := 4) (σ' := ⟨[(1, .v (I m)), (2, .p 0 0), (4, .p 1 0), (7, .p 3 0), (8, .v (I 0))], [GT.cells (α := THost) h ph, [slv (([] : List (List Int))).length (GT.pdflt (α := List (List Int))).1, slv (([] : List TGuest)).length (GT.pdflt (α := List TGuest)).1, slv (([] : List Int)).length (GT.pdflt (α := List Int)).1, I 0], [slv (((f_monAt h m).1).outer).length q1.outer.1, slv (((f_monAt h m).1).out).length q1.out.1, slv (((f_monAt h m).1).dirty).length q1.dirty.1, slv (((f_monAt h m).1).guests).length q1.guests.1, slv (((f_monAt h m).1).outs).length q1.outs.1, I (((f_monAt h m).1).pend), I (((f_monAt h m).1).traps), slv (((f_monAt h m).1).tables).length q1.tables.1, I (((f_monAt h m).1).owned)], [slv (([] : List (List Int))).length (GT.pdflt (α := List (List Int))).1, slv (((f_monAt h m).1).guests).length q1.guests.1, slv (((f_monAt h m).1).outs).length q1.outs.1, I (((f_monAt h m).1).pend)]]⟩) (by kernel_rfl)
    have o56 := S.nilOw (α := List Int)
    refine wp_loop_down (fun mm ac w => ∃ (i : Nat) (acc : List (List Int)) (q53 : GT.Ptr (List (List Int))) (F54 : Bl) (u : World) (N : Bl) (β : Nat → Nat), mm = 8 - i ∧ (i ≤ 8) ∧ (acc = (List.range i).map (fun (j : Nat) => f_pageOf h m (j : Int))) ∧ St Go.Proofs.Try.prog Go.Proofs.Try.f19.ntmps w0 NoB u N β ⟨[(1, .v (I m)), (2, .p 0 0), (4, .p 1 0), (7, .p 3 0), (8, .v (I (i : Int)))], [GT.cells (α := THost) h ph, [slv (([] : List (List Int))).length (GT.pdflt (α := List (List Int))).1, slv (([] : List TGuest)).length (GT.pdflt (α := List TGuest)).1, slv (([] : List Int)).length (GT.pdflt (α := List Int)).1, I 0], [slv (((f_monAt h m).1).outer).length q1.outer.1, slv (((f_monAt h m).1).out).length q1.out.1, slv (((f_monAt h m).1).dirty).length q1.dirty.1, slv (((f_monAt h m).1).guests).length q1.guests.1, slv (((f_monAt h m).1).outs).length q1.outs.1, I (((f_monAt h m).1).pend), I (((f_monAt h m).1).traps), slv (((f_monAt h m).1).tables).length q1.tables.1, I (((f_monAt h m).1).owned)], [slv (acc).length q53.1, slv (((f_monAt h m).1).guests).length q1.guests.1, slv (((f_monAt h m).1).outs).length q1.outs.1, I (((f_monAt h m).1).pend)]]⟩ ac w ∧ Ow w0 NoB u N F54 acc q53 ∧ Ow w0 NoB u N F10 (((f_monAt h m).1).outer) q1.outer ∧ Ow w0 NoB u N F13 (((f_monAt h m).1).out) q1.out ∧ Ow w0 NoB u N F16 (((f_monAt h m).1).dirty) q1.dirty ∧ Ow w0 NoB u N F19 (((f_monAt h m).1).guests) q1.guests ∧ Ow w0 NoB u N F22 (((f_monAt h m).1).outs) q1.outs ∧ Ow w0 NoB u N F27 (((f_monAt h m).1).tables) q1.tables ∧ Disj F54 F10 ∧ Disj F54 F13 ∧ Disj F54 F16 ∧ Disj F54 F19 ∧ Disj F54 F22 ∧ Disj F54 F27) _ ⟨0, ([] : List (List Int)), (GT.pdflt (α := List (List Int))), NoB, _, _, _, rfl, (by first | omega | (simp; done) | (simp; omega)), (by rfl), S.cast (by kernel_rfl), o56, o11, o14, o17, o20, o23, o28, (Disj.symm (fun b _ h => False.elim h)), (Disj.symm (fun b _ h => False.elim h)), (Disj.symm (fun b _ h => False.elim h)), (Disj.symm (fun b _ h => False.elim h)), (Disj.symm (fun b _ h => False.elim h)), (Disj.symm (fun b _ h => False.elim h))⟩ ?_
    clear S o11 o14 o17 o20 o23 o28 o56 o6
    rintro mm ac w ⟨i, acc, q53, F54, u, N, β, rfl, hi, hacc, S, o55, o11, o14, o17, o20, o23, o28, d57, d58, d59, d60, d61, d62⟩
    have hlacc : acc.length = i := by rw [hacc]; simp
    refine wp_seq ?_
    refine wp_seq ?_
    refine RG.start ?_
    refine S.quiet (k := 2) (keep := [1, 2, 4, 7, 8, 26]) (m := 4) (σ' := ⟨[(1, .v (I m)), (2, .p 0 0), (4, .p 1 0), (7, .p 3 0), (8, .v (I (i : Int))), (26, .v (B (decide ((i : Int) < 8))))], [GT.cells (α := THost) h ph, [slv (([] : List (List Int))).length (GT.pdflt (α := List (List Int))).1, slv (([] : List TGuest)).length (GT.pdflt (α := List TGuest)).1, slv (([] : List Int)).length (GT.pdflt (α := List Int)).1, I 0], [slv (((f_monAt h m).1).outer).length q1.outer.1, slv (((f_monAt h m).1).out).length q1.out.1, slv (((f_monAt h m).1).dirty).length q1.dirty.1, slv (((f_monAt h m).1).guests).length q1.guests.1, slv (((f_monAt h m).1).outs).length q1.outs.1, I (((f_monAt h m).1).pend), I (((f_monAt h m).1).traps), slv (((f_monAt h m).1).tables).length q1.tables.1, I (((f_monAt h m).1).owned)], [slv (acc).length q53.1, slv (((f_monAt h m).1).guests).length q1.guests.1, slv (((f_monAt h m).1).outs).length q1.outs.1, I (((f_monAt h m).1).pend)]]⟩) .nil (by kernel_rfl) ?_
    clear S; intro ac w β S
    refine RG.done rfl (nx_then ?_)
    refine S.cond (e := (decide ((i : Int) < 8))) (by kernel_rfl) (fun h63 => ?_) (fun h63 => ?_)
    · have g64 : (i : Int) < 8 := of_decide_eq_true h63
      refine wp_skip (nx_then ?_)
      refine wp_seq ?_
      refine wp_block ?_
      refine S.draw0 (f := 10) 7 rfl rfl ?_
      clear S; intro w S
      refine S.hoist (i := 0) (path := [1, 0]) (keep := [1, 2, 4, 7, 8, 29]) (m := 4) (σ' := ⟨[(1, .v (I m)), (2, .p 0 0), (4, .p 1 0), (7, .p 3 0), (8, .v (I (i : Int))), (29, .p 3 0)], [GT.cells (α := THost) h ph, [slv (([] : List (List Int))).length (GT.pdflt (α := List (List Int))).1, slv (([] : List TGuest)).length (GT.pdflt (α := List TGuest)).1, slv (([] : List Int)).length (GT.pdflt (α := List Int)).1, I 0], [slv (((f_monAt h m).1).outer).length q1.outer.1, slv (((f_monAt h m).1).out).length q1.out.1, slv (((f_monAt h m).1).dirty).length q1.dirty.1, slv (((f_monAt h m).1).guests).length q1.guests.1, slv (((f_monAt h m).1).outs).length q1.outs.1, I (((f_monAt h m).1).pend), I (((f_monAt h m).1).traps), slv (((f_monAt h m).1).tables).length q1.tables.1, I (((f_monAt h m).1).owned)], [slv (acc).length q53.1, slv (((f_monAt h m).1).guests).length q1.guests.1, slv (((f_monAt h m).1).outs).length q1.outs.1, I (((f_monAt h m).1).pend)]]⟩) (by kernel_rfl) (by kernel_rfl) .nil (by kernel_rfl) ?_
      clear S; intro ac S
      refine S.hoist (i := 1) (path := [1]) (keep := [1, 2, 4, 7, 8, 30]) (m := 4) (σ' := ⟨[(1, .v (I m)), (2, .p 0 0), (4, .p 1 0), (7, .p 3 0), (8, .v (I (i : Int))), (30, .v (slv (acc).length q53.1))], [GT.cells (α := THost) h ph, [slv (([] : List (List Int))).length (GT.pdflt (α := List (List Int))).1, slv (([] : List TGuest)).length (GT.pdflt (α := List TGuest)).1, slv (([] : List Int)).length (GT.pdflt (α := List Int)).1, I 0], [slv (((f_monAt h m).1).outer).length q1.outer.1, slv (((f_monAt h m).1).out).length q1.out.1, slv (((f_monAt h m).1).dirty).length q1.dirty.1, slv (((f_monAt h m).1).guests).length q1.guests.1, slv (((f_monAt h m).1).outs).length q1.outs.1, I (((f_monAt h m).1).pend), I (((f_monAt h m).1).traps), slv (((f_monAt h m).1).tables).length q1.tables.1, I (((f_monAt h m).1).owned)], [slv (acc).length q53.1, slv (((f_monAt h m).1).guests).length q1.guests.1, slv (((f_monAt h m).1).outs).length q1.outs.1, I (((f_monAt h m).1).pend)]]⟩) (by kernel_rfl) (by kernel_rfl) .nil (by kernel_rfl) ?_
      clear S; intro ac S
      refine S.hoist (i := 2) (path := [5, 2]) (keep := [1, 2, 4, 7, 8, 30, 31]) (m := 4) (σ' := ⟨[(1, .v (I m)), (2, .p 0 0), (4, .p 1 0), (7, .p 3 0), (8, .v (I (i : Int))), (30, .v (slv (acc).length q53.1)), (31, .v (GT.val (α := THost) h ph))], [GT.cells (α := THost) h ph, [slv (([] : List (List Int))).length (GT.pdflt (α := List (List Int))).1, slv (([] : List TGuest)).length (GT.pdflt (α := List TGuest)).1, slv (([] : List Int)).length (GT.pdflt (α := List Int)).1, I 0], [slv (((f_monAt h m).1).outer).length q1.outer.1, slv (((f_monAt h m).1).out).length q1.out.1, slv (((f_monAt h m).1).dirty).length q1.dirty.1, slv (((f_monAt h m).1).guests).length q1.guests.1, slv (((f_monAt h m).1).outs).length q1.outs.1, I (((f_monAt h m).1).pend), I (((f_monAt h m).1).traps), slv (((f_monAt h m).1).tables).length q1.tables.1, I (((f_monAt h m).1).owned)], [slv (acc).length q53.1, slv (((f_monAt h m).1).guests).length q1.guests.1, slv (((f_monAt h m).1).outs).length q1.outs.1, I (((f_monAt h m).1).pend)]]⟩) (by kernel_rfl) (by kernel_rfl) .nil (by kernel_rfl) ?_
      clear S; intro ac S
      refine S.hoist (i := 3) (path := [5, 3]) (keep := [1, 2, 4, 7, 8, 30, 31, 32]) (m := 4) (σ' := ⟨[(1, .v (I m)), (2, .p 0 0), (4, .p 1 0), (7, .p 3 0), (8, .v (I (i : Int))), (30, .v (slv (acc).length q53.1)), (31, .v (GT.val (α := THost) h ph)), (32, .v (I m))], [GT.cells (α := THost) h ph, [slv (([] : List (List Int))).length (GT.pdflt (α := List (List Int))).1, slv (([] : List TGuest)).length (GT.pdflt (α := List TGuest)).1, slv (([] : List Int)).length (GT.pdflt (α := List Int)).1, I 0], [slv (((f_monAt h m).1).outer).length q1.outer.1, slv (((f_monAt h m).1).out).length q1.out.1, slv (((f_monAt h m).1).dirty).length q1.dirty.1, slv (((f_monAt h m).1).guests).length q1.guests.1, slv (((f_monAt h m).1).outs).length q1.outs.1, I (((f_monAt h m).1).pend), I (((f_monAt h m).1).traps), slv (((f_monAt h m).1).tables).length q1.tables.1, I (((f_monAt h m).1).owned)], [slv (acc).length q53.1, slv (((f_monAt h m).1).guests).length q1.guests.1, slv (((f_monAt h m).1).outs).length q1.outs.1, I (((f_monAt h m).1).pend)]]⟩) (by kernel_rfl) (by kernel_rfl) .nil (by kernel_rfl) ?_
      clear S; intro ac S
      refine S.hoist (i := 4) (path := [5, 4]) (keep := [1, 2, 4, 7, 8, 30, 31, 32, 33]) (m := 4) (σ' := ⟨[(1, .v (I m)), (2, .p 0 0), (4, .p 1 0), (7, .p 3 0), (8, .v (I (i : Int))), (30, .v (slv (acc).length q53.1)), (31, .v (GT.val (α := THost) h ph)), (32, .v (I m)), (33, .v (I (i : Int)))], [GT.cells (α := THost) h ph, [slv (([] : List (List Int))).length (GT.pdflt (α := List (List Int))).1, slv (([] : List TGuest)).length (GT.pdflt (α := List TGuest)).1, slv (([] : List Int)).length (GT.pdflt (α := List Int)).1, I 0], [slv (((f_monAt h m).1).outer).length q1.outer.1, slv (((f_monAt h m).1).out).length q1.out.1, slv (((f_monAt h m).1).dirty).length q1.dirty.1, slv (((f_monAt h m).1).guests).length q1.guests.1, slv (((f_monAt h m).1).outs).length q1.outs.1, I (((f_monAt h m).1).pend), I (((f_monAt h m).1).traps), slv (((f_monAt h m).1).tables).length q1.tables.1, I (((f_monAt h m).1).owned)], [slv (acc).length q53.1, slv (((f_monAt h m).1).guests).length q1.guests.1, slv (((f_monAt h m).1).outs).length q1.outs.1, I (((f_monAt h m).1).pend)]]⟩) (by kernel_rfl) (by kernel_rfl) .nil (by kernel_rfl) ?_
      clear S; intro ac S
      refine WD.one (i := 5) (by kernel_rfl) ?_
      refine id (S.call1 (r := f_pageOf h m (i : Int)) (d := 34) (c_impl_PageOf w h ph (S.rd (S.arg hh)) m (i : Int)) (by kernel_rfl) rfl ?_)
      clear S; intro ac w N q65 F66 S up o67 d68
      refine WD.next S up rfl ?_
      have d69 : Disj F54 F66 := fun b x y => d68 b (o55.sub b x) y
      have d70 : Disj F10 F66 := fun b x y => d68 b (o11.sub b x) y
      have d71 : Disj F13 F66 := fun b x y => d68 b (o14.sub b x) y
      have d72 : Disj F16 F66 := fun b x y => d68 b (o17.sub b x) y
      have d73 : Disj F19 F66 := fun b x y => d68 b (o20.sub b x) y
      have d74 : Disj F22 F66 := fun b x y => d68 b (o23.sub b x) y
      have d75 : Disj F27 F66 := fun b x y => d68 b (o28.sub b x) y
      replace o55 := o55.up up
      replace o11 := o11.up up
      replace o14 := o14.up up
      replace o17 := o17.up up
      replace o20 := o20.up up
      replace o23 := o23.up up
      replace o28 := o28.up up
      clear up d68
      refine WD.one (i := 6) (by kernel_rfl) ?_
      refine id (S.bs1 (α := List Int) (x := (f_pageOf h m (i : Int))) (p := q65) o67.own o67.sub o67.young (d := 35) (by kernel_rfl) ?_)
      clear S; intro ac w N q76 F77 S up o78 d79
      refine WD.next S up rfl ?_
      have d80 : Disj F54 F77 := d79 _ d69 o55.sub
      have d81 : Disj F10 F77 := d79 _ d70 o11.sub
      have d82 : Disj F13 F77 := d79 _ d71 o14.sub
      have d83 : Disj F16 F77 := d79 _ d72 o17.sub
      have d84 : Disj F19 F77 := d79 _ d73 o20.sub
      have d85 : Disj F22 F77 := d79 _ d74 o23.sub
      have d86 : Disj F27 F77 := d79 _ d75 o28.sub
      replace o55 := o55.up up
      replace o11 := o11.up up
      replace o14 := o14.up up
      replace o17 := o17.up up
      replace o20 := o20.up up
      replace o23 := o23.up up
      replace o28 := o28.up up
      clear up d79
      refine WD.one (i := 7) (by kernel_rfl) ?_
      refine id (S.appOwn (α := List Int) o55 o78 d80 (by' := 24) (d := 36) (lx := (acc).length) (ly := 1) rfl rfl (by kernel_rfl) (show _ ≤ 4194304 by simp only [List.length_append, List.length_cons, List.length_nil]; omega) ?_)
      clear S; intro ac w N q87 F88 S up o89 d90
      refine WD.last (by kernel_rfl) ?_
      have d91 : Disj F10 F88 := d90 _ (Disj.symm d57) d81 o11.sub
      have d92 : Disj F13 F88 := d90 _ (Disj.symm d58) d82 o14.sub
      have d93 : Disj F16 F88 := d90 _ (Disj.symm d59) d83 o17.sub
      have d94 : Disj F19 F88 := d90 _ (Disj.symm d60) d84 o20.sub
      have d95 : Disj F22 F88 := d90 _ (Disj.symm d61) d85 o23.sub
      have d96 : Disj F27 F88 := d90 _ (Disj.symm d62) d86 o28.sub
      replace o11 := o11.upF (Disj.symm d57) up
      replace o14 := o14.upF (Disj.symm d58) up
      replace o17 := o17.upF (Disj.symm d59) up
      replace o20 := o20.upF (Disj.symm d60) up
      replace o23 := o23.upF (Disj.symm d61) up
      replace o28 := o28.upF (Disj.symm d62) up
      clear up d90
      refine WD.one (i := 8) (by kernel_rfl) ?_
      refine S.stepq (i := 8) (keep := [1, 2, 4, 7, 8, 36, 37]) (m := 4) (σ' := ⟨[(1, .v (I m)), (2, .p 0 0), (4, .p 1 0), (7, .p 3 0), (8, .v (I (i : Int))), (36, .v (slv ((acc ++ [(f_pageOf h m (i : Int))])).length q87.1)), (37, .p 3 0)], [GT.cells (α := THost) h ph, [slv (([] : List (List Int))).length (GT.pdflt (α := List (List Int))).1, slv (([] : List TGuest)).length (GT.pdflt (α := List TGuest)).1, slv (([] : List Int)).length (GT.pdflt (α := List Int)).1, I 0], [slv (((f_monAt h m).1).outer).length q1.outer.1, slv (((f_monAt h m).1).out).length q1.out.1, slv (((f_monAt h m).1).dirty).length q1.dirty.1, slv (((f_monAt h m).1).guests).length q1.guests.1, slv (((f_monAt h m).1).outs).length q1.outs.1, I (((f_monAt h m).1).pend), I (((f_monAt h m).1).traps), slv (((f_monAt h m).1).tables).length q1.tables.1, I (((f_monAt h m).1).owned)], [slv (acc).length q53.1, slv (((f_monAt h m).1).guests).length q1.guests.1, slv (((f_monAt h m).1).outs).length q1.outs.1, I (((f_monAt h m).1).pend)]]⟩) .nil (by kernel_rfl) ?_
      clear S; intro ac w β S hβ
      refine WD.last (by kernel_rfl) ?_
      clear hβ
      refine WD.one (i := 9) (by kernel_rfl) ?_
      refine S.stepq (i := 9) (keep := [1, 2, 4, 7, 8]) (m := 4) (σ' := ⟨[(1, .v (I m)), (2, .p 0 0), (4, .p 1 0), (7, .p 3 0), (8, .v (I (i : Int)))], [GT.cells (α := THost) h ph, [slv (([] : List (List Int))).length (GT.pdflt (α := List (List Int))).1, slv (([] : List TGuest)).length (GT.pdflt (α := List TGuest)).1, slv (([] : List Int)).length (GT.pdflt (α := List Int)).1, I 0], [slv (((f_monAt h m).1).outer).length q1.outer.1, slv (((f_monAt h m).1).out).length q1.out.1, slv (((f_monAt h m).1).dirty).length q1.dirty.1, slv (((f_monAt h m).1).guests).length q1.guests.1, slv (((f_monAt h m).1).outs).length q1.outs.1, I (((f_monAt h m).1).pend), I (((f_monAt h m).1).traps), slv (((f_monAt h m).1).tables).length q1.tables.1, I (((f_monAt h m).1).owned)], [slv ((acc ++ [(f_pageOf h m (i : Int))])).length q87.1, slv (((f_monAt h m).1).guests).length q1.guests.1, slv (((f_monAt h m).1).outs).length q1.outs.1, I (((f_monAt h m).1).pend)]]⟩) .nil (by kernel_rfl) ?_
      clear S; intro ac w β S hβ
      refine WD.last (by kernel_rfl) ?_
      clear hβ
      refine WD.done (by kernel_rfl) ?_ _
      replace S := S.prune (keep := [1, 2, 4, 7, 8]) (m := 4) (σ' := ⟨[(1, .v (I m)), (2, .p 0 0), (4, .p 1 0), (7, .p 3 0), (8, .v (I (i : Int)))], [GT.cells (α := THost) h ph, [slv (([] : List (List Int))).length (GT.pdflt (α := List (List Int))).1, slv (([] : List TGuest)).length (GT.pdflt (α := List TGuest)).1, slv (([] : List Int)).length (GT.pdflt (α := List Int)).1, I 0], [slv (((f_monAt h m).1).outer).length q1.outer.1, slv (((f_monAt h m).1).out).length q1.out.1, slv (((f_monAt h m).1).dirty).length q1.dirty.1, slv (((f_monAt h m).1).guests).length q1.guests.1, slv (((f_monAt h m).1).outs).length q1.outs.1, I (((f_monAt h m).1).pend), I (((f_monAt h m).1).traps), slv (((f_monAt h m).1).tables).length q1.tables.1, I (((f_monAt h m).1).owned)], [slv ((acc ++ [(f_pageOf h m (i : Int))])).length q87.1, slv (((f_monAt h m).1).guests).length q1.guests.1, slv (((f_monAt h m).1).outs).length q1.outs.1, I (((f_monAt h m).1).pend)]]⟩) (by kernel_rfl)
      refine id (nx_block (nx_then ?_))
      refine RG.start ?_
      refine S.quiet (k := 3) (keep := [1, 2, 4, 7, 8]) (m := 4) (σ' := ⟨[(1, .v (I m)), (2, .p 0 0), (4, .p 1 0), (7, .p 3 0), (8, .v (I ((i : Int) + 1)))], [GT.cells (α := THost) h ph, [slv (([] : List (List Int))).length (GT.pdflt (α := List (List Int))).1, slv (([] : List TGuest)).length (GT.pdflt (α := List TGuest)).1, slv (([] : List Int)).length (GT.pdflt (α := List Int)).1, I 0], [slv (((f_monAt h m).1).outer).length q1.outer.1, slv (((f_monAt h m).1).out).length q1.out.1, slv (((f_monAt h m).1).dirty).length q1.dirty.1, slv (((f_monAt h m).1).guests).length q1.guests.1, slv (((f_monAt h m).1).outs).length q1.outs.1, I (((f_monAt h m).1).pend), I (((f_monAt h m).1).traps), slv (((f_monAt h m).1).tables).length q1.tables.1, I (((f_monAt h m).1).owned)], [slv ((acc ++ [(f_pageOf h m (i : Int))])).length q87.1, slv (((f_monAt h m).1).guests).length q1.guests.1, slv (((f_monAt h m).1).outs).length q1.outs.1, I (((f_monAt h m).1).pend)]]⟩) (.cons (Q_add (x := (i : Int)) (y := 1) ⟨by omega, by omega⟩) .nil) (by kernel_rfl) ?_
      clear S; intro ac w β S
      refine RG.done rfl (nx_then ?_)
      replace S := S.prune (keep := [1, 2, 4, 7, 8]) (m := 4) (σ' := ⟨[(1, .v (I m)), (2, .p 0 0), (4, .p 1 0), (7, .p 3 0), (8, .v (I ((i : Int) + 1)))], [GT.cells (α := THost) h ph, [slv (([] : List (List Int))).length (GT.pdflt (α := List (List Int))).1, slv (([] : List TGuest)).length (GT.pdflt (α := List TGuest)).1, slv (([] : List Int)).length (GT.pdflt (α := List Int)).1, I 0], [slv (((f_monAt h m).1).outer).length q1.outer.1, slv (((f_monAt h m).1).out).length q1.out.1, slv (((f_monAt h m).1).dirty).length q1.dirty.1, slv (((f_monAt h m).1).guests).length q1.guests.1, slv (((f_monAt h m).1).outs).length q1.outs.1, I (((f_monAt h m).1).pend), I (((f_monAt h m).1).traps), slv (((f_monAt h m).1).tables).length q1.tables.1, I (((f_monAt h m).1).owned)], [slv ((acc ++ [(f_pageOf h m (i : Int))])).length q87.1, slv (((f_monAt h m).1).guests).length q1.guests.1, slv (((f_monAt h m).1).outs).length q1.outs.1, I (((f_monAt h m).1).pend)]]⟩) (by kernel_rfl)
      refine ⟨8 - (i + 1), by omega, i + 1, (acc ++ [(f_pageOf h m (i : Int))]), q87, F88, _, _, _, rfl, ?_, ?_, S.cast (by kernel_rfl), o89, o11, o14, o17, o20, o23, o28, (Disj.symm d91), (Disj.symm d92), (Disj.symm d93), (Disj.symm d94), (Disj.symm d95), (Disj.symm d96)⟩
      · clear S; first | omega | (simp [*]; done) | (simp [*]; omega)
      · clear S; (rw [rmap_step, ← hacc])
    · have g97 : ¬ ((i : Int) < 8) := of_decide_eq_false h63
      refine wp_exit (ex_then (ex_then (ex_hit (nx_then ?_))))
      refine wp_seq ?_
      refine RG.start ?_
      refine S.quiet (k := 2) (keep := [4]) (m := 2) (σ' := ⟨[(4, .p 1 0)], [GT.cells (α := THost) h ph, [slv (acc).length q53.1, slv (((f_monAt h m).1).guests).length q1.guests.1, slv (((f_monAt h m).1).outs).length q1.outs.1, I (((f_monAt h m).1).pend)]]⟩) .nil (by kernel_rfl) ?_
      clear S; intro ac w β S
      refine RG.done rfl (nx_then ?_)
      refine wp_ret ?_
      refine S.ret (vs := [GT.val (α := TBare) (⟨acc, ((f_monAt h m).1).guests, ((f_monAt h m).1).outs, ((f_monAt h m).1).pend⟩ : TBare) (⟨q53, q1.guests, q1.outs⟩ : PBare)]) (by kernel_rfl) ?_
      have o98 := ow_Bare (x := (⟨acc, ((f_monAt h m).1).guests, ((f_monAt h m).1).outs, ((f_monAt h m).1).pend⟩ : TBare)) (p := (⟨q53, q1.guests, q1.outs⟩ : PBare)) o55 o20 o23 d60 d61 d43 i25
      exact ret1_of S (show f_seenAs h m = (⟨acc, ((f_monAt h m).1).guests, ((f_monAt h m).1).outs, ((f_monAt h m).1).pend⟩ : TBare) by clear S; (first | (unfold f_seenAs; rw [if_neg (monAt_f (by assumption))]; done) | (unfold f_seenAs; rw [if_pos (monAt_t (by assumption)), monAt_1 (monAt_t (by assumption)), hacc, show i = 8 by omega]))) rfl o98

end Go.Proofs.Ytacgkoohinlhjaa
