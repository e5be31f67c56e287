/- The walks: what each function that the laws reach computes (part 2). -/
import Derived.Test.YtcoabfmpdnlfdaaW1
import Derived.Test.YtcoabfmpdnlfdaaProg
import Derived.KernelRfl
namespace Go.Proofs.Ytcoabfmpdnlfdaa
open Go
set_option linter.unusedVariables false
set_option linter.unusedSimpArgs false

set_option maxRecDepth 100000 in
theorem c_spec_l07Copy (w0 : World) (k : TKept) (pk : PKept) (hk : GT.rd KK (Lt w0.heap.size) w0 k pk) : Calls Go.Proofs.Try.prog 146 [GT.val (α := TKept) k pk].toArray w0 (Ret1 NoB w0 (k : TKept)) := by
  refine Calls.walk (args := [GT.val (α := TKept) k pk]) NoB Go.Proofs.Try.func146 rfl rfl ?_
  intro ac β S
  have hlek_known : k.known.length ≤ 4194304 := LRd.le (RKept.known (d := k) hk)
  have hlek_slots : k.slots.length ≤ 4194304 := LRd.le (RKept.slots (d := k) hk)
  refine wp_seq ?_
  refine RG.start ?_
  refine S.quiet (k := 2) (keep := [1, 2]) (m := 2) (σ' := ⟨[(1, .p 0 0), (2, .p 1 0)], [GT.cells (α := TKept) k pk, [slv (([] : List Bool)).length (GT.pdflt (α := List Bool)).1, slv (([] : List TSlot)).length (GT.pdflt (α := List TSlot)).1]]⟩) .nil (by kernel_rfl) ?_
  clear S; intro ac w β S
  refine RG.done rfl (nx_then ?_)
  refine wp_seq ?_
  refine wp_region_cut (fun ac w => ∃ (q25 : GT.Ptr (List Bool)) (F26 : Bl) (q28 : GT.Ptr (List TSlot)) (F29 : Bl) (u : World) (N : Bl) (β : Nat → Nat), St Go.Proofs.Try.prog Go.Proofs.Try.f146.ntmps w0 NoB u N β ⟨[(2, .p 1 0)], [GT.cells (α := TKept) k pk, [slv ((([] : List Bool) ++ k.known)).length q25.1, slv ((([] : List TSlot) ++ k.slots)).length q28.1]]⟩ ac w ∧ Ow w0 NoB u N F26 (([] : List Bool) ++ k.known) q25 ∧ Ow w0 NoB u N F29 (([] : List TSlot) ++ k.slots) q28 ∧ Disj F26 F29) ?_ ?_
  · refine S.draw0 (f := 10) 9 rfl rfl ?_
    clear S; intro w S
    refine S.hoist (i := 1) (path := [1]) (keep := [1, 2, 4]) (m := 2) (σ' := ⟨[(1, .p 0 0), (2, .p 1 0), (4, .p 0 0)], [GT.cells (α := TKept) k pk, [slv (([] : List Bool)).length (GT.pdflt (α := List Bool)).1, slv (([] : List TSlot)).length (GT.pdflt (α := List TSlot)).1]]⟩) (by kernel_rfl) (by kernel_rfl) .nil (by kernel_rfl) ?_
    clear S; intro ac S
    refine S.hoist (i := 2) (path := [2]) (keep := [1, 2, 5]) (m := 2) (σ' := ⟨[(1, .p 0 0), (2, .p 1 0), (5, .v (slv (k.known).length pk.known.1))], [GT.cells (α := TKept) k pk, [slv (([] : List Bool)).length (GT.pdflt (α := List Bool)).1, slv (([] : List TSlot)).length (GT.pdflt (α := List TSlot)).1]]⟩) (by kernel_rfl) (by kernel_rfl) .nil (by kernel_rfl) ?_
    clear S; intro ac S
    refine S.hoist (i := 5) (path := [5]) (keep := [2, 5, 8]) (m := 2) (σ' := ⟨[(2, .p 1 0), (5, .v (slv (k.known).length pk.known.1)), (8, .p 0 1)], [GT.cells (α := TKept) k pk, [slv (([] : List Bool)).length (GT.pdflt (α := List Bool)).1, slv (([] : List TSlot)).length (GT.pdflt (α := List TSlot)).1]]⟩) (by kernel_rfl) (by kernel_rfl) .nil (by kernel_rfl) ?_
    clear S; intro ac S
    refine S.hoist (i := 6) (path := [6]) (keep := [2, 5, 9]) (m := 2) (σ' := ⟨[(2, .p 1 0), (5, .v (slv (k.known).length pk.known.1)), (9, .v (slv (k.slots).length pk.slots.1))], [GT.cells (α := TKept) k pk, [slv (([] : List Bool)).length (GT.pdflt (α := List Bool)).1, slv (([] : List TSlot)).length (GT.pdflt (α := List TSlot)).1]]⟩) (by kernel_rfl) (by kernel_rfl) .nil (by kernel_rfl) ?_
    clear S; intro ac S
    refine WD.many (rs := [0, 4]) (by kernel_rfl) rfl (List.forall_mem_cons.2 ⟨?_, List.forall_mem_cons.2 ⟨?_, List.forall_mem_nil _⟩⟩)
    · refine id (S.bs0 (α := Bool) (d := 3) (by kernel_rfl) ?_)
      clear S; intro ac w N q31 F32 S up o33 d34
      have hb35 := fun b h => (⟨(up b h).1, (up b h).2, d34 b h⟩ : _ ∧ _ ∧ _)
      refine WD.keep S up rfl ?_
      clear up d34
      refine WD.many (rs := [3, 4]) (by kernel_rfl) rfl (List.forall_mem_cons.2 ⟨?_, List.forall_mem_cons.2 ⟨?_, List.forall_mem_nil _⟩⟩)
      · have b40 : (k.known).length ≤ 4194304 := LRd.le (RKept.known (d := k) (S.arg hk))
        refine id (S.appFlat (α := Bool) o33 ((RKept.known (d := k) (S.arg hk))) (fun _ _ h => h) (by' := 1) (d := 6) (lx := 0) (ly := (k.known).length) rfl rfl (by kernel_rfl) (show _ ≤ 4194304 by simp only [List.length_append, List.length_cons, List.length_nil]; omega) ?_)
        clear S; intro ac w N q36 F37 S up o38 d39
        have hb41 := fun b h => (⟨(up b (hb35 b h).1 (hb35 b h).2.2).1, (up b (hb35 b h).1 (hb35 b h).2.2).2.trans (hb35 b h).2.1⟩ : _ ∧ _)
        refine WD.next S hb41 rfl ?_
        clear up d39
        refine WD.one (i := 4) (by kernel_rfl) ?_
        refine id (S.bs0 (α := TSlot) (d := 7) (by kernel_rfl) ?_)
        clear S; intro ac w N q42 F43 S up o44 d45
        have hb46 := fun b h => (⟨(up b h).1, (up b h).2, d45 b h⟩ : _ ∧ _ ∧ _)
        refine WD.keep S up rfl ?_
        have d47 : Disj F37 F43 := fun b x y => d45 b (o38.sub b x) y
        replace o38 := o38.up up
        clear up d45
        refine WD.one (i := 7) (by kernel_rfl) ?_
        have b52 : (k.slots).length ≤ 4194304 := LRd.le (RKept.slots (d := k) (S.arg hk))
        refine id (S.appFlat (α := TSlot) o44 ((RKept.slots (d := k) (S.arg hk))) (fun _ _ h => h) (by' := 16) (d := 10) (lx := 0) (ly := (k.slots).length) rfl rfl (by kernel_rfl) (show _ ≤ 4194304 by simp only [List.length_append, List.length_cons, List.length_nil]; omega) ?_)
        clear S; intro ac w N q48 F49 S up o50 d51
        have hb53 := fun b h => (⟨(up b (hb46 b h).1 (hb46 b h).2.2).1, (up b (hb46 b h).1 (hb46 b h).2.2).2.trans (hb46 b h).2.1⟩ : _ ∧ _)
        refine WD.next S hb53 rfl ?_
        have d54 : Disj F37 F49 := d51 _ d47 o38.sub
        replace o38 := o38.upF d47 up
        clear up d51
        refine S.hoist (i := 8) (path := [8]) (keep := [2, 11]) (m := 2) (σ' := ⟨[(2, .p 1 0), (11, .v (GT.val (α := TKept) (⟨(([] : List Bool) ++ k.known), (([] : List TSlot) ++ k.slots)⟩ : TKept) (⟨q36, q48⟩ : PKept)))], [GT.cells (α := TKept) k pk, [slv (([] : List Bool)).length (GT.pdflt (α := List Bool)).1, slv (([] : List TSlot)).length (GT.pdflt (α := List TSlot)).1]]⟩) (by kernel_rfl) (by kernel_rfl) (.cons (Q_sem (s := Instr.build 106 [(0, slv ((([] : List Bool) ++ k.known)).length q36.1), (1, slv ((([] : List TSlot) ++ k.slots)).length q48.1)].toArray) (v := .agg [slv ((([] : List Bool) ++ k.known)).length q36.1, slv ((([] : List TSlot) ++ k.slots)).length q48.1].toArray) (fun w => by kernel_rfl)) .nil) (by kernel_rfl) ?_
        clear S; intro ac S
        refine WD.one (i := 9) (by kernel_rfl) ?_
        refine S.stepq (i := 9) (keep := [2]) (m := 2) (σ' := ⟨[(2, .p 1 0)], [GT.cells (α := TKept) k pk, [slv ((([] : List Bool) ++ k.known)).length q36.1, slv ((([] : List TSlot) ++ k.slots)).length q48.1]]⟩) .nil (by kernel_rfl) ?_
        clear S; intro ac w β S hβ
        refine WD.last (by kernel_rfl) ?_
        clear hβ
        refine WD.done (by kernel_rfl) ?_ _
        replace S := S.prune (keep := [2]) (m := 2) (σ' := ⟨[(2, .p 1 0)], [GT.cells (α := TKept) k pk, [slv ((([] : List Bool) ++ k.known)).length q36.1, slv ((([] : List TSlot) ++ k.slots)).length q48.1]]⟩) (by kernel_rfl)
        exact ⟨rfl, q36, F37, q48, F49, _, _, _, S.cast (by kernel_rfl), o38, o50, d54⟩
      · refine id (S.bs0 (α := TSlot) (d := 7) (by kernel_rfl) ?_)
        clear S; intro ac w N q55 F56 S up o57 d58
        have hb59 := fun b h => (⟨(up b (hb35 b h).1).1, (up b (hb35 b h).1).2.trans (hb35 b h).2.1, (hb35 b h).2.2, d58 b (hb35 b h).1⟩ : _ ∧ _ ∧ _ ∧ _)
        refine WD.keep S (fun b h => ⟨(hb59 b h).1, (hb59 b h).2.1⟩) rfl ?_
        have d60 : Disj F32 F56 := fun b x y => d58 b (o33.sub b x) y
        replace o33 := o33.up up
        clear up d58
        refine WD.one (i := 3) (by kernel_rfl) ?_
        have b65 : (k.known).length ≤ 4194304 := LRd.le (RKept.known (d := k) (S.arg hk))
        refine id (S.appFlat (α := Bool) o33 ((RKept.known (d := k) (S.arg hk))) (fun _ _ h => h) (by' := 1) (d := 6) (lx := 0) (ly := (k.known).length) rfl rfl (by kernel_rfl) (show _ ≤ 4194304 by simp only [List.length_append, List.length_cons, List.length_nil]; omega) ?_)
        clear S; intro ac w N q61 F62 S up o63 d64
        have hb66 := fun b h => (⟨(up b (hb59 b h).1 (hb59 b h).2.2.1).1, (up b (hb59 b h).1 (hb59 b h).2.2.1).2.trans (hb59 b h).2.1, (hb59 b h).2.2.2⟩ : _ ∧ _ ∧ _)
        refine WD.keep S (fun b h => ⟨(hb66 b h).1, (hb66 b h).2.1⟩) rfl ?_
        have d67 : Disj F56 F62 := d64 _ (Disj.symm d60) o57.sub
        replace o57 := o57.upF (Disj.symm d60) up
        clear up d64
        refine WD.one (i := 7) (by kernel_rfl) ?_
        have b72 : (k.slots).length ≤ 4194304 := LRd.le (RKept.slots (d := k) (S.arg hk))
        refine id (S.appFlat (α := TSlot) o57 ((RKept.slots (d := k) (S.arg hk))) (fun _ _ h => h) (by' := 16) (d := 10) (lx := 0) (ly := (k.slots).length) rfl rfl (by kernel_rfl) (show _ ≤ 4194304 by simp only [List.length_append, List.length_cons, List.length_nil]; omega) ?_)
        clear S; intro ac w N q68 F69 S up o70 d71
        have hb73 := fun b h => (⟨(up b (hb66 b h).1 (hb66 b h).2.2).1, (up b (hb66 b h).1 (hb66 b h).2.2).2.trans (hb66 b h).2.1⟩ : _ ∧ _)
        refine WD.next S hb73 rfl ?_
        have d74 : Disj F62 F69 := d71 _ (Disj.symm d67) o63.sub
        replace o63 := o63.upF (Disj.symm d67) up
        clear up d71
        refine S.hoist (i := 8) (path := [8]) (keep := [2, 11]) (m := 2) (σ' := ⟨[(2, .p 1 0), (11, .v (GT.val (α := TKept) (⟨(([] : List Bool) ++ k.known), (([] : List TSlot) ++ k.slots)⟩ : TKept) (⟨q61, q68⟩ : PKept)))], [GT.cells (α := TKept) k pk, [slv (([] : List Bool)).length (GT.pdflt (α := List Bool)).1, slv (([] : List TSlot)).length (GT.pdflt (α := List TSlot)).1]]⟩) (by kernel_rfl) (by kernel_rfl) (.cons (Q_sem (s := Instr.build 106 [(0, slv ((([] : List Bool) ++ k.known)).length q61.1), (1, slv ((([] : List TSlot) ++ k.slots)).length q68.1)].toArray) (v := .agg [slv ((([] : List Bool) ++ k.known)).length q61.1, slv ((([] : List TSlot) ++ k.slots)).length q68.1].toArray) (fun w => by kernel_rfl)) .nil) (by kernel_rfl) ?_
        clear S; intro ac S
        refine WD.one (i := 9) (by kernel_rfl) ?_
        refine S.stepq (i := 9) (keep := [2]) (m := 2) (σ' := ⟨[(2, .p 1 0)], [GT.cells (α := TKept) k pk, [slv ((([] : List Bool) ++ k.known)).length q61.1, slv ((([] : List TSlot) ++ k.slots)).length q68.1]]⟩) .nil (by kernel_rfl) ?_
        clear S; intro ac w β S hβ
        refine WD.last (by kernel_rfl) ?_
        clear hβ
        refine WD.done (by kernel_rfl) ?_ _
        replace S := S.prune (keep := [2]) (m := 2) (σ' := ⟨[(2, .p 1 0)], [GT.cells (α := TKept) k pk, [slv ((([] : List Bool) ++ k.known)).length q61.1, slv ((([] : List TSlot) ++ k.slots)).length q68.1]]⟩) (by kernel_rfl)
        exact ⟨rfl, q61, F62, q68, F69, _, _, _, S.cast (by kernel_rfl), o63, o70, d74⟩
    · refine id (S.bs0 (α := TSlot) (d := 7) (by kernel_rfl) ?_)
      clear S; intro ac w N q75 F76 S up o77 d78
      have hb79 := fun b h => (⟨(up b h).1, (up b h).2, d78 b h⟩ : _ ∧ _ ∧ _)
      refine WD.keep S up rfl ?_
      clear up d78
      refine WD.one (i := 0) (by kernel_rfl) ?_
      refine id (S.bs0 (α := Bool) (d := 3) (by kernel_rfl) ?_)
      clear S; intro ac w N q80 F81 S up o82 d83
      have hb84 := fun b h => (⟨(up b (hb79 b h).1).1, (up b (hb79 b h).1).2.trans (hb79 b h).2.1, (hb79 b h).2.2, d83 b (hb79 b h).1⟩ : _ ∧ _ ∧ _ ∧ _)
      refine WD.keep S (fun b h => ⟨(hb84 b h).1, (hb84 b h).2.1⟩) rfl ?_
      have d85 : Disj F76 F81 := fun b x y => d83 b (o77.sub b x) y
      replace o77 := o77.up up
      clear up d83
      refine WD.one (i := 3) (by kernel_rfl) ?_
      have b90 : (k.known).length ≤ 4194304 := LRd.le (RKept.known (d := k) (S.arg hk))
      refine id (S.appFlat (α := Bool) o82 ((RKept.known (d := k) (S.arg hk))) (fun _ _ h => h) (by' := 1) (d := 6) (lx := 0) (ly := (k.known).length) rfl rfl (by kernel_rfl) (show _ ≤ 4194304 by simp only [List.length_append, List.length_cons, List.length_nil]; omega) ?_)
      clear S; intro ac w N q86 F87 S up o88 d89
      have hb91 := fun b h => (⟨(up b (hb84 b h).1 (hb84 b h).2.2.2).1, (up b (hb84 b h).1 (hb84 b h).2.2.2).2.trans (hb84 b h).2.1, (hb84 b h).2.2.1⟩ : _ ∧ _ ∧ _)
      refine WD.keep S (fun b h => ⟨(hb91 b h).1, (hb91 b h).2.1⟩) rfl ?_
      have d92 : Disj F76 F87 := d89 _ d85 o77.sub
      replace o77 := o77.upF d85 up
      clear up d89
      refine WD.one (i := 7) (by kernel_rfl) ?_
      have b97 : (k.slots).length ≤ 4194304 := LRd.le (RKept.slots (d := k) (S.arg hk))
      refine id (S.appFlat (α := TSlot) o77 ((RKept.slots (d := k) (S.arg hk))) (fun _ _ h => h) (by' := 16) (d := 10) (lx := 0) (ly := (k.slots).length) rfl rfl (by kernel_rfl) (show _ ≤ 4194304 by simp only [List.length_append, List.length_cons, List.length_nil]; omega) ?_)
      clear S; intro ac w N q93 F94 S up o95 d96
      have hb98 := fun b h => (⟨(up b (hb91 b h).1 (hb91 b h).2.2).1, (up b (hb91 b h).1 (hb91 b h).2.2).2.trans (hb91 b h).2.1⟩ : _ ∧ _)
      refine WD.next S hb98 rfl ?_
      have d99 : Disj F87 F94 := d96 _ (Disj.symm d92) o88.sub
      replace o88 := o88.upF (Disj.symm d92) up
      clear up d96
      refine S.hoist (i := 8) (path := [8]) (keep := [2, 11]) (m := 2) (σ' := ⟨[(2, .p 1 0), (11, .v (GT.val (α := TKept) (⟨(([] : List Bool) ++ k.known), (([] : List TSlot) ++ k.slots)⟩ : TKept) (⟨q86, q93⟩ : PKept)))], [GT.cells (α := TKept) k pk, [slv (([] : List Bool)).length (GT.pdflt (α := List Bool)).1, slv (([] : List TSlot)).length (GT.pdflt (α := List TSlot)).1]]⟩) (by kernel_rfl) (by kernel_rfl) (.cons (Q_sem (s := Instr.build 106 [(0, slv ((([] : List Bool) ++ k.known)).length q86.1), (1, slv ((([] : List TSlot) ++ k.slots)).length q93.1)].toArray) (v := .agg [slv ((([] : List Bool) ++ k.known)).length q86.1, slv ((([] : List TSlot) ++ k.slots)).length q93.1].toArray) (fun w => by kernel_rfl)) .nil) (by kernel_rfl) ?_
      clear S; intro ac S
      refine WD.one (i := 9) (by kernel_rfl) ?_
      refine S.stepq (i := 9) (keep := [2]) (m := 2) (σ' := ⟨[(2, .p 1 0)], [GT.cells (α := TKept) k pk, [slv ((([] : List Bool) ++ k.known)).length q86.1, slv ((([] : List TSlot) ++ k.slots)).length q93.1]]⟩) .nil (by kernel_rfl) ?_
      clear S; intro ac w β S hβ
      refine WD.last (by kernel_rfl) ?_
      clear hβ
      refine WD.done (by kernel_rfl) ?_ _
      replace S := S.prune (keep := [2]) (m := 2) (σ' := ⟨[(2, .p 1 0)], [GT.cells (α := TKept) k pk, [slv ((([] : List Bool) ++ k.known)).length q86.1, slv ((([] : List TSlot) ++ k.slots)).length q93.1]]⟩) (by kernel_rfl)
      exact ⟨rfl, q86, F87, q93, F94, _, _, _, S.cast (by kernel_rfl), o88, o95, d99⟩
  clear S
  rintro ac w ⟨q25, F26, q28, F29, u, N, β, S, o27, o30, d100⟩
  refine id (nx_then ?_)
  refine wp_ret ?_
  refine S.ret (vs := [GT.val (α := TKept) (⟨(([] : List Bool) ++ k.known), (([] : List TSlot) ++ k.slots)⟩ : TKept) (⟨q25, q28⟩ : PKept)]) (by kernel_rfl) ?_
  have o101 := ow_Kept (x := (⟨(([] : List Bool) ++ k.known), (([] : List TSlot) ++ k.slots)⟩ : TKept)) (p := (⟨q25, q28⟩ : PKept)) o27 o30 d100 
  exact ret1_of S (show k = (⟨(([] : List Bool) ++ k.known), (([] : List TSlot) ++ k.slots)⟩ : TKept) by clear S; (first | rfl | simp)) rfl o101

set_option maxRecDepth 100000 in
theorem c_spec_l21Mon (w0 : World) (m : TMon) (pm : PMon) (hm : GT.rd KK (Lt w0.heap.size) w0 m pm) : Calls Go.Proofs.Try.prog 99 [GT.val (α := TMon) m pm].toArray w0 (Ret1 NoB w0 (m : TMon)) := by
  refine Calls.walk (args := [GT.val (α := TMon) m pm]) NoB Go.Proofs.Try.func99 rfl rfl ?_
  intro ac β S
  have hlem_outer : m.outer.length ≤ 4194304 := LRd.le (RMon.outer (d := m) hm)
  have hlem_out : m.out.length ≤ 4194304 := LRd.le (RMon.out (d := m) hm)
  have hlem_dirty : m.dirty.length ≤ 4194304 := LRd.le (RMon.dirty (d := m) hm)
  have hlem_guests : m.guests.length ≤ 4194304 := LRd.le (RMon.guests (d := m) hm)
  have hlem_outs : m.outs.length ≤ 4194304 := LRd.le (RMon.outs (d := m) hm)
  have hlem_tables : m.tables.length ≤ 4194304 := LRd.le (RMon.tables (d := m) hm)
  refine wp_seq ?_
  refine RG.start ?_
  refine S.quiet (k := 2) (keep := [1, 2]) (m := 2) (σ' := ⟨[(1, .p 0 0), (2, .p 1 0)], [GT.cells (α := TMon) m pm, [slv (([] : List TSlot)).length (GT.pdflt (α := List TSlot)).1, slv (([] : List (List Int))).length (GT.pdflt (α := List (List Int))).1, slv (([] : List Bool)).length (GT.pdflt (α := List Bool)).1, slv (([] : List TGuest)).length (GT.pdflt (α := List TGuest)).1, slv (([] : List Int)).length (GT.pdflt (α := List Int)).1, I 0, I 0, slv (([] : List TKept)).length (GT.pdflt (α := List TKept)).1, I 0]]⟩) .nil (by kernel_rfl) ?_
  clear S; intro ac w β S
  refine RG.done rfl (nx_then ?_)
  refine wp_seq ?_
  refine RG.start ?_
  refine RG.op rfl (S.bs0 (α := TSlot) (d := 5) (by kernel_rfl) ?_)
  clear S; intro ac w N q1 F2 S up o3 d4
  clear up d4
  refine S.quiet (k := 2) (keep := [1, 2, 5, 7]) (m := 2) (σ' := ⟨[(1, .p 0 0), (2, .p 1 0), (5, .v (slv 0 q1.1)), (7, .v (slv (m.outer).length pm.outer.1))], [GT.cells (α := TMon) m pm, [slv (([] : List TSlot)).length (GT.pdflt (α := List TSlot)).1, slv (([] : List (List Int))).length (GT.pdflt (α := List (List Int))).1, slv (([] : List Bool)).length (GT.pdflt (α := List Bool)).1, slv (([] : List TGuest)).length (GT.pdflt (α := List TGuest)).1, slv (([] : List Int)).length (GT.pdflt (α := List Int)).1, I 0, I 0, slv (([] : List TKept)).length (GT.pdflt (α := List TKept)).1, I 0]]⟩) .nil (by kernel_rfl) ?_
  clear S; intro ac w β S
  have b9 : (m.outer).length ≤ 4194304 := LRd.le (RMon.outer (d := m) (S.arg hm))
  refine RG.op rfl (S.appFlat (α := TSlot) o3 ((RMon.outer (d := m) (S.arg hm))) (fun _ _ h => h) (by' := 16) (d := 8) (lx := 0) (ly := (m.outer).length) rfl rfl (by kernel_rfl) (show _ ≤ 4194304 by simp only [List.length_append, List.length_cons, List.length_nil]; omega) ?_)
  clear S; intro ac w N q5 F6 S up o7 d8
  clear up d8
  refine S.quiet (k := 2) (keep := [1, 2]) (m := 2) (σ' := ⟨[(1, .p 0 0), (2, .p 1 0)], [[slv ((([] : List TSlot) ++ m.outer)).length q5.1, slv (m.out).length pm.out.1, slv (m.dirty).length pm.dirty.1, slv (m.guests).length pm.guests.1, slv (m.outs).length pm.outs.1, I m.pend, I m.traps, slv (m.tables).length pm.tables.1, I m.owned], [slv (([] : List TSlot)).length (GT.pdflt (α := List TSlot)).1, slv (([] : List (List Int))).length (GT.pdflt (α := List (List Int))).1, slv (([] : List Bool)).length (GT.pdflt (α := List Bool)).1, slv (([] : List TGuest)).length (GT.pdflt (α := List TGuest)).1, slv (([] : List Int)).length (GT.pdflt (α := List Int)).1, I 0, I 0, slv (([] : List TKept)).length (GT.pdflt (α := List TKept)).1, I 0]]⟩) .nil (by kernel_rfl) ?_
  clear S; intro ac w β S
  refine RG.done rfl (nx_then ?_)
  refine wp_seq ?_
  refine RG.start ?_
  refine S.quiet (k := 2) (keep := [1, 2, 11]) (m := 2) (σ' := ⟨[(1, .p 0 0), (2, .p 1 0), (11, .v (slv (m.out).length pm.out.1))], [[slv ((([] : List TSlot) ++ m.outer)).length q5.1, slv (m.out).length pm.out.1, slv (m.dirty).length pm.dirty.1, slv (m.guests).length pm.guests.1, slv (m.outs).length pm.outs.1, I m.pend, I m.traps, slv (m.tables).length pm.tables.1, I m.owned], [slv (([] : List TSlot)).length (GT.pdflt (α := List TSlot)).1, slv (([] : List (List Int))).length (GT.pdflt (α := List (List Int))).1, slv (([] : List Bool)).length (GT.pdflt (α := List Bool)).1, slv (([] : List TGuest)).length (GT.pdflt (α := List TGuest)).1, slv (([] : List Int)).length (GT.pdflt (α := List Int)).1, I 0, I 0, slv (([] : List TKept)).length (GT.pdflt (α := List TKept)).1, I 0]]⟩) .nil (by kernel_rfl) ?_
  clear S; intro ac w β S
  refine RG.op rfl (S.call1 (r := m.out) (d := 12) (c_spec_l04Copy w m.out pm.out (S.rd (RMon.out (d := m) (S.arg hm)))) (by kernel_rfl) rfl ?_)
  clear S; intro ac w N q10 F11 S up o12 d13
  have d14 : Disj F6 F11 := fun b x y => d13 b (o7.sub b x) y
  replace o7 := o7.up up
  clear up d13
  refine S.quiet (k := 2) (keep := [1, 2]) (m := 2) (σ' := ⟨[(1, .p 0 0), (2, .p 1 0)], [[slv ((([] : List TSlot) ++ m.outer)).length q5.1, slv (m.out).length q10.1, slv (m.dirty).length pm.dirty.1, slv (m.guests).length pm.guests.1, slv (m.outs).length pm.outs.1, I m.pend, I m.traps, slv (m.tables).length pm.tables.1, I m.owned], [slv (([] : List TSlot)).length (GT.pdflt (α := List TSlot)).1, slv (([] : List (List Int))).length (GT.pdflt (α := List (List Int))).1, slv (([] : List Bool)).length (GT.pdflt (α := List Bool)).1, slv (([] : List TGuest)).length (GT.pdflt (α := List TGuest)).1, slv (([] : List Int)).length (GT.pdflt (α := List Int)).1, I 0, I 0, slv (([] : List TKept)).length (GT.pdflt (α := List TKept)).1, I 0]]⟩) .nil (by kernel_rfl) ?_
  clear S; intro ac w β S
  refine RG.done rfl (nx_then ?_)
  refine wp_seq ?_
  refine RG.start ?_
  refine RG.op rfl (S.bs0 (α := Bool) (d := 14) (by kernel_rfl) ?_)
  clear S; intro ac w N q15 F16 S up o17 d18
  have d19 : Disj F6 F16 := fun b x y => d18 b (o7.sub b x) y
  have d20 : Disj F11 F16 := fun b x y => d18 b (o12.sub b x) y
  replace o7 := o7.up up
  replace o12 := o12.up up
  clear up d18
  refine S.quiet (k := 2) (keep := [1, 2, 14, 16]) (m := 2) (σ' := ⟨[(1, .p 0 0), (2, .p 1 0), (14, .v (slv 0 q15.1)), (16, .v (slv (m.dirty).length pm.dirty.1))], [[slv ((([] : List TSlot) ++ m.outer)).length q5.1, slv (m.out).length q10.1, slv (m.dirty).length pm.dirty.1, slv (m.guests).length pm.guests.1, slv (m.outs).length pm.outs.1, I m.pend, I m.traps, slv (m.tables).length pm.tables.1, I m.owned], [slv (([] : List TSlot)).length (GT.pdflt (α := List TSlot)).1, slv (([] : List (List Int))).length (GT.pdflt (α := List (List Int))).1, slv (([] : List Bool)).length (GT.pdflt (α := List Bool)).1, slv (([] : List TGuest)).length (GT.pdflt (α := List TGuest)).1, slv (([] : List Int)).length (GT.pdflt (α := List Int)).1, I 0, I 0, slv (([] : List TKept)).length (GT.pdflt (α := List TKept)).1, I 0]]⟩) .nil (by kernel_rfl) ?_
  clear S; intro ac w β S
  have b25 : (m.dirty).length ≤ 4194304 := LRd.le (RMon.dirty (d := m) (S.arg hm))
  refine RG.op rfl (S.appFlat (α := Bool) o17 ((RMon.dirty (d := m) (S.arg hm))) (fun _ _ h => h) (by' := 1) (d := 17) (lx := 0) (ly := (m.dirty).length) rfl rfl (by kernel_rfl) (show _ ≤ 4194304 by simp only [List.length_append, List.length_cons, List.length_nil]; omega) ?_)
  clear S; intro ac w N q21 F22 S up o23 d24
  have d26 : Disj F6 F22 := d24 _ d19 o7.sub
  have d27 : Disj F11 F22 := d24 _ d20 o12.sub
  replace o7 := o7.upF d19 up
  replace o12 := o12.upF d20 up
  clear up d24
  refine S.quiet (k := 2) (keep := [1, 2]) (m := 2) (σ' := ⟨[(1, .p 0 0), (2, .p 1 0)], [[slv ((([] : List TSlot) ++ m.outer)).length q5.1, slv (m.out).length q10.1, slv ((([] : List Bool) ++ m.dirty)).length q21.1, slv (m.guests).length pm.guests.1, slv (m.outs).length pm.outs.1, I m.pend, I m.traps, slv (m.tables).length pm.tables.1, I m.owned], [slv (([] : List TSlot)).length (GT.pdflt (α := List TSlot)).1, slv (([] : List (List Int))).length (GT.pdflt (α := List (List Int))).1, slv (([] : List Bool)).length (GT.pdflt (α := List Bool)).1, slv (([] : List TGuest)).length (GT.pdflt (α := List TGuest)).1, slv (([] : List Int)).length (GT.pdflt (α := List Int)).1, I 0, I 0, slv (([] : List TKept)).length (GT.pdflt (α := List TKept)).1, I 0]]⟩) .nil (by kernel_rfl) ?_
  clear S; intro ac w β S
  refine RG.done rfl (nx_then ?_)
  refine wp_seq ?_
  refine RG.start ?_
  refine S.quiet (k := 2) (keep := [1, 2, 20]) (m := 2) (σ' := ⟨[(1, .p 0 0), (2, .p 1 0), (20, .v (slv (m.guests).length pm.guests.1))], [[slv ((([] : List TSlot) ++ m.outer)).length q5.1, slv (m.out).length q10.1, slv ((([] : List Bool) ++ m.dirty)).length q21.1, slv (m.guests).length pm.guests.1, slv (m.outs).length pm.outs.1, I m.pend, I m.traps, slv (m.tables).length pm.tables.1, I m.owned], [slv (([] : List TSlot)).length (GT.pdflt (α := List TSlot)).1, slv (([] : List (List Int))).length (GT.pdflt (α := List (List Int))).1, slv (([] : List Bool)).length (GT.pdflt (α := List Bool)).1, slv (([] : List TGuest)).length (GT.pdflt (α := List TGuest)).1, slv (([] : List Int)).length (GT.pdflt (α := List Int)).1, I 0, I 0, slv (([] : List TKept)).length (GT.pdflt (α := List TKept)).1, I 0]]⟩) .nil (by kernel_rfl) ?_
  clear S; intro ac w β S
  refine RG.op rfl (S.call1 (r := m.guests) (d := 21) (c_spec_l17Guests w m.guests pm.guests (S.rd (RMon.guests (d := m) (S.arg hm)))) (by kernel_rfl) rfl ?_)
  clear S; intro ac w N q28 F29 S up o30 d31
  have d32 : Disj F6 F29 := fun b x y => d31 b (o7.sub b x) y
  have d33 : Disj F11 F29 := fun b x y => d31 b (o12.sub b x) y
  have d34 : Disj F22 F29 := fun b x y => d31 b (o23.sub b x) y
  replace o7 := o7.up up
  replace o12 := o12.up up
  replace o23 := o23.up up
  clear up d31
  refine S.quiet (k := 2) (keep := [1, 2]) (m := 2) (σ' := ⟨[(1, .p 0 0), (2, .p 1 0)], [[slv ((([] : List TSlot) ++ m.outer)).length q5.1, slv (m.out).length q10.1, slv ((([] : List Bool) ++ m.dirty)).length q21.1, slv (m.guests).length q28.1, slv (m.outs).length pm.outs.1, I m.pend, I m.traps, slv (m.tables).length pm.tables.1, I m.owned], [slv (([] : List TSlot)).length (GT.pdflt (α := List TSlot)).1, slv (([] : List (List Int))).length (GT.pdflt (α := List (List Int))).1, slv (([] : List Bool)).length (GT.pdflt (α := List Bool)).1, slv (([] : List TGuest)).length (GT.pdflt (α := List TGuest)).1, slv (([] : List Int)).length (GT.pdflt (α := List Int)).1, I 0, I 0, slv (([] : List TKept)).length (GT.pdflt (α := List TKept)).1, I 0]]⟩) .nil (by kernel_rfl) ?_
  clear S; intro ac w β S
  refine RG.done rfl (nx_then ?_)
  refine wp_seq ?_
  refine RG.start ?_
  refine RG.op rfl (S.bs0 (α := Int) (d := 23) (by kernel_rfl) ?_)
  clear S; intro ac w N q35 F36 S up o37 d38
  have d39 : Disj F6 F36 := fun b x y => d38 b (o7.sub b x) y
  have d40 : Disj F11 F36 := fun b x y => d38 b (o12.sub b x) y
  have d41 : Disj F22 F36 := fun b x y => d38 b (o23.sub b x) y
  have d42 : Disj F29 F36 := fun b x y => d38 b (o30.sub b x) y
  replace o7 := o7.up up
  replace o12 := o12.up up
  replace o23 := o23.up up
  replace o30 := o30.up up
  clear up d38
  refine S.quiet (k := 2) (keep := [1, 2, 23, 25]) (m := 2) (σ' := ⟨[(1, .p 0 0), (2, .p 1 0), (23, .v (slv 0 q35.1)), (25, .v (slv (m.outs).length pm.outs.1))], [[slv ((([] : List TSlot) ++ m.outer)).length q5.1, slv (m.out).length q10.1, slv ((([] : List Bool) ++ m.dirty)).length q21.1, slv (m.guests).length q28.1, slv (m.outs).length pm.outs.1, I m.pend, I m.traps, slv (m.tables).length pm.tables.1, I m.owned], [slv (([] : List TSlot)).length (GT.pdflt (α := List TSlot)).1, slv (([] : List (List Int))).length (GT.pdflt (α := List (List Int))).1, slv (([] : List Bool)).length (GT.pdflt (α := List Bool)).1, slv (([] : List TGuest)).length (GT.pdflt (α := List TGuest)).1, slv (([] : List Int)).length (GT.pdflt (α := List Int)).1, I 0, I 0, slv (([] : List TKept)).length (GT.pdflt (α := List TKept)).1, I 0]]⟩) .nil (by kernel_rfl) ?_
  clear S; intro ac w β S
  have b47 : (m.outs).length ≤ 4194304 := LRd.le (RMon.outs (d := m) (S.arg hm))
  refine RG.op rfl (S.appFlat (α := Int) o37 ((RMon.outs (d := m) (S.arg hm))) (fun _ _ h => h) (by' := 8) (d := 26) (lx := 0) (ly := (m.outs).length) rfl rfl (by kernel_rfl) (show _ ≤ 4194304 by simp only [List.length_append, List.length_cons, List.length_nil]; omega) ?_)
  clear S; intro ac w N q43 F44 S up o45 d46
  have d48 : Disj F6 F44 := d46 _ d39 o7.sub
  have d49 : Disj F11 F44 := d46 _ d40 o12.sub
  have d50 : Disj F22 F44 := d46 _ d41 o23.sub
  have d51 : Disj F29 F44 := d46 _ d42 o30.sub
  replace o7 := o7.upF d39 up
  replace o12 := o12.upF d40 up
  replace o23 := o23.upF d41 up
  replace o30 := o30.upF d42 up
  clear up d46
  refine S.quiet (k := 2) (keep := [1, 2]) (m := 2) (σ' := ⟨[(1, .p 0 0), (2, .p 1 0)], [[slv ((([] : List TSlot) ++ m.outer)).length q5.1, slv (m.out).length q10.1, slv ((([] : List Bool) ++ m.dirty)).length q21.1, slv (m.guests).length q28.1, slv ((([] : List Int) ++ m.outs)).length q43.1, I m.pend, I m.traps, slv (m.tables).length pm.tables.1, I m.owned], [slv (([] : List TSlot)).length (GT.pdflt (α := List TSlot)).1, slv (([] : List (List Int))).length (GT.pdflt (α := List (List Int))).1, slv (([] : List Bool)).length (GT.pdflt (α := List Bool)).1, slv (([] : List TGuest)).length (GT.pdflt (α := List TGuest)).1, slv (([] : List Int)).length (GT.pdflt (α := List Int)).1, I 0, I 0, slv (([] : List TKept)).length (GT.pdflt (α := List TKept)).1, I 0]]⟩) .nil (by kernel_rfl) ?_
  clear S; intro ac w β S
  refine RG.done rfl (nx_then ?_)
  refine wp_seq ?_
  refine RG.start ?_
  refine RG.op rfl (S.bs0 (α := TKept) (d := 28) (by kernel_rfl) ?_)
  clear S; intro ac w N q52 F53 S up o54 d55
  have d56 : Disj F6 F53 := fun b x y => d55 b (o7.sub b x) y
  have d57 : Disj F11 F53 := fun b x y => d55 b (o12.sub b x) y
  have d58 : Disj F22 F53 := fun b x y => d55 b (o23.sub b x) y
  have d59 : Disj F29 F53 := fun b x y => d55 b (o30.sub b x) y
  have d60 : Disj F44 F53 := fun b x y => d55 b (o45.sub b x) y
  replace o7 := o7.up up
  replace o12 := o12.up up
  replace o23 := o23.up up
  replace o30 := o30.up up
  replace o45 := o45.up up
  clear up d55
  refine S.quiet (k := 1) (keep := [1, 2, 3]) (m := 2) (σ' := ⟨[(1, .p 0 0), (2, .p 1 0), (3, .v (slv 0 q52.1))], [[slv ((([] : List TSlot) ++ m.outer)).length q5.1, slv (m.out).length q10.1, slv ((([] : List Bool) ++ m.dirty)).length q21.1, slv (m.guests).length q28.1, slv ((([] : List Int) ++ m.outs)).length q43.1, I m.pend, I m.traps, slv (m.tables).length pm.tables.1, I m.owned], [slv (([] : List TSlot)).length (GT.pdflt (α := List TSlot)).1, slv (([] : List (List Int))).length (GT.pdflt (α := List (List Int))).1, slv (([] : List Bool)).length (GT.pdflt (α := List Bool)).1, slv (([] : List TGuest)).length (GT.pdflt (α := List TGuest)).1, slv (([] : List Int)).length (GT.pdflt (α := List Int)).1, I 0, I 0, slv (([] : List TKept)).length (GT.pdflt (α := List TKept)).1, I 0]]⟩) .nil (by kernel_rfl) ?_
  clear S; intro ac w β S
  refine RG.done rfl (nx_then ?_)
  refine wp_seq ?_
  refine wp_seq ?_
  refine RG.start ?_
  refine S.quiet (k := 1) (keep := [1, 2, 3, 4]) (m := 2) (σ' := ⟨[(1, .p 0 0), (2, .p 1 0), (3, .v (slv 0 q52.1)), (4, .v (I 0))], [[slv ((([] : List TSlot) ++ m.outer)).length q5.1, slv (m.out).length q10.1, slv ((([] : List Bool) ++ m.dirty)).length q21.1, slv (m.guests).length q28.1, slv ((([] : List Int) ++ m.outs)).length q43.1, I m.pend, I m.traps, slv (m.tables).length pm.tables.1, I m.owned], [slv (([] : List TSlot)).length (GT.pdflt (α := List TSlot)).1, slv (([] : List (List Int))).length (GT.pdflt (α := List (List Int))).1, slv (([] : List Bool)).length (GT.pdflt (α := List Bool)).1, slv (([] : List TGuest)).length (GT.pdflt (α := List TGuest)).1, slv (([] : List Int)).length (GT.pdflt (α := List Int)).1, I 0, I 0, slv (([] : List TKept)).length (GT.pdflt (α := List TKept)).1, I 0]]⟩) .nil (by kernel_rfl) ?_
  clear S; intro ac w β S
  refine RG.done rfl (nx_then ?_)
  refine wp_block ?_
  replace S := S.prune (keep := [1, 2, 3, 4]) (m := 2) (σ' := ⟨[(1, .p 0 0), (2, .p 1 0), (3, .v (slv 0 q52.1)), (4, .v (I 0))], [[slv ((([] : List TSlot) ++ m.outer)).length q5.1, slv (m.out).length q10.1, slv ((([] : List Bool) ++ m.dirty)).length q21.1, slv (m.guests).length q28.1, slv ((([] : List Int) ++ m.outs)).length q43.1, I m.pend, I m.traps, slv (m.tables).length pm.tables.1, I m.owned], [slv (([] : List TSlot)).length (GT.pdflt (α := List TSlot)).1, slv (([] : List (List Int))).length (GT.pdflt (α := List (List Int))).1, slv (([] : List Bool)).length (GT.pdflt (α := List Bool)).1, slv (([] : List TGuest)).length (GT.pdflt (α := List TGuest)).1, slv (([] : List Int)).length (GT.pdflt (α := List Int)).1, I 0, I 0, slv (([] : List TKept)).length (GT.pdflt (α := List TKept)).1, I 0]]⟩) (by kernel_rfl)
  refine wp_loop_down (fun mm ac w => ∃ (k : Nat) (acc : List TKept) (q61 : GT.Ptr (List TKept)) (F62 : Bl) (u : World) (N : Bl) (β : Nat → Nat), mm = (m.tables).length - k ∧ (k ≤ (m.tables).length) ∧ (acc = (m.tables).take k) ∧ St Go.Proofs.Try.prog Go.Proofs.Try.f99.ntmps w0 NoB u N β ⟨[(1, .p 0 0), (2, .p 1 0), (3, .v (slv (acc).length q61.1)), (4, .v (I (k : Int)))], [[slv ((([] : List TSlot) ++ m.outer)).length q5.1, slv (m.out).length q10.1, slv ((([] : List Bool) ++ m.dirty)).length q21.1, slv (m.guests).length q28.1, slv ((([] : List Int) ++ m.outs)).length q43.1, I m.pend, I m.traps, slv (m.tables).length pm.tables.1, I m.owned], [slv (([] : List TSlot)).length (GT.pdflt (α := List TSlot)).1, slv (([] : List (List Int))).length (GT.pdflt (α := List (List Int))).1, slv (([] : List Bool)).length (GT.pdflt (α := List Bool)).1, slv (([] : List TGuest)).length (GT.pdflt (α := List TGuest)).1, slv (([] : List Int)).length (GT.pdflt (α := List Int)).1, I 0, I 0, slv (([] : List TKept)).length (GT.pdflt (α := List TKept)).1, I 0]]⟩ ac w ∧ Ow w0 NoB u N F62 acc q61 ∧ Ow w0 NoB u N F6 (([] : List TSlot) ++ m.outer) q5 ∧ Ow w0 NoB u N F11 m.out q10 ∧ Ow w0 NoB u N F22 (([] : List Bool) ++ m.dirty) q21 ∧ Ow w0 NoB u N F29 m.guests q28 ∧ Ow w0 NoB u N F44 (([] : List Int) ++ m.outs) q43 ∧ Disj F62 F6 ∧ Disj F62 F11 ∧ Disj F62 F22 ∧ Disj F62 F29 ∧ Disj F62 F44) _ ⟨0, ([] : List TKept), q52, F53, _, _, _, rfl, (by first | omega | (simp; done) | (simp; omega)), (by simp), S.cast (by kernel_rfl), o54, o7, o12, o23, o30, o45, (Disj.symm d56), (Disj.symm d57), (Disj.symm d58), (Disj.symm d59), (Disj.symm d60)⟩ ?_
  clear S o12 o23 o30 o45 o54 o7
  rintro mm ac w ⟨k, acc, q61, F62, u, N, β, rfl, hk, hacc, S, o63, o7, o12, o23, o30, o45, d64, d65, d66, d67, d68⟩
  have hlacc : acc.length = k := by rw [hacc]; simp; omega
  refine wp_seq ?_
  refine wp_seq ?_
  refine RG.start ?_
  refine S.quiet (k := 5) (keep := [1, 2, 3, 4, 33]) (m := 2) (σ' := ⟨[(1, .p 0 0), (2, .p 1 0), (3, .v (slv (acc).length q61.1)), (4, .v (I (k : Int))), (33, .v (B (decide ((k : Int) < ((m.tables).length : Int)))))], [[slv ((([] : List TSlot) ++ m.outer)).length q5.1, slv (m.out).length q10.1, slv ((([] : List Bool) ++ m.dirty)).length q21.1, slv (m.guests).length q28.1, slv ((([] : List Int) ++ m.outs)).length q43.1, I m.pend, I m.traps, slv (m.tables).length pm.tables.1, I m.owned], [slv (([] : List TSlot)).length (GT.pdflt (α := List TSlot)).1, slv (([] : List (List Int))).length (GT.pdflt (α := List (List Int))).1, slv (([] : List Bool)).length (GT.pdflt (α := List Bool)).1, slv (([] : List TGuest)).length (GT.pdflt (α := List TGuest)).1, slv (([] : List Int)).length (GT.pdflt (α := List Int)).1, I 0, I 0, slv (([] : List TKept)).length (GT.pdflt (α := List TKept)).1, I 0]]⟩) .nil (by kernel_rfl) ?_
  clear S; intro ac w β S
  refine RG.done rfl (nx_then ?_)
  refine S.cond (e := (decide ((k : Int) < ((m.tables).length : Int)))) (by kernel_rfl) (fun h69 => ?_) (fun h69 => ?_)
  · have g70 : (k : Int) < ((m.tables).length : Int) := of_decide_eq_true h69
    refine wp_skip (nx_then ?_)
    refine wp_seq ?_
    refine wp_block ?_
    refine RG.start ?_
    refine S.quiet (k := 6) (keep := [1, 2, 4, 36, 41]) (m := 2) (σ' := ⟨[(1, .p 0 0), (2, .p 1 0), (4, .v (I (k : Int))), (36, .v (slv (acc).length q61.1)), (41, .v (GT.val (α := TKept) (el m.tables k) (pm.tables.2 k)))], [[slv ((([] : List TSlot) ++ m.outer)).length q5.1, slv (m.out).length q10.1, slv ((([] : List Bool) ++ m.dirty)).length q21.1, slv (m.guests).length q28.1, slv ((([] : List Int) ++ m.outs)).length q43.1, I m.pend, I m.traps, slv (m.tables).length pm.tables.1, I m.owned], [slv (([] : List TSlot)).length (GT.pdflt (α := List TSlot)).1, slv (([] : List (List Int))).length (GT.pdflt (α := List (List Int))).1, slv (([] : List Bool)).length (GT.pdflt (α := List Bool)).1, slv (([] : List TGuest)).length (GT.pdflt (α := List TGuest)).1, slv (([] : List Int)).length (GT.pdflt (α := List Int)).1, I 0, I 0, slv (([] : List TKept)).length (GT.pdflt (α := List TKept)).1, I 0]]⟩) (.cons (Q_idx (RMon.tables (d := m) (S.arg hm)) (l := (m.tables).length) (k := k) (i := (k : Int)) rfl rfl (by omega) Go.Proofs.Try.underlying48 (by kernel_rfl)) (.cons (Q_el (RMon.tables (d := m) (S.arg hm)) (t := 106) (k := k) (by omega) rfl (by kernel_rfl) (by kernel_rfl)) .nil)) (by kernel_rfl) ?_
    clear S; intro ac w β S
    refine RG.op rfl (S.call1 (r := (el m.tables k)) (d := 42) (c_spec_l07Copy w (el m.tables k) (pm.tables.2 k) (S.rd (LRd.el (RMon.tables (d := m) (S.arg hm)) k (by omega)))) (by kernel_rfl) rfl ?_)
    clear S; intro ac w N q71 F72 S up o73 d74
    have d75 : Disj F62 F72 := fun b x y => d74 b (o63.sub b x) y
    have d76 : Disj F6 F72 := fun b x y => d74 b (o7.sub b x) y
    have d77 : Disj F11 F72 := fun b x y => d74 b (o12.sub b x) y
    have d78 : Disj F22 F72 := fun b x y => d74 b (o23.sub b x) y
    have d79 : Disj F29 F72 := fun b x y => d74 b (o30.sub b x) y
    have d80 : Disj F44 F72 := fun b x y => d74 b (o45.sub b x) y
    replace o63 := o63.up up
    replace o7 := o7.up up
    replace o12 := o12.up up
    replace o23 := o23.up up
    replace o30 := o30.up up
    replace o45 := o45.up up
    clear up d74
    obtain ⟨F81, F84, o82, o85, s83, s86, d87⟩ := sp_Kept o73
    have o92 := ow_Kept (x := (el m.tables k)) (p := q71) o82 o85 d87 
    refine RG.op rfl (S.bs1 (α := TKept) (x := (el m.tables k)) (p := q71) o92.own o92.sub o92.young (d := 43) (by kernel_rfl) ?_)
    clear S; intro ac w N q88 F89 S up o90 d91
    have d93 : Disj F62 F89 := d91 _ (Disj.symm (Disj.or (Disj.part (Disj.symm d75) s83) (Disj.or (Disj.part (Disj.symm d75) s86) Disj.nob))) o63.sub
    have d94 : Disj F6 F89 := d91 _ (Disj.symm (Disj.or (Disj.part (Disj.symm d76) s83) (Disj.or (Disj.part (Disj.symm d76) s86) Disj.nob))) o7.sub
    have d95 : Disj F11 F89 := d91 _ (Disj.symm (Disj.or (Disj.part (Disj.symm d77) s83) (Disj.or (Disj.part (Disj.symm d77) s86) Disj.nob))) o12.sub
    have d96 : Disj F22 F89 := d91 _ (Disj.symm (Disj.or (Disj.part (Disj.symm d78) s83) (Disj.or (Disj.part (Disj.symm d78) s86) Disj.nob))) o23.sub
    have d97 : Disj F29 F89 := d91 _ (Disj.symm (Disj.or (Disj.part (Disj.symm d79) s83) (Disj.or (Disj.part (Disj.symm d79) s86) Disj.nob))) o30.sub
    have d98 : Disj F44 F89 := d91 _ (Disj.symm (Disj.or (Disj.part (Disj.symm d80) s83) (Disj.or (Disj.part (Disj.symm d80) s86) Disj.nob))) o45.sub
    replace o63 := o63.up up
    replace o7 := o7.up up
    replace o12 := o12.up up
    replace o23 := o23.up up
    replace o30 := o30.up up
    replace o45 := o45.up up
    clear up d91
    refine RG.op rfl (S.appOwn (α := TKept) o63 o90 d93 (by' := 48) (d := 44) (lx := (acc).length) (ly := 1) rfl rfl (by kernel_rfl) (show _ ≤ 4194304 by simp only [List.length_append, List.length_cons, List.length_nil]; omega) ?_)
    clear S; intro ac w N q99 F100 S up o101 d102
    have d103 : Disj F6 F100 := d102 _ (Disj.symm d64) d94 o7.sub
    have d104 : Disj F11 F100 := d102 _ (Disj.symm d65) d95 o12.sub
    have d105 : Disj F22 F100 := d102 _ (Disj.symm d66) d96 o23.sub
    have d106 : Disj F29 F100 := d102 _ (Disj.symm d67) d97 o30.sub
    have d107 : Disj F44 F100 := d102 _ (Disj.symm d68) d98 o45.sub
    replace o7 := o7.upF (Disj.symm d64) up
    replace o12 := o12.upF (Disj.symm d65) up
    replace o23 := o23.upF (Disj.symm d66) up
    replace o30 := o30.upF (Disj.symm d67) up
    replace o45 := o45.upF (Disj.symm d68) up
    clear up d102
    refine S.quiet (k := 1) (keep := [1, 2, 3, 4]) (m := 2) (σ' := ⟨[(1, .p 0 0), (2, .p 1 0), (3, .v (slv ((acc ++ [(el m.tables k)])).length q99.1)), (4, .v (I (k : Int)))], [[slv ((([] : List TSlot) ++ m.outer)).length q5.1, slv (m.out).length q10.1, slv ((([] : List Bool) ++ m.dirty)).length q21.1, slv (m.guests).length q28.1, slv ((([] : List Int) ++ m.outs)).length q43.1, I m.pend, I m.traps, slv (m.tables).length pm.tables.1, I m.owned], [slv (([] : List TSlot)).length (GT.pdflt (α := List TSlot)).1, slv (([] : List (List Int))).length (GT.pdflt (α := List (List Int))).1, slv (([] : List Bool)).length (GT.pdflt (α := List Bool)).1, slv (([] : List TGuest)).length (GT.pdflt (α := List TGuest)).1, slv (([] : List Int)).length (GT.pdflt (α := List Int)).1, I 0, I 0, slv (([] : List TKept)).length (GT.pdflt (α := List TKept)).1, I 0]]⟩) .nil (by kernel_rfl) ?_
    clear S; intro ac w β S
    refine RG.done rfl (nx_block (nx_then ?_))
    refine RG.start ?_
    refine S.quiet (k := 3) (keep := [1, 2, 3, 4]) (m := 2) (σ' := ⟨[(1, .p 0 0), (2, .p 1 0), (3, .v (slv ((acc ++ [(el m.tables k)])).length q99.1)), (4, .v (I ((k : Int) + 1)))], [[slv ((([] : List TSlot) ++ m.outer)).length q5.1, slv (m.out).length q10.1, slv ((([] : List Bool) ++ m.dirty)).length q21.1, slv (m.guests).length q28.1, slv ((([] : List Int) ++ m.outs)).length q43.1, I m.pend, I m.traps, slv (m.tables).length pm.tables.1, I m.owned], [slv (([] : List TSlot)).length (GT.pdflt (α := List TSlot)).1, slv (([] : List (List Int))).length (GT.pdflt (α := List (List Int))).1, slv (([] : List Bool)).length (GT.pdflt (α := List Bool)).1, slv (([] : List TGuest)).length (GT.pdflt (α := List TGuest)).1, slv (([] : List Int)).length (GT.pdflt (α := List Int)).1, I 0, I 0, slv (([] : List TKept)).length (GT.pdflt (α := List TKept)).1, I 0]]⟩) (.cons (Q_add (x := (k : Int)) (y := 1) ⟨by omega, by omega⟩) .nil) (by kernel_rfl) ?_
    clear S; intro ac w β S
    refine RG.done rfl (nx_then ?_)
    replace S := S.prune (keep := [1, 2, 3, 4]) (m := 2) (σ' := ⟨[(1, .p 0 0), (2, .p 1 0), (3, .v (slv ((acc ++ [(el m.tables k)])).length q99.1)), (4, .v (I ((k : Int) + 1)))], [[slv ((([] : List TSlot) ++ m.outer)).length q5.1, slv (m.out).length q10.1, slv ((([] : List Bool) ++ m.dirty)).length q21.1, slv (m.guests).length q28.1, slv ((([] : List Int) ++ m.outs)).length q43.1, I m.pend, I m.traps, slv (m.tables).length pm.tables.1, I m.owned], [slv (([] : List TSlot)).length (GT.pdflt (α := List TSlot)).1, slv (([] : List (List Int))).length (GT.pdflt (α := List (List Int))).1, slv (([] : List Bool)).length (GT.pdflt (α := List Bool)).1, slv (([] : List TGuest)).length (GT.pdflt (α := List TGuest)).1, slv (([] : List Int)).length (GT.pdflt (α := List Int)).1, I 0, I 0, slv (([] : List TKept)).length (GT.pdflt (α := List TKept)).1, I 0]]⟩) (by kernel_rfl)
    refine ⟨(m.tables).length - (k + 1), by omega, k + 1, (acc ++ [(el m.tables k)]), q99, F100, _, _, _, rfl, ?_, ?_, S.cast (by kernel_rfl), o101, o7, o12, o23, o30, o45, (Disj.symm d103), (Disj.symm d104), (Disj.symm d105), (Disj.symm d106), (Disj.symm d107)⟩
    · clear S; first | omega | (simp [*]; done) | (simp [*]; omega)
    · clear S; (first | (rw [take_el (by omega), hacc]; done) | (rw [take_el (by omega), hacc]; simp; done))
  · have g108 : ¬ ((k : Int) < ((m.tables).length : Int)) := of_decide_eq_false h69
    refine wp_exit (ex_then (ex_then (ex_hit (nx_then ?_))))
    refine wp_seq ?_
    refine RG.start ?_
    refine S.quiet (k := 3) (keep := [1, 2]) (m := 2) (σ' := ⟨[(1, .p 0 0), (2, .p 1 0)], [[slv ((([] : List TSlot) ++ m.outer)).length q5.1, slv (m.out).length q10.1, slv ((([] : List Bool) ++ m.dirty)).length q21.1, slv (m.guests).length q28.1, slv ((([] : List Int) ++ m.outs)).length q43.1, I m.pend, I m.traps, slv (acc).length q61.1, I m.owned], [slv (([] : List TSlot)).length (GT.pdflt (α := List TSlot)).1, slv (([] : List (List Int))).length (GT.pdflt (α := List (List Int))).1, slv (([] : List Bool)).length (GT.pdflt (α := List Bool)).1, slv (([] : List TGuest)).length (GT.pdflt (α := List TGuest)).1, slv (([] : List Int)).length (GT.pdflt (α := List Int)).1, I 0, I 0, slv (([] : List TKept)).length (GT.pdflt (α := List TKept)).1, I 0]]⟩) .nil (by kernel_rfl) ?_
    clear S; intro ac w β S
    refine RG.done rfl (nx_then ?_)
    refine wp_seq ?_
    refine RG.start ?_
    refine S.quiet (k := 2) (keep := [2]) (m := 2) (σ' := ⟨[(2, .p 1 0)], [[slv ((([] : List TSlot) ++ m.outer)).length q5.1, slv (m.out).length q10.1, slv ((([] : List Bool) ++ m.dirty)).length q21.1, slv (m.guests).length q28.1, slv ((([] : List Int) ++ m.outs)).length q43.1, I m.pend, I m.traps, slv (acc).length q61.1, I m.owned], [slv ((([] : List TSlot) ++ m.outer)).length q5.1, slv (m.out).length q10.1, slv ((([] : List Bool) ++ m.dirty)).length q21.1, slv (m.guests).length q28.1, slv ((([] : List Int) ++ m.outs)).length q43.1, I m.pend, I m.traps, slv (acc).length q61.1, I m.owned]]⟩) .nil (by kernel_rfl) ?_
    clear S; intro ac w β S
    refine RG.done rfl (nx_then ?_)
    refine wp_ret ?_
    refine S.ret (vs := [GT.val (α := TMon) (⟨(([] : List TSlot) ++ m.outer), m.out, (([] : List Bool) ++ m.dirty), m.guests, (([] : List Int) ++ m.outs), m.pend, m.traps, acc, m.owned⟩ : TMon) (⟨q5, q10, q21, q28, q43, q61⟩ : PMon)]) (by kernel_rfl) ?_
    have o109 := ow_Mon (x := (⟨(([] : List TSlot) ++ m.outer), m.out, (([] : List Bool) ++ m.dirty), m.guests, (([] : List Int) ++ m.outs), m.pend, m.traps, acc, m.owned⟩ : TMon)) (p := (⟨q5, q10, q21, q28, q43, q61⟩ : PMon)) o7 o12 o23 o30 o45 o63 d14 d26 d32 d48 (Disj.symm d64) d27 d33 d49 (Disj.symm d65) d34 d50 (Disj.symm d66) d51 (Disj.symm d67) (Disj.symm d68) (RMon.pend (d := m) (S.arg hm)) (RMon.traps (d := m) (S.arg hm)) (RMon.owned (d := m) (S.arg hm))
    exact ret1_of S (show m = (⟨(([] : List TSlot) ++ m.outer), m.out, (([] : List Bool) ++ m.dirty), m.guests, (([] : List Int) ++ m.outs), m.pend, m.traps, acc, m.owned⟩ : TMon) by clear S; (first | rfl | (rw [hacc, take_all (by omega)]; simp; done) | simp)) rfl o109

set_option maxRecDepth 100000 in
theorem c_spec_MonAt (w0 : World) (h : THost) (ph : PHost) (hh : GT.rd KK (Lt w0.heap.size) w0 h ph) (m : Int) : Calls Go.Proofs.Try.prog 38 [GT.val (α := THost) h ph, I m].toArray w0 (Ret2 NoB w0 ((f_monAt h m).1 : TMon) ((f_monAt h m).2 : Bool)) := by
  refine Calls.walk (args := [GT.val (α := THost) h ph, I m]) NoB Go.Proofs.Try.func38 rfl rfl ?_
  intro ac β S
  have hleh_mem : h.mem.length ≤ 4194304 := LRd.le (RHost.mem (d := h) hh)
  have hleh_mons : h.mons.length ≤ 4194304 := LRd.le (RHost.mons (d := h) hh)
  have hleh_buf : h.buf.length ≤ 4194304 := LRd.le (RHost.buf (d := h) hh)
  have hleh_iobuf : h.iobuf.length ≤ 4194304 := LRd.le (RHost.iobuf (d := h) hh)
  refine wp_seq ?_
  refine RG.start ?_
  refine S.quiet (k := 3) (keep := [1, 2, 4]) (m := 2) (σ' := ⟨[(1, .v (I m)), (2, .p 0 0), (4, .p 1 0)], [GT.cells (α := THost) h ph, [slv (([] : List TSlot)).length (GT.pdflt (α := List TSlot)).1, slv (([] : List (List Int))).length (GT.pdflt (α := List (List Int))).1, slv (([] : List Bool)).length (GT.pdflt (α := List Bool)).1, slv (([] : List TGuest)).length (GT.pdflt (α := List TGuest)).1, slv (([] : List Int)).length (GT.pdflt (α := List Int)).1, I 0, I 0, slv (([] : List TKept)).length (GT.pdflt (α := List TKept)).1, I 0]]⟩) .nil (by kernel_rfl) ?_
  clear S; intro ac w β S
  refine RG.done rfl (nx_then ?_)
  refine wp_seq ?_
  refine wp_seq ?_
  refine RG.start ?_
  refine S.quiet (k := 7) (keep := [1, 2, 4, 12]) (m := 2) (σ' := ⟨[(1, .v (I m)), (2, .p 0 0), (4, .p 1 0), (12, .v (B (!(f_within m 0 (((h.mons).length : Int) - 1)))))], [GT.cells (α := THost) h ph, [slv (([] : List TSlot)).length (GT.pdflt (α := List TSlot)).1, slv (([] : List (List Int))).length (GT.pdflt (α := List (List Int))).1, slv (([] : List Bool)).length (GT.pdflt (α := List Bool)).1, slv (([] : List TGuest)).length (GT.pdflt (α := List TGuest)).1, slv (([] : List Int)).length (GT.pdflt (α := List Int)).1, I 0, I 0, slv (([] : List TKept)).length (GT.pdflt (α := List TKept)).1, I 0]]⟩) (.cons (Q_sub (x := ((h.mons).length : Int)) (y := 1) ⟨by omega, by omega⟩) (.cons (Q_call fun w hw => c_spec_l01In w m 0 (((h.mons).length : Int) - 1)) .nil)) (by kernel_rfl) ?_
  clear S; intro ac w β S
  refine RG.done rfl (nx_then ?_)
  refine S.cond (e := (!(f_within m 0 (((h.mons).length : Int) - 1)))) (by kernel_rfl) (fun h1 => ?_) (fun h1 => ?_)
  · have h2 : (f_within m 0 (((h.mons).length : Int) - 1)) = false := not_t h1
    have g3 := within_f h2
    refine wp_seq ?_
    refine RG.start ?_
    refine S.quiet (k := 3) (keep := [4, 5]) (m := 2) (σ' := ⟨[(4, .p 1 0), (5, .v (B false))], [GT.cells (α := THost) h ph, [slv (([] : List TSlot)).length (GT.pdflt (α := List TSlot)).1, slv (([] : List (List Int))).length (GT.pdflt (α := List (List Int))).1, slv (([] : List Bool)).length (GT.pdflt (α := List Bool)).1, slv (([] : List TGuest)).length (GT.pdflt (α := List TGuest)).1, slv (([] : List Int)).length (GT.pdflt (α := List Int)).1, I 0, I 0, slv (([] : List TKept)).length (GT.pdflt (α := List TKept)).1, I 0]]⟩) (.cons (Q_sem (s := Instr.build 50 [].toArray) (v := .agg [slv (([] : List TSlot)).length (GT.pdflt (α := List TSlot)).1, slv (([] : List (List Int))).length (GT.pdflt (α := List (List Int))).1, slv (([] : List Bool)).length (GT.pdflt (α := List Bool)).1, slv (([] : List TGuest)).length (GT.pdflt (α := List TGuest)).1, slv (([] : List Int)).length (GT.pdflt (α := List Int)).1, I 0, I 0, slv (([] : List TKept)).length (GT.pdflt (α := List TKept)).1, I 0].toArray) (fun w => by kernel_rfl)) .nil) (by kernel_rfl) ?_
    clear S; intro ac w β S
    refine RG.done rfl (nx_then ?_)
    refine wp_ret (rt_then ?_)
    refine S.ret (vs := [GT.val (α := TMon) (⟨([] : List TSlot), ([] : List (List Int)), ([] : List Bool), ([] : List TGuest), ([] : List Int), 0, 0, ([] : List TKept), 0⟩ : TMon) (⟨(GT.pdflt (α := List TSlot)), (GT.pdflt (α := List (List Int))), (GT.pdflt (α := List Bool)), (GT.pdflt (α := List TGuest)), (GT.pdflt (α := List Int)), (GT.pdflt (α := List TKept))⟩ : PMon), B false]) (by kernel_rfl) ?_
    have o4 := S.nilOw (α := TSlot)
    have o5 := S.nilOw (α := List Int)
    have o6 := S.nilOw (α := Bool)
    have o7 := S.nilOw (α := TGuest)
    have o8 := S.nilOw (α := Int)
    have o9 := S.nilOw (α := TKept)
    have o10 := ow_Mon (x := (⟨([] : List TSlot), ([] : List (List Int)), ([] : List Bool), ([] : List TGuest), ([] : List Int), 0, 0, ([] : List TKept), 0⟩ : TMon)) (p := (⟨(GT.pdflt (α := List TSlot)), (GT.pdflt (α := List (List Int))), (GT.pdflt (α := List Bool)), (GT.pdflt (α := List TGuest)), (GT.pdflt (α := List Int)), (GT.pdflt (α := List TKept))⟩ : PMon)) o4 o5 o6 o7 o8 o9 (fun b _ h => False.elim h) (fun b _ h => False.elim h) (fun b _ h => False.elim h) (fun b _ h => False.elim h) (fun b _ h => False.elim h) (fun b _ h => False.elim h) (fun b _ h => False.elim h) (fun b _ h => False.elim h) (fun b _ h => False.elim h) (fun b _ h => False.elim h) (fun b _ h => False.elim h) (fun b _ h => False.elim h) (fun b _ h => False.elim h) (fun b _ h => False.elim h) (fun b _ h => False.elim h) (show In64 0 from ⟨by decide, by decide⟩) (show In64 0 from ⟨by decide, by decide⟩) (show In64 0 from ⟨by decide, by decide⟩)
    exact ret2_of (p' := ()) S (show (f_monAt h m).1 = (⟨([] : List TSlot), ([] : List (List Int)), ([] : List Bool), ([] : List TGuest), ([] : List Int), 0, 0, ([] : List TKept), 0⟩ : TMon) by clear S; (first | (unfold f_monAt; rw [if_pos (by omega)]) | (unfold f_monAt; rw [if_neg (by omega)]))) (show (f_monAt h m).2 = false by clear S; (first | (unfold f_monAt; rw [if_pos (by omega)]) | (unfold f_monAt; rw [if_neg (by omega)]))) rfl rfl o10 trivial
  · have h11 : (f_within m 0 (((h.mons).length : Int) - 1)) = true := not_f h1
    have g12 := within_t h11
    refine wp_skip (nx_then ?_)
    refine wp_seq ?_
    refine RG.start ?_
    refine S.quiet (k := 5) (keep := [4, 18]) (m := 2) (σ' := ⟨[(4, .p 1 0), (18, .v (GT.val (α := TMon) (el h.mons ((m).toNat)) (ph.mons.2 ((m).toNat))))], [GT.cells (α := THost) h ph, [slv (([] : List TSlot)).length (GT.pdflt (α := List TSlot)).1, slv (([] : List (List Int))).length (GT.pdflt (α := List (List Int))).1, slv (([] : List Bool)).length (GT.pdflt (α := List Bool)).1, slv (([] : List TGuest)).length (GT.pdflt (α := List TGuest)).1, slv (([] : List Int)).length (GT.pdflt (α := List Int)).1, I 0, I 0, slv (([] : List TKept)).length (GT.pdflt (α := List TKept)).1, I 0]]⟩) (.cons (Q_idx (RHost.mons (d := h) (S.arg hh)) (l := (h.mons).length) (k := (m).toNat) (i := m) rfl (by omega) (by omega) Go.Proofs.Try.underlying29 (by kernel_rfl)) (.cons (Q_el (RHost.mons (d := h) (S.arg hh)) (t := 50) (k := (m).toNat) (by omega) rfl (by kernel_rfl) (by kernel_rfl)) .nil)) (by kernel_rfl) ?_
    clear S; intro ac w β S
    refine RG.op rfl (S.call1 (r := (el h.mons ((m).toNat))) (d := 19) (c_spec_l21Mon w (el h.mons ((m).toNat)) (ph.mons.2 ((m).toNat)) (S.rd (LRd.el (RHost.mons (d := h) (S.arg hh)) ((m).toNat) (by omega)))) (by kernel_rfl) rfl ?_)
    clear S; intro ac w N q13 F14 S up o15 d16
    clear up d16
    have i32 : In64 (el h.mons ((m).toNat)).pend := RMon.pend (d := (el h.mons ((m).toNat))) o15.rn
    have i33 : In64 (el h.mons ((m).toNat)).traps := RMon.traps (d := (el h.mons ((m).toNat))) o15.rn
    have i37 : In64 (el h.mons ((m).toNat)).owned := RMon.owned (d := (el h.mons ((m).toNat))) o15.rn
    obtain ⟨F17, F20, F23, F26, F29, F34, o18, o21, o24, o27, o30, o35, s19, s22, s25, s28, s31, s36, d38, d39, d40, d41, d42, d43, d44, d45, d46, d47, d48, d49, d50, d51, d52⟩ := sp_Mon o15
    refine S.quiet (k := 2) (keep := [4, 5]) (m := 2) (σ' := ⟨[(4, .p 1 0), (5, .v (B true))], [GT.cells (α := THost) h ph, [slv ((el h.mons ((m).toNat)).outer).length q13.outer.1, slv ((el h.mons ((m).toNat)).out).length q13.out.1, slv ((el h.mons ((m).toNat)).dirty).length q13.dirty.1, slv ((el h.mons ((m).toNat)).guests).length q13.guests.1, slv ((el h.mons ((m).toNat)).outs).length q13.outs.1, I ((el h.mons ((m).toNat)).pend), I ((el h.mons ((m).toNat)).traps), slv ((el h.mons ((m).toNat)).tables).length q13.tables.1, I ((el h.mons ((m).toNat)).owned)]]⟩) .nil (by kernel_rfl) ?_
    clear S; intro ac w β S
    refine RG.done rfl (nx_then ?_)
    refine wp_ret ?_
    refine S.ret (vs := [GT.val (α := TMon) (el h.mons ((m).toNat)) q13, B true]) (by kernel_rfl) ?_
    have o53 := ow_Mon (x := (el h.mons ((m).toNat))) (p := q13) o18 o21 o24 o27 o30 o35 d38 d39 d40 d41 d42 d43 d44 d45 d46 d47 d48 d49 d50 d51 d52 i32 i33 i37
    exact ret2_of (p' := ()) S (show (f_monAt h m).1 = (el h.mons ((m).toNat)) by clear S; (first | (unfold f_monAt; rw [if_pos (by omega)]) | (unfold f_monAt; rw [if_neg (by omega)]))) (show (f_monAt h m).2 = true by clear S; (first | (unfold f_monAt; rw [if_pos (by omega)]) | (unfold f_monAt; rw [if_neg (by omega)]))) rfl rfl o53 trivial

set_option maxRecDepth 100000 in
theorem c_impl_has (w0 : World) (k : Int) (length : Int) (pre0 : -9223372036854775808 < length) : Calls Go.Proofs.Try.prog 66 [I k, I length].toArray w0 (fun e w' => e = .returned (B (f_within k 0 (length - 1))) ∧ Chg NoB w0 w') := by
  refine Calls.walk (args := [I k, I length]) NoB Go.Proofs.Try.func66 rfl rfl ?_
  intro ac β S
  refine wp_seq ?_
  refine RG.start ?_
  refine S.quiet (k := 1) (keep := [0, 1]) (m := 0) (σ' := ⟨[(0, .v (I k)), (1, .v (I length))], []⟩) .nil (by kernel_rfl) ?_
  clear S; intro ac w β S
  refine RG.done rfl (nx_then ?_)
  refine wp_seq ?_
  refine RG.start ?_
  refine S.quiet (k := 3) (keep := [0, 1, 7]) (m := 0) (σ' := ⟨[(0, .v (I k)), (1, .v (I length)), (7, .v (B (decide (k ≥ 0))))], []⟩) .nil (by kernel_rfl) ?_
  clear S; intro ac w β S
  rcases Bool.eq_false_or_eq_true (decide (k ≥ 0)) with h1 | h1 <;> rw [h1] at S
  · have g2 : k ≥ 0 := of_decide_eq_true h1
    refine S.quiet (k := 5) (keep := [4]) (m := 0) (σ' := ⟨[(4, .v (B (decide (k < length))))], []⟩) .nil (by kernel_rfl) ?_
    clear S; intro ac w β S
    refine RG.done rfl (nx_then ?_)
    refine wp_ret ?_
    refine S.ret (vs := [B (decide (k < length))]) (by kernel_rfl) ?_
    exact ⟨retB (show (decide (k < length)) = f_within k 0 (length - 1) by clear S; (rw [Bool.eq_iff_iff]; simp [f_within]; omega)), S.chg⟩
  · have g3 : ¬ (k ≥ 0) := of_decide_eq_false h1
    refine S.quiet (k := 5) (keep := [4]) (m := 0) (σ' := ⟨[(4, .v (B false))], []⟩) .nil (by kernel_rfl) ?_
    clear S; intro ac w β S
    refine RG.done rfl (nx_then ?_)
    refine wp_ret ?_
    refine S.ret (vs := [B false]) (by kernel_rfl) ?_
    exact ⟨retB (show false = f_within k 0 (length - 1) by clear S; (rw [Bool.eq_iff_iff]; simp [f_within]; omega)), S.chg⟩

set_option maxRecDepth 100000 in
theorem c_impl_copyTable (w0 : World) (l : List TSlot) (pl : LP TSlot) (hl : GT.rd KK (Lt w0.heap.size) w0 l pl) : Calls Go.Proofs.Try.prog 147 [slv (l).length pl.1].toArray w0 (Ret1 NoB w0 (l : List TSlot)) := by
  refine Calls.walk (args := [slv (l).length pl.1]) NoB Go.Proofs.Try.func147 rfl rfl ?_
  intro ac β S
  have hlel : l.length ≤ 4194304 := LRd.le hl
  refine wp_seq ?_
  refine RG.start ?_
  refine S.quiet (k := 1) (keep := [0]) (m := 0) (σ' := ⟨[(0, .v (slv (l).length pl.1))], []⟩) .nil (by kernel_rfl) ?_
  clear S; intro ac w β S
  refine RG.done rfl (nx_then ?_)
  refine wp_seq ?_
  refine RG.start ?_
  refine RG.op rfl (S.bs0 (α := TSlot) (d := 3) (by kernel_rfl) ?_)
  clear S; intro ac w N q1 F2 S up o3 d4
  clear up d4
  refine S.quiet (k := 1) (keep := [3, 4]) (m := 0) (σ' := ⟨[(3, .v (slv 0 q1.1)), (4, .v (slv (l).length pl.1))], []⟩) .nil (by kernel_rfl) ?_
  clear S; intro ac w β S
  have b9 : (l).length ≤ 4194304 := LRd.le (S.arg hl)
  refine RG.op rfl (S.appFlat (α := TSlot) o3 ((S.arg hl)) (fun _ _ h => h) (by' := 16) (d := 5) (lx := 0) (ly := (l).length) rfl rfl (by kernel_rfl) (show _ ≤ 4194304 by simp only [List.length_append, List.length_cons, List.length_nil]; omega) ?_)
  clear S; intro ac w N q5 F6 S up o7 d8
  clear up d8
  refine S.quiet (k := 1) (keep := [2]) (m := 0) (σ' := ⟨[(2, .v (slv ((([] : List TSlot) ++ l)).length q5.1))], []⟩) .nil (by kernel_rfl) ?_
  clear S; intro ac w β S
  refine RG.done rfl (nx_then ?_)
  refine wp_ret ?_
  refine S.ret (vs := [slv ((([] : List TSlot) ++ l)).length q5.1]) (by kernel_rfl) ?_
  exact ret1_of S (show l = (([] : List TSlot) ++ l) by clear S; simp) rfl o7

set_option maxRecDepth 100000 in
theorem c_impl_copyInts (w0 : World) (l : List Int) (pl : LP Int) (hl : GT.rd KK (Lt w0.heap.size) w0 l pl) : Calls Go.Proofs.Try.prog 133 [slv (l).length pl.1].toArray w0 (Ret1 NoB w0 (l : List Int)) := by
  refine Calls.walk (args := [slv (l).length pl.1]) NoB Go.Proofs.Try.func133 rfl rfl ?_
  intro ac β S
  have hlel : l.length ≤ 4194304 := LRd.le hl
  refine wp_seq ?_
  refine RG.start ?_
  refine S.quiet (k := 1) (keep := [0]) (m := 0) (σ' := ⟨[(0, .v (slv (l).length pl.1))], []⟩) .nil (by kernel_rfl) ?_
  clear S; intro ac w β S
  refine RG.done rfl (nx_then ?_)
  refine wp_seq ?_
  refine RG.start ?_
  refine RG.op rfl (S.bs0 (α := Int) (d := 3) (by kernel_rfl) ?_)
  clear S; intro ac w N q1 F2 S up o3 d4
  clear up d4
  refine S.quiet (k := 1) (keep := [3, 4]) (m := 0) (σ' := ⟨[(3, .v (slv 0 q1.1)), (4, .v (slv (l).length pl.1))], []⟩) .nil (by kernel_rfl) ?_
  clear S; intro ac w β S
  have b9 : (l).length ≤ 4194304 := LRd.le (S.arg hl)
  refine RG.op rfl (S.appFlat (α := Int) o3 ((S.arg hl)) (fun _ _ h => h) (by' := 8) (d := 5) (lx := 0) (ly := (l).length) rfl rfl (by kernel_rfl) (show _ ≤ 4194304 by simp only [List.length_append, List.length_cons, List.length_nil]; omega) ?_)
  clear S; intro ac w N q5 F6 S up o7 d8
  clear up d8
  refine S.quiet (k := 1) (keep := [2]) (m := 0) (σ' := ⟨[(2, .v (slv ((([] : List Int) ++ l)).length q5.1))], []⟩) .nil (by kernel_rfl) ?_
  clear S; intro ac w β S
  refine RG.done rfl (nx_then ?_)
  refine wp_ret ?_
  refine S.ret (vs := [slv ((([] : List Int) ++ l)).length q5.1]) (by kernel_rfl) ?_
  exact ret1_of S (show l = (([] : List Int) ++ l) by clear S; simp) rfl o7

set_option maxRecDepth 100000 in
theorem c_impl_copyMem (w0 : World) (l : List (List Int)) (pl : LP (List Int)) (hl : GT.rd KK (Lt w0.heap.size) w0 l pl) : Calls Go.Proofs.Try.prog 148 [slv (l).length pl.1].toArray w0 (Ret1 NoB w0 (l : List (List Int))) := by
  refine Calls.walk (args := [slv (l).length pl.1]) NoB Go.Proofs.Try.func148 rfl rfl ?_
  intro ac β S
  have hlel : l.length ≤ 4194304 := LRd.le hl
  refine wp_seq ?_
  refine RG.start ?_
  refine S.quiet (k := 1) (keep := [0]) (m := 0) (σ' := ⟨[(0, .v (slv (l).length pl.1))], []⟩) .nil (by kernel_rfl) ?_
  clear S; intro ac w β S
  refine RG.done rfl (nx_then ?_)
  refine wp_seq ?_
  refine RG.start ?_
  refine RG.op rfl (S.bs0 (α := List Int) (d := 6) (by kernel_rfl) ?_)
  clear S; intro ac w N q1 F2 S up o3 d4
  clear up d4
  refine S.quiet (k := 1) (keep := [0, 3]) (m := 0) (σ' := ⟨[(0, .v (slv (l).length pl.1)), (3, .v (slv 0 q1.1))], []⟩) .nil (by kernel_rfl) ?_
  clear S; intro ac w β S
  refine RG.done rfl (nx_then ?_)
  refine wp_seq ?_
  refine wp_seq ?_
  refine RG.start ?_
  refine S.quiet (k := 3) (keep := [3, 7, 8, 9]) (m := 0) (σ' := ⟨[(3, .v (slv 0 q1.1)), (7, .v (slv (l).length pl.1)), (8, .v (I ((l).length : Int))), (9, .v (I 0))], []⟩) .nil (by kernel_rfl) ?_
  clear S; intro ac w β S
  refine RG.done rfl (nx_then ?_)
  refine wp_block ?_
  replace S := S.prune (keep := [3, 7, 8, 9]) (m := 0) (σ' := ⟨[(3, .v (slv 0 q1.1)), (7, .v (slv (l).length pl.1)), (8, .v (I ((l).length : Int))), (9, .v (I 0))], []⟩) (by kernel_rfl)
  refine wp_loop_down (fun mm ac w => ∃ (k : Nat) (acc : List (List Int)) (q5 : GT.Ptr (List (List Int))) (F6 : Bl) (u : World) (N : Bl) (β : Nat → Nat), mm = (l).length - k ∧ (k ≤ (l).length) ∧ (acc = (l).take k) ∧ St Go.Proofs.Try.prog Go.Proofs.Try.f148.ntmps w0 NoB u N β ⟨[(3, .v (slv (acc).length q5.1)), (7, .v (slv (l).length pl.1)), (8, .v (I ((l).length : Int))), (9, .v (I (k : Int)))], []⟩ ac w ∧ Ow w0 NoB u N F6 acc q5) _ ⟨0, ([] : List (List Int)), q1, F2, _, _, _, rfl, (by first | omega | (simp; done) | (simp; omega)), (by simp), S.cast (by kernel_rfl), o3⟩ ?_
  clear S o3
  rintro mm ac w ⟨k, acc, q5, F6, u, N, β, rfl, hk, hacc, S, o7⟩
  have hlacc : acc.length = k := by rw [hacc]; simp; omega
  refine wp_seq ?_
  refine RG.start ?_
  refine S.quiet (k := 1) (keep := [3, 7, 8, 9, 10]) (m := 0) (σ' := ⟨[(3, .v (slv (acc).length q5.1)), (7, .v (slv (l).length pl.1)), (8, .v (I ((l).length : Int))), (9, .v (I (k : Int))), (10, .v (B (decide ((k : Int) < ((l).length : Int)))))], []⟩) .nil (by kernel_rfl) ?_
  clear S; intro ac w β S
  refine RG.done rfl (nx_then ?_)
  refine wp_seq ?_
  refine S.cond (e := (decide ((k : Int) < ((l).length : Int)))) (by kernel_rfl) (fun h8 => ?_) (fun h8 => ?_)
  · have g9 : (k : Int) < ((l).length : Int) := of_decide_eq_true h8
    refine wp_skip (nx_then ?_)
    refine wp_seq ?_
    refine wp_block ?_
    refine wp_seq ?_
    refine RG.start ?_
    refine S.quiet (k := 3) (keep := [3, 5, 7, 8, 9]) (m := 0) (σ' := ⟨[(3, .v (slv (acc).length q5.1)), (5, .v (slv ((el l k)).length (pl.2 k).1)), (7, .v (slv (l).length pl.1)), (8, .v (I ((l).length : Int))), (9, .v (I (k : Int)))], []⟩) (.cons (Q_idx (S.arg hl) (l := (l).length) (k := k) (i := (k : Int)) rfl rfl (by omega) Go.Proofs.Try.underlying22 (by kernel_rfl)) (.cons (Q_el1 (S.arg hl) (t := 37) (k := k) (by omega) rfl (by kernel_rfl)) .nil)) (by kernel_rfl) ?_
    clear S; intro ac w β S
    refine RG.done rfl (nx_then ?_)
    refine RG.start ?_
    refine S.quiet (k := 2) (keep := [7, 8, 9, 13, 14]) (m := 0) (σ' := ⟨[(7, .v (slv (l).length pl.1)), (8, .v (I ((l).length : Int))), (9, .v (I (k : Int))), (13, .v (slv (acc).length q5.1)), (14, .v (slv ((el l k)).length (pl.2 k).1))], []⟩) .nil (by kernel_rfl) ?_
    clear S; intro ac w β S
    refine RG.op rfl (S.call1 (r := (el l k)) (d := 15) (c_impl_copyInts w (el l k) (pl.2 k) (S.rd (LRd.el (S.arg hl) k (by omega)))) (by kernel_rfl) rfl ?_)
    clear S; intro ac w N q10 F11 S up o12 d13
    have d14 : Disj F6 F11 := fun b x y => d13 b (o7.sub b x) y
    replace o7 := o7.up up
    clear up d13
    refine RG.op rfl (S.bs1 (α := List Int) (x := (el l k)) (p := q10) o12.own o12.sub o12.young (d := 16) (by kernel_rfl) ?_)
    clear S; intro ac w N q15 F16 S up o17 d18
    have d19 : Disj F6 F16 := d18 _ d14 o7.sub
    replace o7 := o7.up up
    clear up d18
    refine RG.op rfl (S.appOwn (α := List Int) o7 o17 d19 (by' := 24) (d := 17) (lx := (acc).length) (ly := 1) rfl rfl (by kernel_rfl) (show _ ≤ 4194304 by simp only [List.length_append, List.length_cons, List.length_nil]; omega) ?_)
    clear S; intro ac w N q20 F21 S up o22 d23
    clear up d23
    refine S.quiet (k := 1) (keep := [3, 7, 8, 9]) (m := 0) (σ' := ⟨[(3, .v (slv ((acc ++ [(el l k)])).length q20.1)), (7, .v (slv (l).length pl.1)), (8, .v (I ((l).length : Int))), (9, .v (I (k : Int)))], []⟩) .nil (by kernel_rfl) ?_
    clear S; intro ac w β S
    refine RG.done rfl (nx_block (nx_then ?_))
    refine RG.start ?_
    refine S.quiet (k := 2) (keep := [3, 7, 8, 9]) (m := 0) (σ' := ⟨[(3, .v (slv ((acc ++ [(el l k)])).length q20.1)), (7, .v (slv (l).length pl.1)), (8, .v (I ((l).length : Int))), (9, .v (I ((k : Int) + 1)))], []⟩) (.cons (Q_add (x := (k : Int)) (y := 1) ⟨by omega, by omega⟩) .nil) (by kernel_rfl) ?_
    clear S; intro ac w β S
    refine RG.done rfl (nx_then ?_)
    replace S := S.prune (keep := [3, 7, 8, 9]) (m := 0) (σ' := ⟨[(3, .v (slv ((acc ++ [(el l k)])).length q20.1)), (7, .v (slv (l).length pl.1)), (8, .v (I ((l).length : Int))), (9, .v (I ((k : Int) + 1)))], []⟩) (by kernel_rfl)
    refine ⟨(l).length - (k + 1), by omega, k + 1, (acc ++ [(el l k)]), q20, F21, _, _, _, rfl, ?_, ?_, S.cast (by kernel_rfl), o22⟩
    · clear S; first | omega | (simp [*]; done) | (simp [*]; omega)
    · clear S; (first | (rw [take_el (by omega), hacc]; done) | (rw [take_el (by omega), hacc]; simp; done))
  · have g24 : ¬ ((k : Int) < ((l).length : Int)) := of_decide_eq_false h8
    refine wp_exit (ex_then (ex_then (ex_hit (nx_then ?_))))
    refine wp_seq ?_
    refine RG.start ?_
    refine S.quiet (k := 2) (keep := [2]) (m := 0) (σ' := ⟨[(2, .v (slv (acc).length q5.1))], []⟩) .nil (by kernel_rfl) ?_
    clear S; intro ac w β S
    refine RG.done rfl (nx_then ?_)
    refine wp_ret ?_
    refine S.ret (vs := [slv (acc).length q5.1]) (by kernel_rfl) ?_
    exact ret1_of S (show l = acc by clear S; (rw [hacc, take_all (by omega)])) rfl o7

set_option maxRecDepth 100000 in
theorem c_impl_copyProg (w0 : World) (l : List TIns) (pl : LP TIns) (hl : GT.rd KK (Lt w0.heap.size) w0 l pl) : Calls Go.Proofs.Try.prog 138 [slv (l).length pl.1].toArray w0 (Ret1 NoB w0 (l : List TIns)) := by
  refine Calls.walk (args := [slv (l).length pl.1]) NoB Go.Proofs.Try.func138 rfl rfl ?_
  intro ac β S
  have hlel : l.length ≤ 4194304 := LRd.le hl
  refine wp_seq ?_
  refine RG.start ?_
  refine S.quiet (k := 1) (keep := [0]) (m := 0) (σ' := ⟨[(0, .v (slv (l).length pl.1))], []⟩) .nil (by kernel_rfl) ?_
  clear S; intro ac w β S
  refine RG.done rfl (nx_then ?_)
  refine wp_seq ?_
  refine RG.start ?_
  refine RG.op rfl (S.bs0 (α := TIns) (d := 3) (by kernel_rfl) ?_)
  clear S; intro ac w N q1 F2 S up o3 d4
  clear up d4
  refine S.quiet (k := 1) (keep := [3, 4]) (m := 0) (σ' := ⟨[(3, .v (slv 0 q1.1)), (4, .v (slv (l).length pl.1))], []⟩) .nil (by kernel_rfl) ?_
  clear S; intro ac w β S
  have b9 : (l).length ≤ 4194304 := LRd.le (S.arg hl)
  refine RG.op rfl (S.appFlat (α := TIns) o3 ((S.arg hl)) (fun _ _ h => h) (by' := 16) (d := 5) (lx := 0) (ly := (l).length) rfl rfl (by kernel_rfl) (show _ ≤ 4194304 by simp only [List.length_append, List.length_cons, List.length_nil]; omega) ?_)
  clear S; intro ac w N q5 F6 S up o7 d8
  clear up d8
  refine S.quiet (k := 1) (keep := [2]) (m := 0) (σ' := ⟨[(2, .v (slv ((([] : List TIns) ++ l)).length q5.1))], []⟩) .nil (by kernel_rfl) ?_
  clear S; intro ac w β S
  refine RG.done rfl (nx_then ?_)
  refine wp_ret ?_
  refine S.ret (vs := [slv ((([] : List TIns) ++ l)).length q5.1]) (by kernel_rfl) ?_
  exact ret1_of S (show l = (([] : List TIns) ++ l) by clear S; simp) rfl o7

set_option maxRecDepth 100000 in
theorem c_impl_copyGuest (w0 : World) (g : TGuest) (pg : PGuest) (hg : GT.rd KK (Lt w0.heap.size) w0 g pg) : Calls Go.Proofs.Try.prog 176 [GT.val (α := TGuest) g pg].toArray w0 (Ret1 NoB w0 (g : TGuest)) := by
  refine Calls.walk (args := [GT.val (α := TGuest) g pg]) NoB Go.Proofs.Try.func176 rfl rfl ?_
  intro ac β S
  have hleg_prog : g.prog.length ≤ 4194304 := LRd.le (RGuest.prog (d := g) hg)
  have hleg_written : g.written.length ≤ 4194304 := LRd.le (RGuest.written (d := g) hg)
  have hleg_live : g.live.length ≤ 4194304 := LRd.le (RGuest.live (d := g) hg)
  have hleg_seen : g.seen.length ≤ 4194304 := LRd.le (RGuest.seen (d := g) hg)
  refine wp_seq ?_
  refine RG.start ?_
  refine S.quiet (k := 2) (keep := [1, 2]) (m := 2) (σ' := ⟨[(1, .p 0 0), (2, .p 1 0)], [GT.cells (α := TGuest) g pg, [slv (([] : List TIns)).length (GT.pdflt (α := List TIns)).1, I 0, I 0, slv (([] : List TSlot)).length (GT.pdflt (α := List TSlot)).1, slv (([] : List TSlot)).length (GT.pdflt (α := List TSlot)).1, I 0, I 0, B false, I 0, I 0, I 0, B false, I 0, B false, slv (([] : List Int)).length (GT.pdflt (α := List Int)).1]]⟩) .nil (by kernel_rfl) ?_
  clear S; intro ac w β S
  refine RG.done rfl (nx_then ?_)
  refine wp_seq ?_
  refine RG.start ?_
  refine S.quiet (k := 2) (keep := [1, 2, 4]) (m := 2) (σ' := ⟨[(1, .p 0 0), (2, .p 1 0), (4, .v (slv (g.prog).length pg.prog.1))], [GT.cells (α := TGuest) g pg, [slv (([] : List TIns)).length (GT.pdflt (α := List TIns)).1, I 0, I 0, slv (([] : List TSlot)).length (GT.pdflt (α := List TSlot)).1, slv (([] : List TSlot)).length (GT.pdflt (α := List TSlot)).1, I 0, I 0, B false, I 0, I 0, I 0, B false, I 0, B false, slv (([] : List Int)).length (GT.pdflt (α := List Int)).1]]⟩) .nil (by kernel_rfl) ?_
  clear S; intro ac w β S
  refine RG.op rfl (S.call1 (r := g.prog) (d := 5) (c_impl_copyProg w g.prog pg.prog (S.rd (RGuest.prog (d := g) (S.arg hg)))) (by kernel_rfl) rfl ?_)
  clear S; intro ac w N q1 F2 S up o3 d4
  clear up d4
  refine S.quiet (k := 2) (keep := [1, 2]) (m := 2) (σ' := ⟨[(1, .p 0 0), (2, .p 1 0)], [[slv (g.prog).length q1.1, I g.acc, I g.pc, slv (g.written).length pg.written.1, slv (g.live).length pg.live.1, I g.ctl.traps, I g.ctl.post, B g.ctl.opn, I g.pend, I g.exit.kind, I g.exit.page, B g.exit.wr, I g.exit.n, B g.halted, slv (g.seen).length pg.seen.1], [slv (([] : List TIns)).length (GT.pdflt (α := List TIns)).1, I 0, I 0, slv (([] : List TSlot)).length (GT.pdflt (α := List TSlot)).1, slv (([] : List TSlot)).length (GT.pdflt (α := List TSlot)).1, I 0, I 0, B false, I 0, I 0, I 0, B false, I 0, B false, slv (([] : List Int)).length (GT.pdflt (α := List Int)).1]]⟩) .nil (by kernel_rfl) ?_
  clear S; intro ac w β S
  refine RG.done rfl (nx_then ?_)
  refine wp_seq ?_
  refine RG.start ?_
  refine S.quiet (k := 2) (keep := [1, 2, 8]) (m := 2) (σ' := ⟨[(1, .p 0 0), (2, .p 1 0), (8, .v (slv (g.written).length pg.written.1))], [[slv (g.prog).length q1.1, I g.acc, I g.pc, slv (g.written).length pg.written.1, slv (g.live).length pg.live.1, I g.ctl.traps, I g.ctl.post, B g.ctl.opn, I g.pend, I g.exit.kind, I g.exit.page, B g.exit.wr, I g.exit.n, B g.halted, slv (g.seen).length pg.seen.1], [slv (([] : List TIns)).length (GT.pdflt (α := List TIns)).1, I 0, I 0, slv (([] : List TSlot)).length (GT.pdflt (α := List TSlot)).1, slv (([] : List TSlot)).length (GT.pdflt (α := List TSlot)).1, I 0, I 0, B false, I 0, I 0, I 0, B false, I 0, B false, slv (([] : List Int)).length (GT.pdflt (α := List Int)).1]]⟩) .nil (by kernel_rfl) ?_
  clear S; intro ac w β S
  refine RG.op rfl (S.call1 (r := g.written) (d := 9) (c_impl_copyTable w g.written pg.written (S.rd (RGuest.written (d := g) (S.arg hg)))) (by kernel_rfl) rfl ?_)
  clear S; intro ac w N q5 F6 S up o7 d8
  have d9 : Disj F2 F6 := fun b x y => d8 b (o3.sub b x) y
  replace o3 := o3.up up
  clear up d8
  refine S.quiet (k := 2) (keep := [1, 2]) (m := 2) (σ' := ⟨[(1, .p 0 0), (2, .p 1 0)], [[slv (g.prog).length q1.1, I g.acc, I g.pc, slv (g.written).length q5.1, slv (g.live).length pg.live.1, I g.ctl.traps, I g.ctl.post, B g.ctl.opn, I g.pend, I g.exit.kind, I g.exit.page, B g.exit.wr, I g.exit.n, B g.halted, slv (g.seen).length pg.seen.1], [slv (([] : List TIns)).length (GT.pdflt (α := List TIns)).1, I 0, I 0, slv (([] : List TSlot)).length (GT.pdflt (α := List TSlot)).1, slv (([] : List TSlot)).length (GT.pdflt (α := List TSlot)).1, I 0, I 0, B false, I 0, I 0, I 0, B false, I 0, B false, slv (([] : List Int)).length (GT.pdflt (α := List Int)).1]]⟩) .nil (by kernel_rfl) ?_
  clear S; intro ac w β S
  refine RG.done rfl (nx_then ?_)
  refine wp_seq ?_
  refine RG.start ?_
  refine S.quiet (k := 2) (keep := [1, 2, 12]) (m := 2) (σ' := ⟨[(1, .p 0 0), (2, .p 1 0), (12, .v (slv (g.live).length pg.live.1))], [[slv (g.prog).length q1.1, I g.acc, I g.pc, slv (g.written).length q5.1, slv (g.live).length pg.live.1, I g.ctl.traps, I g.ctl.post, B g.ctl.opn, I g.pend, I g.exit.kind, I g.exit.page, B g.exit.wr, I g.exit.n, B g.halted, slv (g.seen).length pg.seen.1], [slv (([] : List TIns)).length (GT.pdflt (α := List TIns)).1, I 0, I 0, slv (([] : List TSlot)).length (GT.pdflt (α := List TSlot)).1, slv (([] : List TSlot)).length (GT.pdflt (α := List TSlot)).1, I 0, I 0, B false, I 0, I 0, I 0, B false, I 0, B false, slv (([] : List Int)).length (GT.pdflt (α := List Int)).1]]⟩) .nil (by kernel_rfl) ?_
  clear S; intro ac w β S
  refine RG.op rfl (S.call1 (r := g.live) (d := 13) (c_impl_copyTable w g.live pg.live (S.rd (RGuest.live (d := g) (S.arg hg)))) (by kernel_rfl) rfl ?_)
  clear S; intro ac w N q10 F11 S up o12 d13
  have d14 : Disj F2 F11 := fun b x y => d13 b (o3.sub b x) y
  have d15 : Disj F6 F11 := fun b x y => d13 b (o7.sub b x) y
  replace o3 := o3.up up
  replace o7 := o7.up up
  clear up d13
  refine S.quiet (k := 2) (keep := [1, 2]) (m := 2) (σ' := ⟨[(1, .p 0 0), (2, .p 1 0)], [[slv (g.prog).length q1.1, I g.acc, I g.pc, slv (g.written).length q5.1, slv (g.live).length q10.1, I g.ctl.traps, I g.ctl.post, B g.ctl.opn, I g.pend, I g.exit.kind, I g.exit.page, B g.exit.wr, I g.exit.n, B g.halted, slv (g.seen).length pg.seen.1], [slv (([] : List TIns)).length (GT.pdflt (α := List TIns)).1, I 0, I 0, slv (([] : List TSlot)).length (GT.pdflt (α := List TSlot)).1, slv (([] : List TSlot)).length (GT.pdflt (α := List TSlot)).1, I 0, I 0, B false, I 0, I 0, I 0, B false, I 0, B false, slv (([] : List Int)).length (GT.pdflt (α := List Int)).1]]⟩) .nil (by kernel_rfl) ?_
  clear S; intro ac w β S
  refine RG.done rfl (nx_then ?_)
  refine wp_seq ?_
  refine RG.start ?_
  refine S.quiet (k := 2) (keep := [1, 2, 16]) (m := 2) (σ' := ⟨[(1, .p 0 0), (2, .p 1 0), (16, .v (slv (g.seen).length pg.seen.1))], [[slv (g.prog).length q1.1, I g.acc, I g.pc, slv (g.written).length q5.1, slv (g.live).length q10.1, I g.ctl.traps, I g.ctl.post, B g.ctl.opn, I g.pend, I g.exit.kind, I g.exit.page, B g.exit.wr, I g.exit.n, B g.halted, slv (g.seen).length pg.seen.1], [slv (([] : List TIns)).length (GT.pdflt (α := List TIns)).1, I 0, I 0, slv (([] : List TSlot)).length (GT.pdflt (α := List TSlot)).1, slv (([] : List TSlot)).length (GT.pdflt (α := List TSlot)).1, I 0, I 0, B false, I 0, I 0, I 0, B false, I 0, B false, slv (([] : List Int)).length (GT.pdflt (α := List Int)).1]]⟩) .nil (by kernel_rfl) ?_
  clear S; intro ac w β S
  refine RG.op rfl (S.call1 (r := g.seen) (d := 17) (c_impl_copyInts w g.seen pg.seen (S.rd (RGuest.seen (d := g) (S.arg hg)))) (by kernel_rfl) rfl ?_)
  clear S; intro ac w N q16 F17 S up o18 d19
  have d20 : Disj F2 F17 := fun b x y => d19 b (o3.sub b x) y
  have d21 : Disj F6 F17 := fun b x y => d19 b (o7.sub b x) y
  have d22 : Disj F11 F17 := fun b x y => d19 b (o12.sub b x) y
  replace o3 := o3.up up
  replace o7 := o7.up up
  replace o12 := o12.up up
  clear up d19
  refine S.quiet (k := 2) (keep := [1, 2]) (m := 2) (σ' := ⟨[(1, .p 0 0), (2, .p 1 0)], [[slv (g.prog).length q1.1, I g.acc, I g.pc, slv (g.written).length q5.1, slv (g.live).length q10.1, I g.ctl.traps, I g.ctl.post, B g.ctl.opn, I g.pend, I g.exit.kind, I g.exit.page, B g.exit.wr, I g.exit.n, B g.halted, slv (g.seen).length q16.1], [slv (([] : List TIns)).length (GT.pdflt (α := List TIns)).1, I 0, I 0, slv (([] : List TSlot)).length (GT.pdflt (α := List TSlot)).1, slv (([] : List TSlot)).length (GT.pdflt (α := List TSlot)).1, I 0, I 0, B false, I 0, I 0, I 0, B false, I 0, B false, slv (([] : List Int)).length (GT.pdflt (α := List Int)).1]]⟩) .nil (by kernel_rfl) ?_
  clear S; intro ac w β S
  refine RG.done rfl (nx_then ?_)
  refine wp_seq ?_
  refine RG.start ?_
  refine S.quiet (k := 2) (keep := [2]) (m := 2) (σ' := ⟨[(2, .p 1 0)], [[slv (g.prog).length q1.1, I g.acc, I g.pc, slv (g.written).length q5.1, slv (g.live).length q10.1, I g.ctl.traps, I g.ctl.post, B g.ctl.opn, I g.pend, I g.exit.kind, I g.exit.page, B g.exit.wr, I g.exit.n, B g.halted, slv (g.seen).length q16.1], [slv (g.prog).length q1.1, I g.acc, I g.pc, slv (g.written).length q5.1, slv (g.live).length q10.1, I g.ctl.traps, I g.ctl.post, B g.ctl.opn, I g.pend, I g.exit.kind, I g.exit.page, B g.exit.wr, I g.exit.n, B g.halted, slv (g.seen).length q16.1]]⟩) .nil (by kernel_rfl) ?_
  clear S; intro ac w β S
  refine RG.done rfl (nx_then ?_)
  refine wp_ret ?_
  refine S.ret (vs := [GT.val (α := TGuest) (⟨g.prog, g.acc, g.pc, g.written, g.live, g.ctl, g.pend, g.exit, g.halted, g.seen⟩ : TGuest) (⟨q1, q5, q10, q16⟩ : PGuest)]) (by kernel_rfl) ?_
  have o23 := ow_Guest (x := (⟨g.prog, g.acc, g.pc, g.written, g.live, g.ctl, g.pend, g.exit, g.halted, g.seen⟩ : TGuest)) (p := (⟨q1, q5, q10, q16⟩ : PGuest)) o3 o7 o12 o18 d9 d14 d20 d15 d21 d22 (RGuest.acc (d := g) (S.arg hg)) (RGuest.pc (d := g) (S.arg hg)) (RGuest.ctl (d := g) (S.arg hg)) (RGuest.pend (d := g) (S.arg hg)) (RGuest.exit (d := g) (S.arg hg))
  exact ret1_of S (show g = (⟨g.prog, g.acc, g.pc, g.written, g.live, g.ctl, g.pend, g.exit, g.halted, g.seen⟩ : TGuest) by clear S; (first | rfl | simp)) rfl o23

set_option maxRecDepth 100000 in
theorem c_impl_copyGuests (w0 : World) (l : List TGuest) (pl : LP TGuest) (hl : GT.rd KK (Lt w0.heap.size) w0 l pl) : Calls Go.Proofs.Try.prog 149 [slv (l).length pl.1].toArray w0 (Ret1 NoB w0 (l : List TGuest)) := by
  refine Calls.walk (args := [slv (l).length pl.1]) NoB Go.Proofs.Try.func149 rfl rfl ?_
  intro ac β S
  have hlel : l.length ≤ 4194304 := LRd.le hl
  refine wp_seq ?_
  refine RG.start ?_
  refine S.quiet (k := 1) (keep := [0]) (m := 0) (σ' := ⟨[(0, .v (slv (l).length pl.1))], []⟩) .nil (by kernel_rfl) ?_
  clear S; intro ac w β S
  refine RG.done rfl (nx_then ?_)
  refine wp_seq ?_
  refine RG.start ?_
  refine RG.op rfl (S.bs0 (α := TGuest) (d := 6) (by kernel_rfl) ?_)
  clear S; intro ac w N q1 F2 S up o3 d4
  clear up d4
  refine S.quiet (k := 1) (keep := [0, 3]) (m := 0) (σ' := ⟨[(0, .v (slv (l).length pl.1)), (3, .v (slv 0 q1.1))], []⟩) .nil (by kernel_rfl) ?_
  clear S; intro ac w β S
  refine RG.done rfl (nx_then ?_)
  refine wp_seq ?_
  refine wp_seq ?_
  refine RG.start ?_
  refine S.quiet (k := 3) (keep := [3, 7, 8, 9]) (m := 0) (σ' := ⟨[(3, .v (slv 0 q1.1)), (7, .v (slv (l).length pl.1)), (8, .v (I ((l).length : Int))), (9, .v (I 0))], []⟩) .nil (by kernel_rfl) ?_
  clear S; intro ac w β S
  refine RG.done rfl (nx_then ?_)
  refine wp_block ?_
  replace S := S.prune (keep := [3, 7, 8, 9]) (m := 0) (σ' := ⟨[(3, .v (slv 0 q1.1)), (7, .v (slv (l).length pl.1)), (8, .v (I ((l).length : Int))), (9, .v (I 0))], []⟩) (by kernel_rfl)
  refine wp_loop_down (fun mm ac w => ∃ (k : Nat) (acc : List TGuest) (q5 : GT.Ptr (List TGuest)) (F6 : Bl) (u : World) (N : Bl) (β : Nat → Nat), mm = (l).length - k ∧ (k ≤ (l).length) ∧ (acc = (l).take k) ∧ St Go.Proofs.Try.prog Go.Proofs.Try.f149.ntmps w0 NoB u N β ⟨[(3, .v (slv (acc).length q5.1)), (7, .v (slv (l).length pl.1)), (8, .v (I ((l).length : Int))), (9, .v (I (k : Int)))], []⟩ ac w ∧ Ow w0 NoB u N F6 acc q5) _ ⟨0, ([] : List TGuest), q1, F2, _, _, _, rfl, (by first | omega | (simp; done) | (simp; omega)), (by simp), S.cast (by kernel_rfl), o3⟩ ?_
  clear S o3
  rintro mm ac w ⟨k, acc, q5, F6, u, N, β, rfl, hk, hacc, S, o7⟩
  have hlacc : acc.length = k := by rw [hacc]; simp; omega
  refine wp_seq ?_
  refine RG.start ?_
  refine S.quiet (k := 1) (keep := [3, 7, 8, 9, 10]) (m := 0) (σ' := ⟨[(3, .v (slv (acc).length q5.1)), (7, .v (slv (l).length pl.1)), (8, .v (I ((l).length : Int))), (9, .v (I (k : Int))), (10, .v (B (decide ((k : Int) < ((l).length : Int)))))], []⟩) .nil (by kernel_rfl) ?_
  clear S; intro ac w β S
  refine RG.done rfl (nx_then ?_)
  refine wp_seq ?_
  refine S.cond (e := (decide ((k : Int) < ((l).length : Int)))) (by kernel_rfl) (fun h8 => ?_) (fun h8 => ?_)
  · have g9 : (k : Int) < ((l).length : Int) := of_decide_eq_true h8
    refine wp_skip (nx_then ?_)
    refine wp_seq ?_
    refine wp_block ?_
    refine wp_seq ?_
    refine RG.start ?_
    refine S.quiet (k := 4) (keep := [3, 5, 7, 8, 9]) (m := 1) (σ' := ⟨[(3, .v (slv (acc).length q5.1)), (5, .p 0 0), (7, .v (slv (l).length pl.1)), (8, .v (I ((l).length : Int))), (9, .v (I (k : Int)))], [GT.cells (α := TGuest) (el l k) (pl.2 k)]⟩) (.cons (Q_idx (S.arg hl) (l := (l).length) (k := k) (i := (k : Int)) rfl rfl (by omega) Go.Proofs.Try.underlying47 (by kernel_rfl)) (.cons (Q_el (S.arg hl) (t := 103) (k := k) (by omega) rfl (by kernel_rfl) (by kernel_rfl)) .nil)) (by kernel_rfl) ?_
    clear S; intro ac w β S
    refine RG.done rfl (nx_then ?_)
    refine RG.start ?_
    refine S.quiet (k := 2) (keep := [7, 8, 9, 13, 14]) (m := 0) (σ' := ⟨[(7, .v (slv (l).length pl.1)), (8, .v (I ((l).length : Int))), (9, .v (I (k : Int))), (13, .v (slv (acc).length q5.1)), (14, .v (GT.val (α := TGuest) (el l k) (pl.2 k)))], []⟩) .nil (by kernel_rfl) ?_
    clear S; intro ac w β S
    refine RG.op rfl (S.call1 (r := (el l k)) (d := 15) (c_impl_copyGuest w (el l k) (pl.2 k) (S.rd (LRd.el (S.arg hl) k (by omega)))) (by kernel_rfl) rfl ?_)
    clear S; intro ac w N q10 F11 S up o12 d13
    have d14 : Disj F6 F11 := fun b x y => d13 b (o7.sub b x) y
    replace o7 := o7.up up
    clear up d13
    have i18 : In64 (el l k).acc := RGuest.acc (d := (el l k)) o12.rn
    have i19 : In64 (el l k).pc := RGuest.pc (d := (el l k)) o12.rn
    have i26 : RCtl (el l k).ctl := RGuest.ctl (d := (el l k)) o12.rn
    have i27 : In64 (el l k).pend := RGuest.pend (d := (el l k)) o12.rn
    have i28 : RExit (el l k).exit := RGuest.exit (d := (el l k)) o12.rn
    obtain ⟨F15, F20, F23, F29, o16, o21, o24, o30, s17, s22, s25, s31, d32, d33, d34, d35, d36, d37⟩ := sp_Guest o12
    have o42 := ow_Guest (x := (el l k)) (p := q10) o16 o21 o24 o30 d32 d33 d34 d35 d36 d37 i18 i19 i26 i27 i28
    refine RG.op rfl (S.bs1 (α := TGuest) (x := (el l k)) (p := q10) o42.own o42.sub o42.young (d := 16) (by kernel_rfl) ?_)
    clear S; intro ac w N q38 F39 S up o40 d41
    have d43 : Disj F6 F39 := d41 _ (Disj.symm (Disj.or (Disj.part (Disj.symm d14) s17) (Disj.or (Disj.part (Disj.symm d14) s22) (Disj.or (Disj.part (Disj.symm d14) s25) (Disj.or (Disj.part (Disj.symm d14) s31) Disj.nob))))) o7.sub
    replace o7 := o7.up up
    clear up d41
    refine RG.op rfl (S.appOwn (α := TGuest) o7 o40 d43 (by' := 184) (d := 17) (lx := (acc).length) (ly := 1) rfl rfl (by kernel_rfl) (show _ ≤ 4194304 by simp only [List.length_append, List.length_cons, List.length_nil]; omega) ?_)
    clear S; intro ac w N q44 F45 S up o46 d47
    clear up d47
    refine S.quiet (k := 1) (keep := [3, 7, 8, 9]) (m := 0) (σ' := ⟨[(3, .v (slv ((acc ++ [(el l k)])).length q44.1)), (7, .v (slv (l).length pl.1)), (8, .v (I ((l).length : Int))), (9, .v (I (k : Int)))], []⟩) .nil (by kernel_rfl) ?_
    clear S; intro ac w β S
    refine RG.done rfl (nx_block (nx_then ?_))
    refine RG.start ?_
    refine S.quiet (k := 2) (keep := [3, 7, 8, 9]) (m := 0) (σ' := ⟨[(3, .v (slv ((acc ++ [(el l k)])).length q44.1)), (7, .v (slv (l).length pl.1)), (8, .v (I ((l).length : Int))), (9, .v (I ((k : Int) + 1)))], []⟩) (.cons (Q_add (x := (k : Int)) (y := 1) ⟨by omega, by omega⟩) .nil) (by kernel_rfl) ?_
    clear S; intro ac w β S
    refine RG.done rfl (nx_then ?_)
    replace S := S.prune (keep := [3, 7, 8, 9]) (m := 0) (σ' := ⟨[(3, .v (slv ((acc ++ [(el l k)])).length q44.1)), (7, .v (slv (l).length pl.1)), (8, .v (I ((l).length : Int))), (9, .v (I ((k : Int) + 1)))], []⟩) (by kernel_rfl)
    refine ⟨(l).length - (k + 1), by omega, k + 1, (acc ++ [(el l k)]), q44, F45, _, _, _, rfl, ?_, ?_, S.cast (by kernel_rfl), o46⟩
    · clear S; first | omega | (simp [*]; done) | (simp [*]; omega)
    · clear S; (first | (rw [take_el (by omega), hacc]; done) | (rw [take_el (by omega), hacc]; simp; done))
  · have g48 : ¬ ((k : Int) < ((l).length : Int)) := of_decide_eq_false h8
    refine wp_exit (ex_then (ex_then (ex_hit (nx_then ?_))))
    refine wp_seq ?_
    refine RG.start ?_
    refine S.quiet (k := 2) (keep := [2]) (m := 0) (σ' := ⟨[(2, .v (slv (acc).length q5.1))], []⟩) .nil (by kernel_rfl) ?_
    clear S; intro ac w β S
    refine RG.done rfl (nx_then ?_)
    refine wp_ret ?_
    refine S.ret (vs := [slv (acc).length q5.1]) (by kernel_rfl) ?_
    exact ret1_of S (show l = acc by clear S; (rw [hacc, take_all (by omega)])) rfl o7

set_option maxRecDepth 100000 in
theorem c_impl_copyKept (w0 : World) (k : TKept) (pk : PKept) (hk : GT.rd KK (Lt w0.heap.size) w0 k pk) : Calls Go.Proofs.Try.prog 150 [GT.val (α := TKept) k pk].toArray w0 (Ret1 NoB w0 (k : TKept)) := by
  refine Calls.walk (args := [GT.val (α := TKept) k pk]) NoB Go.Proofs.Try.func150 rfl rfl ?_
  intro ac β S
  have hlek_known : k.known.length ≤ 4194304 := LRd.le (RKept.known (d := k) hk)
  have hlek_slots : k.slots.length ≤ 4194304 := LRd.le (RKept.slots (d := k) hk)
  refine wp_seq ?_
  refine RG.start ?_
  refine S.quiet (k := 2) (keep := [1, 2]) (m := 2) (σ' := ⟨[(1, .p 0 0), (2, .p 1 0)], [GT.cells (α := TKept) k pk, [slv (([] : List Bool)).length (GT.pdflt (α := List Bool)).1, slv (([] : List TSlot)).length (GT.pdflt (α := List TSlot)).1]]⟩) .nil (by kernel_rfl) ?_
  clear S; intro ac w β S
  refine RG.done rfl (nx_then ?_)
  refine wp_seq ?_
  refine S.draw0 (f := 9) 8 rfl rfl ?_
  clear S; intro w S
  refine S.hoist (i := 1) (path := [1]) (keep := [1, 2, 4]) (m := 2) (σ' := ⟨[(1, .p 0 0), (2, .p 1 0), (4, .p 0 0)], [GT.cells (α := TKept) k pk, [slv (([] : List Bool)).length (GT.pdflt (α := List Bool)).1, slv (([] : List TSlot)).length (GT.pdflt (α := List TSlot)).1]]⟩) (by kernel_rfl) (by kernel_rfl) .nil (by kernel_rfl) ?_
  clear S; intro ac S
  refine S.hoist (i := 2) (path := [2]) (keep := [1, 2, 5]) (m := 2) (σ' := ⟨[(1, .p 0 0), (2, .p 1 0), (5, .v (slv (k.known).length pk.known.1))], [GT.cells (α := TKept) k pk, [slv (([] : List Bool)).length (GT.pdflt (α := List Bool)).1, slv (([] : List TSlot)).length (GT.pdflt (α := List TSlot)).1]]⟩) (by kernel_rfl) (by kernel_rfl) .nil (by kernel_rfl) ?_
  clear S; intro ac S
  refine S.hoist (i := 4) (path := [4]) (keep := [2, 5, 7]) (m := 2) (σ' := ⟨[(2, .p 1 0), (5, .v (slv (k.known).length pk.known.1)), (7, .p 0 1)], [GT.cells (α := TKept) k pk, [slv (([] : List Bool)).length (GT.pdflt (α := List Bool)).1, slv (([] : List TSlot)).length (GT.pdflt (α := List TSlot)).1]]⟩) (by kernel_rfl) (by kernel_rfl) .nil (by kernel_rfl) ?_
  clear S; intro ac S
  refine S.hoist (i := 5) (path := [5]) (keep := [2, 5, 8]) (m := 2) (σ' := ⟨[(2, .p 1 0), (5, .v (slv (k.known).length pk.known.1)), (8, .v (slv (k.slots).length pk.slots.1))], [GT.cells (α := TKept) k pk, [slv (([] : List Bool)).length (GT.pdflt (α := List Bool)).1, slv (([] : List TSlot)).length (GT.pdflt (α := List TSlot)).1]]⟩) (by kernel_rfl) (by kernel_rfl) .nil (by kernel_rfl) ?_
  clear S; intro ac S
  refine WD.one (i := 0) (by kernel_rfl) ?_
  refine id (S.bs0 (α := Bool) (d := 3) (by kernel_rfl) ?_)
  clear S; intro ac w N q1 F2 S up o3 d4
  have hb5 := fun b h => (⟨(up b h).1, (up b h).2, d4 b h⟩ : _ ∧ _ ∧ _)
  refine WD.keep S up rfl ?_
  clear up d4
  refine WD.one (i := 3) (by kernel_rfl) ?_
  have b10 : (k.known).length ≤ 4194304 := LRd.le (RKept.known (d := k) (S.arg hk))
  refine id (S.appFlat (α := Bool) o3 ((RKept.known (d := k) (S.arg hk))) (fun _ _ h => h) (by' := 1) (d := 6) (lx := 0) (ly := (k.known).length) rfl rfl (by kernel_rfl) (show _ ≤ 4194304 by simp only [List.length_append, List.length_cons, List.length_nil]; omega) ?_)
  clear S; intro ac w N q6 F7 S up o8 d9
  have hb11 := fun b h => (⟨(up b (hb5 b h).1 (hb5 b h).2.2).1, (up b (hb5 b h).1 (hb5 b h).2.2).2.trans (hb5 b h).2.1⟩ : _ ∧ _)
  refine WD.next S hb11 rfl ?_
  clear up d9
  refine WD.one (i := 6) (by kernel_rfl) ?_
  refine id (S.call1 (r := k.slots) (d := 9) (c_impl_copyTable w k.slots pk.slots (S.rd (RKept.slots (d := k) (S.arg hk)))) (by kernel_rfl) rfl ?_)
  clear S; intro ac w N q12 F13 S up o14 d15
  refine WD.next S up rfl ?_
  have d16 : Disj F7 F13 := fun b x y => d15 b (o8.sub b x) y
  replace o8 := o8.up up
  clear up d15
  refine S.hoist (i := 7) (path := [7]) (keep := [2, 10]) (m := 2) (σ' := ⟨[(2, .p 1 0), (10, .v (GT.val (α := TKept) (⟨(([] : List Bool) ++ k.known), k.slots⟩ : TKept) (⟨q6, q12⟩ : PKept)))], [GT.cells (α := TKept) k pk, [slv (([] : List Bool)).length (GT.pdflt (α := List Bool)).1, slv (([] : List TSlot)).length (GT.pdflt (α := List TSlot)).1]]⟩) (by kernel_rfl) (by kernel_rfl) (.cons (Q_sem (s := Instr.build 106 [(0, slv ((([] : List Bool) ++ k.known)).length q6.1), (1, slv (k.slots).length q12.1)].toArray) (v := .agg [slv ((([] : List Bool) ++ k.known)).length q6.1, slv (k.slots).length q12.1].toArray) (fun w => by kernel_rfl)) .nil) (by kernel_rfl) ?_
  clear S; intro ac S
  refine WD.one (i := 8) (by kernel_rfl) ?_
  refine S.stepq (i := 8) (keep := [2]) (m := 2) (σ' := ⟨[(2, .p 1 0)], [GT.cells (α := TKept) k pk, [slv ((([] : List Bool) ++ k.known)).length q6.1, slv (k.slots).length q12.1]]⟩) .nil (by kernel_rfl) ?_
  clear S; intro ac w β S hβ
  refine WD.last (by kernel_rfl) ?_
  clear hβ
  refine WD.done (by kernel_rfl) ?_ _
  replace S := S.prune (keep := [2]) (m := 2) (σ' := ⟨[(2, .p 1 0)], [GT.cells (α := TKept) k pk, [slv ((([] : List Bool) ++ k.known)).length q6.1, slv (k.slots).length q12.1]]⟩) (by kernel_rfl)
  refine id (nx_then ?_)
  refine wp_ret ?_
  refine S.ret (vs := [GT.val (α := TKept) (⟨(([] : List Bool) ++ k.known), k.slots⟩ : TKept) (⟨q6, q12⟩ : PKept)]) (by kernel_rfl) ?_
  have o17 := ow_Kept (x := (⟨(([] : List Bool) ++ k.known), k.slots⟩ : TKept)) (p := (⟨q6, q12⟩ : PKept)) o8 o14 d16 
  exact ret1_of S (show k = (⟨(([] : List Bool) ++ k.known), k.slots⟩ : TKept) by clear S; (first | rfl | simp)) rfl o17

set_option maxRecDepth 100000 in
theorem c_impl_copyMon (w0 : World) (m : TMon) (pm : PMon) (hm : GT.rd KK (Lt w0.heap.size) w0 m pm) : Calls Go.Proofs.Try.prog 100 [GT.val (α := TMon) m pm].toArray w0 (Ret1 NoB w0 (m : TMon)) := by
  refine Calls.walk (args := [GT.val (α := TMon) m pm]) NoB Go.Proofs.Try.func100 rfl rfl ?_
  intro ac β S
  have hlem_outer : m.outer.length ≤ 4194304 := LRd.le (RMon.outer (d := m) hm)
  have hlem_out : m.out.length ≤ 4194304 := LRd.le (RMon.out (d := m) hm)
  have hlem_dirty : m.dirty.length ≤ 4194304 := LRd.le (RMon.dirty (d := m) hm)
  have hlem_guests : m.guests.length ≤ 4194304 := LRd.le (RMon.guests (d := m) hm)
  have hlem_outs : m.outs.length ≤ 4194304 := LRd.le (RMon.outs (d := m) hm)
  have hlem_tables : m.tables.length ≤ 4194304 := LRd.le (RMon.tables (d := m) hm)
  refine wp_seq ?_
  refine RG.start ?_
  refine S.quiet (k := 2) (keep := [1, 2]) (m := 2) (σ' := ⟨[(1, .p 0 0), (2, .p 1 0)], [GT.cells (α := TMon) m pm, [slv (([] : List TSlot)).length (GT.pdflt (α := List TSlot)).1, slv (([] : List (List Int))).length (GT.pdflt (α := List (List Int))).1, slv (([] : List Bool)).length (GT.pdflt (α := List Bool)).1, slv (([] : List TGuest)).length (GT.pdflt (α := List TGuest)).1, slv (([] : List Int)).length (GT.pdflt (α := List Int)).1, I 0, I 0, slv (([] : List TKept)).length (GT.pdflt (α := List TKept)).1, I 0]]⟩) .nil (by kernel_rfl) ?_
  clear S; intro ac w β S
  refine RG.done rfl (nx_then ?_)
  refine wp_seq ?_
  refine RG.start ?_
  refine S.quiet (k := 2) (keep := [1, 2, 7]) (m := 2) (σ' := ⟨[(1, .p 0 0), (2, .p 1 0), (7, .v (slv (m.outer).length pm.outer.1))], [GT.cells (α := TMon) m pm, [slv (([] : List TSlot)).length (GT.pdflt (α := List TSlot)).1, slv (([] : List (List Int))).length (GT.pdflt (α := List (List Int))).1, slv (([] : List Bool)).length (GT.pdflt (α := List Bool)).1, slv (([] : List TGuest)).length (GT.pdflt (α := List TGuest)).1, slv (([] : List Int)).length (GT.pdflt (α := List Int)).1, I 0, I 0, slv (([] : List TKept)).length (GT.pdflt (α := List TKept)).1, I 0]]⟩) .nil (by kernel_rfl) ?_
  clear S; intro ac w β S
  refine RG.op rfl (S.call1 (r := m.outer) (d := 8) (c_impl_copyTable w m.outer pm.outer (S.rd (RMon.outer (d := m) (S.arg hm)))) (by kernel_rfl) rfl ?_)
  clear S; intro ac w N q1 F2 S up o3 d4
  clear up d4
  refine S.quiet (k := 2) (keep := [1, 2]) (m := 2) (σ' := ⟨[(1, .p 0 0), (2, .p 1 0)], [[slv (m.outer).length q1.1, slv (m.out).length pm.out.1, slv (m.dirty).length pm.dirty.1, slv (m.guests).length pm.guests.1, slv (m.outs).length pm.outs.1, I m.pend, I m.traps, slv (m.tables).length pm.tables.1, I m.owned], [slv (([] : List TSlot)).length (GT.pdflt (α := List TSlot)).1, slv (([] : List (List Int))).length (GT.pdflt (α := List (List Int))).1, slv (([] : List Bool)).length (GT.pdflt (α := List Bool)).1, slv (([] : List TGuest)).length (GT.pdflt (α := List TGuest)).1, slv (([] : List Int)).length (GT.pdflt (α := List Int)).1, I 0, I 0, slv (([] : List TKept)).length (GT.pdflt (α := List TKept)).1, I 0]]⟩) .nil (by kernel_rfl) ?_
  clear S; intro ac w β S
  refine RG.done rfl (nx_then ?_)
  refine wp_seq ?_
  refine RG.start ?_
  refine S.quiet (k := 2) (keep := [1, 2, 11]) (m := 2) (σ' := ⟨[(1, .p 0 0), (2, .p 1 0), (11, .v (slv (m.out).length pm.out.1))], [[slv (m.outer).length q1.1, slv (m.out).length pm.out.1, slv (m.dirty).length pm.dirty.1, slv (m.guests).length pm.guests.1, slv (m.outs).length pm.outs.1, I m.pend, I m.traps, slv (m.tables).length pm.tables.1, I m.owned], [slv (([] : List TSlot)).length (GT.pdflt (α := List TSlot)).1, slv (([] : List (List Int))).length (GT.pdflt (α := List (List Int))).1, slv (([] : List Bool)).length (GT.pdflt (α := List Bool)).1, slv (([] : List TGuest)).length (GT.pdflt (α := List TGuest)).1, slv (([] : List Int)).length (GT.pdflt (α := List Int)).1, I 0, I 0, slv (([] : List TKept)).length (GT.pdflt (α := List TKept)).1, I 0]]⟩) .nil (by kernel_rfl) ?_
  clear S; intro ac w β S
  refine RG.op rfl (S.call1 (r := m.out) (d := 12) (c_impl_copyMem w m.out pm.out (S.rd (RMon.out (d := m) (S.arg hm)))) (by kernel_rfl) rfl ?_)
  clear S; intro ac w N q5 F6 S up o7 d8
  have d9 : Disj F2 F6 := fun b x y => d8 b (o3.sub b x) y
  replace o3 := o3.up up
  clear up d8
  refine S.quiet (k := 2) (keep := [1, 2]) (m := 2) (σ' := ⟨[(1, .p 0 0), (2, .p 1 0)], [[slv (m.outer).length q1.1, slv (m.out).length q5.1, slv (m.dirty).length pm.dirty.1, slv (m.guests).length pm.guests.1, slv (m.outs).length pm.outs.1, I m.pend, I m.traps, slv (m.tables).length pm.tables.1, I m.owned], [slv (([] : List TSlot)).length (GT.pdflt (α := List TSlot)).1, slv (([] : List (List Int))).length (GT.pdflt (α := List (List Int))).1, slv (([] : List Bool)).length (GT.pdflt (α := List Bool)).1, slv (([] : List TGuest)).length (GT.pdflt (α := List TGuest)).1, slv (([] : List Int)).length (GT.pdflt (α := List Int)).1, I 0, I 0, slv (([] : List TKept)).length (GT.pdflt (α := List TKept)).1, I 0]]⟩) .nil (by kernel_rfl) ?_
  clear S; intro ac w β S
  refine RG.done rfl (nx_then ?_)
  refine wp_seq ?_
  refine RG.start ?_
  refine RG.op rfl (S.bs0 (α := Bool) (d := 14) (by kernel_rfl) ?_)
  clear S; intro ac w N q10 F11 S up o12 d13
  have d14 : Disj F2 F11 := fun b x y => d13 b (o3.sub b x) y
  have d15 : Disj F6 F11 := fun b x y => d13 b (o7.sub b x) y
  replace o3 := o3.up up
  replace o7 := o7.up up
  clear up d13
  refine S.quiet (k := 2) (keep := [1, 2, 14, 16]) (m := 2) (σ' := ⟨[(1, .p 0 0), (2, .p 1 0), (14, .v (slv 0 q10.1)), (16, .v (slv (m.dirty).length pm.dirty.1))], [[slv (m.outer).length q1.1, slv (m.out).length q5.1, slv (m.dirty).length pm.dirty.1, slv (m.guests).length pm.guests.1, slv (m.outs).length pm.outs.1, I m.pend, I m.traps, slv (m.tables).length pm.tables.1, I m.owned], [slv (([] : List TSlot)).length (GT.pdflt (α := List TSlot)).1, slv (([] : List (List Int))).length (GT.pdflt (α := List (List Int))).1, slv (([] : List Bool)).length (GT.pdflt (α := List Bool)).1, slv (([] : List TGuest)).length (GT.pdflt (α := List TGuest)).1, slv (([] : List Int)).length (GT.pdflt (α := List Int)).1, I 0, I 0, slv (([] : List TKept)).length (GT.pdflt (α := List TKept)).1, I 0]]⟩) .nil (by kernel_rfl) ?_
  clear S; intro ac w β S
  have b20 : (m.dirty).length ≤ 4194304 := LRd.le (RMon.dirty (d := m) (S.arg hm))
  refine RG.op rfl (S.appFlat (α := Bool) o12 ((RMon.dirty (d := m) (S.arg hm))) (fun _ _ h => h) (by' := 1) (d := 17) (lx := 0) (ly := (m.dirty).length) rfl rfl (by kernel_rfl) (show _ ≤ 4194304 by simp only [List.length_append, List.length_cons, List.length_nil]; omega) ?_)
  clear S; intro ac w N q16 F17 S up o18 d19
  have d21 : Disj F2 F17 := d19 _ d14 o3.sub
  have d22 : Disj F6 F17 := d19 _ d15 o7.sub
  replace o3 := o3.upF d14 up
  replace o7 := o7.upF d15 up
  clear up d19
  refine S.quiet (k := 2) (keep := [1, 2]) (m := 2) (σ' := ⟨[(1, .p 0 0), (2, .p 1 0)], [[slv (m.outer).length q1.1, slv (m.out).length q5.1, slv ((([] : List Bool) ++ m.dirty)).length q16.1, slv (m.guests).length pm.guests.1, slv (m.outs).length pm.outs.1, I m.pend, I m.traps, slv (m.tables).length pm.tables.1, I m.owned], [slv (([] : List TSlot)).length (GT.pdflt (α := List TSlot)).1, slv (([] : List (List Int))).length (GT.pdflt (α := List (List Int))).1, slv (([] : List Bool)).length (GT.pdflt (α := List Bool)).1, slv (([] : List TGuest)).length (GT.pdflt (α := List TGuest)).1, slv (([] : List Int)).length (GT.pdflt (α := List Int)).1, I 0, I 0, slv (([] : List TKept)).length (GT.pdflt (α := List TKept)).1, I 0]]⟩) .nil (by kernel_rfl) ?_
  clear S; intro ac w β S
  refine RG.done rfl (nx_then ?_)
  refine wp_seq ?_
  refine RG.start ?_
  refine S.quiet (k := 2) (keep := [1, 2, 20]) (m := 2) (σ' := ⟨[(1, .p 0 0), (2, .p 1 0), (20, .v (slv (m.guests).length pm.guests.1))], [[slv (m.outer).length q1.1, slv (m.out).length q5.1, slv ((([] : List Bool) ++ m.dirty)).length q16.1, slv (m.guests).length pm.guests.1, slv (m.outs).length pm.outs.1, I m.pend, I m.traps, slv (m.tables).length pm.tables.1, I m.owned], [slv (([] : List TSlot)).length (GT.pdflt (α := List TSlot)).1, slv (([] : List (List Int))).length (GT.pdflt (α := List (List Int))).1, slv (([] : List Bool)).length (GT.pdflt (α := List Bool)).1, slv (([] : List TGuest)).length (GT.pdflt (α := List TGuest)).1, slv (([] : List Int)).length (GT.pdflt (α := List Int)).1, I 0, I 0, slv (([] : List TKept)).length (GT.pdflt (α := List TKept)).1, I 0]]⟩) .nil (by kernel_rfl) ?_
  clear S; intro ac w β S
  refine RG.op rfl (S.call1 (r := m.guests) (d := 21) (c_impl_copyGuests w m.guests pm.guests (S.rd (RMon.guests (d := m) (S.arg hm)))) (by kernel_rfl) rfl ?_)
  clear S; intro ac w N q23 F24 S up o25 d26
  have d27 : Disj F2 F24 := fun b x y => d26 b (o3.sub b x) y
  have d28 : Disj F6 F24 := fun b x y => d26 b (o7.sub b x) y
  have d29 : Disj F17 F24 := fun b x y => d26 b (o18.sub b x) y
  replace o3 := o3.up up
  replace o7 := o7.up up
  replace o18 := o18.up up
  clear up d26
  refine S.quiet (k := 2) (keep := [1, 2]) (m := 2) (σ' := ⟨[(1, .p 0 0), (2, .p 1 0)], [[slv (m.outer).length q1.1, slv (m.out).length q5.1, slv ((([] : List Bool) ++ m.dirty)).length q16.1, slv (m.guests).length q23.1, slv (m.outs).length pm.outs.1, I m.pend, I m.traps, slv (m.tables).length pm.tables.1, I m.owned], [slv (([] : List TSlot)).length (GT.pdflt (α := List TSlot)).1, slv (([] : List (List Int))).length (GT.pdflt (α := List (List Int))).1, slv (([] : List Bool)).length (GT.pdflt (α := List Bool)).1, slv (([] : List TGuest)).length (GT.pdflt (α := List TGuest)).1, slv (([] : List Int)).length (GT.pdflt (α := List Int)).1, I 0, I 0, slv (([] : List TKept)).length (GT.pdflt (α := List TKept)).1, I 0]]⟩) .nil (by kernel_rfl) ?_
  clear S; intro ac w β S
  refine RG.done rfl (nx_then ?_)
  refine wp_seq ?_
  refine RG.start ?_
  refine S.quiet (k := 2) (keep := [1, 2, 24]) (m := 2) (σ' := ⟨[(1, .p 0 0), (2, .p 1 0), (24, .v (slv (m.outs).length pm.outs.1))], [[slv (m.outer).length q1.1, slv (m.out).length q5.1, slv ((([] : List Bool) ++ m.dirty)).length q16.1, slv (m.guests).length q23.1, slv (m.outs).length pm.outs.1, I m.pend, I m.traps, slv (m.tables).length pm.tables.1, I m.owned], [slv (([] : List TSlot)).length (GT.pdflt (α := List TSlot)).1, slv (([] : List (List Int))).length (GT.pdflt (α := List (List Int))).1, slv (([] : List Bool)).length (GT.pdflt (α := List Bool)).1, slv (([] : List TGuest)).length (GT.pdflt (α := List TGuest)).1, slv (([] : List Int)).length (GT.pdflt (α := List Int)).1, I 0, I 0, slv (([] : List TKept)).length (GT.pdflt (α := List TKept)).1, I 0]]⟩) .nil (by kernel_rfl) ?_
  clear S; intro ac w β S
  refine RG.op rfl (S.call1 (r := m.outs) (d := 25) (c_impl_copyInts w m.outs pm.outs (S.rd (RMon.outs (d := m) (S.arg hm)))) (by kernel_rfl) rfl ?_)
  clear S; intro ac w N q30 F31 S up o32 d33
  have d34 : Disj F2 F31 := fun b x y => d33 b (o3.sub b x) y
  have d35 : Disj F6 F31 := fun b x y => d33 b (o7.sub b x) y
  have d36 : Disj F17 F31 := fun b x y => d33 b (o18.sub b x) y
  have d37 : Disj F24 F31 := fun b x y => d33 b (o25.sub b x) y
  replace o3 := o3.up up
  replace o7 := o7.up up
  replace o18 := o18.up up
  replace o25 := o25.up up
  clear up d33
  refine S.quiet (k := 2) (keep := [1, 2]) (m := 2) (σ' := ⟨[(1, .p 0 0), (2, .p 1 0)], [[slv (m.outer).length q1.1, slv (m.out).length q5.1, slv ((([] : List Bool) ++ m.dirty)).length q16.1, slv (m.guests).length q23.1, slv (m.outs).length q30.1, I m.pend, I m.traps, slv (m.tables).length pm.tables.1, I m.owned], [slv (([] : List TSlot)).length (GT.pdflt (α := List TSlot)).1, slv (([] : List (List Int))).length (GT.pdflt (α := List (List Int))).1, slv (([] : List Bool)).length (GT.pdflt (α := List Bool)).1, slv (([] : List TGuest)).length (GT.pdflt (α := List TGuest)).1, slv (([] : List Int)).length (GT.pdflt (α := List Int)).1, I 0, I 0, slv (([] : List TKept)).length (GT.pdflt (α := List TKept)).1, I 0]]⟩) .nil (by kernel_rfl) ?_
  clear S; intro ac w β S
  refine RG.done rfl (nx_then ?_)
  refine wp_seq ?_
  refine RG.start ?_
  refine RG.op rfl (S.bs0 (α := TKept) (d := 27) (by kernel_rfl) ?_)
  clear S; intro ac w N q38 F39 S up o40 d41
  have d42 : Disj F2 F39 := fun b x y => d41 b (o3.sub b x) y
  have d43 : Disj F6 F39 := fun b x y => d41 b (o7.sub b x) y
  have d44 : Disj F17 F39 := fun b x y => d41 b (o18.sub b x) y
  have d45 : Disj F24 F39 := fun b x y => d41 b (o25.sub b x) y
  have d46 : Disj F31 F39 := fun b x y => d41 b (o32.sub b x) y
  replace o3 := o3.up up
  replace o7 := o7.up up
  replace o18 := o18.up up
  replace o25 := o25.up up
  replace o32 := o32.up up
  clear up d41
  refine S.quiet (k := 1) (keep := [1, 2, 3]) (m := 2) (σ' := ⟨[(1, .p 0 0), (2, .p 1 0), (3, .v (slv 0 q38.1))], [[slv (m.outer).length q1.1, slv (m.out).length q5.1, slv ((([] : List Bool) ++ m.dirty)).length q16.1, slv (m.guests).length q23.1, slv (m.outs).length q30.1, I m.pend, I m.traps, slv (m.tables).length pm.tables.1, I m.owned], [slv (([] : List TSlot)).length (GT.pdflt (α := List TSlot)).1, slv (([] : List (List Int))).length (GT.pdflt (α := List (List Int))).1, slv (([] : List Bool)).length (GT.pdflt (α := List Bool)).1, slv (([] : List TGuest)).length (GT.pdflt (α := List TGuest)).1, slv (([] : List Int)).length (GT.pdflt (α := List Int)).1, I 0, I 0, slv (([] : List TKept)).length (GT.pdflt (α := List TKept)).1, I 0]]⟩) .nil (by kernel_rfl) ?_
  clear S; intro ac w β S
  refine RG.done rfl (nx_then ?_)
  refine wp_seq ?_
  refine wp_seq ?_
  refine RG.start ?_
  refine S.quiet (k := 4) (keep := [1, 2, 3, 29, 30, 31]) (m := 2) (σ' := ⟨[(1, .p 0 0), (2, .p 1 0), (3, .v (slv 0 q38.1)), (29, .v (slv (m.tables).length pm.tables.1)), (30, .v (I ((m.tables).length : Int))), (31, .v (I 0))], [[slv (m.outer).length q1.1, slv (m.out).length q5.1, slv ((([] : List Bool) ++ m.dirty)).length q16.1, slv (m.guests).length q23.1, slv (m.outs).length q30.1, I m.pend, I m.traps, slv (m.tables).length pm.tables.1, I m.owned], [slv (([] : List TSlot)).length (GT.pdflt (α := List TSlot)).1, slv (([] : List (List Int))).length (GT.pdflt (α := List (List Int))).1, slv (([] : List Bool)).length (GT.pdflt (α := List Bool)).1, slv (([] : List TGuest)).length (GT.pdflt (α := List TGuest)).1, slv (([] : List Int)).length (GT.pdflt (α := List Int)).1, I 0, I 0, slv (([] : List TKept)).length (GT.pdflt (α := List TKept)).1, I 0]]⟩) .nil (by kernel_rfl) ?_
  clear S; intro ac w β S
  refine RG.done rfl (nx_then ?_)
  refine wp_block ?_
  replace S := S.prune (keep := [1, 2, 3, 29, 30, 31]) (m := 2) (σ' := ⟨[(1, .p 0 0), (2, .p 1 0), (3, .v (slv 0 q38.1)), (29, .v (slv (m.tables).length pm.tables.1)), (30, .v (I ((m.tables).length : Int))), (31, .v (I 0))], [[slv (m.outer).length q1.1, slv (m.out).length q5.1, slv ((([] : List Bool) ++ m.dirty)).length q16.1, slv (m.guests).length q23.1, slv (m.outs).length q30.1, I m.pend, I m.traps, slv (m.tables).length pm.tables.1, I m.owned], [slv (([] : List TSlot)).length (GT.pdflt (α := List TSlot)).1, slv (([] : List (List Int))).length (GT.pdflt (α := List (List Int))).1, slv (([] : List Bool)).length (GT.pdflt (α := List Bool)).1, slv (([] : List TGuest)).length (GT.pdflt (α := List TGuest)).1, slv (([] : List Int)).length (GT.pdflt (α := List Int)).1, I 0, I 0, slv (([] : List TKept)).length (GT.pdflt (α := List TKept)).1, I 0]]⟩) (by kernel_rfl)
  refine wp_loop_down (fun mm ac w => ∃ (k : Nat) (acc : List TKept) (q47 : GT.Ptr (List TKept)) (F48 : Bl) (u : World) (N : Bl) (β : Nat → Nat), mm = (m.tables).length - k ∧ (k ≤ (m.tables).length) ∧ (acc = (m.tables).take k) ∧ St Go.Proofs.Try.prog Go.Proofs.Try.f100.ntmps w0 NoB u N β ⟨[(1, .p 0 0), (2, .p 1 0), (3, .v (slv (acc).length q47.1)), (29, .v (slv (m.tables).length pm.tables.1)), (30, .v (I ((m.tables).length : Int))), (31, .v (I (k : Int)))], [[slv (m.outer).length q1.1, slv (m.out).length q5.1, slv ((([] : List Bool) ++ m.dirty)).length q16.1, slv (m.guests).length q23.1, slv (m.outs).length q30.1, I m.pend, I m.traps, slv (m.tables).length pm.tables.1, I m.owned], [slv (([] : List TSlot)).length (GT.pdflt (α := List TSlot)).1, slv (([] : List (List Int))).length (GT.pdflt (α := List (List Int))).1, slv (([] : List Bool)).length (GT.pdflt (α := List Bool)).1, slv (([] : List TGuest)).length (GT.pdflt (α := List TGuest)).1, slv (([] : List Int)).length (GT.pdflt (α := List Int)).1, I 0, I 0, slv (([] : List TKept)).length (GT.pdflt (α := List TKept)).1, I 0]]⟩ ac w ∧ Ow w0 NoB u N F48 acc q47 ∧ Ow w0 NoB u N F2 m.outer q1 ∧ Ow w0 NoB u N F6 m.out q5 ∧ Ow w0 NoB u N F17 (([] : List Bool) ++ m.dirty) q16 ∧ Ow w0 NoB u N F24 m.guests q23 ∧ Ow w0 NoB u N F31 m.outs q30 ∧ Disj F48 F2 ∧ Disj F48 F6 ∧ Disj F48 F17 ∧ Disj F48 F24 ∧ Disj F48 F31) _ ⟨0, ([] : List TKept), q38, F39, _, _, _, rfl, (by first | omega | (simp; done) | (simp; omega)), (by simp), S.cast (by kernel_rfl), o40, o3, o7, o18, o25, o32, (Disj.symm d42), (Disj.symm d43), (Disj.symm d44), (Disj.symm d45), (Disj.symm d46)⟩ ?_
  clear S o18 o25 o3 o32 o40 o7
  rintro mm ac w ⟨k, acc, q47, F48, u, N, β, rfl, hk, hacc, S, o49, o3, o7, o18, o25, o32, d50, d51, d52, d53, d54⟩
  have hlacc : acc.length = k := by rw [hacc]; simp; omega
  refine wp_seq ?_
  refine RG.start ?_
  refine S.quiet (k := 1) (keep := [1, 2, 3, 29, 30, 31, 32]) (m := 2) (σ' := ⟨[(1, .p 0 0), (2, .p 1 0), (3, .v (slv (acc).length q47.1)), (29, .v (slv (m.tables).length pm.tables.1)), (30, .v (I ((m.tables).length : Int))), (31, .v (I (k : Int))), (32, .v (B (decide ((k : Int) < ((m.tables).length : Int)))))], [[slv (m.outer).length q1.1, slv (m.out).length q5.1, slv ((([] : List Bool) ++ m.dirty)).length q16.1, slv (m.guests).length q23.1, slv (m.outs).length q30.1, I m.pend, I m.traps, slv (m.tables).length pm.tables.1, I m.owned], [slv (([] : List TSlot)).length (GT.pdflt (α := List TSlot)).1, slv (([] : List (List Int))).length (GT.pdflt (α := List (List Int))).1, slv (([] : List Bool)).length (GT.pdflt (α := List Bool)).1, slv (([] : List TGuest)).length (GT.pdflt (α := List TGuest)).1, slv (([] : List Int)).length (GT.pdflt (α := List Int)).1, I 0, I 0, slv (([] : List TKept)).length (GT.pdflt (α := List TKept)).1, I 0]]⟩) .nil (by kernel_rfl) ?_
  clear S; intro ac w β S
  refine RG.done rfl (nx_then ?_)
  refine wp_seq ?_
  refine S.cond (e := (decide ((k : Int) < ((m.tables).length : Int)))) (by kernel_rfl) (fun h55 => ?_) (fun h55 => ?_)
  · have g56 : (k : Int) < ((m.tables).length : Int) := of_decide_eq_true h55
    refine wp_skip (nx_then ?_)
    refine wp_seq ?_
    refine wp_block ?_
    refine wp_seq ?_
    refine RG.start ?_
    refine S.quiet (k := 4) (keep := [1, 2, 3, 5, 29, 30, 31]) (m := 3) (σ' := ⟨[(1, .p 0 0), (2, .p 1 0), (3, .v (slv (acc).length q47.1)), (5, .p 2 0), (29, .v (slv (m.tables).length pm.tables.1)), (30, .v (I ((m.tables).length : Int))), (31, .v (I (k : Int)))], [[slv (m.outer).length q1.1, slv (m.out).length q5.1, slv ((([] : List Bool) ++ m.dirty)).length q16.1, slv (m.guests).length q23.1, slv (m.outs).length q30.1, I m.pend, I m.traps, slv (m.tables).length pm.tables.1, I m.owned], [slv (([] : List TSlot)).length (GT.pdflt (α := List TSlot)).1, slv (([] : List (List Int))).length (GT.pdflt (α := List (List Int))).1, slv (([] : List Bool)).length (GT.pdflt (α := List Bool)).1, slv (([] : List TGuest)).length (GT.pdflt (α := List TGuest)).1, slv (([] : List Int)).length (GT.pdflt (α := List Int)).1, I 0, I 0, slv (([] : List TKept)).length (GT.pdflt (α := List TKept)).1, I 0], GT.cells (α := TKept) (el m.tables k) (pm.tables.2 k)]⟩) (.cons (Q_idx (RMon.tables (d := m) (S.arg hm)) (l := (m.tables).length) (k := k) (i := (k : Int)) rfl rfl (by omega) Go.Proofs.Try.underlying48 (by kernel_rfl)) (.cons (Q_el (RMon.tables (d := m) (S.arg hm)) (t := 106) (k := k) (by omega) rfl (by kernel_rfl) (by kernel_rfl)) .nil)) (by kernel_rfl) ?_
    clear S; intro ac w β S
    refine RG.done rfl (nx_then ?_)
    refine RG.start ?_
    refine S.quiet (k := 2) (keep := [1, 2, 29, 30, 31, 35, 36]) (m := 2) (σ' := ⟨[(1, .p 0 0), (2, .p 1 0), (29, .v (slv (m.tables).length pm.tables.1)), (30, .v (I ((m.tables).length : Int))), (31, .v (I (k : Int))), (35, .v (slv (acc).length q47.1)), (36, .v (GT.val (α := TKept) (el m.tables k) (pm.tables.2 k)))], [[slv (m.outer).length q1.1, slv (m.out).length q5.1, slv ((([] : List Bool) ++ m.dirty)).length q16.1, slv (m.guests).length q23.1, slv (m.outs).length q30.1, I m.pend, I m.traps, slv (m.tables).length pm.tables.1, I m.owned], [slv (([] : List TSlot)).length (GT.pdflt (α := List TSlot)).1, slv (([] : List (List Int))).length (GT.pdflt (α := List (List Int))).1, slv (([] : List Bool)).length (GT.pdflt (α := List Bool)).1, slv (([] : List TGuest)).length (GT.pdflt (α := List TGuest)).1, slv (([] : List Int)).length (GT.pdflt (α := List Int)).1, I 0, I 0, slv (([] : List TKept)).length (GT.pdflt (α := List TKept)).1, I 0]]⟩) .nil (by kernel_rfl) ?_
    clear S; intro ac w β S
    refine RG.op rfl (S.call1 (r := (el m.tables k)) (d := 37) (c_impl_copyKept w (el m.tables k) (pm.tables.2 k) (S.rd (LRd.el (RMon.tables (d := m) (S.arg hm)) k (by omega)))) (by kernel_rfl) rfl ?_)
    clear S; intro ac w N q57 F58 S up o59 d60
    have d61 : Disj F48 F58 := fun b x y => d60 b (o49.sub b x) y
    have d62 : Disj F2 F58 := fun b x y => d60 b (o3.sub b x) y
    have d63 : Disj F6 F58 := fun b x y => d60 b (o7.sub b x) y
    have d64 : Disj F17 F58 := fun b x y => d60 b (o18.sub b x) y
    have d65 : Disj F24 F58 := fun b x y => d60 b (o25.sub b x) y
    have d66 : Disj F31 F58 := fun b x y => d60 b (o32.sub b x) y
    replace o49 := o49.up up
    replace o3 := o3.up up
    replace o7 := o7.up up
    replace o18 := o18.up up
    replace o25 := o25.up up
    replace o32 := o32.up up
    clear up d60
    obtain ⟨F67, F70, o68, o71, s69, s72, d73⟩ := sp_Kept o59
    have o78 := ow_Kept (x := (el m.tables k)) (p := q57) o68 o71 d73 
    refine RG.op rfl (S.bs1 (α := TKept) (x := (el m.tables k)) (p := q57) o78.own o78.sub o78.young (d := 38) (by kernel_rfl) ?_)
    clear S; intro ac w N q74 F75 S up o76 d77
    have d79 : Disj F48 F75 := d77 _ (Disj.symm (Disj.or (Disj.part (Disj.symm d61) s69) (Disj.or (Disj.part (Disj.symm d61) s72) Disj.nob))) o49.sub
    have d80 : Disj F2 F75 := d77 _ (Disj.symm (Disj.or (Disj.part (Disj.symm d62) s69) (Disj.or (Disj.part (Disj.symm d62) s72) Disj.nob))) o3.sub
    have d81 : Disj F6 F75 := d77 _ (Disj.symm (Disj.or (Disj.part (Disj.symm d63) s69) (Disj.or (Disj.part (Disj.symm d63) s72) Disj.nob))) o7.sub
    have d82 : Disj F17 F75 := d77 _ (Disj.symm (Disj.or (Disj.part (Disj.symm d64) s69) (Disj.or (Disj.part (Disj.symm d64) s72) Disj.nob))) o18.sub
    have d83 : Disj F24 F75 := d77 _ (Disj.symm (Disj.or (Disj.part (Disj.symm d65) s69) (Disj.or (Disj.part (Disj.symm d65) s72) Disj.nob))) o25.sub
    have d84 : Disj F31 F75 := d77 _ (Disj.symm (Disj.or (Disj.part (Disj.symm d66) s69) (Disj.or (Disj.part (Disj.symm d66) s72) Disj.nob))) o32.sub
    replace o49 := o49.up up
    replace o3 := o3.up up
    replace o7 := o7.up up
    replace o18 := o18.up up
    replace o25 := o25.up up
    replace o32 := o32.up up
    clear up d77
    refine RG.op rfl (S.appOwn (α := TKept) o49 o76 d79 (by' := 48) (d := 39) (lx := (acc).length) (ly := 1) rfl rfl (by kernel_rfl) (show _ ≤ 4194304 by simp only [List.length_append, List.length_cons, List.length_nil]; omega) ?_)
    clear S; intro ac w N q85 F86 S up o87 d88
    have d89 : Disj F2 F86 := d88 _ (Disj.symm d50) d80 o3.sub
    have d90 : Disj F6 F86 := d88 _ (Disj.symm d51) d81 o7.sub
    have d91 : Disj F17 F86 := d88 _ (Disj.symm d52) d82 o18.sub
    have d92 : Disj F24 F86 := d88 _ (Disj.symm d53) d83 o25.sub
    have d93 : Disj F31 F86 := d88 _ (Disj.symm d54) d84 o32.sub
    replace o3 := o3.upF (Disj.symm d50) up
    replace o7 := o7.upF (Disj.symm d51) up
    replace o18 := o18.upF (Disj.symm d52) up
    replace o25 := o25.upF (Disj.symm d53) up
    replace o32 := o32.upF (Disj.symm d54) up
    clear up d88
    refine S.quiet (k := 1) (keep := [1, 2, 3, 29, 30, 31]) (m := 2) (σ' := ⟨[(1, .p 0 0), (2, .p 1 0), (3, .v (slv ((acc ++ [(el m.tables k)])).length q85.1)), (29, .v (slv (m.tables).length pm.tables.1)), (30, .v (I ((m.tables).length : Int))), (31, .v (I (k : Int)))], [[slv (m.outer).length q1.1, slv (m.out).length q5.1, slv ((([] : List Bool) ++ m.dirty)).length q16.1, slv (m.guests).length q23.1, slv (m.outs).length q30.1, I m.pend, I m.traps, slv (m.tables).length pm.tables.1, I m.owned], [slv (([] : List TSlot)).length (GT.pdflt (α := List TSlot)).1, slv (([] : List (List Int))).length (GT.pdflt (α := List (List Int))).1, slv (([] : List Bool)).length (GT.pdflt (α := List Bool)).1, slv (([] : List TGuest)).length (GT.pdflt (α := List TGuest)).1, slv (([] : List Int)).length (GT.pdflt (α := List Int)).1, I 0, I 0, slv (([] : List TKept)).length (GT.pdflt (α := List TKept)).1, I 0]]⟩) .nil (by kernel_rfl) ?_
    clear S; intro ac w β S
    refine RG.done rfl (nx_block (nx_then ?_))
    refine RG.start ?_
    refine S.quiet (k := 2) (keep := [1, 2, 3, 29, 30, 31]) (m := 2) (σ' := ⟨[(1, .p 0 0), (2, .p 1 0), (3, .v (slv ((acc ++ [(el m.tables k)])).length q85.1)), (29, .v (slv (m.tables).length pm.tables.1)), (30, .v (I ((m.tables).length : Int))), (31, .v (I ((k : Int) + 1)))], [[slv (m.outer).length q1.1, slv (m.out).length q5.1, slv ((([] : List Bool) ++ m.dirty)).length q16.1, slv (m.guests).length q23.1, slv (m.outs).length q30.1, I m.pend, I m.traps, slv (m.tables).length pm.tables.1, I m.owned], [slv (([] : List TSlot)).length (GT.pdflt (α := List TSlot)).1, slv (([] : List (List Int))).length (GT.pdflt (α := List (List Int))).1, slv (([] : List Bool)).length (GT.pdflt (α := List Bool)).1, slv (([] : List TGuest)).length (GT.pdflt (α := List TGuest)).1, slv (([] : List Int)).length (GT.pdflt (α := List Int)).1, I 0, I 0, slv (([] : List TKept)).length (GT.pdflt (α := List TKept)).1, I 0]]⟩) (.cons (Q_add (x := (k : Int)) (y := 1) ⟨by omega, by omega⟩) .nil) (by kernel_rfl) ?_
    clear S; intro ac w β S
    refine RG.done rfl (nx_then ?_)
    replace S := S.prune (keep := [1, 2, 3, 29, 30, 31]) (m := 2) (σ' := ⟨[(1, .p 0 0), (2, .p 1 0), (3, .v (slv ((acc ++ [(el m.tables k)])).length q85.1)), (29, .v (slv (m.tables).length pm.tables.1)), (30, .v (I ((m.tables).length : Int))), (31, .v (I ((k : Int) + 1)))], [[slv (m.outer).length q1.1, slv (m.out).length q5.1, slv ((([] : List Bool) ++ m.dirty)).length q16.1, slv (m.guests).length q23.1, slv (m.outs).length q30.1, I m.pend, I m.traps, slv (m.tables).length pm.tables.1, I m.owned], [slv (([] : List TSlot)).length (GT.pdflt (α := List TSlot)).1, slv (([] : List (List Int))).length (GT.pdflt (α := List (List Int))).1, slv (([] : List Bool)).length (GT.pdflt (α := List Bool)).1, slv (([] : List TGuest)).length (GT.pdflt (α := List TGuest)).1, slv (([] : List Int)).length (GT.pdflt (α := List Int)).1, I 0, I 0, slv (([] : List TKept)).length (GT.pdflt (α := List TKept)).1, I 0]]⟩) (by kernel_rfl)
    refine ⟨(m.tables).length - (k + 1), by omega, k + 1, (acc ++ [(el m.tables k)]), q85, F86, _, _, _, rfl, ?_, ?_, S.cast (by kernel_rfl), o87, o3, o7, o18, o25, o32, (Disj.symm d89), (Disj.symm d90), (Disj.symm d91), (Disj.symm d92), (Disj.symm d93)⟩
    · clear S; first | omega | (simp [*]; done) | (simp [*]; omega)
    · clear S; (first | (rw [take_el (by omega), hacc]; done) | (rw [take_el (by omega), hacc]; simp; done))
  · have g94 : ¬ ((k : Int) < ((m.tables).length : Int)) := of_decide_eq_false h55
    refine wp_exit (ex_then (ex_then (ex_hit (nx_then ?_))))
    refine wp_seq ?_
    refine RG.start ?_
    refine S.quiet (k := 3) (keep := [1, 2]) (m := 2) (σ' := ⟨[(1, .p 0 0), (2, .p 1 0)], [[slv (m.outer).length q1.1, slv (m.out).length q5.1, slv ((([] : List Bool) ++ m.dirty)).length q16.1, slv (m.guests).length q23.1, slv (m.outs).length q30.1, I m.pend, I m.traps, slv (acc).length q47.1, I m.owned], [slv (([] : List TSlot)).length (GT.pdflt (α := List TSlot)).1, slv (([] : List (List Int))).length (GT.pdflt (α := List (List Int))).1, slv (([] : List Bool)).length (GT.pdflt (α := List Bool)).1, slv (([] : List TGuest)).length (GT.pdflt (α := List TGuest)).1, slv (([] : List Int)).length (GT.pdflt (α := List Int)).1, I 0, I 0, slv (([] : List TKept)).length (GT.pdflt (α := List TKept)).1, I 0]]⟩) .nil (by kernel_rfl) ?_
    clear S; intro ac w β S
    refine RG.done rfl (nx_then ?_)
    refine wp_seq ?_
    refine RG.start ?_
    refine S.quiet (k := 2) (keep := [2]) (m := 2) (σ' := ⟨[(2, .p 1 0)], [[slv (m.outer).length q1.1, slv (m.out).length q5.1, slv ((([] : List Bool) ++ m.dirty)).length q16.1, slv (m.guests).length q23.1, slv (m.outs).length q30.1, I m.pend, I m.traps, slv (acc).length q47.1, I m.owned], [slv (m.outer).length q1.1, slv (m.out).length q5.1, slv ((([] : List Bool) ++ m.dirty)).length q16.1, slv (m.guests).length q23.1, slv (m.outs).length q30.1, I m.pend, I m.traps, slv (acc).length q47.1, I m.owned]]⟩) .nil (by kernel_rfl) ?_
    clear S; intro ac w β S
    refine RG.done rfl (nx_then ?_)
    refine wp_ret ?_
    refine S.ret (vs := [GT.val (α := TMon) (⟨m.outer, m.out, (([] : List Bool) ++ m.dirty), m.guests, m.outs, m.pend, m.traps, acc, m.owned⟩ : TMon) (⟨q1, q5, q16, q23, q30, q47⟩ : PMon)]) (by kernel_rfl) ?_
    have o95 := ow_Mon (x := (⟨m.outer, m.out, (([] : List Bool) ++ m.dirty), m.guests, m.outs, m.pend, m.traps, acc, m.owned⟩ : TMon)) (p := (⟨q1, q5, q16, q23, q30, q47⟩ : PMon)) o3 o7 o18 o25 o32 o49 d9 d21 d27 d34 (Disj.symm d50) d22 d28 d35 (Disj.symm d51) d29 d36 (Disj.symm d52) d37 (Disj.symm d53) (Disj.symm d54) (RMon.pend (d := m) (S.arg hm)) (RMon.traps (d := m) (S.arg hm)) (RMon.owned (d := m) (S.arg hm))
    exact ret1_of S (show m = (⟨m.outer, m.out, (([] : List Bool) ++ m.dirty), m.guests, m.outs, m.pend, m.traps, acc, m.owned⟩ : TMon) by clear S; (first | rfl | (rw [hacc, take_all (by omega)]; simp; done) | simp)) rfl o95

set_option maxRecDepth 100000 in
theorem c_impl_MonAt (w0 : World) (h : THost) (ph : PHost) (hh : GT.rd KK (Lt w0.heap.size) w0 h ph) (m : Int) : Calls Go.Proofs.Try.prog 39 [GT.val (α := THost) h ph, I m].toArray w0 (Ret2 NoB w0 ((f_monAt h m).1 : TMon) ((f_monAt h m).2 : Bool)) := by
  refine Calls.walk (args := [GT.val (α := THost) h ph, I m]) NoB Go.Proofs.Try.func39 rfl rfl ?_
  intro ac β S
  have hleh_mem : h.mem.length ≤ 4194304 := LRd.le (RHost.mem (d := h) hh)
  have hleh_mons : h.mons.length ≤ 4194304 := LRd.le (RHost.mons (d := h) hh)
  have hleh_buf : h.buf.length ≤ 4194304 := LRd.le (RHost.buf (d := h) hh)
  have hleh_iobuf : h.iobuf.length ≤ 4194304 := LRd.le (RHost.iobuf (d := h) hh)
  refine wp_seq ?_
  refine RG.start ?_
  refine S.quiet (k := 3) (keep := [1, 2, 4]) (m := 2) (σ' := ⟨[(1, .v (I m)), (2, .p 0 0), (4, .p 1 0)], [GT.cells (α := THost) h ph, [slv (([] : List TSlot)).length (GT.pdflt (α := List TSlot)).1, slv (([] : List (List Int))).length (GT.pdflt (α := List (List Int))).1, slv (([] : List Bool)).length (GT.pdflt (α := List Bool)).1, slv (([] : List TGuest)).length (GT.pdflt (α := List TGuest)).1, slv (([] : List Int)).length (GT.pdflt (α := List Int)).1, I 0, I 0, slv (([] : List TKept)).length (GT.pdflt (α := List TKept)).1, I 0]]⟩) .nil (by kernel_rfl) ?_
  clear S; intro ac w β S
  refine RG.done rfl (nx_then ?_)
  refine wp_seq ?_
  refine wp_seq ?_
  refine RG.start ?_
  refine S.quiet (k := 6) (keep := [1, 2, 4, 11]) (m := 2) (σ' := ⟨[(1, .v (I m)), (2, .p 0 0), (4, .p 1 0), (11, .v (B (!(f_within m 0 (((h.mons).length : Int) - 1)))))], [GT.cells (α := THost) h ph, [slv (([] : List TSlot)).length (GT.pdflt (α := List TSlot)).1, slv (([] : List (List Int))).length (GT.pdflt (α := List (List Int))).1, slv (([] : List Bool)).length (GT.pdflt (α := List Bool)).1, slv (([] : List TGuest)).length (GT.pdflt (α := List TGuest)).1, slv (([] : List Int)).length (GT.pdflt (α := List Int)).1, I 0, I 0, slv (([] : List TKept)).length (GT.pdflt (α := List TKept)).1, I 0]]⟩) (.cons (Q_call fun w hw => c_impl_has w m ((h.mons).length : Int) (by omega)) .nil) (by kernel_rfl) ?_
  clear S; intro ac w β S
  refine RG.done rfl (nx_then ?_)
  refine S.cond (e := (!(f_within m 0 (((h.mons).length : Int) - 1)))) (by kernel_rfl) (fun h1 => ?_) (fun h1 => ?_)
  · have h2 : (f_within m 0 (((h.mons).length : Int) - 1)) = false := not_t h1
    have g3 := within_f h2
    refine wp_seq ?_
    refine RG.start ?_
    refine S.quiet (k := 3) (keep := [4, 5]) (m := 2) (σ' := ⟨[(4, .p 1 0), (5, .v (B false))], [GT.cells (α := THost) h ph, [slv (([] : List TSlot)).length (GT.pdflt (α := List TSlot)).1, slv (([] : List (List Int))).length (GT.pdflt (α := List (List Int))).1, slv (([] : List Bool)).length (GT.pdflt (α := List Bool)).1, slv (([] : List TGuest)).length (GT.pdflt (α := List TGuest)).1, slv (([] : List Int)).length (GT.pdflt (α := List Int)).1, I 0, I 0, slv (([] : List TKept)).length (GT.pdflt (α := List TKept)).1, I 0]]⟩) (.cons (Q_sem (s := Instr.build 50 [].toArray) (v := .agg [slv (([] : List TSlot)).length (GT.pdflt (α := List TSlot)).1, slv (([] : List (List Int))).length (GT.pdflt (α := List (List Int))).1, slv (([] : List Bool)).length (GT.pdflt (α := List Bool)).1, slv (([] : List TGuest)).length (GT.pdflt (α := List TGuest)).1, slv (([] : List Int)).length (GT.pdflt (α := List Int)).1, I 0, I 0, slv (([] : List TKept)).length (GT.pdflt (α := List TKept)).1, I 0].toArray) (fun w => by kernel_rfl)) .nil) (by kernel_rfl) ?_
    clear S; intro ac w β S
    refine RG.done rfl (nx_then ?_)
    refine wp_ret (rt_then ?_)
    refine S.ret (vs := [GT.val (α := TMon) (⟨([] : List TSlot), ([] : List (List Int)), ([] : List Bool), ([] : List TGuest), ([] : List Int), 0, 0, ([] : List TKept), 0⟩ : TMon) (⟨(GT.pdflt (α := List TSlot)), (GT.pdflt (α := List (List Int))), (GT.pdflt (α := List Bool)), (GT.pdflt (α := List TGuest)), (GT.pdflt (α := List Int)), (GT.pdflt (α := List TKept))⟩ : PMon), B false]) (by kernel_rfl) ?_
    have o4 := S.nilOw (α := TSlot)
    have o5 := S.nilOw (α := List Int)
    have o6 := S.nilOw (α := Bool)
    have o7 := S.nilOw (α := TGuest)
    have o8 := S.nilOw (α := Int)
    have o9 := S.nilOw (α := TKept)
    have o10 := ow_Mon (x := (⟨([] : List TSlot), ([] : List (List Int)), ([] : List Bool), ([] : List TGuest), ([] : List Int), 0, 0, ([] : List TKept), 0⟩ : TMon)) (p := (⟨(GT.pdflt (α := List TSlot)), (GT.pdflt (α := List (List Int))), (GT.pdflt (α := List Bool)), (GT.pdflt (α := List TGuest)), (GT.pdflt (α := List Int)), (GT.pdflt (α := List TKept))⟩ : PMon)) o4 o5 o6 o7 o8 o9 (fun b _ h => False.elim h) (fun b _ h => False.elim h) (fun b _ h => False.elim h) (fun b _ h => False.elim h) (fun b _ h => False.elim h) (fun b _ h => False.elim h) (fun b _ h => False.elim h) (fun b _ h => False.elim h) (fun b _ h => False.elim h) (fun b _ h => False.elim h) (fun b _ h => False.elim h) (fun b _ h => False.elim h) (fun b _ h => False.elim h) (fun b _ h => False.elim h) (fun b _ h => False.elim h) (show In64 0 from ⟨by decide, by decide⟩) (show In64 0 from ⟨by decide, by decide⟩) (show In64 0 from ⟨by decide, by decide⟩)
    exact ret2_of (p' := ()) S (show (f_monAt h m).1 = (⟨([] : List TSlot), ([] : List (List Int)), ([] : List Bool), ([] : List TGuest), ([] : List Int), 0, 0, ([] : List TKept), 0⟩ : TMon) by clear S; (first | (unfold f_monAt; rw [if_pos (by omega)]) | (unfold f_monAt; rw [if_neg (by omega)]))) (show (f_monAt h m).2 = false by clear S; (first | (unfold f_monAt; rw [if_pos (by omega)]) | (unfold f_monAt; rw [if_neg (by omega)]))) rfl rfl o10 trivial
  · have h11 : (f_within m 0 (((h.mons).length : Int) - 1)) = true := not_f h1
    have g12 := within_t h11
    refine wp_skip (nx_then ?_)
    refine wp_seq ?_
    refine RG.start ?_
    refine S.quiet (k := 5) (keep := [4, 17]) (m := 2) (σ' := ⟨[(4, .p 1 0), (17, .v (GT.val (α := TMon) (el h.mons ((m).toNat)) (ph.mons.2 ((m).toNat))))], [GT.cells (α := THost) h ph, [slv (([] : List TSlot)).length (GT.pdflt (α := List TSlot)).1, slv (([] : List (List Int))).length (GT.pdflt (α := List (List Int))).1, slv (([] : List Bool)).length (GT.pdflt (α := List Bool)).1, slv (([] : List TGuest)).length (GT.pdflt (α := List TGuest)).1, slv (([] : List Int)).length (GT.pdflt (α := List Int)).1, I 0, I 0, slv (([] : List TKept)).length (GT.pdflt (α := List TKept)).1, I 0]]⟩) (.cons (Q_idx (RHost.mons (d := h) (S.arg hh)) (l := (h.mons).length) (k := (m).toNat) (i := m) rfl (by omega) (by omega) Go.Proofs.Try.underlying29 (by kernel_rfl)) (.cons (Q_el (RHost.mons (d := h) (S.arg hh)) (t := 50) (k := (m).toNat) (by omega) rfl (by kernel_rfl) (by kernel_rfl)) .nil)) (by kernel_rfl) ?_
    clear S; intro ac w β S
    refine RG.op rfl (S.call1 (r := (el h.mons ((m).toNat))) (d := 18) (c_impl_copyMon w (el h.mons ((m).toNat)) (ph.mons.2 ((m).toNat)) (S.rd (LRd.el (RHost.mons (d := h) (S.arg hh)) ((m).toNat) (by omega)))) (by kernel_rfl) rfl ?_)
    clear S; intro ac w N q13 F14 S up o15 d16
    clear up d16
    have i32 : In64 (el h.mons ((m).toNat)).pend := RMon.pend (d := (el h.mons ((m).toNat))) o15.rn
    have i33 : In64 (el h.mons ((m).toNat)).traps := RMon.traps (d := (el h.mons ((m).toNat))) o15.rn
    have i37 : In64 (el h.mons ((m).toNat)).owned := RMon.owned (d := (el h.mons ((m).toNat))) o15.rn
    obtain ⟨F17, F20, F23, F26, F29, F34, o18, o21, o24, o27, o30, o35, s19, s22, s25, s28, s31, s36, d38, d39, d40, d41, d42, d43, d44, d45, d46, d47, d48, d49, d50, d51, d52⟩ := sp_Mon o15
    refine S.quiet (k := 2) (keep := [4, 5]) (m := 2) (σ' := ⟨[(4, .p 1 0), (5, .v (B true))], [GT.cells (α := THost) h ph, [slv ((el h.mons ((m).toNat)).outer).length q13.outer.1, slv ((el h.mons ((m).toNat)).out).length q13.out.1, slv ((el h.mons ((m).toNat)).dirty).length q13.dirty.1, slv ((el h.mons ((m).toNat)).guests).length q13.guests.1, slv ((el h.mons ((m).toNat)).outs).length q13.outs.1, I ((el h.mons ((m).toNat)).pend), I ((el h.mons ((m).toNat)).traps), slv ((el h.mons ((m).toNat)).tables).length q13.tables.1, I ((el h.mons ((m).toNat)).owned)]]⟩) .nil (by kernel_rfl) ?_
    clear S; intro ac w β S
    refine RG.done rfl (nx_then ?_)
    refine wp_ret ?_
    refine S.ret (vs := [GT.val (α := TMon) (el h.mons ((m).toNat)) q13, B true]) (by kernel_rfl) ?_
    have o53 := ow_Mon (x := (el h.mons ((m).toNat))) (p := q13) o18 o21 o24 o27 o30 o35 d38 d39 d40 d41 d42 d43 d44 d45 d46 d47 d48 d49 d50 d51 d52 i32 i33 i37
    exact ret2_of (p' := ()) S (show (f_monAt h m).1 = (el h.mons ((m).toNat)) by clear S; (first | (unfold f_monAt; rw [if_pos (by omega)]) | (unfold f_monAt; rw [if_neg (by omega)]))) (show (f_monAt h m).2 = true by clear S; (first | (unfold f_monAt; rw [if_pos (by omega)]) | (unfold f_monAt; rw [if_neg (by omega)]))) rfl rfl o53 trivial

set_option maxRecDepth 100000 in
theorem c_laws_eqSlot (w0 : World) (a : TSlot) (b : TSlot) : Calls Go.Proofs.Try.prog 139 [GT.val (α := TSlot) a (), GT.val (α := TSlot) b ()].toArray w0 (fun e w' => e = .returned (B (decide (a = b))) ∧ Chg NoB w0 w') := by
  refine Calls.walk (args := [GT.val (α := TSlot) a (), GT.val (α := TSlot) b ()]) NoB Go.Proofs.Try.func139 rfl rfl ?_
  intro ac β S
  refine wp_seq ?_
  refine RG.start ?_
  refine S.quiet (k := 3) (keep := [2, 3]) (m := 2) (σ' := ⟨[(2, .p 0 0), (3, .p 1 0)], [GT.cells (α := TSlot) a (), GT.cells (α := TSlot) b ()]⟩) .nil (by kernel_rfl) ?_
  clear S; intro ac w β S
  refine RG.done rfl (nx_then ?_)
  refine wp_seq ?_
  refine wp_seq ?_
  refine RG.start ?_
  refine S.quiet (k := 5) (keep := [2, 3, 9]) (m := 2) (σ' := ⟨[(2, .p 0 0), (3, .p 1 0), (9, .v (B (a.page != b.page)))], [GT.cells (α := TSlot) a (), GT.cells (α := TSlot) b ()]⟩) .nil (by kernel_rfl) ?_
  clear S; intro ac w β S
  refine RG.done rfl (nx_then ?_)
  refine S.cond (e := (a.page != b.page)) (by kernel_rfl) (fun h1 => ?_) (fun h1 => ?_)
  · have g2 : ¬ (a.page = b.page) := bne_iff_ne.1 h1
    refine wp_seq ?_
    refine RG.start ?_
    refine S.quiet (k := 1) (keep := [4]) (m := 0) (σ' := ⟨[(4, .v (B false))], []⟩) .nil (by kernel_rfl) ?_
    clear S; intro ac w β S
    refine RG.done rfl (nx_then ?_)
    refine wp_ret (rt_then ?_)
    refine S.ret (vs := [B false]) (by kernel_rfl) ?_
    exact ⟨retB (show false = decide (a = b) by clear S; first | (simp [TSlot.ext_iff, *]; done) | (simp_all [TSlot.ext_iff]; done)), S.chg⟩
  · have g3 : a.page = b.page := ne_f h1
    refine wp_skip (nx_then ?_)
    refine wp_seq ?_
    refine wp_seq ?_
    refine RG.start ?_
    refine S.quiet (k := 5) (keep := [14]) (m := 0) (σ' := ⟨[(14, .v (B (a.rights != b.rights)))], []⟩) .nil (by kernel_rfl) ?_
    clear S; intro ac w β S
    refine RG.done rfl (nx_then ?_)
    refine S.cond (e := (a.rights != b.rights)) (by kernel_rfl) (fun h4 => ?_) (fun h4 => ?_)
    · have g5 : ¬ (a.rights = b.rights) := bne_iff_ne.1 h4
      refine wp_seq ?_
      refine RG.start ?_
      refine S.quiet (k := 1) (keep := [4]) (m := 0) (σ' := ⟨[(4, .v (B false))], []⟩) .nil (by kernel_rfl) ?_
      clear S; intro ac w β S
      refine RG.done rfl (nx_then ?_)
      refine wp_ret (rt_then ?_)
      refine S.ret (vs := [B false]) (by kernel_rfl) ?_
      exact ⟨retB (show false = decide (a = b) by clear S; first | (simp [TSlot.ext_iff, *]; done) | (simp_all [TSlot.ext_iff]; done)), S.chg⟩
    · have g6 : a.rights = b.rights := ne_f h4
      refine wp_skip (nx_then ?_)
      refine wp_seq ?_
      refine RG.start ?_
      refine S.quiet (k := 1) (keep := [4]) (m := 0) (σ' := ⟨[(4, .v (B true))], []⟩) .nil (by kernel_rfl) ?_
      clear S; intro ac w β S
      refine RG.done rfl (nx_then ?_)
      refine wp_ret ?_
      refine S.ret (vs := [B true]) (by kernel_rfl) ?_
      exact ⟨retB (show true = decide (a = b) by clear S; first | (simp [TSlot.ext_iff, *]; done) | (simp_all [TSlot.ext_iff]; done)), S.chg⟩

set_option maxRecDepth 100000 in
theorem c_laws_eqSlotS (w0 : World) (a : List TSlot) (pa : LP TSlot) (ha : GT.rd KK (Lt w0.heap.size) w0 a pa) (b : List TSlot) (pb : LP TSlot) (hb : GT.rd KK (Lt w0.heap.size) w0 b pb) : Calls Go.Proofs.Try.prog 82 [slv (a).length pa.1, slv (b).length pb.1].toArray w0 (fun e w' => e = .returned (B (decide (a = b))) ∧ Chg NoB w0 w') := by
  refine Calls.walk (args := [slv (a).length pa.1, slv (b).length pb.1]) NoB Go.Proofs.Try.func82 rfl rfl ?_
  intro ac β S
  have hlea : a.length ≤ 4194304 := LRd.le ha
  have hleb : b.length ≤ 4194304 := LRd.le hb
  refine wp_seq ?_
  refine RG.start ?_
  refine S.quiet (k := 1) (keep := [0, 1]) (m := 0) (σ' := ⟨[(0, .v (slv (a).length pa.1)), (1, .v (slv (b).length pb.1))], []⟩) .nil (by kernel_rfl) ?_
  clear S; intro ac w β S
  refine RG.done rfl (nx_then ?_)
  refine wp_seq ?_
  refine wp_seq ?_
  refine RG.start ?_
  refine S.quiet (k := 5) (keep := [0, 1, 10]) (m := 0) (σ' := ⟨[(0, .v (slv (a).length pa.1)), (1, .v (slv (b).length pb.1)), (10, .v (B (((a).length : Int) != ((b).length : Int))))], []⟩) .nil (by kernel_rfl) ?_
  clear S; intro ac w β S
  refine RG.done rfl (nx_then ?_)
  refine S.cond (e := (((a).length : Int) != ((b).length : Int))) (by kernel_rfl) (fun h1 => ?_) (fun h1 => ?_)
  · have g2 : ¬ (((a).length : Int) = ((b).length : Int)) := bne_iff_ne.1 h1
    refine wp_seq ?_
    refine RG.start ?_
    refine S.quiet (k := 1) (keep := [4]) (m := 0) (σ' := ⟨[(4, .v (B false))], []⟩) .nil (by kernel_rfl) ?_
    clear S; intro ac w β S
    refine RG.done rfl (nx_then ?_)
    refine wp_ret (rt_then ?_)
    refine S.ret (vs := [B false]) (by kernel_rfl) ?_
    exact ⟨retB (show false = decide (a = b) by clear S; first | (simp; intro e; subst e; simp_all; done) | (simp; rw [take_all (by omega), take_all (by omega)] at he; exact he) | (simp; exact take_ne (by simp_all))), S.chg⟩
  · have g3 : ((a).length : Int) = ((b).length : Int) := ne_f h1
    refine wp_skip (nx_then ?_)
    refine wp_seq ?_
    refine wp_seq ?_
    refine RG.start ?_
    refine S.quiet (k := 1) (keep := [0, 1, 5]) (m := 0) (σ' := ⟨[(0, .v (slv (a).length pa.1)), (1, .v (slv (b).length pb.1)), (5, .v (I 0))], []⟩) .nil (by kernel_rfl) ?_
    clear S; intro ac w β S
    refine RG.done rfl (nx_then ?_)
    refine wp_block ?_
    replace S := S.prune (keep := [0, 1, 5]) (m := 0) (σ' := ⟨[(0, .v (slv (a).length pa.1)), (1, .v (slv (b).length pb.1)), (5, .v (I 0))], []⟩) (by kernel_rfl)
    refine wp_loop_down (fun mm ac w => ∃ (k : Nat)  (u : World) (N : Bl) (β : Nat → Nat), mm = a.length - k ∧ (k ≤ a.length) ∧ (a.length = b.length) ∧ (a.take k = b.take k) ∧ St Go.Proofs.Try.prog Go.Proofs.Try.f82.ntmps w0 NoB u N β ⟨[(0, .v (slv (a).length pa.1)), (1, .v (slv (b).length pb.1)), (5, .v (I (k : Int)))], []⟩ ac w) _ ⟨0, _, _, _, rfl, (by first | omega | (simp; done) | (simp; omega)), (by first | omega | (simp; done) | (simp; omega)), (by simp), S.cast (by kernel_rfl)⟩ ?_
    clear S
    rintro mm ac w ⟨k, u, N, β, rfl, hk, hab, he, S⟩
    refine wp_seq ?_
    refine wp_seq ?_
    refine RG.start ?_
    refine S.quiet (k := 4) (keep := [0, 1, 5, 14]) (m := 0) (σ' := ⟨[(0, .v (slv (a).length pa.1)), (1, .v (slv (b).length pb.1)), (5, .v (I (k : Int))), (14, .v (B (decide ((k : Int) < ((a).length : Int)))))], []⟩) .nil (by kernel_rfl) ?_
    clear S; intro ac w β S
    refine RG.done rfl (nx_then ?_)
    refine S.cond (e := (decide ((k : Int) < ((a).length : Int)))) (by kernel_rfl) (fun h4 => ?_) (fun h4 => ?_)
    · have g5 : (k : Int) < ((a).length : Int) := of_decide_eq_true h4
      refine wp_skip (nx_then ?_)
      refine wp_seq ?_
      refine wp_block ?_
      refine wp_seq ?_
      refine S.drawn (keep := [0, 1, 5, 26]) (m := 0) (σ' := ⟨[(0, .v (slv (a).length pa.1)), (1, .v (slv (b).length pb.1)), (5, .v (I (k : Int))), (26, .v (B (!(decide ((el a k) = (el b k))))))], []⟩) (.cons (Q_idx (S.arg ha) (l := (a).length) (k := k) (i := (k : Int)) rfl rfl (by omega) Go.Proofs.Try.underlying45 (by kernel_rfl)) (.cons (Q_el (S.arg ha) (t := 87) (k := k) (by omega) rfl (by kernel_rfl) (by kernel_rfl)) (.cons (Q_idx (S.arg hb) (l := (b).length) (k := k) (i := (k : Int)) rfl rfl (by omega) Go.Proofs.Try.underlying45 (by kernel_rfl)) (.cons (Q_el (S.arg hb) (t := 87) (k := k) (by omega) rfl (by kernel_rfl) (by kernel_rfl)) (.cons (Q_call fun w hw => c_laws_eqSlot w (el a k) (el b k)) .nil))))) rfl (by kernel_rfl) (by kernel_rfl) ?_
      clear S; intro ac w S
      refine id (nx_then ?_)
      refine S.cond (e := (!(decide ((el a k) = (el b k))))) (by kernel_rfl) (fun h6 => ?_) (fun h6 => ?_)
      · have h7 : (decide ((el a k) = (el b k))) = false := not_t h6
        have g8 := of_decide_eq_false h7
        refine wp_seq ?_
        refine RG.start ?_
        refine S.quiet (k := 1) (keep := [4]) (m := 0) (σ' := ⟨[(4, .v (B false))], []⟩) .nil (by kernel_rfl) ?_
        clear S; intro ac w β S
        refine RG.done rfl (nx_then ?_)
        refine wp_ret (rt_block (rt_then (rt_then (rt_block (rt_then ?_)))))
        refine S.ret (vs := [B false]) (by kernel_rfl) ?_
        exact ⟨retB (show false = decide (a = b) by clear S; first | (simp; intro e; subst e; simp_all; done) | (simp; rw [take_all (by omega), take_all (by omega)] at he; exact he) | (simp; exact take_ne (by simp_all))), S.chg⟩
      · have h9 : (decide ((el a k) = (el b k))) = true := not_f h6
        have g10 := of_decide_eq_true h9
        refine wp_skip (nx_block (nx_then ?_))
        refine RG.start ?_
        refine S.quiet (k := 3) (keep := [0, 1, 5]) (m := 0) (σ' := ⟨[(0, .v (slv (a).length pa.1)), (1, .v (slv (b).length pb.1)), (5, .v (I ((k : Int) + 1)))], []⟩) (.cons (Q_add (x := (k : Int)) (y := 1) ⟨by omega, by omega⟩) .nil) (by kernel_rfl) ?_
        clear S; intro ac w β S
        refine RG.done rfl (nx_then ?_)
        replace S := S.prune (keep := [0, 1, 5]) (m := 0) (σ' := ⟨[(0, .v (slv (a).length pa.1)), (1, .v (slv (b).length pb.1)), (5, .v (I ((k : Int) + 1)))], []⟩) (by kernel_rfl)
        refine ⟨a.length - (k + 1), by omega, k + 1, _, _, _, rfl, ?_, ?_, ?_, S.cast (by kernel_rfl)⟩
        · clear S; first | omega | (simp [*]; done) | (simp [*]; omega)
        · clear S; first | omega | (simp [*]; done) | (simp [*]; omega)
        · clear S; exact take_eq_step (by omega) (by omega) he (by simp_all)
    · have g11 : ¬ ((k : Int) < ((a).length : Int)) := of_decide_eq_false h4
      refine wp_exit (ex_then (ex_then (ex_hit (nx_then ?_))))
      refine wp_seq ?_
      refine RG.start ?_
      refine S.quiet (k := 1) (keep := [4]) (m := 0) (σ' := ⟨[(4, .v (B true))], []⟩) .nil (by kernel_rfl) ?_
      clear S; intro ac w β S
      refine RG.done rfl (nx_then ?_)
      refine wp_ret ?_
      refine S.ret (vs := [B true]) (by kernel_rfl) ?_
      exact ⟨retB (show true = decide (a = b) by clear S; first | (simp; intro e; subst e; simp_all; done) | (simp; rw [take_all (by omega), take_all (by omega)] at he; exact he) | (simp; exact take_ne (by simp_all))), S.chg⟩

set_option maxRecDepth 100000 in
theorem c_laws_eqIntS (w0 : World) (a : List Int) (pa : LP Int) (ha : GT.rd KK (Lt w0.heap.size) w0 a pa) (b : List Int) (pb : LP Int) (hb : GT.rd KK (Lt w0.heap.size) w0 b pb) : Calls Go.Proofs.Try.prog 18 [slv (a).length pa.1, slv (b).length pb.1].toArray w0 (fun e w' => e = .returned (B (decide (a = b))) ∧ Chg NoB w0 w') := by
  refine Calls.walk (args := [slv (a).length pa.1, slv (b).length pb.1]) NoB Go.Proofs.Try.func18 rfl rfl ?_
  intro ac β S
  have hlea : a.length ≤ 4194304 := LRd.le ha
  have hleb : b.length ≤ 4194304 := LRd.le hb
  refine wp_seq ?_
  refine RG.start ?_
  refine S.quiet (k := 1) (keep := [0, 1]) (m := 0) (σ' := ⟨[(0, .v (slv (a).length pa.1)), (1, .v (slv (b).length pb.1))], []⟩) .nil (by kernel_rfl) ?_
  clear S; intro ac w β S
  refine RG.done rfl (nx_then ?_)
  refine wp_seq ?_
  refine wp_seq ?_
  refine RG.start ?_
  refine S.quiet (k := 5) (keep := [0, 1, 10]) (m := 0) (σ' := ⟨[(0, .v (slv (a).length pa.1)), (1, .v (slv (b).length pb.1)), (10, .v (B (((a).length : Int) != ((b).length : Int))))], []⟩) .nil (by kernel_rfl) ?_
  clear S; intro ac w β S
  refine RG.done rfl (nx_then ?_)
  refine S.cond (e := (((a).length : Int) != ((b).length : Int))) (by kernel_rfl) (fun h1 => ?_) (fun h1 => ?_)
  · have g2 : ¬ (((a).length : Int) = ((b).length : Int)) := bne_iff_ne.1 h1
    refine wp_seq ?_
    refine RG.start ?_
    refine S.quiet (k := 1) (keep := [4]) (m := 0) (σ' := ⟨[(4, .v (B false))], []⟩) .nil (by kernel_rfl) ?_
    clear S; intro ac w β S
    refine RG.done rfl (nx_then ?_)
    refine wp_ret (rt_then ?_)
    refine S.ret (vs := [B false]) (by kernel_rfl) ?_
    exact ⟨retB (show false = decide (a = b) by clear S; first | (simp; intro e; subst e; simp_all; done) | (simp; rw [take_all (by omega), take_all (by omega)] at he; exact he) | (simp; exact take_ne (by simp_all))), S.chg⟩
  · have g3 : ((a).length : Int) = ((b).length : Int) := ne_f h1
    refine wp_skip (nx_then ?_)
    refine wp_seq ?_
    refine wp_seq ?_
    refine RG.start ?_
    refine S.quiet (k := 1) (keep := [0, 1, 5]) (m := 0) (σ' := ⟨[(0, .v (slv (a).length pa.1)), (1, .v (slv (b).length pb.1)), (5, .v (I 0))], []⟩) .nil (by kernel_rfl) ?_
    clear S; intro ac w β S
    refine RG.done rfl (nx_then ?_)
    refine wp_block ?_
    replace S := S.prune (keep := [0, 1, 5]) (m := 0) (σ' := ⟨[(0, .v (slv (a).length pa.1)), (1, .v (slv (b).length pb.1)), (5, .v (I 0))], []⟩) (by kernel_rfl)
    refine wp_loop_down (fun mm ac w => ∃ (k : Nat)  (u : World) (N : Bl) (β : Nat → Nat), mm = a.length - k ∧ (k ≤ a.length) ∧ (a.length = b.length) ∧ (a.take k = b.take k) ∧ St Go.Proofs.Try.prog Go.Proofs.Try.f18.ntmps w0 NoB u N β ⟨[(0, .v (slv (a).length pa.1)), (1, .v (slv (b).length pb.1)), (5, .v (I (k : Int)))], []⟩ ac w) _ ⟨0, _, _, _, rfl, (by first | omega | (simp; done) | (simp; omega)), (by first | omega | (simp; done) | (simp; omega)), (by simp), S.cast (by kernel_rfl)⟩ ?_
    clear S
    rintro mm ac w ⟨k, u, N, β, rfl, hk, hab, he, S⟩
    refine wp_seq ?_
    refine wp_seq ?_
    refine RG.start ?_
    refine S.quiet (k := 4) (keep := [0, 1, 5, 14]) (m := 0) (σ' := ⟨[(0, .v (slv (a).length pa.1)), (1, .v (slv (b).length pb.1)), (5, .v (I (k : Int))), (14, .v (B (decide ((k : Int) < ((a).length : Int)))))], []⟩) .nil (by kernel_rfl) ?_
    clear S; intro ac w β S
    refine RG.done rfl (nx_then ?_)
    refine S.cond (e := (decide ((k : Int) < ((a).length : Int)))) (by kernel_rfl) (fun h4 => ?_) (fun h4 => ?_)
    · have g5 : (k : Int) < ((a).length : Int) := of_decide_eq_true h4
      refine wp_skip (nx_then ?_)
      refine wp_seq ?_
      refine wp_block ?_
      refine wp_seq ?_
      refine S.drawn (keep := [0, 1, 5, 25]) (m := 0) (σ' := ⟨[(0, .v (slv (a).length pa.1)), (1, .v (slv (b).length pb.1)), (5, .v (I (k : Int))), (25, .v (B ((el a k) != (el b k))))], []⟩) (.cons (Q_idx (S.arg ha) (l := (a).length) (k := k) (i := (k : Int)) rfl rfl (by omega) Go.Proofs.Try.underlying37 (by kernel_rfl)) (.cons (Q_el1 (S.arg ha) (t := 3) (k := k) (by omega) rfl (by kernel_rfl)) (.cons (Q_idx (S.arg hb) (l := (b).length) (k := k) (i := (k : Int)) rfl rfl (by omega) Go.Proofs.Try.underlying37 (by kernel_rfl)) (.cons (Q_el1 (S.arg hb) (t := 3) (k := k) (by omega) rfl (by kernel_rfl)) .nil)))) rfl (by kernel_rfl) (by kernel_rfl) ?_
      clear S; intro ac w S
      refine id (nx_then ?_)
      refine S.cond (e := ((el a k) != (el b k))) (by kernel_rfl) (fun h6 => ?_) (fun h6 => ?_)
      · have g7 : ¬ ((el a k) = (el b k)) := bne_iff_ne.1 h6
        refine wp_seq ?_
        refine RG.start ?_
        refine S.quiet (k := 1) (keep := [4]) (m := 0) (σ' := ⟨[(4, .v (B false))], []⟩) .nil (by kernel_rfl) ?_
        clear S; intro ac w β S
        refine RG.done rfl (nx_then ?_)
        refine wp_ret (rt_block (rt_then (rt_then (rt_block (rt_then ?_)))))
        refine S.ret (vs := [B false]) (by kernel_rfl) ?_
        exact ⟨retB (show false = decide (a = b) by clear S; first | (simp; intro e; subst e; simp_all; done) | (simp; rw [take_all (by omega), take_all (by omega)] at he; exact he) | (simp; exact take_ne (by simp_all))), S.chg⟩
      · have g8 : (el a k) = (el b k) := ne_f h6
        refine wp_skip (nx_block (nx_then ?_))
        refine RG.start ?_
        refine S.quiet (k := 3) (keep := [0, 1, 5]) (m := 0) (σ' := ⟨[(0, .v (slv (a).length pa.1)), (1, .v (slv (b).length pb.1)), (5, .v (I ((k : Int) + 1)))], []⟩) (.cons (Q_add (x := (k : Int)) (y := 1) ⟨by omega, by omega⟩) .nil) (by kernel_rfl) ?_
        clear S; intro ac w β S
        refine RG.done rfl (nx_then ?_)
        replace S := S.prune (keep := [0, 1, 5]) (m := 0) (σ' := ⟨[(0, .v (slv (a).length pa.1)), (1, .v (slv (b).length pb.1)), (5, .v (I ((k : Int) + 1)))], []⟩) (by kernel_rfl)
        refine ⟨a.length - (k + 1), by omega, k + 1, _, _, _, rfl, ?_, ?_, ?_, S.cast (by kernel_rfl)⟩
        · clear S; first | omega | (simp [*]; done) | (simp [*]; omega)
        · clear S; first | omega | (simp [*]; done) | (simp [*]; omega)
        · clear S; exact take_eq_step (by omega) (by omega) he (by simp_all)
    · have g9 : ¬ ((k : Int) < ((a).length : Int)) := of_decide_eq_false h4
      refine wp_exit (ex_then (ex_then (ex_hit (nx_then ?_))))
      refine wp_seq ?_
      refine RG.start ?_
      refine S.quiet (k := 1) (keep := [4]) (m := 0) (σ' := ⟨[(4, .v (B true))], []⟩) .nil (by kernel_rfl) ?_
      clear S; intro ac w β S
      refine RG.done rfl (nx_then ?_)
      refine wp_ret ?_
      refine S.ret (vs := [B true]) (by kernel_rfl) ?_
      exact ⟨retB (show true = decide (a = b) by clear S; first | (simp; intro e; subst e; simp_all; done) | (simp; rw [take_all (by omega), take_all (by omega)] at he; exact he) | (simp; exact take_ne (by simp_all))), S.chg⟩

set_option maxRecDepth 100000 in
theorem c_laws_eqIntSS (w0 : World) (a : List (List Int)) (pa : LP (List Int)) (ha : GT.rd KK (Lt w0.heap.size) w0 a pa) (b : List (List Int)) (pb : LP (List Int)) (hb : GT.rd KK (Lt w0.heap.size) w0 b pb) : Calls Go.Proofs.Try.prog 53 [slv (a).length pa.1, slv (b).length pb.1].toArray w0 (fun e w' => e = .returned (B (decide (a = b))) ∧ Chg NoB w0 w') := by
  refine Calls.walk (args := [slv (a).length pa.1, slv (b).length pb.1]) NoB Go.Proofs.Try.func53 rfl rfl ?_
  intro ac β S
  have hlea : a.length ≤ 4194304 := LRd.le ha
  have hleb : b.length ≤ 4194304 := LRd.le hb
  refine wp_seq ?_
  refine RG.start ?_
  refine S.quiet (k := 1) (keep := [0, 1]) (m := 0) (σ' := ⟨[(0, .v (slv (a).length pa.1)), (1, .v (slv (b).length pb.1))], []⟩) .nil (by kernel_rfl) ?_
  clear S; intro ac w β S
  refine RG.done rfl (nx_then ?_)
  refine wp_seq ?_
  refine wp_seq ?_
  refine RG.start ?_
  refine S.quiet (k := 5) (keep := [0, 1, 10]) (m := 0) (σ' := ⟨[(0, .v (slv (a).length pa.1)), (1, .v (slv (b).length pb.1)), (10, .v (B (((a).length : Int) != ((b).length : Int))))], []⟩) .nil (by kernel_rfl) ?_
  clear S; intro ac w β S
  refine RG.done rfl (nx_then ?_)
  refine S.cond (e := (((a).length : Int) != ((b).length : Int))) (by kernel_rfl) (fun h1 => ?_) (fun h1 => ?_)
  · have g2 : ¬ (((a).length : Int) = ((b).length : Int)) := bne_iff_ne.1 h1
    refine wp_seq ?_
    refine RG.start ?_
    refine S.quiet (k := 1) (keep := [4]) (m := 0) (σ' := ⟨[(4, .v (B false))], []⟩) .nil (by kernel_rfl) ?_
    clear S; intro ac w β S
    refine RG.done rfl (nx_then ?_)
    refine wp_ret (rt_then ?_)
    refine S.ret (vs := [B false]) (by kernel_rfl) ?_
    exact ⟨retB (show false = decide (a = b) by clear S; first | (simp; intro e; subst e; simp_all; done) | (simp; rw [take_all (by omega), take_all (by omega)] at he; exact he) | (simp; exact take_ne (by simp_all))), S.chg⟩
  · have g3 : ((a).length : Int) = ((b).length : Int) := ne_f h1
    refine wp_skip (nx_then ?_)
    refine wp_seq ?_
    refine wp_seq ?_
    refine RG.start ?_
    refine S.quiet (k := 1) (keep := [0, 1, 5]) (m := 0) (σ' := ⟨[(0, .v (slv (a).length pa.1)), (1, .v (slv (b).length pb.1)), (5, .v (I 0))], []⟩) .nil (by kernel_rfl) ?_
    clear S; intro ac w β S
    refine RG.done rfl (nx_then ?_)
    refine wp_block ?_
    replace S := S.prune (keep := [0, 1, 5]) (m := 0) (σ' := ⟨[(0, .v (slv (a).length pa.1)), (1, .v (slv (b).length pb.1)), (5, .v (I 0))], []⟩) (by kernel_rfl)
    refine wp_loop_down (fun mm ac w => ∃ (k : Nat)  (u : World) (N : Bl) (β : Nat → Nat), mm = a.length - k ∧ (k ≤ a.length) ∧ (a.length = b.length) ∧ (a.take k = b.take k) ∧ St Go.Proofs.Try.prog Go.Proofs.Try.f53.ntmps w0 NoB u N β ⟨[(0, .v (slv (a).length pa.1)), (1, .v (slv (b).length pb.1)), (5, .v (I (k : Int)))], []⟩ ac w) _ ⟨0, _, _, _, rfl, (by first | omega | (simp; done) | (simp; omega)), (by first | omega | (simp; done) | (simp; omega)), (by simp), S.cast (by kernel_rfl)⟩ ?_
    clear S
    rintro mm ac w ⟨k, u, N, β, rfl, hk, hab, he, S⟩
    refine wp_seq ?_
    refine wp_seq ?_
    refine RG.start ?_
    refine S.quiet (k := 4) (keep := [0, 1, 5, 14]) (m := 0) (σ' := ⟨[(0, .v (slv (a).length pa.1)), (1, .v (slv (b).length pb.1)), (5, .v (I (k : Int))), (14, .v (B (decide ((k : Int) < ((a).length : Int)))))], []⟩) .nil (by kernel_rfl) ?_
    clear S; intro ac w β S
    refine RG.done rfl (nx_then ?_)
    refine S.cond (e := (decide ((k : Int) < ((a).length : Int)))) (by kernel_rfl) (fun h4 => ?_) (fun h4 => ?_)
    · have g5 : (k : Int) < ((a).length : Int) := of_decide_eq_true h4
      refine wp_skip (nx_then ?_)
      refine wp_seq ?_
      refine wp_block ?_
      refine wp_seq ?_
      refine S.drawn (keep := [0, 1, 5, 26]) (m := 0) (σ' := ⟨[(0, .v (slv (a).length pa.1)), (1, .v (slv (b).length pb.1)), (5, .v (I (k : Int))), (26, .v (B (!(decide ((el a k) = (el b k))))))], []⟩) (.cons (Q_idx (S.arg ha) (l := (a).length) (k := k) (i := (k : Int)) rfl rfl (by omega) Go.Proofs.Try.underlying22 (by kernel_rfl)) (.cons (Q_el1 (S.arg ha) (t := 37) (k := k) (by omega) rfl (by kernel_rfl)) (.cons (Q_idx (S.arg hb) (l := (b).length) (k := k) (i := (k : Int)) rfl rfl (by omega) Go.Proofs.Try.underlying22 (by kernel_rfl)) (.cons (Q_el1 (S.arg hb) (t := 37) (k := k) (by omega) rfl (by kernel_rfl)) (.cons (Q_call fun w hw => c_laws_eqIntS w (el a k) (pa.2 k) (rd_of (LRd.el (S.arg ha) k (by omega)) hw) (el b k) (pb.2 k) (rd_of (LRd.el (S.arg hb) k (by omega)) hw)) .nil))))) rfl (by kernel_rfl) (by kernel_rfl) ?_
      clear S; intro ac w S
      refine id (nx_then ?_)
      refine S.cond (e := (!(decide ((el a k) = (el b k))))) (by kernel_rfl) (fun h6 => ?_) (fun h6 => ?_)
      · have h7 : (decide ((el a k) = (el b k))) = false := not_t h6
        have g8 := of_decide_eq_false h7
        refine wp_seq ?_
        refine RG.start ?_
        refine S.quiet (k := 1) (keep := [4]) (m := 0) (σ' := ⟨[(4, .v (B false))], []⟩) .nil (by kernel_rfl) ?_
        clear S; intro ac w β S
        refine RG.done rfl (nx_then ?_)
        refine wp_ret (rt_block (rt_then (rt_then (rt_block (rt_then ?_)))))
        refine S.ret (vs := [B false]) (by kernel_rfl) ?_
        exact ⟨retB (show false = decide (a = b) by clear S; first | (simp; intro e; subst e; simp_all; done) | (simp; rw [take_all (by omega), take_all (by omega)] at he; exact he) | (simp; exact take_ne (by simp_all))), S.chg⟩
      · have h9 : (decide ((el a k) = (el b k))) = true := not_f h6
        have g10 := of_decide_eq_true h9
        refine wp_skip (nx_block (nx_then ?_))
        refine RG.start ?_
        refine S.quiet (k := 3) (keep := [0, 1, 5]) (m := 0) (σ' := ⟨[(0, .v (slv (a).length pa.1)), (1, .v (slv (b).length pb.1)), (5, .v (I ((k : Int) + 1)))], []⟩) (.cons (Q_add (x := (k : Int)) (y := 1) ⟨by omega, by omega⟩) .nil) (by kernel_rfl) ?_
        clear S; intro ac w β S
        refine RG.done rfl (nx_then ?_)
        replace S := S.prune (keep := [0, 1, 5]) (m := 0) (σ' := ⟨[(0, .v (slv (a).length pa.1)), (1, .v (slv (b).length pb.1)), (5, .v (I ((k : Int) + 1)))], []⟩) (by kernel_rfl)
        refine ⟨a.length - (k + 1), by omega, k + 1, _, _, _, rfl, ?_, ?_, ?_, S.cast (by kernel_rfl)⟩
        · clear S; first | omega | (simp [*]; done) | (simp [*]; omega)
        · clear S; first | omega | (simp [*]; done) | (simp [*]; omega)
        · clear S; exact take_eq_step (by omega) (by omega) he (by simp_all)
    · have g11 : ¬ ((k : Int) < ((a).length : Int)) := of_decide_eq_false h4
      refine wp_exit (ex_then (ex_then (ex_hit (nx_then ?_))))
      refine wp_seq ?_
      refine RG.start ?_
      refine S.quiet (k := 1) (keep := [4]) (m := 0) (σ' := ⟨[(4, .v (B true))], []⟩) .nil (by kernel_rfl) ?_
      clear S; intro ac w β S
      refine RG.done rfl (nx_then ?_)
      refine wp_ret ?_
      refine S.ret (vs := [B true]) (by kernel_rfl) ?_
      exact ⟨retB (show true = decide (a = b) by clear S; first | (simp; intro e; subst e; simp_all; done) | (simp; rw [take_all (by omega), take_all (by omega)] at he; exact he) | (simp; exact take_ne (by simp_all))), S.chg⟩

set_option maxRecDepth 100000 in
theorem c_laws_eqBoolS (w0 : World) (a : List Bool) (pa : LP Bool) (ha : GT.rd KK (Lt w0.heap.size) w0 a pa) (b : List Bool) (pb : LP Bool) (hb : GT.rd KK (Lt w0.heap.size) w0 b pb) : Calls Go.Proofs.Try.prog 83 [slv (a).length pa.1, slv (b).length pb.1].toArray w0 (fun e w' => e = .returned (B (decide (a = b))) ∧ Chg NoB w0 w') := by
  refine Calls.walk (args := [slv (a).length pa.1, slv (b).length pb.1]) NoB Go.Proofs.Try.func83 rfl rfl ?_
  intro ac β S
  have hlea : a.length ≤ 4194304 := LRd.le ha
  have hleb : b.length ≤ 4194304 := LRd.le hb
  refine wp_seq ?_
  refine RG.start ?_
  refine S.quiet (k := 1) (keep := [0, 1]) (m := 0) (σ' := ⟨[(0, .v (slv (a).length pa.1)), (1, .v (slv (b).length pb.1))], []⟩) .nil (by kernel_rfl) ?_
  clear S; intro ac w β S
  refine RG.done rfl (nx_then ?_)
  refine wp_seq ?_
  refine wp_seq ?_
  refine RG.start ?_
  refine S.quiet (k := 5) (keep := [0, 1, 10]) (m := 0) (σ' := ⟨[(0, .v (slv (a).length pa.1)), (1, .v (slv (b).length pb.1)), (10, .v (B (((a).length : Int) != ((b).length : Int))))], []⟩) .nil (by kernel_rfl) ?_
  clear S; intro ac w β S
  refine RG.done rfl (nx_then ?_)
  refine S.cond (e := (((a).length : Int) != ((b).length : Int))) (by kernel_rfl) (fun h1 => ?_) (fun h1 => ?_)
  · have g2 : ¬ (((a).length : Int) = ((b).length : Int)) := bne_iff_ne.1 h1
    refine wp_seq ?_
    refine RG.start ?_
    refine S.quiet (k := 1) (keep := [4]) (m := 0) (σ' := ⟨[(4, .v (B false))], []⟩) .nil (by kernel_rfl) ?_
    clear S; intro ac w β S
    refine RG.done rfl (nx_then ?_)
    refine wp_ret (rt_then ?_)
    refine S.ret (vs := [B false]) (by kernel_rfl) ?_
    exact ⟨retB (show false = decide (a = b) by clear S; first | (simp; intro e; subst e; simp_all; done) | (simp; rw [take_all (by omega), take_all (by omega)] at he; exact he) | (simp; exact take_ne (by simp_all))), S.chg⟩
  · have g3 : ((a).length : Int) = ((b).length : Int) := ne_f h1
    refine wp_skip (nx_then ?_)
    refine wp_seq ?_
    refine wp_seq ?_
    refine RG.start ?_
    refine S.quiet (k := 1) (keep := [0, 1, 5]) (m := 0) (σ' := ⟨[(0, .v (slv (a).length pa.1)), (1, .v (slv (b).length pb.1)), (5, .v (I 0))], []⟩) .nil (by kernel_rfl) ?_
    clear S; intro ac w β S
    refine RG.done rfl (nx_then ?_)
    refine wp_block ?_
    replace S := S.prune (keep := [0, 1, 5]) (m := 0) (σ' := ⟨[(0, .v (slv (a).length pa.1)), (1, .v (slv (b).length pb.1)), (5, .v (I 0))], []⟩) (by kernel_rfl)
    refine wp_loop_down (fun mm ac w => ∃ (k : Nat)  (u : World) (N : Bl) (β : Nat → Nat), mm = a.length - k ∧ (k ≤ a.length) ∧ (a.length = b.length) ∧ (a.take k = b.take k) ∧ St Go.Proofs.Try.prog Go.Proofs.Try.f83.ntmps w0 NoB u N β ⟨[(0, .v (slv (a).length pa.1)), (1, .v (slv (b).length pb.1)), (5, .v (I (k : Int)))], []⟩ ac w) _ ⟨0, _, _, _, rfl, (by first | omega | (simp; done) | (simp; omega)), (by first | omega | (simp; done) | (simp; omega)), (by simp), S.cast (by kernel_rfl)⟩ ?_
    clear S
    rintro mm ac w ⟨k, u, N, β, rfl, hk, hab, he, S⟩
    refine wp_seq ?_
    refine wp_seq ?_
    refine RG.start ?_
    refine S.quiet (k := 4) (keep := [0, 1, 5, 14]) (m := 0) (σ' := ⟨[(0, .v (slv (a).length pa.1)), (1, .v (slv (b).length pb.1)), (5, .v (I (k : Int))), (14, .v (B (decide ((k : Int) < ((a).length : Int)))))], []⟩) .nil (by kernel_rfl) ?_
    clear S; intro ac w β S
    refine RG.done rfl (nx_then ?_)
    refine S.cond (e := (decide ((k : Int) < ((a).length : Int)))) (by kernel_rfl) (fun h4 => ?_) (fun h4 => ?_)
    · have g5 : (k : Int) < ((a).length : Int) := of_decide_eq_true h4
      refine wp_skip (nx_then ?_)
      refine wp_seq ?_
      refine wp_block ?_
      refine wp_seq ?_
      refine S.drawn (keep := [0, 1, 5, 25]) (m := 0) (σ' := ⟨[(0, .v (slv (a).length pa.1)), (1, .v (slv (b).length pb.1)), (5, .v (I (k : Int))), (25, .v (B (!((el a k) == (el b k)))))], []⟩) (.cons (Q_idx (S.arg ha) (l := (a).length) (k := k) (i := (k : Int)) rfl rfl (by omega) Go.Proofs.Try.underlying46 (by kernel_rfl)) (.cons (Q_el1 (S.arg ha) (t := 4) (k := k) (by omega) rfl (by kernel_rfl)) (.cons (Q_idx (S.arg hb) (l := (b).length) (k := k) (i := (k : Int)) rfl rfl (by omega) Go.Proofs.Try.underlying46 (by kernel_rfl)) (.cons (Q_el1 (S.arg hb) (t := 4) (k := k) (by omega) rfl (by kernel_rfl)) .nil)))) rfl (by kernel_rfl) (by kernel_rfl) ?_
      clear S; intro ac w S
      refine id (nx_then ?_)
      refine S.cond (e := (!((el a k) == (el b k)))) (by kernel_rfl) (fun h6 => ?_) (fun h6 => ?_)
      · have h7 : ((el a k) == (el b k)) = false := not_t h6
        have g8 : ¬ ((el a k) = (el b k)) := ne_of_beq_false h7
        refine wp_seq ?_
        refine RG.start ?_
        refine S.quiet (k := 1) (keep := [4]) (m := 0) (σ' := ⟨[(4, .v (B false))], []⟩) .nil (by kernel_rfl) ?_
        clear S; intro ac w β S
        refine RG.done rfl (nx_then ?_)
        refine wp_ret (rt_block (rt_then (rt_then (rt_block (rt_then ?_)))))
        refine S.ret (vs := [B false]) (by kernel_rfl) ?_
        exact ⟨retB (show false = decide (a = b) by clear S; first | (simp; intro e; subst e; simp_all; done) | (simp; rw [take_all (by omega), take_all (by omega)] at he; exact he) | (simp; exact take_ne (by simp_all))), S.chg⟩
      · have h9 : ((el a k) == (el b k)) = true := not_f h6
        have g10 : (el a k) = (el b k) := eq_of_beq h9
        refine wp_skip (nx_block (nx_then ?_))
        refine RG.start ?_
        refine S.quiet (k := 3) (keep := [0, 1, 5]) (m := 0) (σ' := ⟨[(0, .v (slv (a).length pa.1)), (1, .v (slv (b).length pb.1)), (5, .v (I ((k : Int) + 1)))], []⟩) (.cons (Q_add (x := (k : Int)) (y := 1) ⟨by omega, by omega⟩) .nil) (by kernel_rfl) ?_
        clear S; intro ac w β S
        refine RG.done rfl (nx_then ?_)
        replace S := S.prune (keep := [0, 1, 5]) (m := 0) (σ' := ⟨[(0, .v (slv (a).length pa.1)), (1, .v (slv (b).length pb.1)), (5, .v (I ((k : Int) + 1)))], []⟩) (by kernel_rfl)
        refine ⟨a.length - (k + 1), by omega, k + 1, _, _, _, rfl, ?_, ?_, ?_, S.cast (by kernel_rfl)⟩
        · clear S; first | omega | (simp [*]; done) | (simp [*]; omega)
        · clear S; first | omega | (simp [*]; done) | (simp [*]; omega)
        · clear S; exact take_eq_step (by omega) (by omega) he (by simp_all)
    · have g11 : ¬ ((k : Int) < ((a).length : Int)) := of_decide_eq_false h4
      refine wp_exit (ex_then (ex_then (ex_hit (nx_then ?_))))
      refine wp_seq ?_
      refine RG.start ?_
      refine S.quiet (k := 1) (keep := [4]) (m := 0) (σ' := ⟨[(4, .v (B true))], []⟩) .nil (by kernel_rfl) ?_
      clear S; intro ac w β S
      refine RG.done rfl (nx_then ?_)
      refine wp_ret ?_
      refine S.ret (vs := [B true]) (by kernel_rfl) ?_
      exact ⟨retB (show true = decide (a = b) by clear S; first | (simp; intro e; subst e; simp_all; done) | (simp; rw [take_all (by omega), take_all (by omega)] at he; exact he) | (simp; exact take_ne (by simp_all))), S.chg⟩

set_option maxRecDepth 100000 in
theorem c_laws_eqIns (w0 : World) (a : TIns) (b : TIns) : Calls Go.Proofs.Try.prog 142 [GT.val (α := TIns) a (), GT.val (α := TIns) b ()].toArray w0 (fun e w' => e = .returned (B (decide (a = b))) ∧ Chg NoB w0 w') := by
  refine Calls.walk (args := [GT.val (α := TIns) a (), GT.val (α := TIns) b ()]) NoB Go.Proofs.Try.func142 rfl rfl ?_
  intro ac β S
  refine wp_seq ?_
  refine RG.start ?_
  refine S.quiet (k := 3) (keep := [2, 3]) (m := 2) (σ' := ⟨[(2, .p 0 0), (3, .p 1 0)], [GT.cells (α := TIns) a (), GT.cells (α := TIns) b ()]⟩) .nil (by kernel_rfl) ?_
  clear S; intro ac w β S
  refine RG.done rfl (nx_then ?_)
  refine wp_seq ?_
  refine wp_seq ?_
  refine RG.start ?_
  refine S.quiet (k := 5) (keep := [2, 3, 9]) (m := 2) (σ' := ⟨[(2, .p 0 0), (3, .p 1 0), (9, .v (B (a.opc != b.opc)))], [GT.cells (α := TIns) a (), GT.cells (α := TIns) b ()]⟩) .nil (by kernel_rfl) ?_
  clear S; intro ac w β S
  refine RG.done rfl (nx_then ?_)
  refine S.cond (e := (a.opc != b.opc)) (by kernel_rfl) (fun h1 => ?_) (fun h1 => ?_)
  · have g2 : ¬ (a.opc = b.opc) := bne_iff_ne.1 h1
    refine wp_seq ?_
    refine RG.start ?_
    refine S.quiet (k := 1) (keep := [4]) (m := 0) (σ' := ⟨[(4, .v (B false))], []⟩) .nil (by kernel_rfl) ?_
    clear S; intro ac w β S
    refine RG.done rfl (nx_then ?_)
    refine wp_ret (rt_then ?_)
    refine S.ret (vs := [B false]) (by kernel_rfl) ?_
    exact ⟨retB (show false = decide (a = b) by clear S; first | (simp [TIns.ext_iff, *]; done) | (simp_all [TIns.ext_iff]; done)), S.chg⟩
  · have g3 : a.opc = b.opc := ne_f h1
    refine wp_skip (nx_then ?_)
    refine wp_seq ?_
    refine wp_seq ?_
    refine RG.start ?_
    refine S.quiet (k := 5) (keep := [14]) (m := 0) (σ' := ⟨[(14, .v (B (a.x != b.x)))], []⟩) .nil (by kernel_rfl) ?_
    clear S; intro ac w β S
    refine RG.done rfl (nx_then ?_)
    refine S.cond (e := (a.x != b.x)) (by kernel_rfl) (fun h4 => ?_) (fun h4 => ?_)
    · have g5 : ¬ (a.x = b.x) := bne_iff_ne.1 h4
      refine wp_seq ?_
      refine RG.start ?_
      refine S.quiet (k := 1) (keep := [4]) (m := 0) (σ' := ⟨[(4, .v (B false))], []⟩) .nil (by kernel_rfl) ?_
      clear S; intro ac w β S
      refine RG.done rfl (nx_then ?_)
      refine wp_ret (rt_then ?_)
      refine S.ret (vs := [B false]) (by kernel_rfl) ?_
      exact ⟨retB (show false = decide (a = b) by clear S; first | (simp [TIns.ext_iff, *]; done) | (simp_all [TIns.ext_iff]; done)), S.chg⟩
    · have g6 : a.x = b.x := ne_f h4
      refine wp_skip (nx_then ?_)
      refine wp_seq ?_
      refine RG.start ?_
      refine S.quiet (k := 1) (keep := [4]) (m := 0) (σ' := ⟨[(4, .v (B true))], []⟩) .nil (by kernel_rfl) ?_
      clear S; intro ac w β S
      refine RG.done rfl (nx_then ?_)
      refine wp_ret ?_
      refine S.ret (vs := [B true]) (by kernel_rfl) ?_
      exact ⟨retB (show true = decide (a = b) by clear S; first | (simp [TIns.ext_iff, *]; done) | (simp_all [TIns.ext_iff]; done)), S.chg⟩

set_option maxRecDepth 100000 in
theorem c_laws_eqInsS (w0 : World) (a : List TIns) (pa : LP TIns) (ha : GT.rd KK (Lt w0.heap.size) w0 a pa) (b : List TIns) (pb : LP TIns) (hb : GT.rd KK (Lt w0.heap.size) w0 b pb) : Calls Go.Proofs.Try.prog 86 [slv (a).length pa.1, slv (b).length pb.1].toArray w0 (fun e w' => e = .returned (B (decide (a = b))) ∧ Chg NoB w0 w') := by
  refine Calls.walk (args := [slv (a).length pa.1, slv (b).length pb.1]) NoB Go.Proofs.Try.func86 rfl rfl ?_
  intro ac β S
  have hlea : a.length ≤ 4194304 := LRd.le ha
  have hleb : b.length ≤ 4194304 := LRd.le hb
  refine wp_seq ?_
  refine RG.start ?_
  refine S.quiet (k := 1) (keep := [0, 1]) (m := 0) (σ' := ⟨[(0, .v (slv (a).length pa.1)), (1, .v (slv (b).length pb.1))], []⟩) .nil (by kernel_rfl) ?_
  clear S; intro ac w β S
  refine RG.done rfl (nx_then ?_)
  refine wp_seq ?_
  refine wp_seq ?_
  refine RG.start ?_
  refine S.quiet (k := 5) (keep := [0, 1, 10]) (m := 0) (σ' := ⟨[(0, .v (slv (a).length pa.1)), (1, .v (slv (b).length pb.1)), (10, .v (B (((a).length : Int) != ((b).length : Int))))], []⟩) .nil (by kernel_rfl) ?_
  clear S; intro ac w β S
  refine RG.done rfl (nx_then ?_)
  refine S.cond (e := (((a).length : Int) != ((b).length : Int))) (by kernel_rfl) (fun h1 => ?_) (fun h1 => ?_)
  · have g2 : ¬ (((a).length : Int) = ((b).length : Int)) := bne_iff_ne.1 h1
    refine wp_seq ?_
    refine RG.start ?_
    refine S.quiet (k := 1) (keep := [4]) (m := 0) (σ' := ⟨[(4, .v (B false))], []⟩) .nil (by kernel_rfl) ?_
    clear S; intro ac w β S
    refine RG.done rfl (nx_then ?_)
    refine wp_ret (rt_then ?_)
    refine S.ret (vs := [B false]) (by kernel_rfl) ?_
    exact ⟨retB (show false = decide (a = b) by clear S; first | (simp; intro e; subst e; simp_all; done) | (simp; rw [take_all (by omega), take_all (by omega)] at he; exact he) | (simp; exact take_ne (by simp_all))), S.chg⟩
  · have g3 : ((a).length : Int) = ((b).length : Int) := ne_f h1
    refine wp_skip (nx_then ?_)
    refine wp_seq ?_
    refine wp_seq ?_
    refine RG.start ?_
    refine S.quiet (k := 1) (keep := [0, 1, 5]) (m := 0) (σ' := ⟨[(0, .v (slv (a).length pa.1)), (1, .v (slv (b).length pb.1)), (5, .v (I 0))], []⟩) .nil (by kernel_rfl) ?_
    clear S; intro ac w β S
    refine RG.done rfl (nx_then ?_)
    refine wp_block ?_
    replace S := S.prune (keep := [0, 1, 5]) (m := 0) (σ' := ⟨[(0, .v (slv (a).length pa.1)), (1, .v (slv (b).length pb.1)), (5, .v (I 0))], []⟩) (by kernel_rfl)
    refine wp_loop_down (fun mm ac w => ∃ (k : Nat)  (u : World) (N : Bl) (β : Nat → Nat), mm = a.length - k ∧ (k ≤ a.length) ∧ (a.length = b.length) ∧ (a.take k = b.take k) ∧ St Go.Proofs.Try.prog Go.Proofs.Try.f86.ntmps w0 NoB u N β ⟨[(0, .v (slv (a).length pa.1)), (1, .v (slv (b).length pb.1)), (5, .v (I (k : Int)))], []⟩ ac w) _ ⟨0, _, _, _, rfl, (by first | omega | (simp; done) | (simp; omega)), (by first | omega | (simp; done) | (simp; omega)), (by simp), S.cast (by kernel_rfl)⟩ ?_
    clear S
    rintro mm ac w ⟨k, u, N, β, rfl, hk, hab, he, S⟩
    refine wp_seq ?_
    refine wp_seq ?_
    refine RG.start ?_
    refine S.quiet (k := 4) (keep := [0, 1, 5, 14]) (m := 0) (σ' := ⟨[(0, .v (slv (a).length pa.1)), (1, .v (slv (b).length pb.1)), (5, .v (I (k : Int))), (14, .v (B (decide ((k : Int) < ((a).length : Int)))))], []⟩) .nil (by kernel_rfl) ?_
    clear S; intro ac w β S
    refine RG.done rfl (nx_then ?_)
    refine S.cond (e := (decide ((k : Int) < ((a).length : Int)))) (by kernel_rfl) (fun h4 => ?_) (fun h4 => ?_)
    · have g5 : (k : Int) < ((a).length : Int) := of_decide_eq_true h4
      refine wp_skip (nx_then ?_)
      refine wp_seq ?_
      refine wp_block ?_
      refine wp_seq ?_
      refine S.drawn (keep := [0, 1, 5, 26]) (m := 0) (σ' := ⟨[(0, .v (slv (a).length pa.1)), (1, .v (slv (b).length pb.1)), (5, .v (I (k : Int))), (26, .v (B (!(decide ((el a k) = (el b k))))))], []⟩) (.cons (Q_idx (S.arg ha) (l := (a).length) (k := k) (i := (k : Int)) rfl rfl (by omega) Go.Proofs.Try.underlying97 (by kernel_rfl)) (.cons (Q_el (S.arg ha) (t := 143) (k := k) (by omega) rfl (by kernel_rfl) (by kernel_rfl)) (.cons (Q_idx (S.arg hb) (l := (b).length) (k := k) (i := (k : Int)) rfl rfl (by omega) Go.Proofs.Try.underlying97 (by kernel_rfl)) (.cons (Q_el (S.arg hb) (t := 143) (k := k) (by omega) rfl (by kernel_rfl) (by kernel_rfl)) (.cons (Q_call fun w hw => c_laws_eqIns w (el a k) (el b k)) .nil))))) rfl (by kernel_rfl) (by kernel_rfl) ?_
      clear S; intro ac w S
      refine id (nx_then ?_)
      refine S.cond (e := (!(decide ((el a k) = (el b k))))) (by kernel_rfl) (fun h6 => ?_) (fun h6 => ?_)
      · have h7 : (decide ((el a k) = (el b k))) = false := not_t h6
        have g8 := of_decide_eq_false h7
        refine wp_seq ?_
        refine RG.start ?_
        refine S.quiet (k := 1) (keep := [4]) (m := 0) (σ' := ⟨[(4, .v (B false))], []⟩) .nil (by kernel_rfl) ?_
        clear S; intro ac w β S
        refine RG.done rfl (nx_then ?_)
        refine wp_ret (rt_block (rt_then (rt_then (rt_block (rt_then ?_)))))
        refine S.ret (vs := [B false]) (by kernel_rfl) ?_
        exact ⟨retB (show false = decide (a = b) by clear S; first | (simp; intro e; subst e; simp_all; done) | (simp; rw [take_all (by omega), take_all (by omega)] at he; exact he) | (simp; exact take_ne (by simp_all))), S.chg⟩
      · have h9 : (decide ((el a k) = (el b k))) = true := not_f h6
        have g10 := of_decide_eq_true h9
        refine wp_skip (nx_block (nx_then ?_))
        refine RG.start ?_
        refine S.quiet (k := 3) (keep := [0, 1, 5]) (m := 0) (σ' := ⟨[(0, .v (slv (a).length pa.1)), (1, .v (slv (b).length pb.1)), (5, .v (I ((k : Int) + 1)))], []⟩) (.cons (Q_add (x := (k : Int)) (y := 1) ⟨by omega, by omega⟩) .nil) (by kernel_rfl) ?_
        clear S; intro ac w β S
        refine RG.done rfl (nx_then ?_)
        replace S := S.prune (keep := [0, 1, 5]) (m := 0) (σ' := ⟨[(0, .v (slv (a).length pa.1)), (1, .v (slv (b).length pb.1)), (5, .v (I ((k : Int) + 1)))], []⟩) (by kernel_rfl)
        refine ⟨a.length - (k + 1), by omega, k + 1, _, _, _, rfl, ?_, ?_, ?_, S.cast (by kernel_rfl)⟩
        · clear S; first | omega | (simp [*]; done) | (simp [*]; omega)
        · clear S; first | omega | (simp [*]; done) | (simp [*]; omega)
        · clear S; exact take_eq_step (by omega) (by omega) he (by simp_all)
    · have g11 : ¬ ((k : Int) < ((a).length : Int)) := of_decide_eq_false h4
      refine wp_exit (ex_then (ex_then (ex_hit (nx_then ?_))))
      refine wp_seq ?_
      refine RG.start ?_
      refine S.quiet (k := 1) (keep := [4]) (m := 0) (σ' := ⟨[(4, .v (B true))], []⟩) .nil (by kernel_rfl) ?_
      clear S; intro ac w β S
      refine RG.done rfl (nx_then ?_)
      refine wp_ret ?_
      refine S.ret (vs := [B true]) (by kernel_rfl) ?_
      exact ⟨retB (show true = decide (a = b) by clear S; first | (simp; intro e; subst e; simp_all; done) | (simp; rw [take_all (by omega), take_all (by omega)] at he; exact he) | (simp; exact take_ne (by simp_all))), S.chg⟩

set_option maxRecDepth 100000 in
theorem c_laws_eqCtl (w0 : World) (a : TCtl) (b : TCtl) : Calls Go.Proofs.Try.prog 173 [GT.val (α := TCtl) a (), GT.val (α := TCtl) b ()].toArray w0 (fun e w' => e = .returned (B (decide (a = b))) ∧ Chg NoB w0 w') := by
  refine Calls.walk (args := [GT.val (α := TCtl) a (), GT.val (α := TCtl) b ()]) NoB Go.Proofs.Try.func173 rfl rfl ?_
  intro ac β S
  refine wp_seq ?_
  refine RG.start ?_
  refine S.quiet (k := 3) (keep := [2, 3]) (m := 2) (σ' := ⟨[(2, .p 0 0), (3, .p 1 0)], [GT.cells (α := TCtl) a (), GT.cells (α := TCtl) b ()]⟩) .nil (by kernel_rfl) ?_
  clear S; intro ac w β S
  refine RG.done rfl (nx_then ?_)
  refine wp_seq ?_
  refine wp_seq ?_
  refine RG.start ?_
  refine S.quiet (k := 5) (keep := [2, 3, 9]) (m := 2) (σ' := ⟨[(2, .p 0 0), (3, .p 1 0), (9, .v (B (a.traps != b.traps)))], [GT.cells (α := TCtl) a (), GT.cells (α := TCtl) b ()]⟩) .nil (by kernel_rfl) ?_
  clear S; intro ac w β S
  refine RG.done rfl (nx_then ?_)
  refine S.cond (e := (a.traps != b.traps)) (by kernel_rfl) (fun h1 => ?_) (fun h1 => ?_)
  · have g2 : ¬ (a.traps = b.traps) := bne_iff_ne.1 h1
    refine wp_seq ?_
    refine RG.start ?_
    refine S.quiet (k := 1) (keep := [4]) (m := 0) (σ' := ⟨[(4, .v (B false))], []⟩) .nil (by kernel_rfl) ?_
    clear S; intro ac w β S
    refine RG.done rfl (nx_then ?_)
    refine wp_ret (rt_then ?_)
    refine S.ret (vs := [B false]) (by kernel_rfl) ?_
    exact ⟨retB (show false = decide (a = b) by clear S; first | (simp [TCtl.ext_iff, *]; done) | (simp_all [TCtl.ext_iff]; done)), S.chg⟩
  · have g3 : a.traps = b.traps := ne_f h1
    refine wp_skip (nx_then ?_)
    refine wp_seq ?_
    refine wp_seq ?_
    refine RG.start ?_
    refine S.quiet (k := 5) (keep := [2, 3, 14]) (m := 2) (σ' := ⟨[(2, .p 0 0), (3, .p 1 0), (14, .v (B (a.post != b.post)))], [GT.cells (α := TCtl) a (), GT.cells (α := TCtl) b ()]⟩) .nil (by kernel_rfl) ?_
    clear S; intro ac w β S
    refine RG.done rfl (nx_then ?_)
    refine S.cond (e := (a.post != b.post)) (by kernel_rfl) (fun h4 => ?_) (fun h4 => ?_)
    · have g5 : ¬ (a.post = b.post) := bne_iff_ne.1 h4
      refine wp_seq ?_
      refine RG.start ?_
      refine S.quiet (k := 1) (keep := [4]) (m := 0) (σ' := ⟨[(4, .v (B false))], []⟩) .nil (by kernel_rfl) ?_
      clear S; intro ac w β S
      refine RG.done rfl (nx_then ?_)
      refine wp_ret (rt_then ?_)
      refine S.ret (vs := [B false]) (by kernel_rfl) ?_
      exact ⟨retB (show false = decide (a = b) by clear S; first | (simp [TCtl.ext_iff, *]; done) | (simp_all [TCtl.ext_iff]; done)), S.chg⟩
    · have g6 : a.post = b.post := ne_f h4
      refine wp_skip (nx_then ?_)
      refine wp_seq ?_
      refine wp_seq ?_
      refine RG.start ?_
      refine S.quiet (k := 5) (keep := [19]) (m := 0) (σ' := ⟨[(19, .v (B (!(a.opn == b.opn))))], []⟩) .nil (by kernel_rfl) ?_
      clear S; intro ac w β S
      refine RG.done rfl (nx_then ?_)
      refine S.cond (e := (!(a.opn == b.opn))) (by kernel_rfl) (fun h7 => ?_) (fun h7 => ?_)
      · have h8 : (a.opn == b.opn) = false := not_t h7
        have g9 : ¬ (a.opn = b.opn) := ne_of_beq_false h8
        refine wp_seq ?_
        refine RG.start ?_
        refine S.quiet (k := 1) (keep := [4]) (m := 0) (σ' := ⟨[(4, .v (B false))], []⟩) .nil (by kernel_rfl) ?_
        clear S; intro ac w β S
        refine RG.done rfl (nx_then ?_)
        refine wp_ret (rt_then ?_)
        refine S.ret (vs := [B false]) (by kernel_rfl) ?_
        exact ⟨retB (show false = decide (a = b) by clear S; first | (simp [TCtl.ext_iff, *]; done) | (simp_all [TCtl.ext_iff]; done)), S.chg⟩
      · have h10 : (a.opn == b.opn) = true := not_f h7
        have g11 : a.opn = b.opn := eq_of_beq h10
        refine wp_skip (nx_then ?_)
        refine wp_seq ?_
        refine RG.start ?_
        refine S.quiet (k := 1) (keep := [4]) (m := 0) (σ' := ⟨[(4, .v (B true))], []⟩) .nil (by kernel_rfl) ?_
        clear S; intro ac w β S
        refine RG.done rfl (nx_then ?_)
        refine wp_ret ?_
        refine S.ret (vs := [B true]) (by kernel_rfl) ?_
        exact ⟨retB (show true = decide (a = b) by clear S; first | (simp [TCtl.ext_iff, *]; done) | (simp_all [TCtl.ext_iff]; done)), S.chg⟩

set_option maxRecDepth 100000 in
theorem c_laws_eqExit (w0 : World) (a : TExit) (b : TExit) : Calls Go.Proofs.Try.prog 174 [GT.val (α := TExit) a (), GT.val (α := TExit) b ()].toArray w0 (fun e w' => e = .returned (B (decide (a = b))) ∧ Chg NoB w0 w') := by
  refine Calls.walk (args := [GT.val (α := TExit) a (), GT.val (α := TExit) b ()]) NoB Go.Proofs.Try.func174 rfl rfl ?_
  intro ac β S
  refine wp_seq ?_
  refine RG.start ?_
  refine S.quiet (k := 3) (keep := [2, 3]) (m := 2) (σ' := ⟨[(2, .p 0 0), (3, .p 1 0)], [GT.cells (α := TExit) a (), GT.cells (α := TExit) b ()]⟩) .nil (by kernel_rfl) ?_
  clear S; intro ac w β S
  refine RG.done rfl (nx_then ?_)
  refine wp_seq ?_
  refine wp_seq ?_
  refine RG.start ?_
  refine S.quiet (k := 5) (keep := [2, 3, 9]) (m := 2) (σ' := ⟨[(2, .p 0 0), (3, .p 1 0), (9, .v (B (a.kind != b.kind)))], [GT.cells (α := TExit) a (), GT.cells (α := TExit) b ()]⟩) .nil (by kernel_rfl) ?_
  clear S; intro ac w β S
  refine RG.done rfl (nx_then ?_)
  refine S.cond (e := (a.kind != b.kind)) (by kernel_rfl) (fun h1 => ?_) (fun h1 => ?_)
  · have g2 : ¬ (a.kind = b.kind) := bne_iff_ne.1 h1
    refine wp_seq ?_
    refine RG.start ?_
    refine S.quiet (k := 1) (keep := [4]) (m := 0) (σ' := ⟨[(4, .v (B false))], []⟩) .nil (by kernel_rfl) ?_
    clear S; intro ac w β S
    refine RG.done rfl (nx_then ?_)
    refine wp_ret (rt_then ?_)
    refine S.ret (vs := [B false]) (by kernel_rfl) ?_
    exact ⟨retB (show false = decide (a = b) by clear S; first | (simp [TExit.ext_iff, *]; done) | (simp_all [TExit.ext_iff]; done)), S.chg⟩
  · have g3 : a.kind = b.kind := ne_f h1
    refine wp_skip (nx_then ?_)
    refine wp_seq ?_
    refine wp_seq ?_
    refine RG.start ?_
    refine S.quiet (k := 5) (keep := [2, 3, 14]) (m := 2) (σ' := ⟨[(2, .p 0 0), (3, .p 1 0), (14, .v (B (a.page != b.page)))], [GT.cells (α := TExit) a (), GT.cells (α := TExit) b ()]⟩) .nil (by kernel_rfl) ?_
    clear S; intro ac w β S
    refine RG.done rfl (nx_then ?_)
    refine S.cond (e := (a.page != b.page)) (by kernel_rfl) (fun h4 => ?_) (fun h4 => ?_)
    · have g5 : ¬ (a.page = b.page) := bne_iff_ne.1 h4
      refine wp_seq ?_
      refine RG.start ?_
      refine S.quiet (k := 1) (keep := [4]) (m := 0) (σ' := ⟨[(4, .v (B false))], []⟩) .nil (by kernel_rfl) ?_
      clear S; intro ac w β S
      refine RG.done rfl (nx_then ?_)
      refine wp_ret (rt_then ?_)
      refine S.ret (vs := [B false]) (by kernel_rfl) ?_
      exact ⟨retB (show false = decide (a = b) by clear S; first | (simp [TExit.ext_iff, *]; done) | (simp_all [TExit.ext_iff]; done)), S.chg⟩
    · have g6 : a.page = b.page := ne_f h4
      refine wp_skip (nx_then ?_)
      refine wp_seq ?_
      refine wp_seq ?_
      refine RG.start ?_
      refine S.quiet (k := 5) (keep := [2, 3, 19]) (m := 2) (σ' := ⟨[(2, .p 0 0), (3, .p 1 0), (19, .v (B (!(a.wr == b.wr))))], [GT.cells (α := TExit) a (), GT.cells (α := TExit) b ()]⟩) .nil (by kernel_rfl) ?_
      clear S; intro ac w β S
      refine RG.done rfl (nx_then ?_)
      refine S.cond (e := (!(a.wr == b.wr))) (by kernel_rfl) (fun h7 => ?_) (fun h7 => ?_)
      · have h8 : (a.wr == b.wr) = false := not_t h7
        have g9 : ¬ (a.wr = b.wr) := ne_of_beq_false h8
        refine wp_seq ?_
        refine RG.start ?_
        refine S.quiet (k := 1) (keep := [4]) (m := 0) (σ' := ⟨[(4, .v (B false))], []⟩) .nil (by kernel_rfl) ?_
        clear S; intro ac w β S
        refine RG.done rfl (nx_then ?_)
        refine wp_ret (rt_then ?_)
        refine S.ret (vs := [B false]) (by kernel_rfl) ?_
        exact ⟨retB (show false = decide (a = b) by clear S; first | (simp [TExit.ext_iff, *]; done) | (simp_all [TExit.ext_iff]; done)), S.chg⟩
      · have h10 : (a.wr == b.wr) = true := not_f h7
        have g11 : a.wr = b.wr := eq_of_beq h10
        refine wp_skip (nx_then ?_)
        refine wp_seq ?_
        refine wp_seq ?_
        refine RG.start ?_
        refine S.quiet (k := 5) (keep := [24]) (m := 0) (σ' := ⟨[(24, .v (B (a.n != b.n)))], []⟩) .nil (by kernel_rfl) ?_
        clear S; intro ac w β S
        refine RG.done rfl (nx_then ?_)
        refine S.cond (e := (a.n != b.n)) (by kernel_rfl) (fun h12 => ?_) (fun h12 => ?_)
        · have g13 : ¬ (a.n = b.n) := bne_iff_ne.1 h12
          refine wp_seq ?_
          refine RG.start ?_
          refine S.quiet (k := 1) (keep := [4]) (m := 0) (σ' := ⟨[(4, .v (B false))], []⟩) .nil (by kernel_rfl) ?_
          clear S; intro ac w β S
          refine RG.done rfl (nx_then ?_)
          refine wp_ret (rt_then ?_)
          refine S.ret (vs := [B false]) (by kernel_rfl) ?_
          exact ⟨retB (show false = decide (a = b) by clear S; first | (simp [TExit.ext_iff, *]; done) | (simp_all [TExit.ext_iff]; done)), S.chg⟩
        · have g14 : a.n = b.n := ne_f h12
          refine wp_skip (nx_then ?_)
          refine wp_seq ?_
          refine RG.start ?_
          refine S.quiet (k := 1) (keep := [4]) (m := 0) (σ' := ⟨[(4, .v (B true))], []⟩) .nil (by kernel_rfl) ?_
          clear S; intro ac w β S
          refine RG.done rfl (nx_then ?_)
          refine wp_ret ?_
          refine S.ret (vs := [B true]) (by kernel_rfl) ?_
          exact ⟨retB (show true = decide (a = b) by clear S; first | (simp [TExit.ext_iff, *]; done) | (simp_all [TExit.ext_iff]; done)), S.chg⟩

set_option maxRecDepth 100000 in
theorem c_laws_eqGuest (w0 : World) (a : TGuest) (pa : PGuest) (ha : GT.rd KK (Lt w0.heap.size) w0 a pa) (b : TGuest) (pb : PGuest) (hb : GT.rd KK (Lt w0.heap.size) w0 b pb) : Calls Go.Proofs.Try.prog 140 [GT.val (α := TGuest) a pa, GT.val (α := TGuest) b pb].toArray w0 (fun e w' => e = .returned (B (decide (a = b))) ∧ Chg NoB w0 w') := by
  refine Calls.walk (args := [GT.val (α := TGuest) a pa, GT.val (α := TGuest) b pb]) NoB Go.Proofs.Try.func140 rfl rfl ?_
  intro ac β S
  have hlea_prog : a.prog.length ≤ 4194304 := LRd.le (RGuest.prog (d := a) ha)
  have hlea_written : a.written.length ≤ 4194304 := LRd.le (RGuest.written (d := a) ha)
  have hlea_live : a.live.length ≤ 4194304 := LRd.le (RGuest.live (d := a) ha)
  have hlea_seen : a.seen.length ≤ 4194304 := LRd.le (RGuest.seen (d := a) ha)
  have hleb_prog : b.prog.length ≤ 4194304 := LRd.le (RGuest.prog (d := b) hb)
  have hleb_written : b.written.length ≤ 4194304 := LRd.le (RGuest.written (d := b) hb)
  have hleb_live : b.live.length ≤ 4194304 := LRd.le (RGuest.live (d := b) hb)
  have hleb_seen : b.seen.length ≤ 4194304 := LRd.le (RGuest.seen (d := b) hb)
  refine wp_seq ?_
  refine RG.start ?_
  refine S.quiet (k := 3) (keep := [2, 3]) (m := 2) (σ' := ⟨[(2, .p 0 0), (3, .p 1 0)], [GT.cells (α := TGuest) a pa, GT.cells (α := TGuest) b pb]⟩) .nil (by kernel_rfl) ?_
  clear S; intro ac w β S
  refine RG.done rfl (nx_then ?_)
  refine wp_seq ?_
  refine wp_seq ?_
  refine RG.start ?_
  refine S.quiet (k := 6) (keep := [2, 3, 10]) (m := 2) (σ' := ⟨[(2, .p 0 0), (3, .p 1 0), (10, .v (B (!(decide (a.prog = b.prog)))))], [GT.cells (α := TGuest) a pa, GT.cells (α := TGuest) b pb]⟩) (.cons (Q_call fun w hw => c_laws_eqInsS w a.prog pa.prog (rd_of (RGuest.prog (d := a) (S.arg ha)) hw) b.prog pb.prog (rd_of (RGuest.prog (d := b) (S.arg hb)) hw)) .nil) (by kernel_rfl) ?_
  clear S; intro ac w β S
  refine RG.done rfl (nx_then ?_)
  refine S.cond (e := (!(decide (a.prog = b.prog)))) (by kernel_rfl) (fun h1 => ?_) (fun h1 => ?_)
  · have h2 : (decide (a.prog = b.prog)) = false := not_t h1
    have g3 := of_decide_eq_false h2
    refine wp_seq ?_
    refine RG.start ?_
    refine S.quiet (k := 1) (keep := [4]) (m := 0) (σ' := ⟨[(4, .v (B false))], []⟩) .nil (by kernel_rfl) ?_
    clear S; intro ac w β S
    refine RG.done rfl (nx_then ?_)
    refine wp_ret (rt_then ?_)
    refine S.ret (vs := [B false]) (by kernel_rfl) ?_
    exact ⟨retB (show false = decide (a = b) by clear S; first | (simp [TGuest.ext_iff, *]; done) | (simp_all [TGuest.ext_iff]; done)), S.chg⟩
  · have h4 : (decide (a.prog = b.prog)) = true := not_f h1
    have g5 := of_decide_eq_true h4
    refine wp_skip (nx_then ?_)
    refine wp_seq ?_
    refine wp_seq ?_
    refine RG.start ?_
    refine S.quiet (k := 5) (keep := [2, 3, 15]) (m := 2) (σ' := ⟨[(2, .p 0 0), (3, .p 1 0), (15, .v (B (a.acc != b.acc)))], [GT.cells (α := TGuest) a pa, GT.cells (α := TGuest) b pb]⟩) .nil (by kernel_rfl) ?_
    clear S; intro ac w β S
    refine RG.done rfl (nx_then ?_)
    refine S.cond (e := (a.acc != b.acc)) (by kernel_rfl) (fun h6 => ?_) (fun h6 => ?_)
    · have g7 : ¬ (a.acc = b.acc) := bne_iff_ne.1 h6
      refine wp_seq ?_
      refine RG.start ?_
      refine S.quiet (k := 1) (keep := [4]) (m := 0) (σ' := ⟨[(4, .v (B false))], []⟩) .nil (by kernel_rfl) ?_
      clear S; intro ac w β S
      refine RG.done rfl (nx_then ?_)
      refine wp_ret (rt_then ?_)
      refine S.ret (vs := [B false]) (by kernel_rfl) ?_
      exact ⟨retB (show false = decide (a = b) by clear S; first | (simp [TGuest.ext_iff, *]; done) | (simp_all [TGuest.ext_iff]; done)), S.chg⟩
    · have g8 : a.acc = b.acc := ne_f h6
      refine wp_skip (nx_then ?_)
      refine wp_seq ?_
      refine wp_seq ?_
      refine RG.start ?_
      refine S.quiet (k := 5) (keep := [2, 3, 20]) (m := 2) (σ' := ⟨[(2, .p 0 0), (3, .p 1 0), (20, .v (B (a.pc != b.pc)))], [GT.cells (α := TGuest) a pa, GT.cells (α := TGuest) b pb]⟩) .nil (by kernel_rfl) ?_
      clear S; intro ac w β S
      refine RG.done rfl (nx_then ?_)
      refine S.cond (e := (a.pc != b.pc)) (by kernel_rfl) (fun h9 => ?_) (fun h9 => ?_)
      · have g10 : ¬ (a.pc = b.pc) := bne_iff_ne.1 h9
        refine wp_seq ?_
        refine RG.start ?_
        refine S.quiet (k := 1) (keep := [4]) (m := 0) (σ' := ⟨[(4, .v (B false))], []⟩) .nil (by kernel_rfl) ?_
        clear S; intro ac w β S
        refine RG.done rfl (nx_then ?_)
        refine wp_ret (rt_then ?_)
        refine S.ret (vs := [B false]) (by kernel_rfl) ?_
        exact ⟨retB (show false = decide (a = b) by clear S; first | (simp [TGuest.ext_iff, *]; done) | (simp_all [TGuest.ext_iff]; done)), S.chg⟩
      · have g11 : a.pc = b.pc := ne_f h9
        refine wp_skip (nx_then ?_)
        refine wp_seq ?_
        refine wp_seq ?_
        refine RG.start ?_
        refine S.quiet (k := 6) (keep := [2, 3, 26]) (m := 2) (σ' := ⟨[(2, .p 0 0), (3, .p 1 0), (26, .v (B (!(decide (a.written = b.written)))))], [GT.cells (α := TGuest) a pa, GT.cells (α := TGuest) b pb]⟩) (.cons (Q_call fun w hw => c_laws_eqSlotS w a.written pa.written (rd_of (RGuest.written (d := a) (S.arg ha)) hw) b.written pb.written (rd_of (RGuest.written (d := b) (S.arg hb)) hw)) .nil) (by kernel_rfl) ?_
        clear S; intro ac w β S
        refine RG.done rfl (nx_then ?_)
        refine S.cond (e := (!(decide (a.written = b.written)))) (by kernel_rfl) (fun h12 => ?_) (fun h12 => ?_)
        · have h13 : (decide (a.written = b.written)) = false := not_t h12
          have g14 := of_decide_eq_false h13
          refine wp_seq ?_
          refine RG.start ?_
          refine S.quiet (k := 1) (keep := [4]) (m := 0) (σ' := ⟨[(4, .v (B false))], []⟩) .nil (by kernel_rfl) ?_
          clear S; intro ac w β S
          refine RG.done rfl (nx_then ?_)
          refine wp_ret (rt_then ?_)
          refine S.ret (vs := [B false]) (by kernel_rfl) ?_
          exact ⟨retB (show false = decide (a = b) by clear S; first | (simp [TGuest.ext_iff, *]; done) | (simp_all [TGuest.ext_iff]; done)), S.chg⟩
        · have h15 : (decide (a.written = b.written)) = true := not_f h12
          have g16 := of_decide_eq_true h15
          refine wp_skip (nx_then ?_)
          refine wp_seq ?_
          refine wp_seq ?_
          refine RG.start ?_
          refine S.quiet (k := 6) (keep := [2, 3, 32]) (m := 2) (σ' := ⟨[(2, .p 0 0), (3, .p 1 0), (32, .v (B (!(decide (a.live = b.live)))))], [GT.cells (α := TGuest) a pa, GT.cells (α := TGuest) b pb]⟩) (.cons (Q_call fun w hw => c_laws_eqSlotS w a.live pa.live (rd_of (RGuest.live (d := a) (S.arg ha)) hw) b.live pb.live (rd_of (RGuest.live (d := b) (S.arg hb)) hw)) .nil) (by kernel_rfl) ?_
          clear S; intro ac w β S
          refine RG.done rfl (nx_then ?_)
          refine S.cond (e := (!(decide (a.live = b.live)))) (by kernel_rfl) (fun h17 => ?_) (fun h17 => ?_)
          · have h18 : (decide (a.live = b.live)) = false := not_t h17
            have g19 := of_decide_eq_false h18
            refine wp_seq ?_
            refine RG.start ?_
            refine S.quiet (k := 1) (keep := [4]) (m := 0) (σ' := ⟨[(4, .v (B false))], []⟩) .nil (by kernel_rfl) ?_
            clear S; intro ac w β S
            refine RG.done rfl (nx_then ?_)
            refine wp_ret (rt_then ?_)
            refine S.ret (vs := [B false]) (by kernel_rfl) ?_
            exact ⟨retB (show false = decide (a = b) by clear S; first | (simp [TGuest.ext_iff, *]; done) | (simp_all [TGuest.ext_iff]; done)), S.chg⟩
          · have h20 : (decide (a.live = b.live)) = true := not_f h17
            have g21 := of_decide_eq_true h20
            refine wp_skip (nx_then ?_)
            refine wp_seq ?_
            refine wp_seq ?_
            refine RG.start ?_
            refine S.quiet (k := 6) (keep := [2, 3, 38]) (m := 2) (σ' := ⟨[(2, .p 0 0), (3, .p 1 0), (38, .v (B (!(decide (a.ctl = b.ctl)))))], [GT.cells (α := TGuest) a pa, GT.cells (α := TGuest) b pb]⟩) (.cons (Q_call fun w hw => c_laws_eqCtl w a.ctl b.ctl) .nil) (by kernel_rfl) ?_
            clear S; intro ac w β S
            refine RG.done rfl (nx_then ?_)
            refine S.cond (e := (!(decide (a.ctl = b.ctl)))) (by kernel_rfl) (fun h22 => ?_) (fun h22 => ?_)
            · have h23 : (decide (a.ctl = b.ctl)) = false := not_t h22
              have g24 := of_decide_eq_false h23
              refine wp_seq ?_
              refine RG.start ?_
              refine S.quiet (k := 1) (keep := [4]) (m := 0) (σ' := ⟨[(4, .v (B false))], []⟩) .nil (by kernel_rfl) ?_
              clear S; intro ac w β S
              refine RG.done rfl (nx_then ?_)
              refine wp_ret (rt_then ?_)
              refine S.ret (vs := [B false]) (by kernel_rfl) ?_
              exact ⟨retB (show false = decide (a = b) by clear S; first | (simp [TGuest.ext_iff, *]; done) | (simp_all [TGuest.ext_iff]; done)), S.chg⟩
            · have h25 : (decide (a.ctl = b.ctl)) = true := not_f h22
              have g26 := of_decide_eq_true h25
              refine wp_skip (nx_then ?_)
              refine wp_seq ?_
              refine wp_seq ?_
              refine RG.start ?_
              refine S.quiet (k := 5) (keep := [2, 3, 43]) (m := 2) (σ' := ⟨[(2, .p 0 0), (3, .p 1 0), (43, .v (B (a.pend != b.pend)))], [GT.cells (α := TGuest) a pa, GT.cells (α := TGuest) b pb]⟩) .nil (by kernel_rfl) ?_
              clear S; intro ac w β S
              refine RG.done rfl (nx_then ?_)
              refine S.cond (e := (a.pend != b.pend)) (by kernel_rfl) (fun h27 => ?_) (fun h27 => ?_)
              · have g28 : ¬ (a.pend = b.pend) := bne_iff_ne.1 h27
                refine wp_seq ?_
                refine RG.start ?_
                refine S.quiet (k := 1) (keep := [4]) (m := 0) (σ' := ⟨[(4, .v (B false))], []⟩) .nil (by kernel_rfl) ?_
                clear S; intro ac w β S
                refine RG.done rfl (nx_then ?_)
                refine wp_ret (rt_then ?_)
                refine S.ret (vs := [B false]) (by kernel_rfl) ?_
                exact ⟨retB (show false = decide (a = b) by clear S; first | (simp [TGuest.ext_iff, *]; done) | (simp_all [TGuest.ext_iff]; done)), S.chg⟩
              · have g29 : a.pend = b.pend := ne_f h27
                refine wp_skip (nx_then ?_)
                refine wp_seq ?_
                refine wp_seq ?_
                refine RG.start ?_
                refine S.quiet (k := 6) (keep := [2, 3, 49]) (m := 2) (σ' := ⟨[(2, .p 0 0), (3, .p 1 0), (49, .v (B (!(decide (a.exit = b.exit)))))], [GT.cells (α := TGuest) a pa, GT.cells (α := TGuest) b pb]⟩) (.cons (Q_call fun w hw => c_laws_eqExit w a.exit b.exit) .nil) (by kernel_rfl) ?_
                clear S; intro ac w β S
                refine RG.done rfl (nx_then ?_)
                refine S.cond (e := (!(decide (a.exit = b.exit)))) (by kernel_rfl) (fun h30 => ?_) (fun h30 => ?_)
                · have h31 : (decide (a.exit = b.exit)) = false := not_t h30
                  have g32 := of_decide_eq_false h31
                  refine wp_seq ?_
                  refine RG.start ?_
                  refine S.quiet (k := 1) (keep := [4]) (m := 0) (σ' := ⟨[(4, .v (B false))], []⟩) .nil (by kernel_rfl) ?_
                  clear S; intro ac w β S
                  refine RG.done rfl (nx_then ?_)
                  refine wp_ret (rt_then ?_)
                  refine S.ret (vs := [B false]) (by kernel_rfl) ?_
                  exact ⟨retB (show false = decide (a = b) by clear S; first | (simp [TGuest.ext_iff, *]; done) | (simp_all [TGuest.ext_iff]; done)), S.chg⟩
                · have h33 : (decide (a.exit = b.exit)) = true := not_f h30
                  have g34 := of_decide_eq_true h33
                  refine wp_skip (nx_then ?_)
                  refine wp_seq ?_
                  refine wp_seq ?_
                  refine RG.start ?_
                  refine S.quiet (k := 5) (keep := [2, 3, 54]) (m := 2) (σ' := ⟨[(2, .p 0 0), (3, .p 1 0), (54, .v (B (!(a.halted == b.halted))))], [GT.cells (α := TGuest) a pa, GT.cells (α := TGuest) b pb]⟩) .nil (by kernel_rfl) ?_
                  clear S; intro ac w β S
                  refine RG.done rfl (nx_then ?_)
                  refine S.cond (e := (!(a.halted == b.halted))) (by kernel_rfl) (fun h35 => ?_) (fun h35 => ?_)
                  · have h36 : (a.halted == b.halted) = false := not_t h35
                    have g37 : ¬ (a.halted = b.halted) := ne_of_beq_false h36
                    refine wp_seq ?_
                    refine RG.start ?_
                    refine S.quiet (k := 1) (keep := [4]) (m := 0) (σ' := ⟨[(4, .v (B false))], []⟩) .nil (by kernel_rfl) ?_
                    clear S; intro ac w β S
                    refine RG.done rfl (nx_then ?_)
                    refine wp_ret (rt_then ?_)
                    refine S.ret (vs := [B false]) (by kernel_rfl) ?_
                    exact ⟨retB (show false = decide (a = b) by clear S; first | (simp [TGuest.ext_iff, *]; done) | (simp_all [TGuest.ext_iff]; done)), S.chg⟩
                  · have h38 : (a.halted == b.halted) = true := not_f h35
                    have g39 : a.halted = b.halted := eq_of_beq h38
                    refine wp_skip (nx_then ?_)
                    refine wp_seq ?_
                    refine wp_seq ?_
                    refine RG.start ?_
                    refine S.quiet (k := 6) (keep := [60]) (m := 0) (σ' := ⟨[(60, .v (B (!(decide (a.seen = b.seen)))))], []⟩) (.cons (Q_call fun w hw => c_laws_eqIntS w a.seen pa.seen (rd_of (RGuest.seen (d := a) (S.arg ha)) hw) b.seen pb.seen (rd_of (RGuest.seen (d := b) (S.arg hb)) hw)) .nil) (by kernel_rfl) ?_
                    clear S; intro ac w β S
                    refine RG.done rfl (nx_then ?_)
                    refine S.cond (e := (!(decide (a.seen = b.seen)))) (by kernel_rfl) (fun h40 => ?_) (fun h40 => ?_)
                    · have h41 : (decide (a.seen = b.seen)) = false := not_t h40
                      have g42 := of_decide_eq_false h41
                      refine wp_seq ?_
                      refine RG.start ?_
                      refine S.quiet (k := 1) (keep := [4]) (m := 0) (σ' := ⟨[(4, .v (B false))], []⟩) .nil (by kernel_rfl) ?_
                      clear S; intro ac w β S
                      refine RG.done rfl (nx_then ?_)
                      refine wp_ret (rt_then ?_)
                      refine S.ret (vs := [B false]) (by kernel_rfl) ?_
                      exact ⟨retB (show false = decide (a = b) by clear S; first | (simp [TGuest.ext_iff, *]; done) | (simp_all [TGuest.ext_iff]; done)), S.chg⟩
                    · have h43 : (decide (a.seen = b.seen)) = true := not_f h40
                      have g44 := of_decide_eq_true h43
                      refine wp_skip (nx_then ?_)
                      refine wp_seq ?_
                      refine RG.start ?_
                      refine S.quiet (k := 1) (keep := [4]) (m := 0) (σ' := ⟨[(4, .v (B true))], []⟩) .nil (by kernel_rfl) ?_
                      clear S; intro ac w β S
                      refine RG.done rfl (nx_then ?_)
                      refine wp_ret ?_
                      refine S.ret (vs := [B true]) (by kernel_rfl) ?_
                      exact ⟨retB (show true = decide (a = b) by clear S; first | (simp [TGuest.ext_iff, *]; done) | (simp_all [TGuest.ext_iff]; done)), S.chg⟩

set_option maxRecDepth 100000 in
theorem c_laws_eqGuestS (w0 : World) (a : List TGuest) (pa : LP TGuest) (ha : GT.rd KK (Lt w0.heap.size) w0 a pa) (b : List TGuest) (pb : LP TGuest) (hb : GT.rd KK (Lt w0.heap.size) w0 b pb) : Calls Go.Proofs.Try.prog 84 [slv (a).length pa.1, slv (b).length pb.1].toArray w0 (fun e w' => e = .returned (B (decide (a = b))) ∧ Chg NoB w0 w') := by
  refine Calls.walk (args := [slv (a).length pa.1, slv (b).length pb.1]) NoB Go.Proofs.Try.func84 rfl rfl ?_
  intro ac β S
  have hlea : a.length ≤ 4194304 := LRd.le ha
  have hleb : b.length ≤ 4194304 := LRd.le hb
  refine wp_seq ?_
  refine RG.start ?_
  refine S.quiet (k := 1) (keep := [0, 1]) (m := 0) (σ' := ⟨[(0, .v (slv (a).length pa.1)), (1, .v (slv (b).length pb.1))], []⟩) .nil (by kernel_rfl) ?_
  clear S; intro ac w β S
  refine RG.done rfl (nx_then ?_)
  refine wp_seq ?_
  refine wp_seq ?_
  refine RG.start ?_
  refine S.quiet (k := 5) (keep := [0, 1, 10]) (m := 0) (σ' := ⟨[(0, .v (slv (a).length pa.1)), (1, .v (slv (b).length pb.1)), (10, .v (B (((a).length : Int) != ((b).length : Int))))], []⟩) .nil (by kernel_rfl) ?_
  clear S; intro ac w β S
  refine RG.done rfl (nx_then ?_)
  refine S.cond (e := (((a).length : Int) != ((b).length : Int))) (by kernel_rfl) (fun h1 => ?_) (fun h1 => ?_)
  · have g2 : ¬ (((a).length : Int) = ((b).length : Int)) := bne_iff_ne.1 h1
    refine wp_seq ?_
    refine RG.start ?_
    refine S.quiet (k := 1) (keep := [4]) (m := 0) (σ' := ⟨[(4, .v (B false))], []⟩) .nil (by kernel_rfl) ?_
    clear S; intro ac w β S
    refine RG.done rfl (nx_then ?_)
    refine wp_ret (rt_then ?_)
    refine S.ret (vs := [B false]) (by kernel_rfl) ?_
    exact ⟨retB (show false = decide (a = b) by clear S; first | (simp; intro e; subst e; simp_all; done) | (simp; rw [take_all (by omega), take_all (by omega)] at he; exact he) | (simp; exact take_ne (by simp_all))), S.chg⟩
  · have g3 : ((a).length : Int) = ((b).length : Int) := ne_f h1
    refine wp_skip (nx_then ?_)
    refine wp_seq ?_
    refine wp_seq ?_
    refine RG.start ?_
    refine S.quiet (k := 1) (keep := [0, 1, 5]) (m := 0) (σ' := ⟨[(0, .v (slv (a).length pa.1)), (1, .v (slv (b).length pb.1)), (5, .v (I 0))], []⟩) .nil (by kernel_rfl) ?_
    clear S; intro ac w β S
    refine RG.done rfl (nx_then ?_)
    refine wp_block ?_
    replace S := S.prune (keep := [0, 1, 5]) (m := 0) (σ' := ⟨[(0, .v (slv (a).length pa.1)), (1, .v (slv (b).length pb.1)), (5, .v (I 0))], []⟩) (by kernel_rfl)
    refine wp_loop_down (fun mm ac w => ∃ (k : Nat)  (u : World) (N : Bl) (β : Nat → Nat), mm = a.length - k ∧ (k ≤ a.length) ∧ (a.length = b.length) ∧ (a.take k = b.take k) ∧ St Go.Proofs.Try.prog Go.Proofs.Try.f84.ntmps w0 NoB u N β ⟨[(0, .v (slv (a).length pa.1)), (1, .v (slv (b).length pb.1)), (5, .v (I (k : Int)))], []⟩ ac w) _ ⟨0, _, _, _, rfl, (by first | omega | (simp; done) | (simp; omega)), (by first | omega | (simp; done) | (simp; omega)), (by simp), S.cast (by kernel_rfl)⟩ ?_
    clear S
    rintro mm ac w ⟨k, u, N, β, rfl, hk, hab, he, S⟩
    refine wp_seq ?_
    refine wp_seq ?_
    refine RG.start ?_
    refine S.quiet (k := 4) (keep := [0, 1, 5, 14]) (m := 0) (σ' := ⟨[(0, .v (slv (a).length pa.1)), (1, .v (slv (b).length pb.1)), (5, .v (I (k : Int))), (14, .v (B (decide ((k : Int) < ((a).length : Int)))))], []⟩) .nil (by kernel_rfl) ?_
    clear S; intro ac w β S
    refine RG.done rfl (nx_then ?_)
    refine S.cond (e := (decide ((k : Int) < ((a).length : Int)))) (by kernel_rfl) (fun h4 => ?_) (fun h4 => ?_)
    · have g5 : (k : Int) < ((a).length : Int) := of_decide_eq_true h4
      refine wp_skip (nx_then ?_)
      refine wp_seq ?_
      refine wp_block ?_
      refine wp_seq ?_
      refine S.drawn (keep := [0, 1, 5, 26]) (m := 0) (σ' := ⟨[(0, .v (slv (a).length pa.1)), (1, .v (slv (b).length pb.1)), (5, .v (I (k : Int))), (26, .v (B (!(decide ((el a k) = (el b k))))))], []⟩) (.cons (Q_idx (S.arg ha) (l := (a).length) (k := k) (i := (k : Int)) rfl rfl (by omega) Go.Proofs.Try.underlying47 (by kernel_rfl)) (.cons (Q_el (S.arg ha) (t := 103) (k := k) (by omega) rfl (by kernel_rfl) (by kernel_rfl)) (.cons (Q_idx (S.arg hb) (l := (b).length) (k := k) (i := (k : Int)) rfl rfl (by omega) Go.Proofs.Try.underlying47 (by kernel_rfl)) (.cons (Q_el (S.arg hb) (t := 103) (k := k) (by omega) rfl (by kernel_rfl) (by kernel_rfl)) (.cons (Q_call fun w hw => c_laws_eqGuest w (el a k) (pa.2 k) (rd_of (LRd.el (S.arg ha) k (by omega)) hw) (el b k) (pb.2 k) (rd_of (LRd.el (S.arg hb) k (by omega)) hw)) .nil))))) rfl (by kernel_rfl) (by kernel_rfl) ?_
      clear S; intro ac w S
      refine id (nx_then ?_)
      refine S.cond (e := (!(decide ((el a k) = (el b k))))) (by kernel_rfl) (fun h6 => ?_) (fun h6 => ?_)
      · have h7 : (decide ((el a k) = (el b k))) = false := not_t h6
        have g8 := of_decide_eq_false h7
        refine wp_seq ?_
        refine RG.start ?_
        refine S.quiet (k := 1) (keep := [4]) (m := 0) (σ' := ⟨[(4, .v (B false))], []⟩) .nil (by kernel_rfl) ?_
        clear S; intro ac w β S
        refine RG.done rfl (nx_then ?_)
        refine wp_ret (rt_block (rt_then (rt_then (rt_block (rt_then ?_)))))
        refine S.ret (vs := [B false]) (by kernel_rfl) ?_
        exact ⟨retB (show false = decide (a = b) by clear S; first | (simp; intro e; subst e; simp_all; done) | (simp; rw [take_all (by omega), take_all (by omega)] at he; exact he) | (simp; exact take_ne (by simp_all))), S.chg⟩
      · have h9 : (decide ((el a k) = (el b k))) = true := not_f h6
        have g10 := of_decide_eq_true h9
        refine wp_skip (nx_block (nx_then ?_))
        refine RG.start ?_
        refine S.quiet (k := 3) (keep := [0, 1, 5]) (m := 0) (σ' := ⟨[(0, .v (slv (a).length pa.1)), (1, .v (slv (b).length pb.1)), (5, .v (I ((k : Int) + 1)))], []⟩) (.cons (Q_add (x := (k : Int)) (y := 1) ⟨by omega, by omega⟩) .nil) (by kernel_rfl) ?_
        clear S; intro ac w β S
        refine RG.done rfl (nx_then ?_)
        replace S := S.prune (keep := [0, 1, 5]) (m := 0) (σ' := ⟨[(0, .v (slv (a).length pa.1)), (1, .v (slv (b).length pb.1)), (5, .v (I ((k : Int) + 1)))], []⟩) (by kernel_rfl)
        refine ⟨a.length - (k + 1), by omega, k + 1, _, _, _, rfl, ?_, ?_, ?_, S.cast (by kernel_rfl)⟩
        · clear S; first | omega | (simp [*]; done) | (simp [*]; omega)
        · clear S; first | omega | (simp [*]; done) | (simp [*]; omega)
        · clear S; exact take_eq_step (by omega) (by omega) he (by simp_all)
    · have g11 : ¬ ((k : Int) < ((a).length : Int)) := of_decide_eq_false h4
      refine wp_exit (ex_then (ex_then (ex_hit (nx_then ?_))))
      refine wp_seq ?_
      refine RG.start ?_
      refine S.quiet (k := 1) (keep := [4]) (m := 0) (σ' := ⟨[(4, .v (B true))], []⟩) .nil (by kernel_rfl) ?_
      clear S; intro ac w β S
      refine RG.done rfl (nx_then ?_)
      refine wp_ret ?_
      refine S.ret (vs := [B true]) (by kernel_rfl) ?_
      exact ⟨retB (show true = decide (a = b) by clear S; first | (simp; intro e; subst e; simp_all; done) | (simp; rw [take_all (by omega), take_all (by omega)] at he; exact he) | (simp; exact take_ne (by simp_all))), S.chg⟩

set_option maxRecDepth 100000 in
theorem c_laws_eqKept (w0 : World) (a : TKept) (pa : PKept) (ha : GT.rd KK (Lt w0.heap.size) w0 a pa) (b : TKept) (pb : PKept) (hb : GT.rd KK (Lt w0.heap.size) w0 b pb) : Calls Go.Proofs.Try.prog 141 [GT.val (α := TKept) a pa, GT.val (α := TKept) b pb].toArray w0 (fun e w' => e = .returned (B (decide (a = b))) ∧ Chg NoB w0 w') := by
  refine Calls.walk (args := [GT.val (α := TKept) a pa, GT.val (α := TKept) b pb]) NoB Go.Proofs.Try.func141 rfl rfl ?_
  intro ac β S
  have hlea_known : a.known.length ≤ 4194304 := LRd.le (RKept.known (d := a) ha)
  have hlea_slots : a.slots.length ≤ 4194304 := LRd.le (RKept.slots (d := a) ha)
  have hleb_known : b.known.length ≤ 4194304 := LRd.le (RKept.known (d := b) hb)
  have hleb_slots : b.slots.length ≤ 4194304 := LRd.le (RKept.slots (d := b) hb)
  refine wp_seq ?_
  refine RG.start ?_
  refine S.quiet (k := 3) (keep := [2, 3]) (m := 2) (σ' := ⟨[(2, .p 0 0), (3, .p 1 0)], [GT.cells (α := TKept) a pa, GT.cells (α := TKept) b pb]⟩) .nil (by kernel_rfl) ?_
  clear S; intro ac w β S
  refine RG.done rfl (nx_then ?_)
  refine wp_seq ?_
  refine wp_seq ?_
  refine RG.start ?_
  refine S.quiet (k := 6) (keep := [2, 3, 10]) (m := 2) (σ' := ⟨[(2, .p 0 0), (3, .p 1 0), (10, .v (B (!(decide (a.known = b.known)))))], [GT.cells (α := TKept) a pa, GT.cells (α := TKept) b pb]⟩) (.cons (Q_call fun w hw => c_laws_eqBoolS w a.known pa.known (rd_of (RKept.known (d := a) (S.arg ha)) hw) b.known pb.known (rd_of (RKept.known (d := b) (S.arg hb)) hw)) .nil) (by kernel_rfl) ?_
  clear S; intro ac w β S
  refine RG.done rfl (nx_then ?_)
  refine S.cond (e := (!(decide (a.known = b.known)))) (by kernel_rfl) (fun h1 => ?_) (fun h1 => ?_)
  · have h2 : (decide (a.known = b.known)) = false := not_t h1
    have g3 := of_decide_eq_false h2
    refine wp_seq ?_
    refine RG.start ?_
    refine S.quiet (k := 1) (keep := [4]) (m := 0) (σ' := ⟨[(4, .v (B false))], []⟩) .nil (by kernel_rfl) ?_
    clear S; intro ac w β S
    refine RG.done rfl (nx_then ?_)
    refine wp_ret (rt_then ?_)
    refine S.ret (vs := [B false]) (by kernel_rfl) ?_
    exact ⟨retB (show false = decide (a = b) by clear S; first | (simp [TKept.ext_iff, *]; done) | (simp_all [TKept.ext_iff]; done)), S.chg⟩
  · have h4 : (decide (a.known = b.known)) = true := not_f h1
    have g5 := of_decide_eq_true h4
    refine wp_skip (nx_then ?_)
    refine wp_seq ?_
    refine wp_seq ?_
    refine RG.start ?_
    refine S.quiet (k := 6) (keep := [16]) (m := 0) (σ' := ⟨[(16, .v (B (!(decide (a.slots = b.slots)))))], []⟩) (.cons (Q_call fun w hw => c_laws_eqSlotS w a.slots pa.slots (rd_of (RKept.slots (d := a) (S.arg ha)) hw) b.slots pb.slots (rd_of (RKept.slots (d := b) (S.arg hb)) hw)) .nil) (by kernel_rfl) ?_
    clear S; intro ac w β S
    refine RG.done rfl (nx_then ?_)
    refine S.cond (e := (!(decide (a.slots = b.slots)))) (by kernel_rfl) (fun h6 => ?_) (fun h6 => ?_)
    · have h7 : (decide (a.slots = b.slots)) = false := not_t h6
      have g8 := of_decide_eq_false h7
      refine wp_seq ?_
      refine RG.start ?_
      refine S.quiet (k := 1) (keep := [4]) (m := 0) (σ' := ⟨[(4, .v (B false))], []⟩) .nil (by kernel_rfl) ?_
      clear S; intro ac w β S
      refine RG.done rfl (nx_then ?_)
      refine wp_ret (rt_then ?_)
      refine S.ret (vs := [B false]) (by kernel_rfl) ?_
      exact ⟨retB (show false = decide (a = b) by clear S; first | (simp [TKept.ext_iff, *]; done) | (simp_all [TKept.ext_iff]; done)), S.chg⟩
    · have h9 : (decide (a.slots = b.slots)) = true := not_f h6
      have g10 := of_decide_eq_true h9
      refine wp_skip (nx_then ?_)
      refine wp_seq ?_
      refine RG.start ?_
      refine S.quiet (k := 1) (keep := [4]) (m := 0) (σ' := ⟨[(4, .v (B true))], []⟩) .nil (by kernel_rfl) ?_
      clear S; intro ac w β S
      refine RG.done rfl (nx_then ?_)
      refine wp_ret ?_
      refine S.ret (vs := [B true]) (by kernel_rfl) ?_
      exact ⟨retB (show true = decide (a = b) by clear S; first | (simp [TKept.ext_iff, *]; done) | (simp_all [TKept.ext_iff]; done)), S.chg⟩

set_option maxRecDepth 100000 in
theorem c_laws_eqKeptS (w0 : World) (a : List TKept) (pa : LP TKept) (ha : GT.rd KK (Lt w0.heap.size) w0 a pa) (b : List TKept) (pb : LP TKept) (hb : GT.rd KK (Lt w0.heap.size) w0 b pb) : Calls Go.Proofs.Try.prog 85 [slv (a).length pa.1, slv (b).length pb.1].toArray w0 (fun e w' => e = .returned (B (decide (a = b))) ∧ Chg NoB w0 w') := by
  refine Calls.walk (args := [slv (a).length pa.1, slv (b).length pb.1]) NoB Go.Proofs.Try.func85 rfl rfl ?_
  intro ac β S
  have hlea : a.length ≤ 4194304 := LRd.le ha
  have hleb : b.length ≤ 4194304 := LRd.le hb
  refine wp_seq ?_
  refine RG.start ?_
  refine S.quiet (k := 1) (keep := [0, 1]) (m := 0) (σ' := ⟨[(0, .v (slv (a).length pa.1)), (1, .v (slv (b).length pb.1))], []⟩) .nil (by kernel_rfl) ?_
  clear S; intro ac w β S
  refine RG.done rfl (nx_then ?_)
  refine wp_seq ?_
  refine wp_seq ?_
  refine RG.start ?_
  refine S.quiet (k := 5) (keep := [0, 1, 10]) (m := 0) (σ' := ⟨[(0, .v (slv (a).length pa.1)), (1, .v (slv (b).length pb.1)), (10, .v (B (((a).length : Int) != ((b).length : Int))))], []⟩) .nil (by kernel_rfl) ?_
  clear S; intro ac w β S
  refine RG.done rfl (nx_then ?_)
  refine S.cond (e := (((a).length : Int) != ((b).length : Int))) (by kernel_rfl) (fun h1 => ?_) (fun h1 => ?_)
  · have g2 : ¬ (((a).length : Int) = ((b).length : Int)) := bne_iff_ne.1 h1
    refine wp_seq ?_
    refine RG.start ?_
    refine S.quiet (k := 1) (keep := [4]) (m := 0) (σ' := ⟨[(4, .v (B false))], []⟩) .nil (by kernel_rfl) ?_
    clear S; intro ac w β S
    refine RG.done rfl (nx_then ?_)
    refine wp_ret (rt_then ?_)
    refine S.ret (vs := [B false]) (by kernel_rfl) ?_
    exact ⟨retB (show false = decide (a = b) by clear S; first | (simp; intro e; subst e; simp_all; done) | (simp; rw [take_all (by omega), take_all (by omega)] at he; exact he) | (simp; exact take_ne (by simp_all))), S.chg⟩
  · have g3 : ((a).length : Int) = ((b).length : Int) := ne_f h1
    refine wp_skip (nx_then ?_)
    refine wp_seq ?_
    refine wp_seq ?_
    refine RG.start ?_
    refine S.quiet (k := 1) (keep := [0, 1, 5]) (m := 0) (σ' := ⟨[(0, .v (slv (a).length pa.1)), (1, .v (slv (b).length pb.1)), (5, .v (I 0))], []⟩) .nil (by kernel_rfl) ?_
    clear S; intro ac w β S
    refine RG.done rfl (nx_then ?_)
    refine wp_block ?_
    replace S := S.prune (keep := [0, 1, 5]) (m := 0) (σ' := ⟨[(0, .v (slv (a).length pa.1)), (1, .v (slv (b).length pb.1)), (5, .v (I 0))], []⟩) (by kernel_rfl)
    refine wp_loop_down (fun mm ac w => ∃ (k : Nat)  (u : World) (N : Bl) (β : Nat → Nat), mm = a.length - k ∧ (k ≤ a.length) ∧ (a.length = b.length) ∧ (a.take k = b.take k) ∧ St Go.Proofs.Try.prog Go.Proofs.Try.f85.ntmps w0 NoB u N β ⟨[(0, .v (slv (a).length pa.1)), (1, .v (slv (b).length pb.1)), (5, .v (I (k : Int)))], []⟩ ac w) _ ⟨0, _, _, _, rfl, (by first | omega | (simp; done) | (simp; omega)), (by first | omega | (simp; done) | (simp; omega)), (by simp), S.cast (by kernel_rfl)⟩ ?_
    clear S
    rintro mm ac w ⟨k, u, N, β, rfl, hk, hab, he, S⟩
    refine wp_seq ?_
    refine wp_seq ?_
    refine RG.start ?_
    refine S.quiet (k := 4) (keep := [0, 1, 5, 14]) (m := 0) (σ' := ⟨[(0, .v (slv (a).length pa.1)), (1, .v (slv (b).length pb.1)), (5, .v (I (k : Int))), (14, .v (B (decide ((k : Int) < ((a).length : Int)))))], []⟩) .nil (by kernel_rfl) ?_
    clear S; intro ac w β S
    refine RG.done rfl (nx_then ?_)
    refine S.cond (e := (decide ((k : Int) < ((a).length : Int)))) (by kernel_rfl) (fun h4 => ?_) (fun h4 => ?_)
    · have g5 : (k : Int) < ((a).length : Int) := of_decide_eq_true h4
      refine wp_skip (nx_then ?_)
      refine wp_seq ?_
      refine wp_block ?_
      refine wp_seq ?_
      refine S.drawn (keep := [0, 1, 5, 26]) (m := 0) (σ' := ⟨[(0, .v (slv (a).length pa.1)), (1, .v (slv (b).length pb.1)), (5, .v (I (k : Int))), (26, .v (B (!(decide ((el a k) = (el b k))))))], []⟩) (.cons (Q_idx (S.arg ha) (l := (a).length) (k := k) (i := (k : Int)) rfl rfl (by omega) Go.Proofs.Try.underlying48 (by kernel_rfl)) (.cons (Q_el (S.arg ha) (t := 106) (k := k) (by omega) rfl (by kernel_rfl) (by kernel_rfl)) (.cons (Q_idx (S.arg hb) (l := (b).length) (k := k) (i := (k : Int)) rfl rfl (by omega) Go.Proofs.Try.underlying48 (by kernel_rfl)) (.cons (Q_el (S.arg hb) (t := 106) (k := k) (by omega) rfl (by kernel_rfl) (by kernel_rfl)) (.cons (Q_call fun w hw => c_laws_eqKept w (el a k) (pa.2 k) (rd_of (LRd.el (S.arg ha) k (by omega)) hw) (el b k) (pb.2 k) (rd_of (LRd.el (S.arg hb) k (by omega)) hw)) .nil))))) rfl (by kernel_rfl) (by kernel_rfl) ?_
      clear S; intro ac w S
      refine id (nx_then ?_)
      refine S.cond (e := (!(decide ((el a k) = (el b k))))) (by kernel_rfl) (fun h6 => ?_) (fun h6 => ?_)
      · have h7 : (decide ((el a k) = (el b k))) = false := not_t h6
        have g8 := of_decide_eq_false h7
        refine wp_seq ?_
        refine RG.start ?_
        refine S.quiet (k := 1) (keep := [4]) (m := 0) (σ' := ⟨[(4, .v (B false))], []⟩) .nil (by kernel_rfl) ?_
        clear S; intro ac w β S
        refine RG.done rfl (nx_then ?_)
        refine wp_ret (rt_block (rt_then (rt_then (rt_block (rt_then ?_)))))
        refine S.ret (vs := [B false]) (by kernel_rfl) ?_
        exact ⟨retB (show false = decide (a = b) by clear S; first | (simp; intro e; subst e; simp_all; done) | (simp; rw [take_all (by omega), take_all (by omega)] at he; exact he) | (simp; exact take_ne (by simp_all))), S.chg⟩
      · have h9 : (decide ((el a k) = (el b k))) = true := not_f h6
        have g10 := of_decide_eq_true h9
        refine wp_skip (nx_block (nx_then ?_))
        refine RG.start ?_
        refine S.quiet (k := 3) (keep := [0, 1, 5]) (m := 0) (σ' := ⟨[(0, .v (slv (a).length pa.1)), (1, .v (slv (b).length pb.1)), (5, .v (I ((k : Int) + 1)))], []⟩) (.cons (Q_add (x := (k : Int)) (y := 1) ⟨by omega, by omega⟩) .nil) (by kernel_rfl) ?_
        clear S; intro ac w β S
        refine RG.done rfl (nx_then ?_)
        replace S := S.prune (keep := [0, 1, 5]) (m := 0) (σ' := ⟨[(0, .v (slv (a).length pa.1)), (1, .v (slv (b).length pb.1)), (5, .v (I ((k : Int) + 1)))], []⟩) (by kernel_rfl)
        refine ⟨a.length - (k + 1), by omega, k + 1, _, _, _, rfl, ?_, ?_, ?_, S.cast (by kernel_rfl)⟩
        · clear S; first | omega | (simp [*]; done) | (simp [*]; omega)
        · clear S; first | omega | (simp [*]; done) | (simp [*]; omega)
        · clear S; exact take_eq_step (by omega) (by omega) he (by simp_all)
    · have g11 : ¬ ((k : Int) < ((a).length : Int)) := of_decide_eq_false h4
      refine wp_exit (ex_then (ex_then (ex_hit (nx_then ?_))))
      refine wp_seq ?_
      refine RG.start ?_
      refine S.quiet (k := 1) (keep := [4]) (m := 0) (σ' := ⟨[(4, .v (B true))], []⟩) .nil (by kernel_rfl) ?_
      clear S; intro ac w β S
      refine RG.done rfl (nx_then ?_)
      refine wp_ret ?_
      refine S.ret (vs := [B true]) (by kernel_rfl) ?_
      exact ⟨retB (show true = decide (a = b) by clear S; first | (simp; intro e; subst e; simp_all; done) | (simp; rw [take_all (by omega), take_all (by omega)] at he; exact he) | (simp; exact take_ne (by simp_all))), S.chg⟩

set_option maxRecDepth 100000 in
theorem c_laws_eqMon (w0 : World) (a : TMon) (pa : PMon) (ha : GT.rd KK (Lt w0.heap.size) w0 a pa) (b : TMon) (pb : PMon) (hb : GT.rd KK (Lt w0.heap.size) w0 b pb) : Calls Go.Proofs.Try.prog 26 [GT.val (α := TMon) a pa, GT.val (α := TMon) b pb].toArray w0 (fun e w' => e = .returned (B (decide (a = b))) ∧ Chg NoB w0 w') := by
  refine Calls.walk (args := [GT.val (α := TMon) a pa, GT.val (α := TMon) b pb]) NoB Go.Proofs.Try.func26 rfl rfl ?_
  intro ac β S
  have hlea_outer : a.outer.length ≤ 4194304 := LRd.le (RMon.outer (d := a) ha)
  have hlea_out : a.out.length ≤ 4194304 := LRd.le (RMon.out (d := a) ha)
  have hlea_dirty : a.dirty.length ≤ 4194304 := LRd.le (RMon.dirty (d := a) ha)
  have hlea_guests : a.guests.length ≤ 4194304 := LRd.le (RMon.guests (d := a) ha)
  have hlea_outs : a.outs.length ≤ 4194304 := LRd.le (RMon.outs (d := a) ha)
  have hlea_tables : a.tables.length ≤ 4194304 := LRd.le (RMon.tables (d := a) ha)
  have hleb_outer : b.outer.length ≤ 4194304 := LRd.le (RMon.outer (d := b) hb)
  have hleb_out : b.out.length ≤ 4194304 := LRd.le (RMon.out (d := b) hb)
  have hleb_dirty : b.dirty.length ≤ 4194304 := LRd.le (RMon.dirty (d := b) hb)
  have hleb_guests : b.guests.length ≤ 4194304 := LRd.le (RMon.guests (d := b) hb)
  have hleb_outs : b.outs.length ≤ 4194304 := LRd.le (RMon.outs (d := b) hb)
  have hleb_tables : b.tables.length ≤ 4194304 := LRd.le (RMon.tables (d := b) hb)
  refine wp_seq ?_
  refine RG.start ?_
  refine S.quiet (k := 3) (keep := [2, 3]) (m := 2) (σ' := ⟨[(2, .p 0 0), (3, .p 1 0)], [GT.cells (α := TMon) a pa, GT.cells (α := TMon) b pb]⟩) .nil (by kernel_rfl) ?_
  clear S; intro ac w β S
  refine RG.done rfl (nx_then ?_)
  refine wp_seq ?_
  refine wp_seq ?_
  refine RG.start ?_
  refine S.quiet (k := 6) (keep := [2, 3, 10]) (m := 2) (σ' := ⟨[(2, .p 0 0), (3, .p 1 0), (10, .v (B (!(decide (a.outer = b.outer)))))], [GT.cells (α := TMon) a pa, GT.cells (α := TMon) b pb]⟩) (.cons (Q_call fun w hw => c_laws_eqSlotS w a.outer pa.outer (rd_of (RMon.outer (d := a) (S.arg ha)) hw) b.outer pb.outer (rd_of (RMon.outer (d := b) (S.arg hb)) hw)) .nil) (by kernel_rfl) ?_
  clear S; intro ac w β S
  refine RG.done rfl (nx_then ?_)
  refine S.cond (e := (!(decide (a.outer = b.outer)))) (by kernel_rfl) (fun h1 => ?_) (fun h1 => ?_)
  · have h2 : (decide (a.outer = b.outer)) = false := not_t h1
    have g3 := of_decide_eq_false h2
    refine wp_seq ?_
    refine RG.start ?_
    refine S.quiet (k := 1) (keep := [4]) (m := 0) (σ' := ⟨[(4, .v (B false))], []⟩) .nil (by kernel_rfl) ?_
    clear S; intro ac w β S
    refine RG.done rfl (nx_then ?_)
    refine wp_ret (rt_then ?_)
    refine S.ret (vs := [B false]) (by kernel_rfl) ?_
    exact ⟨retB (show false = decide (a = b) by clear S; first | (simp [TMon.ext_iff, *]; done) | (simp_all [TMon.ext_iff]; done)), S.chg⟩
  · have h4 : (decide (a.outer = b.outer)) = true := not_f h1
    have g5 := of_decide_eq_true h4
    refine wp_skip (nx_then ?_)
    refine wp_seq ?_
    refine wp_seq ?_
    refine RG.start ?_
    refine S.quiet (k := 6) (keep := [2, 3, 16]) (m := 2) (σ' := ⟨[(2, .p 0 0), (3, .p 1 0), (16, .v (B (!(decide (a.out = b.out)))))], [GT.cells (α := TMon) a pa, GT.cells (α := TMon) b pb]⟩) (.cons (Q_call fun w hw => c_laws_eqIntSS w a.out pa.out (rd_of (RMon.out (d := a) (S.arg ha)) hw) b.out pb.out (rd_of (RMon.out (d := b) (S.arg hb)) hw)) .nil) (by kernel_rfl) ?_
    clear S; intro ac w β S
    refine RG.done rfl (nx_then ?_)
    refine S.cond (e := (!(decide (a.out = b.out)))) (by kernel_rfl) (fun h6 => ?_) (fun h6 => ?_)
    · have h7 : (decide (a.out = b.out)) = false := not_t h6
      have g8 := of_decide_eq_false h7
      refine wp_seq ?_
      refine RG.start ?_
      refine S.quiet (k := 1) (keep := [4]) (m := 0) (σ' := ⟨[(4, .v (B false))], []⟩) .nil (by kernel_rfl) ?_
      clear S; intro ac w β S
      refine RG.done rfl (nx_then ?_)
      refine wp_ret (rt_then ?_)
      refine S.ret (vs := [B false]) (by kernel_rfl) ?_
      exact ⟨retB (show false = decide (a = b) by clear S; first | (simp [TMon.ext_iff, *]; done) | (simp_all [TMon.ext_iff]; done)), S.chg⟩
    · have h9 : (decide (a.out = b.out)) = true := not_f h6
      have g10 := of_decide_eq_true h9
      refine wp_skip (nx_then ?_)
      refine wp_seq ?_
      refine wp_seq ?_
      refine RG.start ?_
      refine S.quiet (k := 6) (keep := [2, 3, 22]) (m := 2) (σ' := ⟨[(2, .p 0 0), (3, .p 1 0), (22, .v (B (!(decide (a.dirty = b.dirty)))))], [GT.cells (α := TMon) a pa, GT.cells (α := TMon) b pb]⟩) (.cons (Q_call fun w hw => c_laws_eqBoolS w a.dirty pa.dirty (rd_of (RMon.dirty (d := a) (S.arg ha)) hw) b.dirty pb.dirty (rd_of (RMon.dirty (d := b) (S.arg hb)) hw)) .nil) (by kernel_rfl) ?_
      clear S; intro ac w β S
      refine RG.done rfl (nx_then ?_)
      refine S.cond (e := (!(decide (a.dirty = b.dirty)))) (by kernel_rfl) (fun h11 => ?_) (fun h11 => ?_)
      · have h12 : (decide (a.dirty = b.dirty)) = false := not_t h11
        have g13 := of_decide_eq_false h12
        refine wp_seq ?_
        refine RG.start ?_
        refine S.quiet (k := 1) (keep := [4]) (m := 0) (σ' := ⟨[(4, .v (B false))], []⟩) .nil (by kernel_rfl) ?_
        clear S; intro ac w β S
        refine RG.done rfl (nx_then ?_)
        refine wp_ret (rt_then ?_)
        refine S.ret (vs := [B false]) (by kernel_rfl) ?_
        exact ⟨retB (show false = decide (a = b) by clear S; first | (simp [TMon.ext_iff, *]; done) | (simp_all [TMon.ext_iff]; done)), S.chg⟩
      · have h14 : (decide (a.dirty = b.dirty)) = true := not_f h11
        have g15 := of_decide_eq_true h14
        refine wp_skip (nx_then ?_)
        refine wp_seq ?_
        refine wp_seq ?_
        refine RG.start ?_
        refine S.quiet (k := 6) (keep := [2, 3, 28]) (m := 2) (σ' := ⟨[(2, .p 0 0), (3, .p 1 0), (28, .v (B (!(decide (a.guests = b.guests)))))], [GT.cells (α := TMon) a pa, GT.cells (α := TMon) b pb]⟩) (.cons (Q_call fun w hw => c_laws_eqGuestS w a.guests pa.guests (rd_of (RMon.guests (d := a) (S.arg ha)) hw) b.guests pb.guests (rd_of (RMon.guests (d := b) (S.arg hb)) hw)) .nil) (by kernel_rfl) ?_
        clear S; intro ac w β S
        refine RG.done rfl (nx_then ?_)
        refine S.cond (e := (!(decide (a.guests = b.guests)))) (by kernel_rfl) (fun h16 => ?_) (fun h16 => ?_)
        · have h17 : (decide (a.guests = b.guests)) = false := not_t h16
          have g18 := of_decide_eq_false h17
          refine wp_seq ?_
          refine RG.start ?_
          refine S.quiet (k := 1) (keep := [4]) (m := 0) (σ' := ⟨[(4, .v (B false))], []⟩) .nil (by kernel_rfl) ?_
          clear S; intro ac w β S
          refine RG.done rfl (nx_then ?_)
          refine wp_ret (rt_then ?_)
          refine S.ret (vs := [B false]) (by kernel_rfl) ?_
          exact ⟨retB (show false = decide (a = b) by clear S; first | (simp [TMon.ext_iff, *]; done) | (simp_all [TMon.ext_iff]; done)), S.chg⟩
        · have h19 : (decide (a.guests = b.guests)) = true := not_f h16
          have g20 := of_decide_eq_true h19
          refine wp_skip (nx_then ?_)
          refine wp_seq ?_
          refine wp_seq ?_
          refine RG.start ?_
          refine S.quiet (k := 6) (keep := [2, 3, 34]) (m := 2) (σ' := ⟨[(2, .p 0 0), (3, .p 1 0), (34, .v (B (!(decide (a.outs = b.outs)))))], [GT.cells (α := TMon) a pa, GT.cells (α := TMon) b pb]⟩) (.cons (Q_call fun w hw => c_laws_eqIntS w a.outs pa.outs (rd_of (RMon.outs (d := a) (S.arg ha)) hw) b.outs pb.outs (rd_of (RMon.outs (d := b) (S.arg hb)) hw)) .nil) (by kernel_rfl) ?_
          clear S; intro ac w β S
          refine RG.done rfl (nx_then ?_)
          refine S.cond (e := (!(decide (a.outs = b.outs)))) (by kernel_rfl) (fun h21 => ?_) (fun h21 => ?_)
          · have h22 : (decide (a.outs = b.outs)) = false := not_t h21
            have g23 := of_decide_eq_false h22
            refine wp_seq ?_
            refine RG.start ?_
            refine S.quiet (k := 1) (keep := [4]) (m := 0) (σ' := ⟨[(4, .v (B false))], []⟩) .nil (by kernel_rfl) ?_
            clear S; intro ac w β S
            refine RG.done rfl (nx_then ?_)
            refine wp_ret (rt_then ?_)
            refine S.ret (vs := [B false]) (by kernel_rfl) ?_
            exact ⟨retB (show false = decide (a = b) by clear S; first | (simp [TMon.ext_iff, *]; done) | (simp_all [TMon.ext_iff]; done)), S.chg⟩
          · have h24 : (decide (a.outs = b.outs)) = true := not_f h21
            have g25 := of_decide_eq_true h24
            refine wp_skip (nx_then ?_)
            refine wp_seq ?_
            refine wp_seq ?_
            refine RG.start ?_
            refine S.quiet (k := 5) (keep := [2, 3, 39]) (m := 2) (σ' := ⟨[(2, .p 0 0), (3, .p 1 0), (39, .v (B (a.pend != b.pend)))], [GT.cells (α := TMon) a pa, GT.cells (α := TMon) b pb]⟩) .nil (by kernel_rfl) ?_
            clear S; intro ac w β S
            refine RG.done rfl (nx_then ?_)
            refine S.cond (e := (a.pend != b.pend)) (by kernel_rfl) (fun h26 => ?_) (fun h26 => ?_)
            · have g27 : ¬ (a.pend = b.pend) := bne_iff_ne.1 h26
              refine wp_seq ?_
              refine RG.start ?_
              refine S.quiet (k := 1) (keep := [4]) (m := 0) (σ' := ⟨[(4, .v (B false))], []⟩) .nil (by kernel_rfl) ?_
              clear S; intro ac w β S
              refine RG.done rfl (nx_then ?_)
              refine wp_ret (rt_then ?_)
              refine S.ret (vs := [B false]) (by kernel_rfl) ?_
              exact ⟨retB (show false = decide (a = b) by clear S; first | (simp [TMon.ext_iff, *]; done) | (simp_all [TMon.ext_iff]; done)), S.chg⟩
            · have g28 : a.pend = b.pend := ne_f h26
              refine wp_skip (nx_then ?_)
              refine wp_seq ?_
              refine wp_seq ?_
              refine RG.start ?_
              refine S.quiet (k := 5) (keep := [2, 3, 44]) (m := 2) (σ' := ⟨[(2, .p 0 0), (3, .p 1 0), (44, .v (B (a.traps != b.traps)))], [GT.cells (α := TMon) a pa, GT.cells (α := TMon) b pb]⟩) .nil (by kernel_rfl) ?_
              clear S; intro ac w β S
              refine RG.done rfl (nx_then ?_)
              refine S.cond (e := (a.traps != b.traps)) (by kernel_rfl) (fun h29 => ?_) (fun h29 => ?_)
              · have g30 : ¬ (a.traps = b.traps) := bne_iff_ne.1 h29
                refine wp_seq ?_
                refine RG.start ?_
                refine S.quiet (k := 1) (keep := [4]) (m := 0) (σ' := ⟨[(4, .v (B false))], []⟩) .nil (by kernel_rfl) ?_
                clear S; intro ac w β S
                refine RG.done rfl (nx_then ?_)
                refine wp_ret (rt_then ?_)
                refine S.ret (vs := [B false]) (by kernel_rfl) ?_
                exact ⟨retB (show false = decide (a = b) by clear S; first | (simp [TMon.ext_iff, *]; done) | (simp_all [TMon.ext_iff]; done)), S.chg⟩
              · have g31 : a.traps = b.traps := ne_f h29
                refine wp_skip (nx_then ?_)
                refine wp_seq ?_
                refine wp_seq ?_
                refine RG.start ?_
                refine S.quiet (k := 6) (keep := [2, 3, 50]) (m := 2) (σ' := ⟨[(2, .p 0 0), (3, .p 1 0), (50, .v (B (!(decide (a.tables = b.tables)))))], [GT.cells (α := TMon) a pa, GT.cells (α := TMon) b pb]⟩) (.cons (Q_call fun w hw => c_laws_eqKeptS w a.tables pa.tables (rd_of (RMon.tables (d := a) (S.arg ha)) hw) b.tables pb.tables (rd_of (RMon.tables (d := b) (S.arg hb)) hw)) .nil) (by kernel_rfl) ?_
                clear S; intro ac w β S
                refine RG.done rfl (nx_then ?_)
                refine S.cond (e := (!(decide (a.tables = b.tables)))) (by kernel_rfl) (fun h32 => ?_) (fun h32 => ?_)
                · have h33 : (decide (a.tables = b.tables)) = false := not_t h32
                  have g34 := of_decide_eq_false h33
                  refine wp_seq ?_
                  refine RG.start ?_
                  refine S.quiet (k := 1) (keep := [4]) (m := 0) (σ' := ⟨[(4, .v (B false))], []⟩) .nil (by kernel_rfl) ?_
                  clear S; intro ac w β S
                  refine RG.done rfl (nx_then ?_)
                  refine wp_ret (rt_then ?_)
                  refine S.ret (vs := [B false]) (by kernel_rfl) ?_
                  exact ⟨retB (show false = decide (a = b) by clear S; first | (simp [TMon.ext_iff, *]; done) | (simp_all [TMon.ext_iff]; done)), S.chg⟩
                · have h35 : (decide (a.tables = b.tables)) = true := not_f h32
                  have g36 := of_decide_eq_true h35
                  refine wp_skip (nx_then ?_)
                  refine wp_seq ?_
                  refine wp_seq ?_
                  refine RG.start ?_
                  refine S.quiet (k := 5) (keep := [55]) (m := 0) (σ' := ⟨[(55, .v (B (a.owned != b.owned)))], []⟩) .nil (by kernel_rfl) ?_
                  clear S; intro ac w β S
                  refine RG.done rfl (nx_then ?_)
                  refine S.cond (e := (a.owned != b.owned)) (by kernel_rfl) (fun h37 => ?_) (fun h37 => ?_)
                  · have g38 : ¬ (a.owned = b.owned) := bne_iff_ne.1 h37
                    refine wp_seq ?_
                    refine RG.start ?_
                    refine S.quiet (k := 1) (keep := [4]) (m := 0) (σ' := ⟨[(4, .v (B false))], []⟩) .nil (by kernel_rfl) ?_
                    clear S; intro ac w β S
                    refine RG.done rfl (nx_then ?_)
                    refine wp_ret (rt_then ?_)
                    refine S.ret (vs := [B false]) (by kernel_rfl) ?_
                    exact ⟨retB (show false = decide (a = b) by clear S; first | (simp [TMon.ext_iff, *]; done) | (simp_all [TMon.ext_iff]; done)), S.chg⟩
                  · have g39 : a.owned = b.owned := ne_f h37
                    refine wp_skip (nx_then ?_)
                    refine wp_seq ?_
                    refine RG.start ?_
                    refine S.quiet (k := 1) (keep := [4]) (m := 0) (σ' := ⟨[(4, .v (B true))], []⟩) .nil (by kernel_rfl) ?_
                    clear S; intro ac w β S
                    refine RG.done rfl (nx_then ?_)
                    refine wp_ret ?_
                    refine S.ret (vs := [B true]) (by kernel_rfl) ?_
                    exact ⟨retB (show true = decide (a = b) by clear S; first | (simp [TMon.ext_iff, *]; done) | (simp_all [TMon.ext_iff]; done)), S.chg⟩

set_option maxRecDepth 100000 in
theorem c_laws_eqMonS (w0 : World) (a : List TMon) (pa : LP TMon) (ha : GT.rd KK (Lt w0.heap.size) w0 a pa) (b : List TMon) (pb : LP TMon) (hb : GT.rd KK (Lt w0.heap.size) w0 b pb) : Calls Go.Proofs.Try.prog 54 [slv (a).length pa.1, slv (b).length pb.1].toArray w0 (fun e w' => e = .returned (B (decide (a = b))) ∧ Chg NoB w0 w') := by
  refine Calls.walk (args := [slv (a).length pa.1, slv (b).length pb.1]) NoB Go.Proofs.Try.func54 rfl rfl ?_
  intro ac β S
  have hlea : a.length ≤ 4194304 := LRd.le ha
  have hleb : b.length ≤ 4194304 := LRd.le hb
  refine wp_seq ?_
  refine RG.start ?_
  refine S.quiet (k := 1) (keep := [0, 1]) (m := 0) (σ' := ⟨[(0, .v (slv (a).length pa.1)), (1, .v (slv (b).length pb.1))], []⟩) .nil (by kernel_rfl) ?_
  clear S; intro ac w β S
  refine RG.done rfl (nx_then ?_)
  refine wp_seq ?_
  refine wp_seq ?_
  refine RG.start ?_
  refine S.quiet (k := 5) (keep := [0, 1, 10]) (m := 0) (σ' := ⟨[(0, .v (slv (a).length pa.1)), (1, .v (slv (b).length pb.1)), (10, .v (B (((a).length : Int) != ((b).length : Int))))], []⟩) .nil (by kernel_rfl) ?_
  clear S; intro ac w β S
  refine RG.done rfl (nx_then ?_)
  refine S.cond (e := (((a).length : Int) != ((b).length : Int))) (by kernel_rfl) (fun h1 => ?_) (fun h1 => ?_)
  · have g2 : ¬ (((a).length : Int) = ((b).length : Int)) := bne_iff_ne.1 h1
    refine wp_seq ?_
    refine RG.start ?_
    refine S.quiet (k := 1) (keep := [4]) (m := 0) (σ' := ⟨[(4, .v (B false))], []⟩) .nil (by kernel_rfl) ?_
    clear S; intro ac w β S
    refine RG.done rfl (nx_then ?_)
    refine wp_ret (rt_then ?_)
    refine S.ret (vs := [B false]) (by kernel_rfl) ?_
    exact ⟨retB (show false = decide (a = b) by clear S; first | (simp; intro e; subst e; simp_all; done) | (simp; rw [take_all (by omega), take_all (by omega)] at he; exact he) | (simp; exact take_ne (by simp_all))), S.chg⟩
  · have g3 : ((a).length : Int) = ((b).length : Int) := ne_f h1
    refine wp_skip (nx_then ?_)
    refine wp_seq ?_
    refine wp_seq ?_
    refine RG.start ?_
    refine S.quiet (k := 1) (keep := [0, 1, 5]) (m := 0) (σ' := ⟨[(0, .v (slv (a).length pa.1)), (1, .v (slv (b).length pb.1)), (5, .v (I 0))], []⟩) .nil (by kernel_rfl) ?_
    clear S; intro ac w β S
    refine RG.done rfl (nx_then ?_)
    refine wp_block ?_
    replace S := S.prune (keep := [0, 1, 5]) (m := 0) (σ' := ⟨[(0, .v (slv (a).length pa.1)), (1, .v (slv (b).length pb.1)), (5, .v (I 0))], []⟩) (by kernel_rfl)
    refine wp_loop_down (fun mm ac w => ∃ (k : Nat)  (u : World) (N : Bl) (β : Nat → Nat), mm = a.length - k ∧ (k ≤ a.length) ∧ (a.length = b.length) ∧ (a.take k = b.take k) ∧ St Go.Proofs.Try.prog Go.Proofs.Try.f54.ntmps w0 NoB u N β ⟨[(0, .v (slv (a).length pa.1)), (1, .v (slv (b).length pb.1)), (5, .v (I (k : Int)))], []⟩ ac w) _ ⟨0, _, _, _, rfl, (by first | omega | (simp; done) | (simp; omega)), (by first | omega | (simp; done) | (simp; omega)), (by simp), S.cast (by kernel_rfl)⟩ ?_
    clear S
    rintro mm ac w ⟨k, u, N, β, rfl, hk, hab, he, S⟩
    refine wp_seq ?_
    refine wp_seq ?_
    refine RG.start ?_
    refine S.quiet (k := 4) (keep := [0, 1, 5, 14]) (m := 0) (σ' := ⟨[(0, .v (slv (a).length pa.1)), (1, .v (slv (b).length pb.1)), (5, .v (I (k : Int))), (14, .v (B (decide ((k : Int) < ((a).length : Int)))))], []⟩) .nil (by kernel_rfl) ?_
    clear S; intro ac w β S
    refine RG.done rfl (nx_then ?_)
    refine S.cond (e := (decide ((k : Int) < ((a).length : Int)))) (by kernel_rfl) (fun h4 => ?_) (fun h4 => ?_)
    · have g5 : (k : Int) < ((a).length : Int) := of_decide_eq_true h4
      refine wp_skip (nx_then ?_)
      refine wp_seq ?_
      refine wp_block ?_
      refine wp_seq ?_
      refine S.drawn (keep := [0, 1, 5, 26]) (m := 0) (σ' := ⟨[(0, .v (slv (a).length pa.1)), (1, .v (slv (b).length pb.1)), (5, .v (I (k : Int))), (26, .v (B (!(decide ((el a k) = (el b k))))))], []⟩) (.cons (Q_idx (S.arg ha) (l := (a).length) (k := k) (i := (k : Int)) rfl rfl (by omega) Go.Proofs.Try.underlying29 (by kernel_rfl)) (.cons (Q_el (S.arg ha) (t := 50) (k := k) (by omega) rfl (by kernel_rfl) (by kernel_rfl)) (.cons (Q_idx (S.arg hb) (l := (b).length) (k := k) (i := (k : Int)) rfl rfl (by omega) Go.Proofs.Try.underlying29 (by kernel_rfl)) (.cons (Q_el (S.arg hb) (t := 50) (k := k) (by omega) rfl (by kernel_rfl) (by kernel_rfl)) (.cons (Q_call fun w hw => c_laws_eqMon w (el a k) (pa.2 k) (rd_of (LRd.el (S.arg ha) k (by omega)) hw) (el b k) (pb.2 k) (rd_of (LRd.el (S.arg hb) k (by omega)) hw)) .nil))))) rfl (by kernel_rfl) (by kernel_rfl) ?_
      clear S; intro ac w S
      refine id (nx_then ?_)
      refine S.cond (e := (!(decide ((el a k) = (el b k))))) (by kernel_rfl) (fun h6 => ?_) (fun h6 => ?_)
      · have h7 : (decide ((el a k) = (el b k))) = false := not_t h6
        have g8 := of_decide_eq_false h7
        refine wp_seq ?_
        refine RG.start ?_
        refine S.quiet (k := 1) (keep := [4]) (m := 0) (σ' := ⟨[(4, .v (B false))], []⟩) .nil (by kernel_rfl) ?_
        clear S; intro ac w β S
        refine RG.done rfl (nx_then ?_)
        refine wp_ret (rt_block (rt_then (rt_then (rt_block (rt_then ?_)))))
        refine S.ret (vs := [B false]) (by kernel_rfl) ?_
        exact ⟨retB (show false = decide (a = b) by clear S; first | (simp; intro e; subst e; simp_all; done) | (simp; rw [take_all (by omega), take_all (by omega)] at he; exact he) | (simp; exact take_ne (by simp_all))), S.chg⟩
      · have h9 : (decide ((el a k) = (el b k))) = true := not_f h6
        have g10 := of_decide_eq_true h9
        refine wp_skip (nx_block (nx_then ?_))
        refine RG.start ?_
        refine S.quiet (k := 3) (keep := [0, 1, 5]) (m := 0) (σ' := ⟨[(0, .v (slv (a).length pa.1)), (1, .v (slv (b).length pb.1)), (5, .v (I ((k : Int) + 1)))], []⟩) (.cons (Q_add (x := (k : Int)) (y := 1) ⟨by omega, by omega⟩) .nil) (by kernel_rfl) ?_
        clear S; intro ac w β S
        refine RG.done rfl (nx_then ?_)
        replace S := S.prune (keep := [0, 1, 5]) (m := 0) (σ' := ⟨[(0, .v (slv (a).length pa.1)), (1, .v (slv (b).length pb.1)), (5, .v (I ((k : Int) + 1)))], []⟩) (by kernel_rfl)
        refine ⟨a.length - (k + 1), by omega, k + 1, _, _, _, rfl, ?_, ?_, ?_, S.cast (by kernel_rfl)⟩
        · clear S; first | omega | (simp [*]; done) | (simp [*]; omega)
        · clear S; first | omega | (simp [*]; done) | (simp [*]; omega)
        · clear S; exact take_eq_step (by omega) (by omega) he (by simp_all)
    · have g11 : ¬ ((k : Int) < ((a).length : Int)) := of_decide_eq_false h4
      refine wp_exit (ex_then (ex_then (ex_hit (nx_then ?_))))
      refine wp_seq ?_
      refine RG.start ?_
      refine S.quiet (k := 1) (keep := [4]) (m := 0) (σ' := ⟨[(4, .v (B true))], []⟩) .nil (by kernel_rfl) ?_
      clear S; intro ac w β S
      refine RG.done rfl (nx_then ?_)
      refine wp_ret ?_
      refine S.ret (vs := [B true]) (by kernel_rfl) ?_
      exact ⟨retB (show true = decide (a = b) by clear S; first | (simp; intro e; subst e; simp_all; done) | (simp; rw [take_all (by omega), take_all (by omega)] at he; exact he) | (simp; exact take_ne (by simp_all))), S.chg⟩

end Go.Proofs.Ytcoabfmpdnlfdaa
