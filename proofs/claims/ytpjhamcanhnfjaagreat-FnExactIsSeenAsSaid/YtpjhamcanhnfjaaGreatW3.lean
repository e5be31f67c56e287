/- The walks: what each function that the laws reach computes (part 3). -/
import Derived.Test.YtpjhamcanhnfjaaGreatW2
import Derived.Test.YtpjhamcanhnfjaaGreatProg
import Derived.KernelRfl
namespace Go.Proofs.YtpjhamcanhnfjaaGreat
open Go
set_option linter.unusedVariables false
set_option linter.unusedSimpArgs false

set_option maxRecDepth 100000 in
theorem c_impl_copyMon (w0 : World) (m : TMon) (pm : PMon) (hm : GT.rd KK (Lt w0.heap.size) w0 m pm) : Calls Go.Proofs.Tryz.prog 81 [GT.val (α := TMon) m pm].toArray w0 (Ret1 NoB w0 (m : TMon)) := by
  refine Calls.walk (args := [GT.val (α := TMon) m pm]) NoB Go.Proofs.Tryz.func81 rfl rfl ?_
  intro ac β S
  have hlem_outer : m.outer.length ≤ 4194304 := LRd.le (RMon.outer (d := m) hm)
  have hlem_out : m.out.length ≤ 4194304 := LRd.le (RMon.out (d := m) hm)
  have hlem_dirty : m.dirty.length ≤ 4194304 := LRd.le (RMon.dirty (d := m) hm)
  have hlem_guests : m.guests.length ≤ 4194304 := LRd.le (RMon.guests (d := m) hm)
  have hlem_outs : m.outs.length ≤ 4194304 := LRd.le (RMon.outs (d := m) hm)
  have hlem_tables : m.tables.length ≤ 4194304 := LRd.le (RMon.tables (d := m) hm)
  refine wp_seq ?_
  refine RG.start ?_
  refine S.quiet (k := 2) (keep := [1, 2]) (m := 2) (σ' := ⟨[(1, .p 0 0), (2, .p 1 0)], [GT.cells (α := TMon) m pm, [slv (([] : List TSlot)).length (GT.pdflt (α := List TSlot)).1, slv (([] : List (List Int))).length (GT.pdflt (α := List (List Int))).1, slv (([] : List Bool)).length (GT.pdflt (α := List Bool)).1, slv (([] : List TGuest)).length (GT.pdflt (α := List TGuest)).1, slv (([] : List Int)).length (GT.pdflt (α := List Int)).1, I 0, I 0, slv (([] : List TKept)).length (GT.pdflt (α := List TKept)).1, I 0]]⟩) .nil (by kernel_rfl) ?_
  clear S; intro ac w β S
  refine RG.done rfl (nx_then ?_)
  refine wp_seq ?_
  refine RG.start ?_
  refine S.quiet (k := 2) (keep := [1, 2, 7]) (m := 2) (σ' := ⟨[(1, .p 0 0), (2, .p 1 0), (7, .v (slv (m.outer).length pm.outer.1))], [GT.cells (α := TMon) m pm, [slv (([] : List TSlot)).length (GT.pdflt (α := List TSlot)).1, slv (([] : List (List Int))).length (GT.pdflt (α := List (List Int))).1, slv (([] : List Bool)).length (GT.pdflt (α := List Bool)).1, slv (([] : List TGuest)).length (GT.pdflt (α := List TGuest)).1, slv (([] : List Int)).length (GT.pdflt (α := List Int)).1, I 0, I 0, slv (([] : List TKept)).length (GT.pdflt (α := List TKept)).1, I 0]]⟩) .nil (by kernel_rfl) ?_
  clear S; intro ac w β S
  refine RG.op rfl (S.call1 (r := m.outer) (d := 8) (c_impl_copyTable w m.outer pm.outer (S.rd (RMon.outer (d := m) (S.arg hm)))) (by kernel_rfl) rfl ?_)
  clear S; intro ac w N q1 F2 S up o3 d4
  clear up d4
  refine S.quiet (k := 2) (keep := [1, 2]) (m := 2) (σ' := ⟨[(1, .p 0 0), (2, .p 1 0)], [[slv (m.outer).length q1.1, slv (m.out).length pm.out.1, slv (m.dirty).length pm.dirty.1, slv (m.guests).length pm.guests.1, slv (m.outs).length pm.outs.1, I m.pend, I m.traps, slv (m.tables).length pm.tables.1, I m.owned], [slv (([] : List TSlot)).length (GT.pdflt (α := List TSlot)).1, slv (([] : List (List Int))).length (GT.pdflt (α := List (List Int))).1, slv (([] : List Bool)).length (GT.pdflt (α := List Bool)).1, slv (([] : List TGuest)).length (GT.pdflt (α := List TGuest)).1, slv (([] : List Int)).length (GT.pdflt (α := List Int)).1, I 0, I 0, slv (([] : List TKept)).length (GT.pdflt (α := List TKept)).1, I 0]]⟩) .nil (by kernel_rfl) ?_
  clear S; intro ac w β S
  refine RG.done rfl (nx_then ?_)
  refine wp_seq ?_
  refine RG.start ?_
  refine S.quiet (k := 2) (keep := [1, 2, 11]) (m := 2) (σ' := ⟨[(1, .p 0 0), (2, .p 1 0), (11, .v (slv (m.out).length pm.out.1))], [[slv (m.outer).length q1.1, slv (m.out).length pm.out.1, slv (m.dirty).length pm.dirty.1, slv (m.guests).length pm.guests.1, slv (m.outs).length pm.outs.1, I m.pend, I m.traps, slv (m.tables).length pm.tables.1, I m.owned], [slv (([] : List TSlot)).length (GT.pdflt (α := List TSlot)).1, slv (([] : List (List Int))).length (GT.pdflt (α := List (List Int))).1, slv (([] : List Bool)).length (GT.pdflt (α := List Bool)).1, slv (([] : List TGuest)).length (GT.pdflt (α := List TGuest)).1, slv (([] : List Int)).length (GT.pdflt (α := List Int)).1, I 0, I 0, slv (([] : List TKept)).length (GT.pdflt (α := List TKept)).1, I 0]]⟩) .nil (by kernel_rfl) ?_
  clear S; intro ac w β S
  refine RG.op rfl (S.call1 (r := m.out) (d := 12) (c_impl_copyMem w m.out pm.out (S.rd (RMon.out (d := m) (S.arg hm)))) (by kernel_rfl) rfl ?_)
  clear S; intro ac w N q5 F6 S up o7 d8
  have d9 : Disj F2 F6 := fun b x y => d8 b (o3.sub b x) y
  replace o3 := o3.up up
  clear up d8
  refine S.quiet (k := 2) (keep := [1, 2]) (m := 2) (σ' := ⟨[(1, .p 0 0), (2, .p 1 0)], [[slv (m.outer).length q1.1, slv (m.out).length q5.1, slv (m.dirty).length pm.dirty.1, slv (m.guests).length pm.guests.1, slv (m.outs).length pm.outs.1, I m.pend, I m.traps, slv (m.tables).length pm.tables.1, I m.owned], [slv (([] : List TSlot)).length (GT.pdflt (α := List TSlot)).1, slv (([] : List (List Int))).length (GT.pdflt (α := List (List Int))).1, slv (([] : List Bool)).length (GT.pdflt (α := List Bool)).1, slv (([] : List TGuest)).length (GT.pdflt (α := List TGuest)).1, slv (([] : List Int)).length (GT.pdflt (α := List Int)).1, I 0, I 0, slv (([] : List TKept)).length (GT.pdflt (α := List TKept)).1, I 0]]⟩) .nil (by kernel_rfl) ?_
  clear S; intro ac w β S
  refine RG.done rfl (nx_then ?_)
  refine wp_seq ?_
  refine RG.start ?_
  refine RG.op rfl (S.bs0 (α := Bool) (d := 14) (by kernel_rfl) ?_)
  clear S; intro ac w N q10 F11 S up o12 d13
  have d14 : Disj F2 F11 := fun b x y => d13 b (o3.sub b x) y
  have d15 : Disj F6 F11 := fun b x y => d13 b (o7.sub b x) y
  replace o3 := o3.up up
  replace o7 := o7.up up
  clear up d13
  refine S.quiet (k := 2) (keep := [1, 2, 14, 16]) (m := 2) (σ' := ⟨[(1, .p 0 0), (2, .p 1 0), (14, .v (slv 0 q10.1)), (16, .v (slv (m.dirty).length pm.dirty.1))], [[slv (m.outer).length q1.1, slv (m.out).length q5.1, slv (m.dirty).length pm.dirty.1, slv (m.guests).length pm.guests.1, slv (m.outs).length pm.outs.1, I m.pend, I m.traps, slv (m.tables).length pm.tables.1, I m.owned], [slv (([] : List TSlot)).length (GT.pdflt (α := List TSlot)).1, slv (([] : List (List Int))).length (GT.pdflt (α := List (List Int))).1, slv (([] : List Bool)).length (GT.pdflt (α := List Bool)).1, slv (([] : List TGuest)).length (GT.pdflt (α := List TGuest)).1, slv (([] : List Int)).length (GT.pdflt (α := List Int)).1, I 0, I 0, slv (([] : List TKept)).length (GT.pdflt (α := List TKept)).1, I 0]]⟩) .nil (by kernel_rfl) ?_
  clear S; intro ac w β S
  have b20 : (m.dirty).length ≤ 4194304 := LRd.le (RMon.dirty (d := m) (S.arg hm))
  refine RG.op rfl (S.appFlat (α := Bool) o12 ((RMon.dirty (d := m) (S.arg hm))) (fun _ _ h => h) (by' := 1) (d := 17) (lx := 0) (ly := (m.dirty).length) rfl rfl (by kernel_rfl) (show _ ≤ 4194304 by simp only [List.length_append, List.length_cons, List.length_nil]; omega) ?_)
  clear S; intro ac w N q16 F17 S up o18 d19
  have d21 : Disj F2 F17 := d19 _ d14 o3.sub
  have d22 : Disj F6 F17 := d19 _ d15 o7.sub
  replace o3 := o3.upF d14 up
  replace o7 := o7.upF d15 up
  clear up d19
  refine S.quiet (k := 2) (keep := [1, 2]) (m := 2) (σ' := ⟨[(1, .p 0 0), (2, .p 1 0)], [[slv (m.outer).length q1.1, slv (m.out).length q5.1, slv ((([] : List Bool) ++ m.dirty)).length q16.1, slv (m.guests).length pm.guests.1, slv (m.outs).length pm.outs.1, I m.pend, I m.traps, slv (m.tables).length pm.tables.1, I m.owned], [slv (([] : List TSlot)).length (GT.pdflt (α := List TSlot)).1, slv (([] : List (List Int))).length (GT.pdflt (α := List (List Int))).1, slv (([] : List Bool)).length (GT.pdflt (α := List Bool)).1, slv (([] : List TGuest)).length (GT.pdflt (α := List TGuest)).1, slv (([] : List Int)).length (GT.pdflt (α := List Int)).1, I 0, I 0, slv (([] : List TKept)).length (GT.pdflt (α := List TKept)).1, I 0]]⟩) .nil (by kernel_rfl) ?_
  clear S; intro ac w β S
  refine RG.done rfl (nx_then ?_)
  refine wp_seq ?_
  refine RG.start ?_
  refine S.quiet (k := 2) (keep := [1, 2, 20]) (m := 2) (σ' := ⟨[(1, .p 0 0), (2, .p 1 0), (20, .v (slv (m.guests).length pm.guests.1))], [[slv (m.outer).length q1.1, slv (m.out).length q5.1, slv ((([] : List Bool) ++ m.dirty)).length q16.1, slv (m.guests).length pm.guests.1, slv (m.outs).length pm.outs.1, I m.pend, I m.traps, slv (m.tables).length pm.tables.1, I m.owned], [slv (([] : List TSlot)).length (GT.pdflt (α := List TSlot)).1, slv (([] : List (List Int))).length (GT.pdflt (α := List (List Int))).1, slv (([] : List Bool)).length (GT.pdflt (α := List Bool)).1, slv (([] : List TGuest)).length (GT.pdflt (α := List TGuest)).1, slv (([] : List Int)).length (GT.pdflt (α := List Int)).1, I 0, I 0, slv (([] : List TKept)).length (GT.pdflt (α := List TKept)).1, I 0]]⟩) .nil (by kernel_rfl) ?_
  clear S; intro ac w β S
  refine RG.op rfl (S.call1 (r := m.guests) (d := 21) (c_impl_copyGuests w m.guests pm.guests (S.rd (RMon.guests (d := m) (S.arg hm)))) (by kernel_rfl) rfl ?_)
  clear S; intro ac w N q23 F24 S up o25 d26
  have d27 : Disj F2 F24 := fun b x y => d26 b (o3.sub b x) y
  have d28 : Disj F6 F24 := fun b x y => d26 b (o7.sub b x) y
  have d29 : Disj F17 F24 := fun b x y => d26 b (o18.sub b x) y
  replace o3 := o3.up up
  replace o7 := o7.up up
  replace o18 := o18.up up
  clear up d26
  refine S.quiet (k := 2) (keep := [1, 2]) (m := 2) (σ' := ⟨[(1, .p 0 0), (2, .p 1 0)], [[slv (m.outer).length q1.1, slv (m.out).length q5.1, slv ((([] : List Bool) ++ m.dirty)).length q16.1, slv (m.guests).length q23.1, slv (m.outs).length pm.outs.1, I m.pend, I m.traps, slv (m.tables).length pm.tables.1, I m.owned], [slv (([] : List TSlot)).length (GT.pdflt (α := List TSlot)).1, slv (([] : List (List Int))).length (GT.pdflt (α := List (List Int))).1, slv (([] : List Bool)).length (GT.pdflt (α := List Bool)).1, slv (([] : List TGuest)).length (GT.pdflt (α := List TGuest)).1, slv (([] : List Int)).length (GT.pdflt (α := List Int)).1, I 0, I 0, slv (([] : List TKept)).length (GT.pdflt (α := List TKept)).1, I 0]]⟩) .nil (by kernel_rfl) ?_
  clear S; intro ac w β S
  refine RG.done rfl (nx_then ?_)
  refine wp_seq ?_
  refine RG.start ?_
  refine S.quiet (k := 2) (keep := [1, 2, 24]) (m := 2) (σ' := ⟨[(1, .p 0 0), (2, .p 1 0), (24, .v (slv (m.outs).length pm.outs.1))], [[slv (m.outer).length q1.1, slv (m.out).length q5.1, slv ((([] : List Bool) ++ m.dirty)).length q16.1, slv (m.guests).length q23.1, slv (m.outs).length pm.outs.1, I m.pend, I m.traps, slv (m.tables).length pm.tables.1, I m.owned], [slv (([] : List TSlot)).length (GT.pdflt (α := List TSlot)).1, slv (([] : List (List Int))).length (GT.pdflt (α := List (List Int))).1, slv (([] : List Bool)).length (GT.pdflt (α := List Bool)).1, slv (([] : List TGuest)).length (GT.pdflt (α := List TGuest)).1, slv (([] : List Int)).length (GT.pdflt (α := List Int)).1, I 0, I 0, slv (([] : List TKept)).length (GT.pdflt (α := List TKept)).1, I 0]]⟩) .nil (by kernel_rfl) ?_
  clear S; intro ac w β S
  refine RG.op rfl (S.call1 (r := m.outs) (d := 25) (c_impl_copyInts w m.outs pm.outs (S.rd (RMon.outs (d := m) (S.arg hm)))) (by kernel_rfl) rfl ?_)
  clear S; intro ac w N q30 F31 S up o32 d33
  have d34 : Disj F2 F31 := fun b x y => d33 b (o3.sub b x) y
  have d35 : Disj F6 F31 := fun b x y => d33 b (o7.sub b x) y
  have d36 : Disj F17 F31 := fun b x y => d33 b (o18.sub b x) y
  have d37 : Disj F24 F31 := fun b x y => d33 b (o25.sub b x) y
  replace o3 := o3.up up
  replace o7 := o7.up up
  replace o18 := o18.up up
  replace o25 := o25.up up
  clear up d33
  refine S.quiet (k := 2) (keep := [1, 2]) (m := 2) (σ' := ⟨[(1, .p 0 0), (2, .p 1 0)], [[slv (m.outer).length q1.1, slv (m.out).length q5.1, slv ((([] : List Bool) ++ m.dirty)).length q16.1, slv (m.guests).length q23.1, slv (m.outs).length q30.1, I m.pend, I m.traps, slv (m.tables).length pm.tables.1, I m.owned], [slv (([] : List TSlot)).length (GT.pdflt (α := List TSlot)).1, slv (([] : List (List Int))).length (GT.pdflt (α := List (List Int))).1, slv (([] : List Bool)).length (GT.pdflt (α := List Bool)).1, slv (([] : List TGuest)).length (GT.pdflt (α := List TGuest)).1, slv (([] : List Int)).length (GT.pdflt (α := List Int)).1, I 0, I 0, slv (([] : List TKept)).length (GT.pdflt (α := List TKept)).1, I 0]]⟩) .nil (by kernel_rfl) ?_
  clear S; intro ac w β S
  refine RG.done rfl (nx_then ?_)
  refine wp_seq ?_
  refine RG.start ?_
  refine RG.op rfl (S.bs0 (α := TKept) (d := 27) (by kernel_rfl) ?_)
  clear S; intro ac w N q38 F39 S up o40 d41
  have d42 : Disj F2 F39 := fun b x y => d41 b (o3.sub b x) y
  have d43 : Disj F6 F39 := fun b x y => d41 b (o7.sub b x) y
  have d44 : Disj F17 F39 := fun b x y => d41 b (o18.sub b x) y
  have d45 : Disj F24 F39 := fun b x y => d41 b (o25.sub b x) y
  have d46 : Disj F31 F39 := fun b x y => d41 b (o32.sub b x) y
  replace o3 := o3.up up
  replace o7 := o7.up up
  replace o18 := o18.up up
  replace o25 := o25.up up
  replace o32 := o32.up up
  clear up d41
  refine S.quiet (k := 1) (keep := [1, 2, 3]) (m := 2) (σ' := ⟨[(1, .p 0 0), (2, .p 1 0), (3, .v (slv 0 q38.1))], [[slv (m.outer).length q1.1, slv (m.out).length q5.1, slv ((([] : List Bool) ++ m.dirty)).length q16.1, slv (m.guests).length q23.1, slv (m.outs).length q30.1, I m.pend, I m.traps, slv (m.tables).length pm.tables.1, I m.owned], [slv (([] : List TSlot)).length (GT.pdflt (α := List TSlot)).1, slv (([] : List (List Int))).length (GT.pdflt (α := List (List Int))).1, slv (([] : List Bool)).length (GT.pdflt (α := List Bool)).1, slv (([] : List TGuest)).length (GT.pdflt (α := List TGuest)).1, slv (([] : List Int)).length (GT.pdflt (α := List Int)).1, I 0, I 0, slv (([] : List TKept)).length (GT.pdflt (α := List TKept)).1, I 0]]⟩) .nil (by kernel_rfl) ?_
  clear S; intro ac w β S
  refine RG.done rfl (nx_then ?_)
  refine wp_seq ?_
  refine wp_seq ?_
  refine RG.start ?_
  refine S.quiet (k := 4) (keep := [1, 2, 3, 29, 30, 31]) (m := 2) (σ' := ⟨[(1, .p 0 0), (2, .p 1 0), (3, .v (slv 0 q38.1)), (29, .v (slv (m.tables).length pm.tables.1)), (30, .v (I ((m.tables).length : Int))), (31, .v (I 0))], [[slv (m.outer).length q1.1, slv (m.out).length q5.1, slv ((([] : List Bool) ++ m.dirty)).length q16.1, slv (m.guests).length q23.1, slv (m.outs).length q30.1, I m.pend, I m.traps, slv (m.tables).length pm.tables.1, I m.owned], [slv (([] : List TSlot)).length (GT.pdflt (α := List TSlot)).1, slv (([] : List (List Int))).length (GT.pdflt (α := List (List Int))).1, slv (([] : List Bool)).length (GT.pdflt (α := List Bool)).1, slv (([] : List TGuest)).length (GT.pdflt (α := List TGuest)).1, slv (([] : List Int)).length (GT.pdflt (α := List Int)).1, I 0, I 0, slv (([] : List TKept)).length (GT.pdflt (α := List TKept)).1, I 0]]⟩) .nil (by kernel_rfl) ?_
  clear S; intro ac w β S
  refine RG.done rfl (nx_then ?_)
  refine wp_block ?_
  replace S := S.prune (keep := [1, 2, 3, 29, 30, 31]) (m := 2) (σ' := ⟨[(1, .p 0 0), (2, .p 1 0), (3, .v (slv 0 q38.1)), (29, .v (slv (m.tables).length pm.tables.1)), (30, .v (I ((m.tables).length : Int))), (31, .v (I 0))], [[slv (m.outer).length q1.1, slv (m.out).length q5.1, slv ((([] : List Bool) ++ m.dirty)).length q16.1, slv (m.guests).length q23.1, slv (m.outs).length q30.1, I m.pend, I m.traps, slv (m.tables).length pm.tables.1, I m.owned], [slv (([] : List TSlot)).length (GT.pdflt (α := List TSlot)).1, slv (([] : List (List Int))).length (GT.pdflt (α := List (List Int))).1, slv (([] : List Bool)).length (GT.pdflt (α := List Bool)).1, slv (([] : List TGuest)).length (GT.pdflt (α := List TGuest)).1, slv (([] : List Int)).length (GT.pdflt (α := List Int)).1, I 0, I 0, slv (([] : List TKept)).length (GT.pdflt (α := List TKept)).1, I 0]]⟩) (by kernel_rfl)
  refine wp_loop_down (fun mm ac w => ∃ (k : Nat) (acc : List TKept) (q47 : GT.Ptr (List TKept)) (F48 : Bl) (u : World) (N : Bl) (β : Nat → Nat), mm = (m.tables).length - k ∧ (k ≤ (m.tables).length) ∧ (acc = (m.tables).take k) ∧ St Go.Proofs.Tryz.prog Go.Proofs.Tryz.f81.ntmps w0 NoB u N β ⟨[(1, .p 0 0), (2, .p 1 0), (3, .v (slv (acc).length q47.1)), (29, .v (slv (m.tables).length pm.tables.1)), (30, .v (I ((m.tables).length : Int))), (31, .v (I (k : Int)))], [[slv (m.outer).length q1.1, slv (m.out).length q5.1, slv ((([] : List Bool) ++ m.dirty)).length q16.1, slv (m.guests).length q23.1, slv (m.outs).length q30.1, I m.pend, I m.traps, slv (m.tables).length pm.tables.1, I m.owned], [slv (([] : List TSlot)).length (GT.pdflt (α := List TSlot)).1, slv (([] : List (List Int))).length (GT.pdflt (α := List (List Int))).1, slv (([] : List Bool)).length (GT.pdflt (α := List Bool)).1, slv (([] : List TGuest)).length (GT.pdflt (α := List TGuest)).1, slv (([] : List Int)).length (GT.pdflt (α := List Int)).1, I 0, I 0, slv (([] : List TKept)).length (GT.pdflt (α := List TKept)).1, I 0]]⟩ ac w ∧ Ow w0 NoB u N F48 acc q47 ∧ Ow w0 NoB u N F2 m.outer q1 ∧ Ow w0 NoB u N F6 m.out q5 ∧ Ow w0 NoB u N F17 (([] : List Bool) ++ m.dirty) q16 ∧ Ow w0 NoB u N F24 m.guests q23 ∧ Ow w0 NoB u N F31 m.outs q30 ∧ Disj F48 F2 ∧ Disj F48 F6 ∧ Disj F48 F17 ∧ Disj F48 F24 ∧ Disj F48 F31) _ ⟨0, ([] : List TKept), q38, F39, _, _, _, rfl, (by first | omega | (simp; done) | (simp; omega)), (by simp), S.cast (by kernel_rfl), o40, o3, o7, o18, o25, o32, (Disj.symm d42), (Disj.symm d43), (Disj.symm d44), (Disj.symm d45), (Disj.symm d46)⟩ ?_
  clear S o18 o25 o3 o32 o40 o7
  rintro mm ac w ⟨k, acc, q47, F48, u, N, β, rfl, hk, hacc, S, o49, o3, o7, o18, o25, o32, d50, d51, d52, d53, d54⟩
  have hlacc : acc.length = k := by rw [hacc]; simp; omega
  refine wp_seq ?_
  refine RG.start ?_
  refine S.quiet (k := 1) (keep := [1, 2, 3, 29, 30, 31, 32]) (m := 2) (σ' := ⟨[(1, .p 0 0), (2, .p 1 0), (3, .v (slv (acc).length q47.1)), (29, .v (slv (m.tables).length pm.tables.1)), (30, .v (I ((m.tables).length : Int))), (31, .v (I (k : Int))), (32, .v (B (decide ((k : Int) < ((m.tables).length : Int)))))], [[slv (m.outer).length q1.1, slv (m.out).length q5.1, slv ((([] : List Bool) ++ m.dirty)).length q16.1, slv (m.guests).length q23.1, slv (m.outs).length q30.1, I m.pend, I m.traps, slv (m.tables).length pm.tables.1, I m.owned], [slv (([] : List TSlot)).length (GT.pdflt (α := List TSlot)).1, slv (([] : List (List Int))).length (GT.pdflt (α := List (List Int))).1, slv (([] : List Bool)).length (GT.pdflt (α := List Bool)).1, slv (([] : List TGuest)).length (GT.pdflt (α := List TGuest)).1, slv (([] : List Int)).length (GT.pdflt (α := List Int)).1, I 0, I 0, slv (([] : List TKept)).length (GT.pdflt (α := List TKept)).1, I 0]]⟩) .nil (by kernel_rfl) ?_
  clear S; intro ac w β S
  refine RG.done rfl (nx_then ?_)
  refine wp_seq ?_
  refine S.cond (e := (decide ((k : Int) < ((m.tables).length : Int)))) (by kernel_rfl) (fun h55 => ?_) (fun h55 => ?_)
  · have g56 : (k : Int) < ((m.tables).length : Int) := of_decide_eq_true h55
    refine wp_skip (nx_then ?_)
    refine wp_seq ?_
    refine wp_block ?_
    refine wp_seq ?_
    refine RG.start ?_
    refine S.quiet (k := 4) (keep := [1, 2, 3, 5, 29, 30, 31]) (m := 3) (σ' := ⟨[(1, .p 0 0), (2, .p 1 0), (3, .v (slv (acc).length q47.1)), (5, .p 2 0), (29, .v (slv (m.tables).length pm.tables.1)), (30, .v (I ((m.tables).length : Int))), (31, .v (I (k : Int)))], [[slv (m.outer).length q1.1, slv (m.out).length q5.1, slv ((([] : List Bool) ++ m.dirty)).length q16.1, slv (m.guests).length q23.1, slv (m.outs).length q30.1, I m.pend, I m.traps, slv (m.tables).length pm.tables.1, I m.owned], [slv (([] : List TSlot)).length (GT.pdflt (α := List TSlot)).1, slv (([] : List (List Int))).length (GT.pdflt (α := List (List Int))).1, slv (([] : List Bool)).length (GT.pdflt (α := List Bool)).1, slv (([] : List TGuest)).length (GT.pdflt (α := List TGuest)).1, slv (([] : List Int)).length (GT.pdflt (α := List Int)).1, I 0, I 0, slv (([] : List TKept)).length (GT.pdflt (α := List TKept)).1, I 0], GT.cells (α := TKept) (el m.tables k) (pm.tables.2 k)]⟩) (.cons (Q_idx (RMon.tables (d := m) (S.arg hm)) (l := (m.tables).length) (k := k) (i := (k : Int)) rfl rfl (by omega) Go.Proofs.Tryz.underlying73 (by kernel_rfl)) (.cons (Q_el (RMon.tables (d := m) (S.arg hm)) (t := 129) (k := k) (by omega) rfl (by kernel_rfl) (by kernel_rfl)) .nil)) (by kernel_rfl) ?_
    clear S; intro ac w β S
    refine RG.done rfl (nx_then ?_)
    refine RG.start ?_
    refine S.quiet (k := 2) (keep := [1, 2, 29, 30, 31, 35, 36]) (m := 2) (σ' := ⟨[(1, .p 0 0), (2, .p 1 0), (29, .v (slv (m.tables).length pm.tables.1)), (30, .v (I ((m.tables).length : Int))), (31, .v (I (k : Int))), (35, .v (slv (acc).length q47.1)), (36, .v (GT.val (α := TKept) (el m.tables k) (pm.tables.2 k)))], [[slv (m.outer).length q1.1, slv (m.out).length q5.1, slv ((([] : List Bool) ++ m.dirty)).length q16.1, slv (m.guests).length q23.1, slv (m.outs).length q30.1, I m.pend, I m.traps, slv (m.tables).length pm.tables.1, I m.owned], [slv (([] : List TSlot)).length (GT.pdflt (α := List TSlot)).1, slv (([] : List (List Int))).length (GT.pdflt (α := List (List Int))).1, slv (([] : List Bool)).length (GT.pdflt (α := List Bool)).1, slv (([] : List TGuest)).length (GT.pdflt (α := List TGuest)).1, slv (([] : List Int)).length (GT.pdflt (α := List Int)).1, I 0, I 0, slv (([] : List TKept)).length (GT.pdflt (α := List TKept)).1, I 0]]⟩) .nil (by kernel_rfl) ?_
    clear S; intro ac w β S
    refine RG.op rfl (S.call1 (r := (el m.tables k)) (d := 37) (c_impl_copyKept w (el m.tables k) (pm.tables.2 k) (S.rd (LRd.el (RMon.tables (d := m) (S.arg hm)) k (by omega)))) (by kernel_rfl) rfl ?_)
    clear S; intro ac w N q57 F58 S up o59 d60
    have d61 : Disj F48 F58 := fun b x y => d60 b (o49.sub b x) y
    have d62 : Disj F2 F58 := fun b x y => d60 b (o3.sub b x) y
    have d63 : Disj F6 F58 := fun b x y => d60 b (o7.sub b x) y
    have d64 : Disj F17 F58 := fun b x y => d60 b (o18.sub b x) y
    have d65 : Disj F24 F58 := fun b x y => d60 b (o25.sub b x) y
    have d66 : Disj F31 F58 := fun b x y => d60 b (o32.sub b x) y
    replace o49 := o49.up up
    replace o3 := o3.up up
    replace o7 := o7.up up
    replace o18 := o18.up up
    replace o25 := o25.up up
    replace o32 := o32.up up
    clear up d60
    obtain ⟨F67, F70, o68, o71, s69, s72, d73⟩ := sp_Kept o59
    have o78 := ow_Kept (x := (el m.tables k)) (p := q57) o68 o71 d73 
    refine RG.op rfl (S.bs1 (α := TKept) (x := (el m.tables k)) (p := q57) o78.own o78.sub o78.young (d := 38) (by kernel_rfl) ?_)
    clear S; intro ac w N q74 F75 S up o76 d77
    have d79 : Disj F48 F75 := d77 _ (Disj.symm (Disj.or (Disj.part (Disj.symm d61) s69) (Disj.or (Disj.part (Disj.symm d61) s72) Disj.nob))) o49.sub
    have d80 : Disj F2 F75 := d77 _ (Disj.symm (Disj.or (Disj.part (Disj.symm d62) s69) (Disj.or (Disj.part (Disj.symm d62) s72) Disj.nob))) o3.sub
    have d81 : Disj F6 F75 := d77 _ (Disj.symm (Disj.or (Disj.part (Disj.symm d63) s69) (Disj.or (Disj.part (Disj.symm d63) s72) Disj.nob))) o7.sub
    have d82 : Disj F17 F75 := d77 _ (Disj.symm (Disj.or (Disj.part (Disj.symm d64) s69) (Disj.or (Disj.part (Disj.symm d64) s72) Disj.nob))) o18.sub
    have d83 : Disj F24 F75 := d77 _ (Disj.symm (Disj.or (Disj.part (Disj.symm d65) s69) (Disj.or (Disj.part (Disj.symm d65) s72) Disj.nob))) o25.sub
    have d84 : Disj F31 F75 := d77 _ (Disj.symm (Disj.or (Disj.part (Disj.symm d66) s69) (Disj.or (Disj.part (Disj.symm d66) s72) Disj.nob))) o32.sub
    replace o49 := o49.up up
    replace o3 := o3.up up
    replace o7 := o7.up up
    replace o18 := o18.up up
    replace o25 := o25.up up
    replace o32 := o32.up up
    clear up d77
    refine RG.op rfl (S.appOwn (α := TKept) o49 o76 d79 (by' := 48) (d := 39) (lx := (acc).length) (ly := 1) rfl rfl (by kernel_rfl) (show _ ≤ 4194304 by simp only [List.length_append, List.length_cons, List.length_nil]; omega) ?_)
    clear S; intro ac w N q85 F86 S up o87 d88
    have d89 : Disj F2 F86 := d88 _ (Disj.symm d50) d80 o3.sub
    have d90 : Disj F6 F86 := d88 _ (Disj.symm d51) d81 o7.sub
    have d91 : Disj F17 F86 := d88 _ (Disj.symm d52) d82 o18.sub
    have d92 : Disj F24 F86 := d88 _ (Disj.symm d53) d83 o25.sub
    have d93 : Disj F31 F86 := d88 _ (Disj.symm d54) d84 o32.sub
    replace o3 := o3.upF (Disj.symm d50) up
    replace o7 := o7.upF (Disj.symm d51) up
    replace o18 := o18.upF (Disj.symm d52) up
    replace o25 := o25.upF (Disj.symm d53) up
    replace o32 := o32.upF (Disj.symm d54) up
    clear up d88
    refine S.quiet (k := 1) (keep := [1, 2, 3, 29, 30, 31]) (m := 2) (σ' := ⟨[(1, .p 0 0), (2, .p 1 0), (3, .v (slv ((acc ++ [(el m.tables k)])).length q85.1)), (29, .v (slv (m.tables).length pm.tables.1)), (30, .v (I ((m.tables).length : Int))), (31, .v (I (k : Int)))], [[slv (m.outer).length q1.1, slv (m.out).length q5.1, slv ((([] : List Bool) ++ m.dirty)).length q16.1, slv (m.guests).length q23.1, slv (m.outs).length q30.1, I m.pend, I m.traps, slv (m.tables).length pm.tables.1, I m.owned], [slv (([] : List TSlot)).length (GT.pdflt (α := List TSlot)).1, slv (([] : List (List Int))).length (GT.pdflt (α := List (List Int))).1, slv (([] : List Bool)).length (GT.pdflt (α := List Bool)).1, slv (([] : List TGuest)).length (GT.pdflt (α := List TGuest)).1, slv (([] : List Int)).length (GT.pdflt (α := List Int)).1, I 0, I 0, slv (([] : List TKept)).length (GT.pdflt (α := List TKept)).1, I 0]]⟩) .nil (by kernel_rfl) ?_
    clear S; intro ac w β S
    refine RG.done rfl (nx_block (nx_then ?_))
    refine RG.start ?_
    refine S.quiet (k := 2) (keep := [1, 2, 3, 29, 30, 31]) (m := 2) (σ' := ⟨[(1, .p 0 0), (2, .p 1 0), (3, .v (slv ((acc ++ [(el m.tables k)])).length q85.1)), (29, .v (slv (m.tables).length pm.tables.1)), (30, .v (I ((m.tables).length : Int))), (31, .v (I ((k : Int) + 1)))], [[slv (m.outer).length q1.1, slv (m.out).length q5.1, slv ((([] : List Bool) ++ m.dirty)).length q16.1, slv (m.guests).length q23.1, slv (m.outs).length q30.1, I m.pend, I m.traps, slv (m.tables).length pm.tables.1, I m.owned], [slv (([] : List TSlot)).length (GT.pdflt (α := List TSlot)).1, slv (([] : List (List Int))).length (GT.pdflt (α := List (List Int))).1, slv (([] : List Bool)).length (GT.pdflt (α := List Bool)).1, slv (([] : List TGuest)).length (GT.pdflt (α := List TGuest)).1, slv (([] : List Int)).length (GT.pdflt (α := List Int)).1, I 0, I 0, slv (([] : List TKept)).length (GT.pdflt (α := List TKept)).1, I 0]]⟩) (.cons (Q_add (x := (k : Int)) (y := 1) ⟨by omega, by omega⟩) .nil) (by kernel_rfl) ?_
    clear S; intro ac w β S
    refine RG.done rfl (nx_then ?_)
    replace S := S.prune (keep := [1, 2, 3, 29, 30, 31]) (m := 2) (σ' := ⟨[(1, .p 0 0), (2, .p 1 0), (3, .v (slv ((acc ++ [(el m.tables k)])).length q85.1)), (29, .v (slv (m.tables).length pm.tables.1)), (30, .v (I ((m.tables).length : Int))), (31, .v (I ((k : Int) + 1)))], [[slv (m.outer).length q1.1, slv (m.out).length q5.1, slv ((([] : List Bool) ++ m.dirty)).length q16.1, slv (m.guests).length q23.1, slv (m.outs).length q30.1, I m.pend, I m.traps, slv (m.tables).length pm.tables.1, I m.owned], [slv (([] : List TSlot)).length (GT.pdflt (α := List TSlot)).1, slv (([] : List (List Int))).length (GT.pdflt (α := List (List Int))).1, slv (([] : List Bool)).length (GT.pdflt (α := List Bool)).1, slv (([] : List TGuest)).length (GT.pdflt (α := List TGuest)).1, slv (([] : List Int)).length (GT.pdflt (α := List Int)).1, I 0, I 0, slv (([] : List TKept)).length (GT.pdflt (α := List TKept)).1, I 0]]⟩) (by kernel_rfl)
    refine ⟨(m.tables).length - (k + 1), by omega, k + 1, (acc ++ [(el m.tables k)]), q85, F86, _, _, _, rfl, ?_, ?_, S.cast (by kernel_rfl), o87, o3, o7, o18, o25, o32, (Disj.symm d89), (Disj.symm d90), (Disj.symm d91), (Disj.symm d92), (Disj.symm d93)⟩
    · clear S; first | omega | (simp [*]; done) | (simp [*]; omega)
    · clear S; (first | (rw [take_el (by omega), hacc]; done) | (rw [take_el (by omega), hacc]; simp; done))
  · have g94 : ¬ ((k : Int) < ((m.tables).length : Int)) := of_decide_eq_false h55
    refine wp_exit (ex_then (ex_then (ex_hit (nx_then ?_))))
    refine wp_seq ?_
    refine RG.start ?_
    refine S.quiet (k := 3) (keep := [1, 2]) (m := 2) (σ' := ⟨[(1, .p 0 0), (2, .p 1 0)], [[slv (m.outer).length q1.1, slv (m.out).length q5.1, slv ((([] : List Bool) ++ m.dirty)).length q16.1, slv (m.guests).length q23.1, slv (m.outs).length q30.1, I m.pend, I m.traps, slv (acc).length q47.1, I m.owned], [slv (([] : List TSlot)).length (GT.pdflt (α := List TSlot)).1, slv (([] : List (List Int))).length (GT.pdflt (α := List (List Int))).1, slv (([] : List Bool)).length (GT.pdflt (α := List Bool)).1, slv (([] : List TGuest)).length (GT.pdflt (α := List TGuest)).1, slv (([] : List Int)).length (GT.pdflt (α := List Int)).1, I 0, I 0, slv (([] : List TKept)).length (GT.pdflt (α := List TKept)).1, I 0]]⟩) .nil (by kernel_rfl) ?_
    clear S; intro ac w β S
    refine RG.done rfl (nx_then ?_)
    refine wp_seq ?_
    refine RG.start ?_
    refine S.quiet (k := 2) (keep := [2]) (m := 2) (σ' := ⟨[(2, .p 1 0)], [[slv (m.outer).length q1.1, slv (m.out).length q5.1, slv ((([] : List Bool) ++ m.dirty)).length q16.1, slv (m.guests).length q23.1, slv (m.outs).length q30.1, I m.pend, I m.traps, slv (acc).length q47.1, I m.owned], [slv (m.outer).length q1.1, slv (m.out).length q5.1, slv ((([] : List Bool) ++ m.dirty)).length q16.1, slv (m.guests).length q23.1, slv (m.outs).length q30.1, I m.pend, I m.traps, slv (acc).length q47.1, I m.owned]]⟩) .nil (by kernel_rfl) ?_
    clear S; intro ac w β S
    refine RG.done rfl (nx_then ?_)
    refine wp_ret ?_
    refine S.ret (vs := [GT.val (α := TMon) (⟨m.outer, m.out, (([] : List Bool) ++ m.dirty), m.guests, m.outs, m.pend, m.traps, acc, m.owned⟩ : TMon) (⟨q1, q5, q16, q23, q30, q47⟩ : PMon)]) (by kernel_rfl) ?_
    have o95 := ow_Mon (x := (⟨m.outer, m.out, (([] : List Bool) ++ m.dirty), m.guests, m.outs, m.pend, m.traps, acc, m.owned⟩ : TMon)) (p := (⟨q1, q5, q16, q23, q30, q47⟩ : PMon)) o3 o7 o18 o25 o32 o49 d9 d21 d27 d34 (Disj.symm d50) d22 d28 d35 (Disj.symm d51) d29 d36 (Disj.symm d52) d37 (Disj.symm d53) (Disj.symm d54) (RMon.pend (d := m) (S.arg hm)) (RMon.traps (d := m) (S.arg hm)) (RMon.owned (d := m) (S.arg hm))
    exact ret1_of S (show m = (⟨m.outer, m.out, (([] : List Bool) ++ m.dirty), m.guests, m.outs, m.pend, m.traps, acc, m.owned⟩ : TMon) by clear S; (first | rfl | (rw [hacc, take_all (by omega)]; simp; done) | simp)) rfl o95

set_option maxRecDepth 100000 in
theorem c_impl_MonAt (w0 : World) (h : THost) (ph : PHost) (hh : GT.rd KK (Lt w0.heap.size) w0 h ph) (m : Int) : Calls Go.Proofs.Tryz.prog 60 [GT.val (α := THost) h ph, I m].toArray w0 (Ret2 NoB w0 ((f_monAt h m).1 : TMon) ((f_monAt h m).2 : Bool)) := by
  refine Calls.walk (args := [GT.val (α := THost) h ph, I m]) NoB Go.Proofs.Tryz.func60 rfl rfl ?_
  intro ac β S
  have hleh_mem : h.mem.length ≤ 4194304 := LRd.le (RHost.mem (d := h) hh)
  have hleh_mons : h.mons.length ≤ 4194304 := LRd.le (RHost.mons (d := h) hh)
  have hleh_buf : h.buf.length ≤ 4194304 := LRd.le (RHost.buf (d := h) hh)
  have hleh_iobuf : h.iobuf.length ≤ 4194304 := LRd.le (RHost.iobuf (d := h) hh)
  refine wp_seq ?_
  refine RG.start ?_
  refine S.quiet (k := 3) (keep := [1, 2, 4]) (m := 2) (σ' := ⟨[(1, .v (I m)), (2, .p 0 0), (4, .p 1 0)], [GT.cells (α := THost) h ph, [slv (([] : List TSlot)).length (GT.pdflt (α := List TSlot)).1, slv (([] : List (List Int))).length (GT.pdflt (α := List (List Int))).1, slv (([] : List Bool)).length (GT.pdflt (α := List Bool)).1, slv (([] : List TGuest)).length (GT.pdflt (α := List TGuest)).1, slv (([] : List Int)).length (GT.pdflt (α := List Int)).1, I 0, I 0, slv (([] : List TKept)).length (GT.pdflt (α := List TKept)).1, I 0]]⟩) .nil (by kernel_rfl) ?_
  clear S; intro ac w β S
  refine RG.done rfl (nx_then ?_)
  refine wp_seq ?_
  refine wp_seq ?_
  refine RG.start ?_
  refine S.quiet (k := 6) (keep := [1, 2, 4, 11]) (m := 2) (σ' := ⟨[(1, .v (I m)), (2, .p 0 0), (4, .p 1 0), (11, .v (B (!(f_within m 0 (((h.mons).length : Int) - 1)))))], [GT.cells (α := THost) h ph, [slv (([] : List TSlot)).length (GT.pdflt (α := List TSlot)).1, slv (([] : List (List Int))).length (GT.pdflt (α := List (List Int))).1, slv (([] : List Bool)).length (GT.pdflt (α := List Bool)).1, slv (([] : List TGuest)).length (GT.pdflt (α := List TGuest)).1, slv (([] : List Int)).length (GT.pdflt (α := List Int)).1, I 0, I 0, slv (([] : List TKept)).length (GT.pdflt (α := List TKept)).1, I 0]]⟩) (.cons (Q_call fun w hw => c_impl_has w m ((h.mons).length : Int) (by omega)) .nil) (by kernel_rfl) ?_
  clear S; intro ac w β S
  refine RG.done rfl (nx_then ?_)
  refine S.cond (e := (!(f_within m 0 (((h.mons).length : Int) - 1)))) (by kernel_rfl) (fun h1 => ?_) (fun h1 => ?_)
  · have h2 : (f_within m 0 (((h.mons).length : Int) - 1)) = false := not_t h1
    have g3 := within_f h2
    refine wp_seq ?_
    refine RG.start ?_
    refine S.quiet (k := 3) (keep := [4, 5]) (m := 2) (σ' := ⟨[(4, .p 1 0), (5, .v (B false))], [GT.cells (α := THost) h ph, [slv (([] : List TSlot)).length (GT.pdflt (α := List TSlot)).1, slv (([] : List (List Int))).length (GT.pdflt (α := List (List Int))).1, slv (([] : List Bool)).length (GT.pdflt (α := List Bool)).1, slv (([] : List TGuest)).length (GT.pdflt (α := List TGuest)).1, slv (([] : List Int)).length (GT.pdflt (α := List Int)).1, I 0, I 0, slv (([] : List TKept)).length (GT.pdflt (α := List TKept)).1, I 0]]⟩) (.cons (Q_sem (s := Instr.build 75 [].toArray) (v := .agg [slv (([] : List TSlot)).length (GT.pdflt (α := List TSlot)).1, slv (([] : List (List Int))).length (GT.pdflt (α := List (List Int))).1, slv (([] : List Bool)).length (GT.pdflt (α := List Bool)).1, slv (([] : List TGuest)).length (GT.pdflt (α := List TGuest)).1, slv (([] : List Int)).length (GT.pdflt (α := List Int)).1, I 0, I 0, slv (([] : List TKept)).length (GT.pdflt (α := List TKept)).1, I 0].toArray) (fun w => by kernel_rfl)) .nil) (by kernel_rfl) ?_
    clear S; intro ac w β S
    refine RG.done rfl (nx_then ?_)
    refine wp_ret (rt_then ?_)
    refine S.ret (vs := [GT.val (α := TMon) (⟨([] : List TSlot), ([] : List (List Int)), ([] : List Bool), ([] : List TGuest), ([] : List Int), 0, 0, ([] : List TKept), 0⟩ : TMon) (⟨(GT.pdflt (α := List TSlot)), (GT.pdflt (α := List (List Int))), (GT.pdflt (α := List Bool)), (GT.pdflt (α := List TGuest)), (GT.pdflt (α := List Int)), (GT.pdflt (α := List TKept))⟩ : PMon), B false]) (by kernel_rfl) ?_
    have o4 := S.nilOw (α := TSlot)
    have o5 := S.nilOw (α := List Int)
    have o6 := S.nilOw (α := Bool)
    have o7 := S.nilOw (α := TGuest)
    have o8 := S.nilOw (α := Int)
    have o9 := S.nilOw (α := TKept)
    have o10 := ow_Mon (x := (⟨([] : List TSlot), ([] : List (List Int)), ([] : List Bool), ([] : List TGuest), ([] : List Int), 0, 0, ([] : List TKept), 0⟩ : TMon)) (p := (⟨(GT.pdflt (α := List TSlot)), (GT.pdflt (α := List (List Int))), (GT.pdflt (α := List Bool)), (GT.pdflt (α := List TGuest)), (GT.pdflt (α := List Int)), (GT.pdflt (α := List TKept))⟩ : PMon)) o4 o5 o6 o7 o8 o9 (fun b _ h => False.elim h) (fun b _ h => False.elim h) (fun b _ h => False.elim h) (fun b _ h => False.elim h) (fun b _ h => False.elim h) (fun b _ h => False.elim h) (fun b _ h => False.elim h) (fun b _ h => False.elim h) (fun b _ h => False.elim h) (fun b _ h => False.elim h) (fun b _ h => False.elim h) (fun b _ h => False.elim h) (fun b _ h => False.elim h) (fun b _ h => False.elim h) (fun b _ h => False.elim h) (show In64 0 from ⟨by decide, by decide⟩) (show In64 0 from ⟨by decide, by decide⟩) (show In64 0 from ⟨by decide, by decide⟩)
    exact ret2_of (p' := ()) S (show (f_monAt h m).1 = (⟨([] : List TSlot), ([] : List (List Int)), ([] : List Bool), ([] : List TGuest), ([] : List Int), 0, 0, ([] : List TKept), 0⟩ : TMon) by clear S; (first | (unfold f_monAt; rw [if_pos (by omega)]) | (unfold f_monAt; rw [if_neg (by omega)]))) (show (f_monAt h m).2 = false by clear S; (first | (unfold f_monAt; rw [if_pos (by omega)]) | (unfold f_monAt; rw [if_neg (by omega)]))) rfl rfl o10 trivial
  · have h11 : (f_within m 0 (((h.mons).length : Int) - 1)) = true := not_f h1
    have g12 := within_t h11
    refine wp_skip (nx_then ?_)
    refine wp_seq ?_
    refine RG.start ?_
    refine S.quiet (k := 5) (keep := [4, 17]) (m := 2) (σ' := ⟨[(4, .p 1 0), (17, .v (GT.val (α := TMon) (el h.mons ((m).toNat)) (ph.mons.2 ((m).toNat))))], [GT.cells (α := THost) h ph, [slv (([] : List TSlot)).length (GT.pdflt (α := List TSlot)).1, slv (([] : List (List Int))).length (GT.pdflt (α := List (List Int))).1, slv (([] : List Bool)).length (GT.pdflt (α := List Bool)).1, slv (([] : List TGuest)).length (GT.pdflt (α := List TGuest)).1, slv (([] : List Int)).length (GT.pdflt (α := List Int)).1, I 0, I 0, slv (([] : List TKept)).length (GT.pdflt (α := List TKept)).1, I 0]]⟩) (.cons (Q_idx (RHost.mons (d := h) (S.arg hh)) (l := (h.mons).length) (k := (m).toNat) (i := m) rfl (by omega) (by omega) Go.Proofs.Tryz.underlying29 (by kernel_rfl)) (.cons (Q_el (RHost.mons (d := h) (S.arg hh)) (t := 75) (k := (m).toNat) (by omega) rfl (by kernel_rfl) (by kernel_rfl)) .nil)) (by kernel_rfl) ?_
    clear S; intro ac w β S
    refine RG.op rfl (S.call1 (r := (el h.mons ((m).toNat))) (d := 18) (c_impl_copyMon w (el h.mons ((m).toNat)) (ph.mons.2 ((m).toNat)) (S.rd (LRd.el (RHost.mons (d := h) (S.arg hh)) ((m).toNat) (by omega)))) (by kernel_rfl) rfl ?_)
    clear S; intro ac w N q13 F14 S up o15 d16
    clear up d16
    have i32 : In64 (el h.mons ((m).toNat)).pend := RMon.pend (d := (el h.mons ((m).toNat))) o15.rn
    have i33 : In64 (el h.mons ((m).toNat)).traps := RMon.traps (d := (el h.mons ((m).toNat))) o15.rn
    have i37 : In64 (el h.mons ((m).toNat)).owned := RMon.owned (d := (el h.mons ((m).toNat))) o15.rn
    obtain ⟨F17, F20, F23, F26, F29, F34, o18, o21, o24, o27, o30, o35, s19, s22, s25, s28, s31, s36, d38, d39, d40, d41, d42, d43, d44, d45, d46, d47, d48, d49, d50, d51, d52⟩ := sp_Mon o15
    refine S.quiet (k := 2) (keep := [4, 5]) (m := 2) (σ' := ⟨[(4, .p 1 0), (5, .v (B true))], [GT.cells (α := THost) h ph, [slv ((el h.mons ((m).toNat)).outer).length q13.outer.1, slv ((el h.mons ((m).toNat)).out).length q13.out.1, slv ((el h.mons ((m).toNat)).dirty).length q13.dirty.1, slv ((el h.mons ((m).toNat)).guests).length q13.guests.1, slv ((el h.mons ((m).toNat)).outs).length q13.outs.1, I ((el h.mons ((m).toNat)).pend), I ((el h.mons ((m).toNat)).traps), slv ((el h.mons ((m).toNat)).tables).length q13.tables.1, I ((el h.mons ((m).toNat)).owned)]]⟩) .nil (by kernel_rfl) ?_
    clear S; intro ac w β S
    refine RG.done rfl (nx_then ?_)
    refine wp_ret ?_
    refine S.ret (vs := [GT.val (α := TMon) (el h.mons ((m).toNat)) q13, B true]) (by kernel_rfl) ?_
    have o53 := ow_Mon (x := (el h.mons ((m).toNat))) (p := q13) o18 o21 o24 o27 o30 o35 d38 d39 d40 d41 d42 d43 d44 d45 d46 d47 d48 d49 d50 d51 d52 i32 i33 i37
    exact ret2_of (p' := ()) S (show (f_monAt h m).1 = (el h.mons ((m).toNat)) by clear S; (first | (unfold f_monAt; rw [if_pos (by omega)]) | (unfold f_monAt; rw [if_neg (by omega)]))) (show (f_monAt h m).2 = true by clear S; (first | (unfold f_monAt; rw [if_pos (by omega)]) | (unfold f_monAt; rw [if_neg (by omega)]))) rfl rfl o53 trivial

set_option maxRecDepth 100000 in
theorem c_impl_NoSlot (w0 : World)  : Calls Go.Proofs.Tryz.prog 106 [].toArray w0 (fun e w' => e = .returned (GT.val (α := TSlot) (⟨-1, 0⟩ : TSlot) ()) ∧ Chg NoB w0 w') := by
  refine Calls.walk (args := []) NoB Go.Proofs.Tryz.func106 rfl rfl ?_
  intro ac β S
  refine wp_seq ?_
  refine RG.start ?_
  refine S.quiet (k := 1) (keep := [0]) (m := 1) (σ' := ⟨[(0, .p 0 0)], [[I 0, I 0]]⟩) .nil (by kernel_rfl) ?_
  clear S; intro ac w β S
  refine RG.done rfl (nx_then ?_)
  refine wp_seq ?_
  refine RG.start ?_
  refine S.quiet (k := 2) (keep := [0]) (m := 1) (σ' := ⟨[(0, .p 0 0)], [[I (-1), I 0]]⟩) (.cons (Q_sem (s := Instr.build 117 [(0, I (-1))].toArray) (v := .agg [I (-1), I 0].toArray) (fun w => by kernel_rfl)) .nil) (by kernel_rfl) ?_
  clear S; intro ac w β S
  refine RG.done rfl (nx_then ?_)
  refine wp_ret ?_
  refine S.ret (vs := [GT.val (α := TSlot) (⟨(-1), 0⟩ : TSlot) ()]) (by kernel_rfl) ?_
  exact ⟨retV (p := ()) (show (⟨(-1), 0⟩ : TSlot) = (⟨-1, 0⟩ : TSlot) by clear S; first | rfl | (simp [id, *]; done) | (simp [id, *]; omega) | (simp_all [id]; done) | (simp_all [id]; omega)), S.chg⟩

set_option maxRecDepth 100000 in
theorem c_impl_SlotAt (w0 : World) (t : List TSlot) (pt : LP TSlot) (ht : GT.rd KK (Lt w0.heap.size) w0 t pt) (page : Int) : Calls Go.Proofs.Tryz.prog 82 [slv (t).length pt.1, I page].toArray w0 (fun e w' => e = .returned (GT.val (α := TSlot) (f_slotAt t page) ()) ∧ Chg NoB w0 w') := by
  refine Calls.walk (args := [slv (t).length pt.1, I page]) NoB Go.Proofs.Tryz.func82 rfl rfl ?_
  intro ac β S
  have hlet : t.length ≤ 4194304 := LRd.le ht
  refine wp_seq ?_
  refine RG.start ?_
  refine S.quiet (k := 1) (keep := [0, 1, 4]) (m := 1) (σ' := ⟨[(0, .v (slv (t).length pt.1)), (1, .v (I page)), (4, .p 0 0)], [[I 0, I 0]]⟩) .nil (by kernel_rfl) ?_
  clear S; intro ac w β S
  refine RG.done rfl (nx_then ?_)
  refine wp_seq ?_
  refine wp_seq ?_
  refine RG.start ?_
  refine S.quiet (k := 5) (keep := [0, 1, 4, 9]) (m := 1) (σ' := ⟨[(0, .v (slv (t).length pt.1)), (1, .v (I page)), (4, .p 0 0), (9, .v (B (!(f_within page 0 (((t).length : Int) - 1)))))], [[I 0, I 0]]⟩) (.cons (Q_call fun w hw => c_impl_has w page ((t).length : Int) (by omega)) .nil) (by kernel_rfl) ?_
  clear S; intro ac w β S
  refine RG.done rfl (nx_then ?_)
  refine S.cond (e := (!(f_within page 0 (((t).length : Int) - 1)))) (by kernel_rfl) (fun h1 => ?_) (fun h1 => ?_)
  · have h2 : (f_within page 0 (((t).length : Int) - 1)) = false := not_t h1
    have g3 := within_f h2
    refine wp_seq ?_
    refine RG.start ?_
    refine S.quiet (k := 2) (keep := [4]) (m := 1) (σ' := ⟨[(4, .p 0 0)], [GT.cells (α := TSlot) ((⟨-1, 0⟩ : TSlot)) ()]⟩) (.cons (Q_call fun w hw => c_impl_NoSlot w ) .nil) (by kernel_rfl) ?_
    clear S; intro ac w β S
    refine RG.done rfl (nx_then ?_)
    refine wp_ret (rt_then ?_)
    refine S.ret (vs := [GT.val (α := TSlot) ((⟨-1, 0⟩ : TSlot)) ()]) (by kernel_rfl) ?_
    exact ⟨retV (p := ()) (show ((⟨-1, 0⟩ : TSlot)) = f_slotAt t page by clear S; (first | (unfold f_slotAt; rw [if_pos (by omega)]) | (unfold f_slotAt; rw [if_neg (by omega)]))), S.chg⟩
  · have h4 : (f_within page 0 (((t).length : Int) - 1)) = true := not_f h1
    have g5 := within_t h4
    refine wp_skip (nx_then ?_)
    refine wp_seq ?_
    refine RG.start ?_
    refine S.quiet (k := 5) (keep := [4]) (m := 1) (σ' := ⟨[(4, .p 0 0)], [GT.cells (α := TSlot) (el t ((page).toNat)) ()]⟩) (.cons (Q_idx (S.arg ht) (l := (t).length) (k := (page).toNat) (i := page) rfl (by omega) (by omega) Go.Proofs.Tryz.underlying72 (by kernel_rfl)) (.cons (Q_el (S.arg ht) (t := 117) (k := (page).toNat) (by omega) rfl (by kernel_rfl) (by kernel_rfl)) .nil)) (by kernel_rfl) ?_
    clear S; intro ac w β S
    refine RG.done rfl (nx_then ?_)
    refine wp_ret ?_
    refine S.ret (vs := [GT.val (α := TSlot) (el t ((page).toNat)) ()]) (by kernel_rfl) ?_
    exact ⟨retV (p := ()) (show (el t ((page).toNat)) = f_slotAt t page by clear S; (first | (unfold f_slotAt; rw [if_pos (by omega)]) | (unfold f_slotAt; rw [if_neg (by omega)]))), S.chg⟩

set_option maxRecDepth 100000 in
theorem c_impl_PageAt (w0 : World) (m : List (List Int)) (pm : LP (List Int)) (hm : GT.rd KK (Lt w0.heap.size) w0 m pm) (page : Int) : Calls Go.Proofs.Tryz.prog 83 [slv (m).length pm.1, I page].toArray w0 (Ret1 NoB w0 (f_pageAt m page : List Int)) := by
  refine Calls.walk (args := [slv (m).length pm.1, I page]) NoB Go.Proofs.Tryz.func83 rfl rfl ?_
  intro ac β S
  have hlem : m.length ≤ 4194304 := LRd.le hm
  refine wp_seq ?_
  refine RG.start ?_
  refine S.quiet (k := 1) (keep := [0, 1]) (m := 0) (σ' := ⟨[(0, .v (slv (m).length pm.1)), (1, .v (I page))], []⟩) .nil (by kernel_rfl) ?_
  clear S; intro ac w β S
  refine RG.done rfl (nx_then ?_)
  refine wp_seq ?_
  refine wp_seq ?_
  refine RG.start ?_
  refine S.quiet (k := 5) (keep := [0, 1, 9]) (m := 0) (σ' := ⟨[(0, .v (slv (m).length pm.1)), (1, .v (I page)), (9, .v (B (!(f_within page 0 (((m).length : Int) - 1)))))], []⟩) (.cons (Q_call fun w hw => c_impl_has w page ((m).length : Int) (by omega)) .nil) (by kernel_rfl) ?_
  clear S; intro ac w β S
  refine RG.done rfl (nx_then ?_)
  refine S.cond (e := (!(f_within page 0 (((m).length : Int) - 1)))) (by kernel_rfl) (fun h1 => ?_) (fun h1 => ?_)
  · have h2 : (f_within page 0 (((m).length : Int) - 1)) = false := not_t h1
    have g3 := within_f h2
    refine wp_seq ?_
    refine RG.start ?_
    refine RG.op rfl (S.make (α := Int) (m := 4) (by' := 8) (d := 10) (by kernel_rfl) (by omega) (show 4 ≤ 4194304 by omega) ?_)
    clear S; intro ac w N q4 F5 S up o6 d7
    clear up d7
    refine S.quiet (k := 1) (keep := [4]) (m := 0) (σ' := ⟨[(4, .v (slv 4 q4.1))], []⟩) .nil (by kernel_rfl) ?_
    clear S; intro ac w β S
    refine RG.done rfl (nx_then ?_)
    refine wp_ret (rt_then ?_)
    refine S.ret (vs := [slv 4 q4.1]) (by kernel_rfl) ?_
    exact ret1_of S (show f_pageAt m page = (List.replicate 4 (GT.dflt : Int)) by clear S; (first | (unfold f_pageAt; rw [if_pos (by omega)]; done) | (unfold f_pageAt; rw [if_pos (by omega)]; first | rfl | (simp; done)) | (unfold f_pageAt; rw [if_neg (by omega)]; done) | (unfold f_pageAt; rw [if_neg (by omega)]; first | rfl | (simp; done)))) (by rw [show 4 = ((List.replicate 4 (GT.dflt : Int))).length from (by simp)]; rfl) o6
  · have h8 : (f_within page 0 (((m).length : Int) - 1)) = true := not_f h1
    have g9 := within_t h8
    refine wp_skip (nx_then ?_)
    refine wp_seq ?_
    refine RG.start ?_
    refine S.quiet (k := 4) (keep := [14]) (m := 0) (σ' := ⟨[(14, .v (slv ((el m ((page).toNat))).length (pm.2 ((page).toNat)).1))], []⟩) (.cons (Q_idx (S.arg hm) (l := (m).length) (k := (page).toNat) (i := page) rfl (by omega) (by omega) Go.Proofs.Tryz.underlying22 (by kernel_rfl)) (.cons (Q_el1 (S.arg hm) (t := 54) (k := (page).toNat) (by omega) rfl (by kernel_rfl)) .nil)) (by kernel_rfl) ?_
    clear S; intro ac w β S
    refine RG.op rfl (S.call1 (r := (el m ((page).toNat))) (d := 15) (c_impl_copyInts w (el m ((page).toNat)) (pm.2 ((page).toNat)) (S.rd (LRd.el (S.arg hm) ((page).toNat) (by omega)))) (by kernel_rfl) rfl ?_)
    clear S; intro ac w N q10 F11 S up o12 d13
    clear up d13
    refine S.quiet (k := 1) (keep := [4]) (m := 0) (σ' := ⟨[(4, .v (slv ((el m ((page).toNat))).length q10.1))], []⟩) .nil (by kernel_rfl) ?_
    clear S; intro ac w β S
    refine RG.done rfl (nx_then ?_)
    refine wp_ret ?_
    refine S.ret (vs := [slv ((el m ((page).toNat))).length q10.1]) (by kernel_rfl) ?_
    exact ret1_of S (show f_pageAt m page = (el m ((page).toNat)) by clear S; (first | (unfold f_pageAt; rw [if_pos (by omega)]; done) | (unfold f_pageAt; rw [if_pos (by omega)]; first | rfl | (simp; done)) | (unfold f_pageAt; rw [if_neg (by omega)]; done) | (unfold f_pageAt; rw [if_neg (by omega)]; first | rfl | (simp; done)))) rfl o12

set_option maxRecDepth 100000 in
theorem c_impl_PageOf (w0 : World) (h : THost) (ph : PHost) (hh : GT.rd KK (Lt w0.heap.size) w0 h ph) (m : Int) (page : Int) : Calls Go.Proofs.Tryz.prog 61 [GT.val (α := THost) h ph, I m, I page].toArray w0 (Ret1 NoB w0 (f_pageOf h m page : List Int)) := by
  refine Calls.walk (args := [GT.val (α := THost) h ph, I m, I page]) NoB Go.Proofs.Tryz.func61 rfl rfl ?_
  intro ac β S
  have hleh_mem : h.mem.length ≤ 4194304 := LRd.le (RHost.mem (d := h) hh)
  have hleh_mons : h.mons.length ≤ 4194304 := LRd.le (RHost.mons (d := h) hh)
  have hleh_buf : h.buf.length ≤ 4194304 := LRd.le (RHost.buf (d := h) hh)
  have hleh_iobuf : h.iobuf.length ≤ 4194304 := LRd.le (RHost.iobuf (d := h) hh)
  refine wp_seq ?_
  refine RG.start ?_
  refine S.quiet (k := 2) (keep := [1, 2, 3]) (m := 1) (σ' := ⟨[(1, .v (I m)), (2, .v (I page)), (3, .p 0 0)], [GT.cells (α := THost) h ph]⟩) .nil (by kernel_rfl) ?_
  clear S; intro ac w β S
  refine RG.done rfl (nx_then ?_)
  refine wp_seq ?_
  refine wp_seq ?_
  refine RG.start ?_
  refine S.quiet (k := 7) (keep := [1, 2, 3, 15]) (m := 1) (σ' := ⟨[(1, .v (I m)), (2, .v (I page)), (3, .p 0 0), (15, .v (B (!(f_within m 0 (((h.mons).length : Int) - 1)))))], [GT.cells (α := THost) h ph]⟩) (.cons (Q_call fun w hw => c_impl_has w m ((h.mons).length : Int) (by omega)) .nil) (by kernel_rfl) ?_
  clear S; intro ac w β S
  rcases Bool.eq_false_or_eq_true (!(f_within m 0 (((h.mons).length : Int) - 1))) with h1 | h1 <;> rw [h1] at S
  · have h2 : (f_within m 0 (((h.mons).length : Int) - 1)) = false := not_t h1
    have g3 := within_f h2
    refine S.quiet (k := 4) (keep := [1, 2, 3, 19]) (m := 1) (σ' := ⟨[(1, .v (I m)), (2, .v (I page)), (3, .p 0 0), (19, .v (B true))], [GT.cells (α := THost) h ph]⟩) .nil (by kernel_rfl) ?_
    clear S; intro ac w β S
    refine RG.done rfl (nx_then ?_)
    refine S.cond (e := true) (by kernel_rfl) (fun _ => ?_) (fun hx => by cases hx)
    refine wp_seq ?_
    refine RG.start ?_
    refine RG.op rfl (S.make (α := Int) (m := 4) (by' := 8) (d := 20) (by kernel_rfl) (by omega) (show 4 ≤ 4194304 by omega) ?_)
    clear S; intro ac w N q4 F5 S up o6 d7
    clear up d7
    refine S.quiet (k := 1) (keep := [6]) (m := 0) (σ' := ⟨[(6, .v (slv 4 q4.1))], []⟩) .nil (by kernel_rfl) ?_
    clear S; intro ac w β S
    refine RG.done rfl (nx_then ?_)
    refine wp_ret (rt_then ?_)
    refine S.ret (vs := [slv 4 q4.1]) (by kernel_rfl) ?_
    exact ret1_of S (show f_pageOf h m page = (List.replicate 4 (GT.dflt : Int)) by clear S; (unfold f_pageOf; (repeat' split) <;> first | rfl | (exfalso; omega) | (exfalso; simp_all; done) | (exfalso; simp_all; omega))) (by rw [show 4 = ((List.replicate 4 (GT.dflt : Int))).length from (by simp)]; rfl) o6
  · have h8 : (f_within m 0 (((h.mons).length : Int) - 1)) = true := not_f h1
    have g9 := within_t h8
    refine S.quiet (k := 4) (keep := [1, 2, 3, 19]) (m := 1) (σ' := ⟨[(1, .v (I m)), (2, .v (I page)), (3, .p 0 0), (19, .v (B (!(f_within page 0 (8 - 1)))))], [GT.cells (α := THost) h ph]⟩) (.cons (Q_call fun w hw => c_impl_has w page 8 (by omega)) .nil) (by kernel_rfl) ?_
    clear S; intro ac w β S
    refine RG.done rfl (nx_then ?_)
    refine S.cond (e := (!(f_within page 0 (8 - 1)))) (by kernel_rfl) (fun h10 => ?_) (fun h10 => ?_)
    · have h11 : (f_within page 0 (8 - 1)) = false := not_t h10
      have g12 := within_f h11
      refine wp_seq ?_
      refine RG.start ?_
      refine RG.op rfl (S.make (α := Int) (m := 4) (by' := 8) (d := 20) (by kernel_rfl) (by omega) (show 4 ≤ 4194304 by omega) ?_)
      clear S; intro ac w N q13 F14 S up o15 d16
      clear up d16
      refine S.quiet (k := 1) (keep := [6]) (m := 0) (σ' := ⟨[(6, .v (slv 4 q13.1))], []⟩) .nil (by kernel_rfl) ?_
      clear S; intro ac w β S
      refine RG.done rfl (nx_then ?_)
      refine wp_ret (rt_then ?_)
      refine S.ret (vs := [slv 4 q13.1]) (by kernel_rfl) ?_
      exact ret1_of S (show f_pageOf h m page = (List.replicate 4 (GT.dflt : Int)) by clear S; (unfold f_pageOf; (repeat' split) <;> first | rfl | (exfalso; omega) | (exfalso; simp_all; done) | (exfalso; simp_all; omega))) (by rw [show 4 = ((List.replicate 4 (GT.dflt : Int))).length from (by simp)]; rfl) o15
    · have h17 : (f_within page 0 (8 - 1)) = true := not_f h10
      have g18 := within_t h17
      refine wp_skip (nx_then ?_)
      refine wp_seq ?_
      refine RG.start ?_
      refine S.quiet (k := 7) (keep := [2, 3, 7]) (m := 2) (σ' := ⟨[(2, .v (I page)), (3, .p 0 0), (7, .p 1 0)], [GT.cells (α := THost) h ph, GT.cells (α := TMon) (el h.mons ((m).toNat)) (ph.mons.2 ((m).toNat))]⟩) (.cons (Q_idx (RHost.mons (d := h) (S.arg hh)) (l := (h.mons).length) (k := (m).toNat) (i := m) rfl (by omega) (by omega) Go.Proofs.Tryz.underlying29 (by kernel_rfl)) (.cons (Q_el (RHost.mons (d := h) (S.arg hh)) (t := 75) (k := (m).toNat) (by omega) rfl (by kernel_rfl) (by kernel_rfl)) .nil)) (by kernel_rfl) ?_
      clear S; intro ac w β S
      refine RG.done rfl (nx_then ?_)
      refine wp_seq ?_
      refine wp_seq ?_
      refine RG.start ?_
      refine S.quiet (k := 6) (keep := [2, 3, 7, 8]) (m := 3) (σ' := ⟨[(2, .v (I page)), (3, .p 0 0), (7, .p 1 0), (8, .p 2 0)], [GT.cells (α := THost) h ph, GT.cells (α := TMon) (el h.mons ((m).toNat)) (ph.mons.2 ((m).toNat)), GT.cells (α := TSlot) (f_slotAt ((el h.mons ((m).toNat)).outer) page) ()]⟩) (.cons (Q_call fun w hw => c_impl_SlotAt w ((el h.mons ((m).toNat)).outer) ((ph.mons.2 ((m).toNat)).outer) (rd_of (RMon.outer (d := (el h.mons ((m).toNat))) (LRd.el (RHost.mons (d := h) (S.arg hh)) ((m).toNat) (by omega))) hw) page) .nil) (by kernel_rfl) ?_
      clear S; intro ac w β S
      refine RG.done rfl (nx_then ?_)
      refine wp_seq ?_
      refine RG.start ?_
      refine S.quiet (k := 3) (keep := [2, 3, 7, 8, 32]) (m := 3) (σ' := ⟨[(2, .v (I page)), (3, .p 0 0), (7, .p 1 0), (8, .p 2 0), (32, .v (B ((f_slotAt ((el h.mons ((m).toNat)).outer) page).page != (-1))))], [GT.cells (α := THost) h ph, GT.cells (α := TMon) (el h.mons ((m).toNat)) (ph.mons.2 ((m).toNat)), GT.cells (α := TSlot) (f_slotAt ((el h.mons ((m).toNat)).outer) page) ()]⟩) .nil (by kernel_rfl) ?_
      clear S; intro ac w β S
      refine RG.done rfl (nx_then ?_)
      refine S.cond (e := ((f_slotAt ((el h.mons ((m).toNat)).outer) page).page != (-1))) (by kernel_rfl) (fun h19 => ?_) (fun h19 => ?_)
      · have g20 : ¬ ((f_slotAt ((el h.mons ((m).toNat)).outer) page).page = (-1)) := bne_iff_ne.1 h19
        refine wp_seq ?_
        refine RG.start ?_
        refine S.quiet (k := 4) (keep := [34, 36]) (m := 0) (σ' := ⟨[(34, .v (slv (h.mem).length ph.mem.1)), (36, .v (I ((f_slotAt ((el h.mons ((m).toNat)).outer) page).page)))], []⟩) .nil (by kernel_rfl) ?_
        clear S; intro ac w β S
        refine RG.op rfl (S.call1 (r := f_pageAt h.mem ((f_slotAt ((el h.mons ((m).toNat)).outer) page).page)) (d := 37) (c_impl_PageAt w h.mem ph.mem (S.rd (RHost.mem (d := h) (S.arg hh))) ((f_slotAt ((el h.mons ((m).toNat)).outer) page).page)) (by kernel_rfl) rfl ?_)
        clear S; intro ac w N q21 F22 S up o23 d24
        clear up d24
        refine S.quiet (k := 1) (keep := [6]) (m := 0) (σ' := ⟨[(6, .v (slv ((f_pageAt h.mem ((f_slotAt ((el h.mons ((m).toNat)).outer) page).page))).length q21.1))], []⟩) .nil (by kernel_rfl) ?_
        clear S; intro ac w β S
        refine RG.done rfl (nx_then ?_)
        refine wp_ret (rt_then ?_)
        refine S.ret (vs := [slv ((f_pageAt h.mem ((f_slotAt ((el h.mons ((m).toNat)).outer) page).page))).length q21.1]) (by kernel_rfl) ?_
        exact ret1_of S (show f_pageOf h m page = (f_pageAt h.mem ((f_slotAt ((el h.mons ((m).toNat)).outer) page).page)) by clear S; (unfold f_pageOf; (repeat' split) <;> first | rfl | (exfalso; omega) | (exfalso; simp_all; done) | (exfalso; simp_all; omega))) rfl o23
      · have g25 : (f_slotAt ((el h.mons ((m).toNat)).outer) page).page = (-1) := ne_f h19
        refine wp_skip (nx_then ?_)
        refine wp_seq ?_
        refine RG.start ?_
        refine S.quiet (k := 3) (keep := [39, 40]) (m := 0) (σ' := ⟨[(39, .v (slv ((el h.mons ((m).toNat)).out).length ((ph.mons.2 ((m).toNat)).out).1)), (40, .v (I page))], []⟩) .nil (by kernel_rfl) ?_
        clear S; intro ac w β S
        refine RG.op rfl (S.call1 (r := f_pageAt ((el h.mons ((m).toNat)).out) page) (d := 41) (c_impl_PageAt w ((el h.mons ((m).toNat)).out) ((ph.mons.2 ((m).toNat)).out) (S.rd (RMon.out (d := (el h.mons ((m).toNat))) (LRd.el (RHost.mons (d := h) (S.arg hh)) ((m).toNat) (by omega)))) page) (by kernel_rfl) rfl ?_)
        clear S; intro ac w N q26 F27 S up o28 d29
        clear up d29
        refine S.quiet (k := 1) (keep := [6]) (m := 0) (σ' := ⟨[(6, .v (slv ((f_pageAt ((el h.mons ((m).toNat)).out) page)).length q26.1))], []⟩) .nil (by kernel_rfl) ?_
        clear S; intro ac w β S
        refine RG.done rfl (nx_then ?_)
        refine wp_ret ?_
        refine S.ret (vs := [slv ((f_pageAt ((el h.mons ((m).toNat)).out) page)).length q26.1]) (by kernel_rfl) ?_
        exact ret1_of S (show f_pageOf h m page = (f_pageAt ((el h.mons ((m).toNat)).out) page) by clear S; (unfold f_pageOf; (repeat' split) <;> first | rfl | (exfalso; omega) | (exfalso; simp_all; done) | (exfalso; simp_all; omega))) rfl o28

set_option maxRecDepth 100000 in
theorem c_impl_SeenAs (w0 : World) (h : THost) (ph : PHost) (hh : GT.rd KK (Lt w0.heap.size) w0 h ph) (m : Int) : Calls Go.Proofs.Tryz.prog 38 [GT.val (α := THost) h ph, I m].toArray w0 (Ret1 NoB w0 (f_seenAs h m : TBare)) := by
  refine Calls.walk (args := [GT.val (α := THost) h ph, I m]) NoB Go.Proofs.Tryz.func38 rfl rfl ?_
  intro ac β S
  have hleh_mem : h.mem.length ≤ 4194304 := LRd.le (RHost.mem (d := h) hh)
  have hleh_mons : h.mons.length ≤ 4194304 := LRd.le (RHost.mons (d := h) hh)
  have hleh_buf : h.buf.length ≤ 4194304 := LRd.le (RHost.buf (d := h) hh)
  have hleh_iobuf : h.iobuf.length ≤ 4194304 := LRd.le (RHost.iobuf (d := h) hh)
  refine wp_seq ?_
  refine RG.start ?_
  refine S.quiet (k := 2) (keep := [1, 2, 4]) (m := 2) (σ' := ⟨[(1, .v (I m)), (2, .p 0 0), (4, .p 1 0)], [GT.cells (α := THost) h ph, [slv (([] : List (List Int))).length (GT.pdflt (α := List (List Int))).1, slv (([] : List TGuest)).length (GT.pdflt (α := List TGuest)).1, slv (([] : List Int)).length (GT.pdflt (α := List Int)).1, I 0]]⟩) .nil (by kernel_rfl) ?_
  clear S; intro ac w β S
  refine RG.done rfl (nx_then ?_)
  refine wp_seq ?_
  refine RG.start ?_
  refine S.quiet (k := 2) (keep := [1, 2, 4, 10, 11]) (m := 2) (σ' := ⟨[(1, .v (I m)), (2, .p 0 0), (4, .p 1 0), (10, .v (GT.val (α := THost) h ph)), (11, .v (I m))], [GT.cells (α := THost) h ph, [slv (([] : List (List Int))).length (GT.pdflt (α := List (List Int))).1, slv (([] : List TGuest)).length (GT.pdflt (α := List TGuest)).1, slv (([] : List Int)).length (GT.pdflt (α := List Int)).1, I 0]]⟩) .nil (by kernel_rfl) ?_
  clear S; intro ac w β S
  refine RG.op rfl (S.call2 (r := (f_monAt h m).1) (r' := (f_monAt h m).2) (d := 12) (c_impl_MonAt w h ph (S.rd (S.arg hh)) m) (by kernel_rfl) rfl ?_)
  clear S; intro ac w N q1 q2 F3 F4 S up o5 o6 d7 d8 d9
  clear up d7
  clear d8
  have i25 : In64 ((f_monAt h m).1).pend := RMon.pend (d := ((f_monAt h m).1)) o5.rn
  have i26 : In64 ((f_monAt h m).1).traps := RMon.traps (d := ((f_monAt h m).1)) o5.rn
  have i30 : In64 ((f_monAt h m).1).owned := RMon.owned (d := ((f_monAt h m).1)) o5.rn
  obtain ⟨F10, F13, F16, F19, F22, F27, o11, o14, o17, o20, o23, o28, s12, s15, s18, s21, s24, s29, d31, d32, d33, d34, d35, d36, d37, d38, d39, d40, d41, d42, d43, d44, d45⟩ := sp_Mon o5
  refine S.quiet (k := 6) (keep := [1, 2, 4, 5, 6]) (m := 3) (σ' := ⟨[(1, .v (I m)), (2, .p 0 0), (4, .p 1 0), (5, .p 2 0), (6, .v (B ((f_monAt h m).2)))], [GT.cells (α := THost) h ph, [slv (([] : List (List Int))).length (GT.pdflt (α := List (List Int))).1, slv (([] : List TGuest)).length (GT.pdflt (α := List TGuest)).1, slv (([] : List Int)).length (GT.pdflt (α := List Int)).1, I 0], [slv (((f_monAt h m).1).outer).length q1.outer.1, slv (((f_monAt h m).1).out).length q1.out.1, slv (((f_monAt h m).1).dirty).length q1.dirty.1, slv (((f_monAt h m).1).guests).length q1.guests.1, slv (((f_monAt h m).1).outs).length q1.outs.1, I (((f_monAt h m).1).pend), I (((f_monAt h m).1).traps), slv (((f_monAt h m).1).tables).length q1.tables.1, I (((f_monAt h m).1).owned)]]⟩) .nil (by kernel_rfl) ?_
  clear S; intro ac w β S
  refine RG.done rfl (nx_then ?_)
  refine wp_seq ?_
  refine wp_seq ?_
  refine RG.start ?_
  refine S.quiet (k := 2) (keep := [1, 2, 4, 5, 16]) (m := 3) (σ' := ⟨[(1, .v (I m)), (2, .p 0 0), (4, .p 1 0), (5, .p 2 0), (16, .v (B (!((f_monAt h m).2))))], [GT.cells (α := THost) h ph, [slv (([] : List (List Int))).length (GT.pdflt (α := List (List Int))).1, slv (([] : List TGuest)).length (GT.pdflt (α := List TGuest)).1, slv (([] : List Int)).length (GT.pdflt (α := List Int)).1, I 0], [slv (((f_monAt h m).1).outer).length q1.outer.1, slv (((f_monAt h m).1).out).length q1.out.1, slv (((f_monAt h m).1).dirty).length q1.dirty.1, slv (((f_monAt h m).1).guests).length q1.guests.1, slv (((f_monAt h m).1).outs).length q1.outs.1, I (((f_monAt h m).1).pend), I (((f_monAt h m).1).traps), slv (((f_monAt h m).1).tables).length q1.tables.1, I (((f_monAt h m).1).owned)]]⟩) .nil (by kernel_rfl) ?_
  clear S; intro ac w β S
  refine RG.done rfl (nx_then ?_)
  refine S.cond (e := (!((f_monAt h m).2))) (by kernel_rfl) (fun h46 => ?_) (fun h46 => ?_)
  · have h47 : (f_monAt h m).2 = false := not_t h46
    refine wp_seq ?_
    refine RG.start ?_
    refine S.quiet (k := 2) (keep := [4]) (m := 2) (σ' := ⟨[(4, .p 1 0)], [GT.cells (α := THost) h ph, [slv (([] : List (List Int))).length (GT.pdflt (α := List (List Int))).1, slv (([] : List TGuest)).length (GT.pdflt (α := List TGuest)).1, slv (([] : List Int)).length (GT.pdflt (α := List Int)).1, I 0]]⟩) (.cons (Q_sem (s := Instr.build 60 [].toArray) (v := .agg [slv (([] : List (List Int))).length (GT.pdflt (α := List (List Int))).1, slv (([] : List TGuest)).length (GT.pdflt (α := List TGuest)).1, slv (([] : List Int)).length (GT.pdflt (α := List Int)).1, I 0].toArray) (fun w => by kernel_rfl)) .nil) (by kernel_rfl) ?_
    clear S; intro ac w β S
    refine RG.done rfl (nx_then ?_)
    refine wp_ret (rt_then ?_)
    refine S.ret (vs := [GT.val (α := TBare) (⟨([] : List (List Int)), ([] : List TGuest), ([] : List Int), 0⟩ : TBare) (⟨(GT.pdflt (α := List (List Int))), (GT.pdflt (α := List TGuest)), (GT.pdflt (α := List Int))⟩ : PBare)]) (by kernel_rfl) ?_
    have o48 := S.nilOw (α := List Int)
    have o49 := S.nilOw (α := TGuest)
    have o50 := S.nilOw (α := Int)
    have o51 := ow_Bare (x := (⟨([] : List (List Int)), ([] : List TGuest), ([] : List Int), 0⟩ : TBare)) (p := (⟨(GT.pdflt (α := List (List Int))), (GT.pdflt (α := List TGuest)), (GT.pdflt (α := List Int))⟩ : PBare)) o48 o49 o50 (fun b _ h => False.elim h) (fun b _ h => False.elim h) (fun b _ h => False.elim h) (show In64 0 from ⟨by decide, by decide⟩)
    exact ret1_of S (show f_seenAs h m = (⟨([] : List (List Int)), ([] : List TGuest), ([] : List Int), 0⟩ : TBare) by clear S; (first | (unfold f_seenAs; rw [if_neg (monAt_f (by assumption))]; done) | (unfold f_seenAs; rw [if_pos (monAt_t (by assumption)), monAt_1 (monAt_t (by assumption)), hacc, show i = 8 by omega]))) rfl o51
  · have h52 : (f_monAt h m).2 = true := not_f h46
    refine wp_skip (nx_then ?_)
    refine wp_seq ?_
    refine RG.start ?_
    refine S.quiet (k := 9) (keep := [1, 2, 4, 7]) (m := 4) (σ' := ⟨[(1, .v (I m)), (2, .p 0 0), (4, .p 1 0), (7, .p 3 0)], [GT.cells (α := THost) h ph, [slv (([] : List (List Int))).length (GT.pdflt (α := List (List Int))).1, slv (([] : List TGuest)).length (GT.pdflt (α := List TGuest)).1, slv (([] : List Int)).length (GT.pdflt (α := List Int)).1, I 0], [slv (((f_monAt h m).1).outer).length q1.outer.1, slv (((f_monAt h m).1).out).length q1.out.1, slv (((f_monAt h m).1).dirty).length q1.dirty.1, slv (((f_monAt h m).1).guests).length q1.guests.1, slv (((f_monAt h m).1).outs).length q1.outs.1, I (((f_monAt h m).1).pend), I (((f_monAt h m).1).traps), slv (((f_monAt h m).1).tables).length q1.tables.1, I (((f_monAt h m).1).owned)], [slv (([] : List (List Int))).length (GT.pdflt (α := List (List Int))).1, slv (((f_monAt h m).1).guests).length q1.guests.1, slv (((f_monAt h m).1).outs).length q1.outs.1, I (((f_monAt h m).1).pend)]]⟩) (.cons (Q_sem (s := Instr.build 60 [(1, slv (((f_monAt h m).1).guests).length q1.guests.1), (2, slv (((f_monAt h m).1).outs).length q1.outs.1), (3, I (((f_monAt h m).1).pend))].toArray) (v := .agg [slv (([] : List (List Int))).length (GT.pdflt (α := List (List Int))).1, slv (((f_monAt h m).1).guests).length q1.guests.1, slv (((f_monAt h m).1).outs).length q1.outs.1, I (((f_monAt h m).1).pend)].toArray) (fun w => by kernel_rfl)) .nil) (by kernel_rfl) ?_
    clear S; intro ac w β S
    refine RG.done rfl (nx_then ?_)
    refine wp_seq ?_
    refine wp_seq ?_
    refine RG.start ?_
    refine S.quiet (k := 1) (keep := [1, 2, 4, 7, 8]) (m := 4) (σ' := ⟨[(1, .v (I m)), (2, .p 0 0), (4, .p 1 0), (7, .p 3 0), (8, .v (I 0))], [GT.cells (α := THost) h ph, [slv (([] : List (List Int))).length (GT.pdflt (α := List (List Int))).1, slv (([] : List TGuest)).length (GT.pdflt (α := List TGuest)).1, slv (([] : List Int)).length (GT.pdflt (α := List Int)).1, I 0], [slv (((f_monAt h m).1).outer).length q1.outer.1, slv (((f_monAt h m).1).out).length q1.out.1, slv (((f_monAt h m).1).dirty).length q1.dirty.1, slv (((f_monAt h m).1).guests).length q1.guests.1, slv (((f_monAt h m).1).outs).length q1.outs.1, I (((f_monAt h m).1).pend), I (((f_monAt h m).1).traps), slv (((f_monAt h m).1).tables).length q1.tables.1, I (((f_monAt h m).1).owned)], [slv (([] : List (List Int))).length (GT.pdflt (α := List (List Int))).1, slv (((f_monAt h m).1).guests).length q1.guests.1, slv (((f_monAt h m).1).outs).length q1.outs.1, I (((f_monAt h m).1).pend)]]⟩) .nil (by kernel_rfl) ?_
    clear S; intro ac w β S
    refine RG.done rfl (nx_then ?_)
    refine wp_block ?_
    replace S := S.prune (keep := [1, 2, 4, 7, 8]) (m := 4) (σ' := ⟨[(1, .v (I m)), (2, .p 0 0), (4, .p 1 0), (7, .p 3 0), (8, .v (I 0))], [GT.cells (α := THost) h ph, [slv (([] : List (List Int))).length (GT.pdflt (α := List (List Int))).1, slv (([] : List TGuest)).length (GT.pdflt (α := List TGuest)).1, slv (([] : List Int)).length (GT.pdflt (α := List Int)).1, I 0], [slv (((f_monAt h m).1).outer).length q1.outer.1, slv (((f_monAt h m).1).out).length q1.out.1, slv (((f_monAt h m).1).dirty).length q1.dirty.1, slv (((f_monAt h m).1).guests).length q1.guests.1, slv (((f_monAt h m).1).outs).length q1.outs.1, I (((f_monAt h m).1).pend), I (((f_monAt h m).1).traps), slv (((f_monAt h m).1).tables).length q1.tables.1, I (((f_monAt h m).1).owned)], [slv (([] : List (List Int))).length (GT.pdflt (α := List (List Int))).1, slv (((f_monAt h m).1).guests).length q1.guests.1, slv (((f_monAt h m).1).outs).length q1.outs.1, I (((f_monAt h m).1).pend)]]⟩) (by kernel_rfl)
    have o56 := S.nilOw (α := List Int)
    refine wp_loop_down (fun mm ac w => ∃ (i : Nat) (acc : List (List Int)) (q53 : GT.Ptr (List (List Int))) (F54 : Bl) (u : World) (N : Bl) (β : Nat → Nat), mm = 8 - i ∧ (i ≤ 8) ∧ (acc = (List.range i).map (fun (j : Nat) => f_pageOf h m (j : Int))) ∧ St Go.Proofs.Tryz.prog Go.Proofs.Tryz.f38.ntmps w0 NoB u N β ⟨[(1, .v (I m)), (2, .p 0 0), (4, .p 1 0), (7, .p 3 0), (8, .v (I (i : Int)))], [GT.cells (α := THost) h ph, [slv (([] : List (List Int))).length (GT.pdflt (α := List (List Int))).1, slv (([] : List TGuest)).length (GT.pdflt (α := List TGuest)).1, slv (([] : List Int)).length (GT.pdflt (α := List Int)).1, I 0], [slv (((f_monAt h m).1).outer).length q1.outer.1, slv (((f_monAt h m).1).out).length q1.out.1, slv (((f_monAt h m).1).dirty).length q1.dirty.1, slv (((f_monAt h m).1).guests).length q1.guests.1, slv (((f_monAt h m).1).outs).length q1.outs.1, I (((f_monAt h m).1).pend), I (((f_monAt h m).1).traps), slv (((f_monAt h m).1).tables).length q1.tables.1, I (((f_monAt h m).1).owned)], [slv (acc).length q53.1, slv (((f_monAt h m).1).guests).length q1.guests.1, slv (((f_monAt h m).1).outs).length q1.outs.1, I (((f_monAt h m).1).pend)]]⟩ ac w ∧ Ow w0 NoB u N F54 acc q53 ∧ Ow w0 NoB u N F10 (((f_monAt h m).1).outer) q1.outer ∧ Ow w0 NoB u N F13 (((f_monAt h m).1).out) q1.out ∧ Ow w0 NoB u N F16 (((f_monAt h m).1).dirty) q1.dirty ∧ Ow w0 NoB u N F19 (((f_monAt h m).1).guests) q1.guests ∧ Ow w0 NoB u N F22 (((f_monAt h m).1).outs) q1.outs ∧ Ow w0 NoB u N F27 (((f_monAt h m).1).tables) q1.tables ∧ Disj F54 F10 ∧ Disj F54 F13 ∧ Disj F54 F16 ∧ Disj F54 F19 ∧ Disj F54 F22 ∧ Disj F54 F27) _ ⟨0, ([] : List (List Int)), (GT.pdflt (α := List (List Int))), NoB, _, _, _, rfl, (by first | omega | (simp; done) | (simp; omega)), (by rfl), S.cast (by kernel_rfl), o56, o11, o14, o17, o20, o23, o28, (Disj.symm (fun b _ h => False.elim h)), (Disj.symm (fun b _ h => False.elim h)), (Disj.symm (fun b _ h => False.elim h)), (Disj.symm (fun b _ h => False.elim h)), (Disj.symm (fun b _ h => False.elim h)), (Disj.symm (fun b _ h => False.elim h))⟩ ?_
    clear S o11 o14 o17 o20 o23 o28 o56 o6
    rintro mm ac w ⟨i, acc, q53, F54, u, N, β, rfl, hi, hacc, S, o55, o11, o14, o17, o20, o23, o28, d57, d58, d59, d60, d61, d62⟩
    have hlacc : acc.length = i := by rw [hacc]; simp
    refine wp_seq ?_
    refine wp_seq ?_
    refine RG.start ?_
    refine S.quiet (k := 2) (keep := [1, 2, 4, 7, 8, 26]) (m := 4) (σ' := ⟨[(1, .v (I m)), (2, .p 0 0), (4, .p 1 0), (7, .p 3 0), (8, .v (I (i : Int))), (26, .v (B (decide ((i : Int) < 8))))], [GT.cells (α := THost) h ph, [slv (([] : List (List Int))).length (GT.pdflt (α := List (List Int))).1, slv (([] : List TGuest)).length (GT.pdflt (α := List TGuest)).1, slv (([] : List Int)).length (GT.pdflt (α := List Int)).1, I 0], [slv (((f_monAt h m).1).outer).length q1.outer.1, slv (((f_monAt h m).1).out).length q1.out.1, slv (((f_monAt h m).1).dirty).length q1.dirty.1, slv (((f_monAt h m).1).guests).length q1.guests.1, slv (((f_monAt h m).1).outs).length q1.outs.1, I (((f_monAt h m).1).pend), I (((f_monAt h m).1).traps), slv (((f_monAt h m).1).tables).length q1.tables.1, I (((f_monAt h m).1).owned)], [slv (acc).length q53.1, slv (((f_monAt h m).1).guests).length q1.guests.1, slv (((f_monAt h m).1).outs).length q1.outs.1, I (((f_monAt h m).1).pend)]]⟩) .nil (by kernel_rfl) ?_
    clear S; intro ac w β S
    refine RG.done rfl (nx_then ?_)
    refine S.cond (e := (decide ((i : Int) < 8))) (by kernel_rfl) (fun h63 => ?_) (fun h63 => ?_)
    · have g64 : (i : Int) < 8 := of_decide_eq_true h63
      refine wp_skip (nx_then ?_)
      refine wp_seq ?_
      refine wp_block ?_
      refine S.draw0 (f := 10) 7 rfl rfl ?_
      clear S; intro w S
      refine S.hoist (i := 0) (path := [1, 0]) (keep := [1, 2, 4, 7, 8, 29]) (m := 4) (σ' := ⟨[(1, .v (I m)), (2, .p 0 0), (4, .p 1 0), (7, .p 3 0), (8, .v (I (i : Int))), (29, .p 3 0)], [GT.cells (α := THost) h ph, [slv (([] : List (List Int))).length (GT.pdflt (α := List (List Int))).1, slv (([] : List TGuest)).length (GT.pdflt (α := List TGuest)).1, slv (([] : List Int)).length (GT.pdflt (α := List Int)).1, I 0], [slv (((f_monAt h m).1).outer).length q1.outer.1, slv (((f_monAt h m).1).out).length q1.out.1, slv (((f_monAt h m).1).dirty).length q1.dirty.1, slv (((f_monAt h m).1).guests).length q1.guests.1, slv (((f_monAt h m).1).outs).length q1.outs.1, I (((f_monAt h m).1).pend), I (((f_monAt h m).1).traps), slv (((f_monAt h m).1).tables).length q1.tables.1, I (((f_monAt h m).1).owned)], [slv (acc).length q53.1, slv (((f_monAt h m).1).guests).length q1.guests.1, slv (((f_monAt h m).1).outs).length q1.outs.1, I (((f_monAt h m).1).pend)]]⟩) (by kernel_rfl) (by kernel_rfl) .nil (by kernel_rfl) ?_
      clear S; intro ac S
      refine S.hoist (i := 1) (path := [1]) (keep := [1, 2, 4, 7, 8, 30]) (m := 4) (σ' := ⟨[(1, .v (I m)), (2, .p 0 0), (4, .p 1 0), (7, .p 3 0), (8, .v (I (i : Int))), (30, .v (slv (acc).length q53.1))], [GT.cells (α := THost) h ph, [slv (([] : List (List Int))).length (GT.pdflt (α := List (List Int))).1, slv (([] : List TGuest)).length (GT.pdflt (α := List TGuest)).1, slv (([] : List Int)).length (GT.pdflt (α := List Int)).1, I 0], [slv (((f_monAt h m).1).outer).length q1.outer.1, slv (((f_monAt h m).1).out).length q1.out.1, slv (((f_monAt h m).1).dirty).length q1.dirty.1, slv (((f_monAt h m).1).guests).length q1.guests.1, slv (((f_monAt h m).1).outs).length q1.outs.1, I (((f_monAt h m).1).pend), I (((f_monAt h m).1).traps), slv (((f_monAt h m).1).tables).length q1.tables.1, I (((f_monAt h m).1).owned)], [slv (acc).length q53.1, slv (((f_monAt h m).1).guests).length q1.guests.1, slv (((f_monAt h m).1).outs).length q1.outs.1, I (((f_monAt h m).1).pend)]]⟩) (by kernel_rfl) (by kernel_rfl) .nil (by kernel_rfl) ?_
      clear S; intro ac S
      refine S.hoist (i := 2) (path := [5, 2]) (keep := [1, 2, 4, 7, 8, 30, 31]) (m := 4) (σ' := ⟨[(1, .v (I m)), (2, .p 0 0), (4, .p 1 0), (7, .p 3 0), (8, .v (I (i : Int))), (30, .v (slv (acc).length q53.1)), (31, .v (GT.val (α := THost) h ph))], [GT.cells (α := THost) h ph, [slv (([] : List (List Int))).length (GT.pdflt (α := List (List Int))).1, slv (([] : List TGuest)).length (GT.pdflt (α := List TGuest)).1, slv (([] : List Int)).length (GT.pdflt (α := List Int)).1, I 0], [slv (((f_monAt h m).1).outer).length q1.outer.1, slv (((f_monAt h m).1).out).length q1.out.1, slv (((f_monAt h m).1).dirty).length q1.dirty.1, slv (((f_monAt h m).1).guests).length q1.guests.1, slv (((f_monAt h m).1).outs).length q1.outs.1, I (((f_monAt h m).1).pend), I (((f_monAt h m).1).traps), slv (((f_monAt h m).1).tables).length q1.tables.1, I (((f_monAt h m).1).owned)], [slv (acc).length q53.1, slv (((f_monAt h m).1).guests).length q1.guests.1, slv (((f_monAt h m).1).outs).length q1.outs.1, I (((f_monAt h m).1).pend)]]⟩) (by kernel_rfl) (by kernel_rfl) .nil (by kernel_rfl) ?_
      clear S; intro ac S
      refine S.hoist (i := 3) (path := [5, 3]) (keep := [1, 2, 4, 7, 8, 30, 31, 32]) (m := 4) (σ' := ⟨[(1, .v (I m)), (2, .p 0 0), (4, .p 1 0), (7, .p 3 0), (8, .v (I (i : Int))), (30, .v (slv (acc).length q53.1)), (31, .v (GT.val (α := THost) h ph)), (32, .v (I m))], [GT.cells (α := THost) h ph, [slv (([] : List (List Int))).length (GT.pdflt (α := List (List Int))).1, slv (([] : List TGuest)).length (GT.pdflt (α := List TGuest)).1, slv (([] : List Int)).length (GT.pdflt (α := List Int)).1, I 0], [slv (((f_monAt h m).1).outer).length q1.outer.1, slv (((f_monAt h m).1).out).length q1.out.1, slv (((f_monAt h m).1).dirty).length q1.dirty.1, slv (((f_monAt h m).1).guests).length q1.guests.1, slv (((f_monAt h m).1).outs).length q1.outs.1, I (((f_monAt h m).1).pend), I (((f_monAt h m).1).traps), slv (((f_monAt h m).1).tables).length q1.tables.1, I (((f_monAt h m).1).owned)], [slv (acc).length q53.1, slv (((f_monAt h m).1).guests).length q1.guests.1, slv (((f_monAt h m).1).outs).length q1.outs.1, I (((f_monAt h m).1).pend)]]⟩) (by kernel_rfl) (by kernel_rfl) .nil (by kernel_rfl) ?_
      clear S; intro ac S
      refine S.hoist (i := 4) (path := [5, 4]) (keep := [1, 2, 4, 7, 8, 30, 31, 32, 33]) (m := 4) (σ' := ⟨[(1, .v (I m)), (2, .p 0 0), (4, .p 1 0), (7, .p 3 0), (8, .v (I (i : Int))), (30, .v (slv (acc).length q53.1)), (31, .v (GT.val (α := THost) h ph)), (32, .v (I m)), (33, .v (I (i : Int)))], [GT.cells (α := THost) h ph, [slv (([] : List (List Int))).length (GT.pdflt (α := List (List Int))).1, slv (([] : List TGuest)).length (GT.pdflt (α := List TGuest)).1, slv (([] : List Int)).length (GT.pdflt (α := List Int)).1, I 0], [slv (((f_monAt h m).1).outer).length q1.outer.1, slv (((f_monAt h m).1).out).length q1.out.1, slv (((f_monAt h m).1).dirty).length q1.dirty.1, slv (((f_monAt h m).1).guests).length q1.guests.1, slv (((f_monAt h m).1).outs).length q1.outs.1, I (((f_monAt h m).1).pend), I (((f_monAt h m).1).traps), slv (((f_monAt h m).1).tables).length q1.tables.1, I (((f_monAt h m).1).owned)], [slv (acc).length q53.1, slv (((f_monAt h m).1).guests).length q1.guests.1, slv (((f_monAt h m).1).outs).length q1.outs.1, I (((f_monAt h m).1).pend)]]⟩) (by kernel_rfl) (by kernel_rfl) .nil (by kernel_rfl) ?_
      clear S; intro ac S
      refine WD.one (i := 5) (by kernel_rfl) ?_
      refine id (S.call1 (r := f_pageOf h m (i : Int)) (d := 34) (c_impl_PageOf w h ph (S.rd (S.arg hh)) m (i : Int)) (by kernel_rfl) rfl ?_)
      clear S; intro ac w N q65 F66 S up o67 d68
      refine WD.next S up rfl ?_
      have d69 : Disj F54 F66 := fun b x y => d68 b (o55.sub b x) y
      have d70 : Disj F10 F66 := fun b x y => d68 b (o11.sub b x) y
      have d71 : Disj F13 F66 := fun b x y => d68 b (o14.sub b x) y
      have d72 : Disj F16 F66 := fun b x y => d68 b (o17.sub b x) y
      have d73 : Disj F19 F66 := fun b x y => d68 b (o20.sub b x) y
      have d74 : Disj F22 F66 := fun b x y => d68 b (o23.sub b x) y
      have d75 : Disj F27 F66 := fun b x y => d68 b (o28.sub b x) y
      replace o55 := o55.up up
      replace o11 := o11.up up
      replace o14 := o14.up up
      replace o17 := o17.up up
      replace o20 := o20.up up
      replace o23 := o23.up up
      replace o28 := o28.up up
      clear up d68
      refine WD.one (i := 6) (by kernel_rfl) ?_
      refine id (S.bs1 (α := List Int) (x := (f_pageOf h m (i : Int))) (p := q65) o67.own o67.sub o67.young (d := 35) (by kernel_rfl) ?_)
      clear S; intro ac w N q76 F77 S up o78 d79
      refine WD.next S up rfl ?_
      have d80 : Disj F54 F77 := d79 _ d69 o55.sub
      have d81 : Disj F10 F77 := d79 _ d70 o11.sub
      have d82 : Disj F13 F77 := d79 _ d71 o14.sub
      have d83 : Disj F16 F77 := d79 _ d72 o17.sub
      have d84 : Disj F19 F77 := d79 _ d73 o20.sub
      have d85 : Disj F22 F77 := d79 _ d74 o23.sub
      have d86 : Disj F27 F77 := d79 _ d75 o28.sub
      replace o55 := o55.up up
      replace o11 := o11.up up
      replace o14 := o14.up up
      replace o17 := o17.up up
      replace o20 := o20.up up
      replace o23 := o23.up up
      replace o28 := o28.up up
      clear up d79
      refine WD.one (i := 7) (by kernel_rfl) ?_
      refine id (S.appOwn (α := List Int) o55 o78 d80 (by' := 24) (d := 36) (lx := (acc).length) (ly := 1) rfl rfl (by kernel_rfl) (show _ ≤ 4194304 by simp only [List.length_append, List.length_cons, List.length_nil]; omega) ?_)
      clear S; intro ac w N q87 F88 S up o89 d90
      refine WD.last (by kernel_rfl) ?_
      have d91 : Disj F10 F88 := d90 _ (Disj.symm d57) d81 o11.sub
      have d92 : Disj F13 F88 := d90 _ (Disj.symm d58) d82 o14.sub
      have d93 : Disj F16 F88 := d90 _ (Disj.symm d59) d83 o17.sub
      have d94 : Disj F19 F88 := d90 _ (Disj.symm d60) d84 o20.sub
      have d95 : Disj F22 F88 := d90 _ (Disj.symm d61) d85 o23.sub
      have d96 : Disj F27 F88 := d90 _ (Disj.symm d62) d86 o28.sub
      replace o11 := o11.upF (Disj.symm d57) up
      replace o14 := o14.upF (Disj.symm d58) up
      replace o17 := o17.upF (Disj.symm d59) up
      replace o20 := o20.upF (Disj.symm d60) up
      replace o23 := o23.upF (Disj.symm d61) up
      replace o28 := o28.upF (Disj.symm d62) up
      clear up d90
      refine WD.one (i := 8) (by kernel_rfl) ?_
      refine S.stepq (i := 8) (keep := [1, 2, 4, 7, 8, 36, 37]) (m := 4) (σ' := ⟨[(1, .v (I m)), (2, .p 0 0), (4, .p 1 0), (7, .p 3 0), (8, .v (I (i : Int))), (36, .v (slv ((acc ++ [(f_pageOf h m (i : Int))])).length q87.1)), (37, .p 3 0)], [GT.cells (α := THost) h ph, [slv (([] : List (List Int))).length (GT.pdflt (α := List (List Int))).1, slv (([] : List TGuest)).length (GT.pdflt (α := List TGuest)).1, slv (([] : List Int)).length (GT.pdflt (α := List Int)).1, I 0], [slv (((f_monAt h m).1).outer).length q1.outer.1, slv (((f_monAt h m).1).out).length q1.out.1, slv (((f_monAt h m).1).dirty).length q1.dirty.1, slv (((f_monAt h m).1).guests).length q1.guests.1, slv (((f_monAt h m).1).outs).length q1.outs.1, I (((f_monAt h m).1).pend), I (((f_monAt h m).1).traps), slv (((f_monAt h m).1).tables).length q1.tables.1, I (((f_monAt h m).1).owned)], [slv (acc).length q53.1, slv (((f_monAt h m).1).guests).length q1.guests.1, slv (((f_monAt h m).1).outs).length q1.outs.1, I (((f_monAt h m).1).pend)]]⟩) .nil (by kernel_rfl) ?_
      clear S; intro ac w β S hβ
      refine WD.last (by kernel_rfl) ?_
      clear hβ
      refine WD.one (i := 9) (by kernel_rfl) ?_
      refine S.stepq (i := 9) (keep := [1, 2, 4, 7, 8]) (m := 4) (σ' := ⟨[(1, .v (I m)), (2, .p 0 0), (4, .p 1 0), (7, .p 3 0), (8, .v (I (i : Int)))], [GT.cells (α := THost) h ph, [slv (([] : List (List Int))).length (GT.pdflt (α := List (List Int))).1, slv (([] : List TGuest)).length (GT.pdflt (α := List TGuest)).1, slv (([] : List Int)).length (GT.pdflt (α := List Int)).1, I 0], [slv (((f_monAt h m).1).outer).length q1.outer.1, slv (((f_monAt h m).1).out).length q1.out.1, slv (((f_monAt h m).1).dirty).length q1.dirty.1, slv (((f_monAt h m).1).guests).length q1.guests.1, slv (((f_monAt h m).1).outs).length q1.outs.1, I (((f_monAt h m).1).pend), I (((f_monAt h m).1).traps), slv (((f_monAt h m).1).tables).length q1.tables.1, I (((f_monAt h m).1).owned)], [slv ((acc ++ [(f_pageOf h m (i : Int))])).length q87.1, slv (((f_monAt h m).1).guests).length q1.guests.1, slv (((f_monAt h m).1).outs).length q1.outs.1, I (((f_monAt h m).1).pend)]]⟩) .nil (by kernel_rfl) ?_
      clear S; intro ac w β S hβ
      refine WD.last (by kernel_rfl) ?_
      clear hβ
      refine WD.done (by kernel_rfl) ?_ _
      replace S := S.prune (keep := [1, 2, 4, 7, 8]) (m := 4) (σ' := ⟨[(1, .v (I m)), (2, .p 0 0), (4, .p 1 0), (7, .p 3 0), (8, .v (I (i : Int)))], [GT.cells (α := THost) h ph, [slv (([] : List (List Int))).length (GT.pdflt (α := List (List Int))).1, slv (([] : List TGuest)).length (GT.pdflt (α := List TGuest)).1, slv (([] : List Int)).length (GT.pdflt (α := List Int)).1, I 0], [slv (((f_monAt h m).1).outer).length q1.outer.1, slv (((f_monAt h m).1).out).length q1.out.1, slv (((f_monAt h m).1).dirty).length q1.dirty.1, slv (((f_monAt h m).1).guests).length q1.guests.1, slv (((f_monAt h m).1).outs).length q1.outs.1, I (((f_monAt h m).1).pend), I (((f_monAt h m).1).traps), slv (((f_monAt h m).1).tables).length q1.tables.1, I (((f_monAt h m).1).owned)], [slv ((acc ++ [(f_pageOf h m (i : Int))])).length q87.1, slv (((f_monAt h m).1).guests).length q1.guests.1, slv (((f_monAt h m).1).outs).length q1.outs.1, I (((f_monAt h m).1).pend)]]⟩) (by kernel_rfl)
      refine id (nx_block (nx_then ?_))
      refine RG.start ?_
      refine S.quiet (k := 3) (keep := [1, 2, 4, 7, 8]) (m := 4) (σ' := ⟨[(1, .v (I m)), (2, .p 0 0), (4, .p 1 0), (7, .p 3 0), (8, .v (I ((i : Int) + 1)))], [GT.cells (α := THost) h ph, [slv (([] : List (List Int))).length (GT.pdflt (α := List (List Int))).1, slv (([] : List TGuest)).length (GT.pdflt (α := List TGuest)).1, slv (([] : List Int)).length (GT.pdflt (α := List Int)).1, I 0], [slv (((f_monAt h m).1).outer).length q1.outer.1, slv (((f_monAt h m).1).out).length q1.out.1, slv (((f_monAt h m).1).dirty).length q1.dirty.1, slv (((f_monAt h m).1).guests).length q1.guests.1, slv (((f_monAt h m).1).outs).length q1.outs.1, I (((f_monAt h m).1).pend), I (((f_monAt h m).1).traps), slv (((f_monAt h m).1).tables).length q1.tables.1, I (((f_monAt h m).1).owned)], [slv ((acc ++ [(f_pageOf h m (i : Int))])).length q87.1, slv (((f_monAt h m).1).guests).length q1.guests.1, slv (((f_monAt h m).1).outs).length q1.outs.1, I (((f_monAt h m).1).pend)]]⟩) (.cons (Q_add (x := (i : Int)) (y := 1) ⟨by omega, by omega⟩) .nil) (by kernel_rfl) ?_
      clear S; intro ac w β S
      refine RG.done rfl (nx_then ?_)
      replace S := S.prune (keep := [1, 2, 4, 7, 8]) (m := 4) (σ' := ⟨[(1, .v (I m)), (2, .p 0 0), (4, .p 1 0), (7, .p 3 0), (8, .v (I ((i : Int) + 1)))], [GT.cells (α := THost) h ph, [slv (([] : List (List Int))).length (GT.pdflt (α := List (List Int))).1, slv (([] : List TGuest)).length (GT.pdflt (α := List TGuest)).1, slv (([] : List Int)).length (GT.pdflt (α := List Int)).1, I 0], [slv (((f_monAt h m).1).outer).length q1.outer.1, slv (((f_monAt h m).1).out).length q1.out.1, slv (((f_monAt h m).1).dirty).length q1.dirty.1, slv (((f_monAt h m).1).guests).length q1.guests.1, slv (((f_monAt h m).1).outs).length q1.outs.1, I (((f_monAt h m).1).pend), I (((f_monAt h m).1).traps), slv (((f_monAt h m).1).tables).length q1.tables.1, I (((f_monAt h m).1).owned)], [slv ((acc ++ [(f_pageOf h m (i : Int))])).length q87.1, slv (((f_monAt h m).1).guests).length q1.guests.1, slv (((f_monAt h m).1).outs).length q1.outs.1, I (((f_monAt h m).1).pend)]]⟩) (by kernel_rfl)
      refine ⟨8 - (i + 1), by omega, i + 1, (acc ++ [(f_pageOf h m (i : Int))]), q87, F88, _, _, _, rfl, ?_, ?_, S.cast (by kernel_rfl), o89, o11, o14, o17, o20, o23, o28, (Disj.symm d91), (Disj.symm d92), (Disj.symm d93), (Disj.symm d94), (Disj.symm d95), (Disj.symm d96)⟩
      · clear S; first | omega | (simp [*]; done) | (simp [*]; omega)
      · clear S; (rw [rmap_step, ← hacc])
    · have g97 : ¬ ((i : Int) < 8) := of_decide_eq_false h63
      refine wp_exit (ex_then (ex_then (ex_hit (nx_then ?_))))
      refine wp_seq ?_
      refine RG.start ?_
      refine S.quiet (k := 2) (keep := [4]) (m := 2) (σ' := ⟨[(4, .p 1 0)], [GT.cells (α := THost) h ph, [slv (acc).length q53.1, slv (((f_monAt h m).1).guests).length q1.guests.1, slv (((f_monAt h m).1).outs).length q1.outs.1, I (((f_monAt h m).1).pend)]]⟩) .nil (by kernel_rfl) ?_
      clear S; intro ac w β S
      refine RG.done rfl (nx_then ?_)
      refine wp_ret ?_
      refine S.ret (vs := [GT.val (α := TBare) (⟨acc, ((f_monAt h m).1).guests, ((f_monAt h m).1).outs, ((f_monAt h m).1).pend⟩ : TBare) (⟨q53, q1.guests, q1.outs⟩ : PBare)]) (by kernel_rfl) ?_
      have o98 := ow_Bare (x := (⟨acc, ((f_monAt h m).1).guests, ((f_monAt h m).1).outs, ((f_monAt h m).1).pend⟩ : TBare)) (p := (⟨q53, q1.guests, q1.outs⟩ : PBare)) o55 o20 o23 d60 d61 d43 i25
      exact ret1_of S (show f_seenAs h m = (⟨acc, ((f_monAt h m).1).guests, ((f_monAt h m).1).outs, ((f_monAt h m).1).pend⟩ : TBare) by clear S; (first | (unfold f_seenAs; rw [if_neg (monAt_f (by assumption))]; done) | (unfold f_seenAs; rw [if_pos (monAt_t (by assumption)), monAt_1 (monAt_t (by assumption)), hacc, show i = 8 by omega]))) rfl o98

set_option maxRecDepth 100000 in
theorem c_impl_AllSeenAs (w0 : World) (h : THost) (ph : PHost) (hh : GT.rd KK (Lt w0.heap.size) w0 h ph) : Calls Go.Proofs.Tryz.prog 22 [GT.val (α := THost) h ph].toArray w0 (Ret1 NoB w0 (f_allSeenAs h : List TBare)) := by
  refine Calls.walk (args := [GT.val (α := THost) h ph]) NoB Go.Proofs.Tryz.func22 rfl rfl ?_
  intro ac β S
  have hleh_mem : h.mem.length ≤ 4194304 := LRd.le (RHost.mem (d := h) hh)
  have hleh_mons : h.mons.length ≤ 4194304 := LRd.le (RHost.mons (d := h) hh)
  have hleh_buf : h.buf.length ≤ 4194304 := LRd.le (RHost.buf (d := h) hh)
  have hleh_iobuf : h.iobuf.length ≤ 4194304 := LRd.le (RHost.iobuf (d := h) hh)
  refine wp_seq ?_
  refine RG.start ?_
  refine S.quiet (k := 2) (keep := [1]) (m := 1) (σ' := ⟨[(1, .p 0 0)], [GT.cells (α := THost) h ph]⟩) .nil (by kernel_rfl) ?_
  clear S; intro ac w β S
  refine RG.done rfl (nx_then ?_)
  refine wp_seq ?_
  refine RG.start ?_
  refine RG.op rfl (S.bs0 (α := TBare) (d := 5) (by kernel_rfl) ?_)
  clear S; intro ac w N q1 F2 S up o3 d4
  clear up d4
  refine S.quiet (k := 1) (keep := [1, 3]) (m := 1) (σ' := ⟨[(1, .p 0 0), (3, .v (slv 0 q1.1))], [GT.cells (α := THost) h ph]⟩) .nil (by kernel_rfl) ?_
  clear S; intro ac w β S
  refine RG.done rfl (nx_then ?_)
  refine wp_seq ?_
  refine wp_seq ?_
  refine RG.start ?_
  refine S.quiet (k := 4) (keep := [1, 3, 8, 9]) (m := 1) (σ' := ⟨[(1, .p 0 0), (3, .v (slv 0 q1.1)), (8, .v (I ((h.mons).length : Int))), (9, .v (I 0))], [GT.cells (α := THost) h ph]⟩) .nil (by kernel_rfl) ?_
  clear S; intro ac w β S
  refine RG.done rfl (nx_then ?_)
  refine wp_block ?_
  replace S := S.prune (keep := [1, 3, 8, 9]) (m := 1) (σ' := ⟨[(1, .p 0 0), (3, .v (slv 0 q1.1)), (8, .v (I ((h.mons).length : Int))), (9, .v (I 0))], [GT.cells (α := THost) h ph]⟩) (by kernel_rfl)
  refine wp_loop_down (fun mm ac w => ∃ (i : Nat) (acc : List TBare) (q5 : GT.Ptr (List TBare)) (F6 : Bl) (u : World) (N : Bl) (β : Nat → Nat), mm = h.mons.length - i ∧ (i ≤ h.mons.length) ∧ (acc = (List.range i).map (fun (j : Nat) => f_seenAs h (j : Int))) ∧ St Go.Proofs.Tryz.prog Go.Proofs.Tryz.f22.ntmps w0 NoB u N β ⟨[(1, .p 0 0), (3, .v (slv (acc).length q5.1)), (8, .v (I ((h.mons).length : Int))), (9, .v (I (i : Int)))], [GT.cells (α := THost) h ph]⟩ ac w ∧ Ow w0 NoB u N F6 acc q5) _ ⟨0, ([] : List TBare), q1, F2, _, _, _, rfl, (by first | omega | (simp; done) | (simp; omega)), (by rfl), S.cast (by kernel_rfl), o3⟩ ?_
  clear S o3
  rintro mm ac w ⟨i, acc, q5, F6, u, N, β, rfl, hi, hacc, S, o7⟩
  have hlacc : acc.length = i := by rw [hacc]; simp
  refine wp_seq ?_
  refine RG.start ?_
  refine S.quiet (k := 1) (keep := [1, 3, 8, 9, 10]) (m := 1) (σ' := ⟨[(1, .p 0 0), (3, .v (slv (acc).length q5.1)), (8, .v (I ((h.mons).length : Int))), (9, .v (I (i : Int))), (10, .v (B (decide ((i : Int) < ((h.mons).length : Int)))))], [GT.cells (α := THost) h ph]⟩) .nil (by kernel_rfl) ?_
  clear S; intro ac w β S
  refine RG.done rfl (nx_then ?_)
  refine wp_seq ?_
  refine S.cond (e := (decide ((i : Int) < ((h.mons).length : Int)))) (by kernel_rfl) (fun h8 => ?_) (fun h8 => ?_)
  · have g9 : (i : Int) < ((h.mons).length : Int) := of_decide_eq_true h8
    refine wp_skip (nx_then ?_)
    refine wp_seq ?_
    refine wp_block ?_
    refine wp_seq ?_
    refine RG.start ?_
    refine S.quiet (k := 2) (keep := [1, 3, 4, 8, 9]) (m := 1) (σ' := ⟨[(1, .p 0 0), (3, .v (slv (acc).length q5.1)), (4, .v (I (i : Int))), (8, .v (I ((h.mons).length : Int))), (9, .v (I (i : Int)))], [GT.cells (α := THost) h ph]⟩) .nil (by kernel_rfl) ?_
    clear S; intro ac w β S
    refine RG.done rfl (nx_then ?_)
    refine RG.start ?_
    refine S.quiet (k := 3) (keep := [1, 8, 9, 12, 13, 14]) (m := 1) (σ' := ⟨[(1, .p 0 0), (8, .v (I ((h.mons).length : Int))), (9, .v (I (i : Int))), (12, .v (slv (acc).length q5.1)), (13, .v (GT.val (α := THost) h ph)), (14, .v (I (i : Int)))], [GT.cells (α := THost) h ph]⟩) .nil (by kernel_rfl) ?_
    clear S; intro ac w β S
    refine RG.op rfl (S.call1 (r := f_seenAs h (i : Int)) (d := 15) (c_impl_SeenAs w h ph (S.rd (S.arg hh)) (i : Int)) (by kernel_rfl) rfl ?_)
    clear S; intro ac w N q10 F11 S up o12 d13
    have d14 : Disj F6 F11 := fun b x y => d13 b (o7.sub b x) y
    replace o7 := o7.up up
    clear up d13
    have i24 : In64 (f_seenAs h (i : Int)).pend := RBare.pend (d := (f_seenAs h (i : Int))) o12.rn
    obtain ⟨F15, F18, F21, o16, o19, o22, s17, s20, s23, d25, d26, d27⟩ := sp_Bare o12
    have o32 := ow_Bare (x := (f_seenAs h (i : Int))) (p := q10) o16 o19 o22 d25 d26 d27 i24
    refine RG.op rfl (S.bs1 (α := TBare) (x := (f_seenAs h (i : Int))) (p := q10) o32.own o32.sub o32.young (d := 16) (by kernel_rfl) ?_)
    clear S; intro ac w N q28 F29 S up o30 d31
    have d33 : Disj F6 F29 := d31 _ (Disj.symm (Disj.or (Disj.part (Disj.symm d14) s17) (Disj.or (Disj.part (Disj.symm d14) s20) (Disj.or (Disj.part (Disj.symm d14) s23) Disj.nob)))) o7.sub
    replace o7 := o7.up up
    clear up d31
    refine RG.op rfl (S.appOwn (α := TBare) o7 o30 d33 (by' := 80) (d := 17) (lx := (acc).length) (ly := 1) rfl rfl (by kernel_rfl) (show _ ≤ 4194304 by simp only [List.length_append, List.length_cons, List.length_nil]; omega) ?_)
    clear S; intro ac w N q34 F35 S up o36 d37
    clear up d37
    refine S.quiet (k := 1) (keep := [1, 3, 8, 9]) (m := 1) (σ' := ⟨[(1, .p 0 0), (3, .v (slv ((acc ++ [(f_seenAs h (i : Int))])).length q34.1)), (8, .v (I ((h.mons).length : Int))), (9, .v (I (i : Int)))], [GT.cells (α := THost) h ph]⟩) .nil (by kernel_rfl) ?_
    clear S; intro ac w β S
    refine RG.done rfl (nx_block (nx_then ?_))
    refine RG.start ?_
    refine S.quiet (k := 2) (keep := [1, 3, 8, 9]) (m := 1) (σ' := ⟨[(1, .p 0 0), (3, .v (slv ((acc ++ [(f_seenAs h (i : Int))])).length q34.1)), (8, .v (I ((h.mons).length : Int))), (9, .v (I ((i : Int) + 1)))], [GT.cells (α := THost) h ph]⟩) (.cons (Q_add (x := (i : Int)) (y := 1) ⟨by omega, by omega⟩) .nil) (by kernel_rfl) ?_
    clear S; intro ac w β S
    refine RG.done rfl (nx_then ?_)
    replace S := S.prune (keep := [1, 3, 8, 9]) (m := 1) (σ' := ⟨[(1, .p 0 0), (3, .v (slv ((acc ++ [(f_seenAs h (i : Int))])).length q34.1)), (8, .v (I ((h.mons).length : Int))), (9, .v (I ((i : Int) + 1)))], [GT.cells (α := THost) h ph]⟩) (by kernel_rfl)
    refine ⟨h.mons.length - (i + 1), by omega, i + 1, (acc ++ [(f_seenAs h (i : Int))]), q34, F35, _, _, _, rfl, ?_, ?_, S.cast (by kernel_rfl), o36⟩
    · clear S; first | omega | (simp [*]; done) | (simp [*]; omega)
    · clear S; (rw [rmap_step, ← hacc])
  · have g38 : ¬ ((i : Int) < ((h.mons).length : Int)) := of_decide_eq_false h8
    refine wp_exit (ex_then (ex_then (ex_hit (nx_then ?_))))
    refine wp_seq ?_
    refine RG.start ?_
    refine S.quiet (k := 2) (keep := [2]) (m := 0) (σ' := ⟨[(2, .v (slv (acc).length q5.1))], []⟩) .nil (by kernel_rfl) ?_
    clear S; intro ac w β S
    refine RG.done rfl (nx_then ?_)
    refine wp_ret ?_
    refine S.ret (vs := [slv (acc).length q5.1]) (by kernel_rfl) ?_
    exact ret1_of S (show f_allSeenAs h = acc by clear S; (unfold f_allSeenAs; rw [hacc, show h.mons.length = i by omega])) rfl o7

set_option maxRecDepth 100000 in
theorem c_slices_Equal___int_int_ (w0 : World) (a : List Int) (pa : LP Int) (ha : GT.rd KK (Lt w0.heap.size) w0 a pa) (b : List Int) (pb : LP Int) (hb : GT.rd KK (Lt w0.heap.size) w0 b pb) : Calls Go.Proofs.Tryz.prog 52 [slv (a).length pa.1, slv (b).length pb.1].toArray w0 (fun e w' => e = .returned (B (decide (a = b))) ∧ Chg NoB w0 w') := by
  refine Calls.walk (args := [slv (a).length pa.1, slv (b).length pb.1]) NoB Go.Proofs.Tryz.func52 rfl rfl ?_
  intro ac β S
  have hlea : a.length ≤ 4194304 := LRd.le ha
  have hleb : b.length ≤ 4194304 := LRd.le hb
  refine wp_seq ?_
  refine RG.start ?_
  refine S.quiet (k := 1) (keep := [0, 1]) (m := 0) (σ' := ⟨[(0, .v (slv (a).length pa.1)), (1, .v (slv (b).length pb.1))], []⟩) .nil (by kernel_rfl) ?_
  clear S; intro ac w β S
  refine RG.done rfl (nx_then ?_)
  refine wp_seq ?_
  refine wp_seq ?_
  refine RG.start ?_
  refine S.quiet (k := 5) (keep := [0, 1, 10]) (m := 0) (σ' := ⟨[(0, .v (slv (a).length pa.1)), (1, .v (slv (b).length pb.1)), (10, .v (B (((a).length : Int) != ((b).length : Int))))], []⟩) .nil (by kernel_rfl) ?_
  clear S; intro ac w β S
  refine RG.done rfl (nx_then ?_)
  refine S.cond (e := (((a).length : Int) != ((b).length : Int))) (by kernel_rfl) (fun h1 => ?_) (fun h1 => ?_)
  · have g2 : ¬ (((a).length : Int) = ((b).length : Int)) := bne_iff_ne.1 h1
    refine wp_seq ?_
    refine RG.start ?_
    refine S.quiet (k := 1) (keep := [4]) (m := 0) (σ' := ⟨[(4, .v (B false))], []⟩) .nil (by kernel_rfl) ?_
    clear S; intro ac w β S
    refine RG.done rfl (nx_then ?_)
    refine wp_ret (rt_then ?_)
    refine S.ret (vs := [B false]) (by kernel_rfl) ?_
    exact ⟨retB (show false = decide (a = b) by clear S; first | (simp; intro e; subst e; simp_all; done) | (simp; rw [take_all (by omega), take_all (by omega)] at he; exact he) | (simp; exact take_ne (by simp_all)) | (symm; exact decide_eq_false (take_ne (by assumption))) | (symm; exact decide_eq_true (by rw [take_all (by omega), take_all (by omega)] at he; exact he)) | (symm; refine decide_eq_false ?_; intro e; rw [e] at *; omega)), S.chg⟩
  · have g3 : ((a).length : Int) = ((b).length : Int) := ne_f h1
    refine wp_skip (nx_then ?_)
    refine wp_seq ?_
    refine wp_seq ?_
    refine RG.start ?_
    refine S.quiet (k := 3) (keep := [0, 1, 12, 13]) (m := 0) (σ' := ⟨[(0, .v (slv (a).length pa.1)), (1, .v (slv (b).length pb.1)), (12, .v (I ((a).length : Int))), (13, .v (I 0))], []⟩) .nil (by kernel_rfl) ?_
    clear S; intro ac w β S
    refine RG.done rfl (nx_then ?_)
    refine wp_block ?_
    replace S := S.prune (keep := [0, 1, 12, 13]) (m := 0) (σ' := ⟨[(0, .v (slv (a).length pa.1)), (1, .v (slv (b).length pb.1)), (12, .v (I ((a).length : Int))), (13, .v (I 0))], []⟩) (by kernel_rfl)
    refine wp_loop_down (fun mm ac w => ∃ (k : Nat)  (u : World) (N : Bl) (β : Nat → Nat), mm = a.length - k ∧ (k ≤ a.length) ∧ (a.length = b.length) ∧ (a.take k = b.take k) ∧ St Go.Proofs.Tryz.prog Go.Proofs.Tryz.f52.ntmps w0 NoB u N β ⟨[(0, .v (slv (a).length pa.1)), (1, .v (slv (b).length pb.1)), (12, .v (I ((a).length : Int))), (13, .v (I (k : Int)))], []⟩ ac w) _ ⟨0, _, _, _, rfl, (by first | omega | (simp; done) | (simp; omega)), (by first | omega | (simp; done) | (simp; omega)), (by simp), S.cast (by kernel_rfl)⟩ ?_
    clear S
    rintro mm ac w ⟨k, u, N, β, rfl, hk, hab, he, S⟩
    refine wp_seq ?_
    refine RG.start ?_
    refine S.quiet (k := 1) (keep := [0, 1, 12, 13, 14]) (m := 0) (σ' := ⟨[(0, .v (slv (a).length pa.1)), (1, .v (slv (b).length pb.1)), (12, .v (I ((a).length : Int))), (13, .v (I (k : Int))), (14, .v (B (decide ((k : Int) < ((a).length : Int)))))], []⟩) .nil (by kernel_rfl) ?_
    clear S; intro ac w β S
    refine RG.done rfl (nx_then ?_)
    refine wp_seq ?_
    refine S.cond (e := (decide ((k : Int) < ((a).length : Int)))) (by kernel_rfl) (fun h4 => ?_) (fun h4 => ?_)
    · have g5 : (k : Int) < ((a).length : Int) := of_decide_eq_true h4
      refine wp_skip (nx_then ?_)
      refine wp_seq ?_
      refine wp_block ?_
      refine wp_seq ?_
      refine RG.start ?_
      refine S.quiet (k := 2) (keep := [0, 1, 5, 12, 13]) (m := 0) (σ' := ⟨[(0, .v (slv (a).length pa.1)), (1, .v (slv (b).length pb.1)), (5, .v (I (k : Int))), (12, .v (I ((a).length : Int))), (13, .v (I (k : Int)))], []⟩) .nil (by kernel_rfl) ?_
      clear S; intro ac w β S
      refine RG.done rfl (nx_then ?_)
      refine wp_seq ?_
      refine S.drawn (keep := [0, 1, 12, 13, 24]) (m := 0) (σ' := ⟨[(0, .v (slv (a).length pa.1)), (1, .v (slv (b).length pb.1)), (12, .v (I ((a).length : Int))), (13, .v (I (k : Int))), (24, .v (B ((el a k) != (el b k))))], []⟩) (.cons (Q_idx (S.arg ha) (l := (a).length) (k := k) (i := (k : Int)) rfl rfl (by omega) Go.Proofs.Tryz.underlying54 (by kernel_rfl)) (.cons (Q_el1 (S.arg ha) (t := 3) (k := k) (by omega) rfl (by kernel_rfl)) (.cons (Q_idx (S.arg hb) (l := (b).length) (k := k) (i := (k : Int)) rfl rfl (by omega) Go.Proofs.Tryz.underlying54 (by kernel_rfl)) (.cons (Q_el1 (S.arg hb) (t := 3) (k := k) (by omega) rfl (by kernel_rfl)) .nil)))) rfl (by kernel_rfl) (by kernel_rfl) ?_
      clear S; intro ac w S
      refine id (nx_then ?_)
      refine S.cond (e := ((el a k) != (el b k))) (by kernel_rfl) (fun h6 => ?_) (fun h6 => ?_)
      · have g7 : ¬ ((el a k) = (el b k)) := bne_iff_ne.1 h6
        refine wp_seq ?_
        refine RG.start ?_
        refine S.quiet (k := 1) (keep := [4]) (m := 0) (σ' := ⟨[(4, .v (B false))], []⟩) .nil (by kernel_rfl) ?_
        clear S; intro ac w β S
        refine RG.done rfl (nx_then ?_)
        refine wp_ret (rt_block (rt_then (rt_then (rt_block (rt_then ?_)))))
        refine S.ret (vs := [B false]) (by kernel_rfl) ?_
        exact ⟨retB (show false = decide (a = b) by clear S; first | (simp; intro e; subst e; simp_all; done) | (simp; rw [take_all (by omega), take_all (by omega)] at he; exact he) | (simp; exact take_ne (by simp_all)) | (symm; exact decide_eq_false (take_ne (by assumption))) | (symm; exact decide_eq_true (by rw [take_all (by omega), take_all (by omega)] at he; exact he)) | (symm; refine decide_eq_false ?_; intro e; rw [e] at *; omega)), S.chg⟩
      · have g8 : (el a k) = (el b k) := ne_f h6
        refine wp_skip (nx_block (nx_then ?_))
        refine RG.start ?_
        refine S.quiet (k := 2) (keep := [0, 1, 12, 13]) (m := 0) (σ' := ⟨[(0, .v (slv (a).length pa.1)), (1, .v (slv (b).length pb.1)), (12, .v (I ((a).length : Int))), (13, .v (I ((k : Int) + 1)))], []⟩) (.cons (Q_add (x := (k : Int)) (y := 1) ⟨by omega, by omega⟩) .nil) (by kernel_rfl) ?_
        clear S; intro ac w β S
        refine RG.done rfl (nx_then ?_)
        replace S := S.prune (keep := [0, 1, 12, 13]) (m := 0) (σ' := ⟨[(0, .v (slv (a).length pa.1)), (1, .v (slv (b).length pb.1)), (12, .v (I ((a).length : Int))), (13, .v (I ((k : Int) + 1)))], []⟩) (by kernel_rfl)
        refine ⟨a.length - (k + 1), by omega, k + 1, _, _, _, rfl, ?_, ?_, ?_, S.cast (by kernel_rfl)⟩
        · clear S; first | omega | (simp [*]; done) | (simp [*]; omega)
        · clear S; first | omega | (simp [*]; done) | (simp [*]; omega)
        · clear S; exact take_eq_step (by omega) (by omega) he (by simp_all)
    · have g9 : ¬ ((k : Int) < ((a).length : Int)) := of_decide_eq_false h4
      refine wp_exit (ex_then (ex_then (ex_hit (nx_then ?_))))
      refine wp_seq ?_
      refine RG.start ?_
      refine S.quiet (k := 1) (keep := [4]) (m := 0) (σ' := ⟨[(4, .v (B true))], []⟩) .nil (by kernel_rfl) ?_
      clear S; intro ac w β S
      refine RG.done rfl (nx_then ?_)
      refine wp_ret ?_
      refine S.ret (vs := [B true]) (by kernel_rfl) ?_
      exact ⟨retB (show true = decide (a = b) by clear S; first | (simp; intro e; subst e; simp_all; done) | (simp; rw [take_all (by omega), take_all (by omega)] at he; exact he) | (simp; exact take_ne (by simp_all)) | (symm; exact decide_eq_false (take_ne (by assumption))) | (symm; exact decide_eq_true (by rw [take_all (by omega), take_all (by omega)] at he; exact he)) | (symm; refine decide_eq_false ?_; intro e; rw [e] at *; omega)), S.chg⟩

set_option maxRecDepth 100000 in
theorem c_impl_SameMem_1 (w0 : World) (a : List Int) (pa : LP Int) (ha : GT.rd KK (Lt w0.heap.size) w0 a pa) (b : List Int) (pb : LP Int) (hb : GT.rd KK (Lt w0.heap.size) w0 b pb) : Calls Go.Proofs.Tryz.prog 73 [slv (a).length pa.1, slv (b).length pb.1].toArray w0 (fun e w' => e = .returned (B (decide (a = b))) ∧ Chg NoB w0 w') := by
  refine Calls.walk (args := [slv (a).length pa.1, slv (b).length pb.1]) NoB Go.Proofs.Tryz.func73 rfl rfl ?_
  intro ac β S
  have hlea : a.length ≤ 4194304 := LRd.le ha
  have hleb : b.length ≤ 4194304 := LRd.le hb
  refine wp_seq ?_
  refine RG.start ?_
  refine S.quiet (k := 1) (keep := [0, 1]) (m := 0) (σ' := ⟨[(0, .v (slv (a).length pa.1)), (1, .v (slv (b).length pb.1))], []⟩) .nil (by kernel_rfl) ?_
  clear S; intro ac w β S
  refine RG.done rfl (nx_then ?_)
  refine wp_seq ?_
  refine RG.start ?_
  refine S.quiet (k := 4) (keep := [4]) (m := 0) (σ' := ⟨[(4, .v (B (decide (a = b))))], []⟩) (.cons (Q_call fun w hw => c_slices_Equal___int_int_ w a pa (rd_of (S.arg ha) hw) b pb (rd_of (S.arg hb) hw)) .nil) (by kernel_rfl) ?_
  clear S; intro ac w β S
  refine RG.done rfl (nx_then ?_)
  refine wp_ret ?_
  refine S.ret (vs := [B (decide (a = b))]) (by kernel_rfl) ?_
  exact ⟨retB (show (decide (a = b)) = decide (a = b) by clear S; first | rfl | (simp [decide, *]; done) | (simp [decide, *]; omega) | (simp_all [decide]; done) | (simp_all [decide]; omega)), S.chg⟩

set_option maxRecDepth 100000 in
theorem c_slices_EqualFunc_____int_____int___int___int_ (w0 : World) (a : List (List Int)) (pa : LP (List Int)) (ha : GT.rd KK (Lt w0.heap.size) w0 a pa) (b : List (List Int)) (pb : LP (List Int)) (hb : GT.rd KK (Lt w0.heap.size) w0 b pb) : Calls Go.Proofs.Tryz.prog 72 [slv (a).length pa.1, slv (b).length pb.1, (.func (.func 73) #[] #[])].toArray w0 (fun e w' => e = .returned (B (decide (a = b))) ∧ Chg NoB w0 w') := by
  refine Calls.walk (args := [slv (a).length pa.1, slv (b).length pb.1, (.func (.func 73) #[] #[])]) NoB Go.Proofs.Tryz.func72 rfl rfl ?_
  intro ac β S
  have hlea : a.length ≤ 4194304 := LRd.le ha
  have hleb : b.length ≤ 4194304 := LRd.le hb
  refine wp_seq ?_
  refine RG.start ?_
  refine S.quiet (k := 1) (keep := [0, 1, 2]) (m := 0) (σ' := ⟨[(0, .v (slv (a).length pa.1)), (1, .v (slv (b).length pb.1)), (2, .v ((.func (.func 73) #[] #[])))], []⟩) .nil (by kernel_rfl) ?_
  clear S; intro ac w β S
  refine RG.done rfl (nx_then ?_)
  refine wp_seq ?_
  refine wp_seq ?_
  refine RG.start ?_
  refine S.quiet (k := 5) (keep := [0, 1, 2, 14]) (m := 0) (σ' := ⟨[(0, .v (slv (a).length pa.1)), (1, .v (slv (b).length pb.1)), (2, .v ((.func (.func 73) #[] #[]))), (14, .v (B (((a).length : Int) != ((b).length : Int))))], []⟩) .nil (by kernel_rfl) ?_
  clear S; intro ac w β S
  refine RG.done rfl (nx_then ?_)
  refine S.cond (e := (((a).length : Int) != ((b).length : Int))) (by kernel_rfl) (fun h1 => ?_) (fun h1 => ?_)
  · have g2 : ¬ (((a).length : Int) = ((b).length : Int)) := bne_iff_ne.1 h1
    refine wp_seq ?_
    refine RG.start ?_
    refine S.quiet (k := 1) (keep := [6]) (m := 0) (σ' := ⟨[(6, .v (B false))], []⟩) .nil (by kernel_rfl) ?_
    clear S; intro ac w β S
    refine RG.done rfl (nx_then ?_)
    refine wp_ret (rt_then ?_)
    refine S.ret (vs := [B false]) (by kernel_rfl) ?_
    exact ⟨retB (show false = decide (a = b) by clear S; first | (simp; intro e; subst e; simp_all; done) | (simp; rw [take_all (by omega), take_all (by omega)] at he; exact he) | (simp; exact take_ne (by simp_all)) | (symm; exact decide_eq_false (take_ne (by assumption))) | (symm; exact decide_eq_true (by rw [take_all (by omega), take_all (by omega)] at he; exact he)) | (symm; refine decide_eq_false ?_; intro e; rw [e] at *; omega)), S.chg⟩
  · have g3 : ((a).length : Int) = ((b).length : Int) := ne_f h1
    refine wp_skip (nx_then ?_)
    refine wp_seq ?_
    refine wp_seq ?_
    refine RG.start ?_
    refine S.quiet (k := 3) (keep := [1, 2, 15, 16, 17]) (m := 0) (σ' := ⟨[(1, .v (slv (b).length pb.1)), (2, .v ((.func (.func 73) #[] #[]))), (15, .v (slv (a).length pa.1)), (16, .v (I ((a).length : Int))), (17, .v (I 0))], []⟩) .nil (by kernel_rfl) ?_
    clear S; intro ac w β S
    refine RG.done rfl (nx_then ?_)
    refine wp_block ?_
    replace S := S.prune (keep := [1, 2, 15, 16, 17]) (m := 0) (σ' := ⟨[(1, .v (slv (b).length pb.1)), (2, .v ((.func (.func 73) #[] #[]))), (15, .v (slv (a).length pa.1)), (16, .v (I ((a).length : Int))), (17, .v (I 0))], []⟩) (by kernel_rfl)
    refine wp_loop_down (fun mm ac w => ∃ (k : Nat)  (u : World) (N : Bl) (β : Nat → Nat), mm = a.length - k ∧ (k ≤ a.length) ∧ (a.length = b.length) ∧ (a.take k = b.take k) ∧ St Go.Proofs.Tryz.prog Go.Proofs.Tryz.f72.ntmps w0 NoB u N β ⟨[(1, .v (slv (b).length pb.1)), (2, .v ((.func (.func 73) #[] #[]))), (15, .v (slv (a).length pa.1)), (16, .v (I ((a).length : Int))), (17, .v (I (k : Int)))], []⟩ ac w) _ ⟨0, _, _, _, rfl, (by first | omega | (simp; done) | (simp; omega)), (by first | omega | (simp; done) | (simp; omega)), (by simp), S.cast (by kernel_rfl)⟩ ?_
    clear S
    rintro mm ac w ⟨k, u, N, β, rfl, hk, hab, he, S⟩
    refine wp_seq ?_
    refine RG.start ?_
    refine S.quiet (k := 1) (keep := [1, 2, 15, 16, 17, 18]) (m := 0) (σ' := ⟨[(1, .v (slv (b).length pb.1)), (2, .v ((.func (.func 73) #[] #[]))), (15, .v (slv (a).length pa.1)), (16, .v (I ((a).length : Int))), (17, .v (I (k : Int))), (18, .v (B (decide ((k : Int) < ((a).length : Int)))))], []⟩) .nil (by kernel_rfl) ?_
    clear S; intro ac w β S
    refine RG.done rfl (nx_then ?_)
    refine wp_seq ?_
    refine S.cond (e := (decide ((k : Int) < ((a).length : Int)))) (by kernel_rfl) (fun h4 => ?_) (fun h4 => ?_)
    · have g5 : (k : Int) < ((a).length : Int) := of_decide_eq_true h4
      refine wp_skip (nx_then ?_)
      refine wp_seq ?_
      refine wp_block ?_
      refine wp_seq ?_
      refine RG.start ?_
      refine S.quiet (k := 5) (keep := [1, 2, 7, 8, 15, 16, 17]) (m := 0) (σ' := ⟨[(1, .v (slv (b).length pb.1)), (2, .v ((.func (.func 73) #[] #[]))), (7, .v (I (k : Int))), (8, .v (slv ((el a k)).length (pa.2 k).1)), (15, .v (slv (a).length pa.1)), (16, .v (I ((a).length : Int))), (17, .v (I (k : Int)))], []⟩) (.cons (Q_idx (S.arg ha) (l := (a).length) (k := k) (i := (k : Int)) rfl rfl (by omega) Go.Proofs.Tryz.underlying22 (by kernel_rfl)) (.cons (Q_el1 (S.arg ha) (t := 54) (k := k) (by omega) rfl (by kernel_rfl)) .nil)) (by kernel_rfl) ?_
      clear S; intro ac w β S
      refine RG.done rfl (nx_then ?_)
      refine wp_seq ?_
      refine RG.start ?_
      refine S.quiet (k := 5) (keep := [1, 2, 8, 9, 15, 16, 17]) (m := 0) (σ' := ⟨[(1, .v (slv (b).length pb.1)), (2, .v ((.func (.func 73) #[] #[]))), (8, .v (slv ((el a k)).length (pa.2 k).1)), (9, .v (slv ((el b k)).length (pb.2 k).1)), (15, .v (slv (a).length pa.1)), (16, .v (I ((a).length : Int))), (17, .v (I (k : Int)))], []⟩) (.cons (Q_idx (S.arg hb) (l := (b).length) (k := k) (i := (k : Int)) rfl rfl (by omega) Go.Proofs.Tryz.underlying22 (by kernel_rfl)) (.cons (Q_el1 (S.arg hb) (t := 54) (k := k) (by omega) rfl (by kernel_rfl)) .nil)) (by kernel_rfl) ?_
      clear S; intro ac w β S
      refine RG.done rfl (nx_then ?_)
      refine wp_seq ?_
      refine RG.start ?_
      refine S.quiet (k := 5) (keep := [1, 2, 15, 16, 17, 30]) (m := 0) (σ' := ⟨[(1, .v (slv (b).length pb.1)), (2, .v ((.func (.func 73) #[] #[]))), (15, .v (slv (a).length pa.1)), (16, .v (I ((a).length : Int))), (17, .v (I (k : Int))), (30, .v (B (!(decide ((el a k) = (el b k))))))], []⟩) (.cons (Q_call fun w hw => c_impl_SameMem_1 w (el a k) (pa.2 k) (rd_of (LRd.el (S.arg ha) k (by omega)) hw) (el b k) (pb.2 k) (rd_of (LRd.el (S.arg hb) k (by omega)) hw)) .nil) (by kernel_rfl) ?_
      clear S; intro ac w β S
      refine RG.done rfl (nx_then ?_)
      refine S.cond (e := (!(decide ((el a k) = (el b k))))) (by kernel_rfl) (fun h6 => ?_) (fun h6 => ?_)
      · have h7 : (decide ((el a k) = (el b k))) = false := not_t h6
        have g8 := of_decide_eq_false h7
        refine wp_seq ?_
        refine RG.start ?_
        refine S.quiet (k := 1) (keep := [6]) (m := 0) (σ' := ⟨[(6, .v (B false))], []⟩) .nil (by kernel_rfl) ?_
        clear S; intro ac w β S
        refine RG.done rfl (nx_then ?_)
        refine wp_ret (rt_block (rt_then (rt_then (rt_block (rt_then ?_)))))
        refine S.ret (vs := [B false]) (by kernel_rfl) ?_
        exact ⟨retB (show false = decide (a = b) by clear S; first | (simp; intro e; subst e; simp_all; done) | (simp; rw [take_all (by omega), take_all (by omega)] at he; exact he) | (simp; exact take_ne (by simp_all)) | (symm; exact decide_eq_false (take_ne (by assumption))) | (symm; exact decide_eq_true (by rw [take_all (by omega), take_all (by omega)] at he; exact he)) | (symm; refine decide_eq_false ?_; intro e; rw [e] at *; omega)), S.chg⟩
      · have h9 : (decide ((el a k) = (el b k))) = true := not_f h6
        have g10 := of_decide_eq_true h9
        refine wp_skip (nx_block (nx_then ?_))
        refine RG.start ?_
        refine S.quiet (k := 2) (keep := [1, 2, 15, 16, 17]) (m := 0) (σ' := ⟨[(1, .v (slv (b).length pb.1)), (2, .v ((.func (.func 73) #[] #[]))), (15, .v (slv (a).length pa.1)), (16, .v (I ((a).length : Int))), (17, .v (I ((k : Int) + 1)))], []⟩) (.cons (Q_add (x := (k : Int)) (y := 1) ⟨by omega, by omega⟩) .nil) (by kernel_rfl) ?_
        clear S; intro ac w β S
        refine RG.done rfl (nx_then ?_)
        replace S := S.prune (keep := [1, 2, 15, 16, 17]) (m := 0) (σ' := ⟨[(1, .v (slv (b).length pb.1)), (2, .v ((.func (.func 73) #[] #[]))), (15, .v (slv (a).length pa.1)), (16, .v (I ((a).length : Int))), (17, .v (I ((k : Int) + 1)))], []⟩) (by kernel_rfl)
        refine ⟨a.length - (k + 1), by omega, k + 1, _, _, _, rfl, ?_, ?_, ?_, S.cast (by kernel_rfl)⟩
        · clear S; first | omega | (simp [*]; done) | (simp [*]; omega)
        · clear S; first | omega | (simp [*]; done) | (simp [*]; omega)
        · clear S; exact take_eq_step (by omega) (by omega) he (by simp_all)
    · have g11 : ¬ ((k : Int) < ((a).length : Int)) := of_decide_eq_false h4
      refine wp_exit (ex_then (ex_then (ex_hit (nx_then ?_))))
      refine wp_seq ?_
      refine RG.start ?_
      refine S.quiet (k := 1) (keep := [6]) (m := 0) (σ' := ⟨[(6, .v (B true))], []⟩) .nil (by kernel_rfl) ?_
      clear S; intro ac w β S
      refine RG.done rfl (nx_then ?_)
      refine wp_ret ?_
      refine S.ret (vs := [B true]) (by kernel_rfl) ?_
      exact ⟨retB (show true = decide (a = b) by clear S; first | (simp; intro e; subst e; simp_all; done) | (simp; rw [take_all (by omega), take_all (by omega)] at he; exact he) | (simp; exact take_ne (by simp_all)) | (symm; exact decide_eq_false (take_ne (by assumption))) | (symm; exact decide_eq_true (by rw [take_all (by omega), take_all (by omega)] at he; exact he)) | (symm; refine decide_eq_false ?_; intro e; rw [e] at *; omega)), S.chg⟩

set_option maxRecDepth 100000 in
theorem c_impl_SameMem (w0 : World) (a : List (List Int)) (pa : LP (List Int)) (ha : GT.rd KK (Lt w0.heap.size) w0 a pa) (b : List (List Int)) (pb : LP (List Int)) (hb : GT.rd KK (Lt w0.heap.size) w0 b pb) : Calls Go.Proofs.Tryz.prog 49 [slv (a).length pa.1, slv (b).length pb.1].toArray w0 (fun e w' => e = .returned (B (decide (a = b))) ∧ Chg NoB w0 w') := by
  refine Calls.walk (args := [slv (a).length pa.1, slv (b).length pb.1]) NoB Go.Proofs.Tryz.func49 rfl rfl ?_
  intro ac β S
  have hlea : a.length ≤ 4194304 := LRd.le ha
  have hleb : b.length ≤ 4194304 := LRd.le hb
  refine wp_seq ?_
  refine RG.start ?_
  refine S.quiet (k := 1) (keep := [0, 1]) (m := 0) (σ' := ⟨[(0, .v (slv (a).length pa.1)), (1, .v (slv (b).length pb.1))], []⟩) .nil (by kernel_rfl) ?_
  clear S; intro ac w β S
  refine RG.done rfl (nx_then ?_)
  refine wp_seq ?_
  refine RG.start ?_
  refine S.quiet (k := 4) (keep := [4]) (m := 0) (σ' := ⟨[(4, .v (B (decide (a = b))))], []⟩) (.cons (Q_call fun w hw => c_slices_EqualFunc_____int_____int___int___int_ w a pa (rd_of (S.arg ha) hw) b pb (rd_of (S.arg hb) hw)) .nil) (by kernel_rfl) ?_
  clear S; intro ac w β S
  refine RG.done rfl (nx_then ?_)
  refine wp_ret ?_
  refine S.ret (vs := [B (decide (a = b))]) (by kernel_rfl) ?_
  exact ⟨retB (show (decide (a = b)) = decide (a = b) by clear S; first | rfl | (simp [decide, *]; done) | (simp [decide, *]; omega) | (simp_all [decide]; done) | (simp_all [decide]; omega)), S.chg⟩

set_option maxRecDepth 100000 in
theorem c_slices_Equal___impl_Ins_impl_Ins_ (w0 : World) (a : List TIns) (pa : LP TIns) (ha : GT.rd KK (Lt w0.heap.size) w0 a pa) (b : List TIns) (pb : LP TIns) (hb : GT.rd KK (Lt w0.heap.size) w0 b pb) : Calls Go.Proofs.Tryz.prog 96 [slv (a).length pa.1, slv (b).length pb.1].toArray w0 (fun e w' => e = .returned (B (decide (a = b))) ∧ Chg NoB w0 w') := by
  refine Calls.walk (args := [slv (a).length pa.1, slv (b).length pb.1]) NoB Go.Proofs.Tryz.func96 rfl rfl ?_
  intro ac β S
  have hlea : a.length ≤ 4194304 := LRd.le ha
  have hleb : b.length ≤ 4194304 := LRd.le hb
  refine wp_seq ?_
  refine RG.start ?_
  refine S.quiet (k := 1) (keep := [0, 1]) (m := 0) (σ' := ⟨[(0, .v (slv (a).length pa.1)), (1, .v (slv (b).length pb.1))], []⟩) .nil (by kernel_rfl) ?_
  clear S; intro ac w β S
  refine RG.done rfl (nx_then ?_)
  refine wp_seq ?_
  refine wp_seq ?_
  refine RG.start ?_
  refine S.quiet (k := 5) (keep := [0, 1, 10]) (m := 0) (σ' := ⟨[(0, .v (slv (a).length pa.1)), (1, .v (slv (b).length pb.1)), (10, .v (B (((a).length : Int) != ((b).length : Int))))], []⟩) .nil (by kernel_rfl) ?_
  clear S; intro ac w β S
  refine RG.done rfl (nx_then ?_)
  refine S.cond (e := (((a).length : Int) != ((b).length : Int))) (by kernel_rfl) (fun h1 => ?_) (fun h1 => ?_)
  · have g2 : ¬ (((a).length : Int) = ((b).length : Int)) := bne_iff_ne.1 h1
    refine wp_seq ?_
    refine RG.start ?_
    refine S.quiet (k := 1) (keep := [4]) (m := 0) (σ' := ⟨[(4, .v (B false))], []⟩) .nil (by kernel_rfl) ?_
    clear S; intro ac w β S
    refine RG.done rfl (nx_then ?_)
    refine wp_ret (rt_then ?_)
    refine S.ret (vs := [B false]) (by kernel_rfl) ?_
    exact ⟨retB (show false = decide (a = b) by clear S; first | (simp; intro e; subst e; simp_all; done) | (simp; rw [take_all (by omega), take_all (by omega)] at he; exact he) | (simp; exact take_ne (by simp_all)) | (symm; exact decide_eq_false (take_ne (by assumption))) | (symm; exact decide_eq_true (by rw [take_all (by omega), take_all (by omega)] at he; exact he)) | (symm; refine decide_eq_false ?_; intro e; rw [e] at *; omega)), S.chg⟩
  · have g3 : ((a).length : Int) = ((b).length : Int) := ne_f h1
    refine wp_skip (nx_then ?_)
    refine wp_seq ?_
    refine wp_seq ?_
    refine RG.start ?_
    refine S.quiet (k := 3) (keep := [0, 1, 12, 13]) (m := 0) (σ' := ⟨[(0, .v (slv (a).length pa.1)), (1, .v (slv (b).length pb.1)), (12, .v (I ((a).length : Int))), (13, .v (I 0))], []⟩) .nil (by kernel_rfl) ?_
    clear S; intro ac w β S
    refine RG.done rfl (nx_then ?_)
    refine wp_block ?_
    replace S := S.prune (keep := [0, 1, 12, 13]) (m := 0) (σ' := ⟨[(0, .v (slv (a).length pa.1)), (1, .v (slv (b).length pb.1)), (12, .v (I ((a).length : Int))), (13, .v (I 0))], []⟩) (by kernel_rfl)
    refine wp_loop_down (fun mm ac w => ∃ (k : Nat)  (u : World) (N : Bl) (β : Nat → Nat), mm = a.length - k ∧ (k ≤ a.length) ∧ (a.length = b.length) ∧ (a.take k = b.take k) ∧ St Go.Proofs.Tryz.prog Go.Proofs.Tryz.f96.ntmps w0 NoB u N β ⟨[(0, .v (slv (a).length pa.1)), (1, .v (slv (b).length pb.1)), (12, .v (I ((a).length : Int))), (13, .v (I (k : Int)))], []⟩ ac w) _ ⟨0, _, _, _, rfl, (by first | omega | (simp; done) | (simp; omega)), (by first | omega | (simp; done) | (simp; omega)), (by simp), S.cast (by kernel_rfl)⟩ ?_
    clear S
    rintro mm ac w ⟨k, u, N, β, rfl, hk, hab, he, S⟩
    refine wp_seq ?_
    refine RG.start ?_
    refine S.quiet (k := 1) (keep := [0, 1, 12, 13, 14]) (m := 0) (σ' := ⟨[(0, .v (slv (a).length pa.1)), (1, .v (slv (b).length pb.1)), (12, .v (I ((a).length : Int))), (13, .v (I (k : Int))), (14, .v (B (decide ((k : Int) < ((a).length : Int)))))], []⟩) .nil (by kernel_rfl) ?_
    clear S; intro ac w β S
    refine RG.done rfl (nx_then ?_)
    refine wp_seq ?_
    refine S.cond (e := (decide ((k : Int) < ((a).length : Int)))) (by kernel_rfl) (fun h4 => ?_) (fun h4 => ?_)
    · have g5 : (k : Int) < ((a).length : Int) := of_decide_eq_true h4
      refine wp_skip (nx_then ?_)
      refine wp_seq ?_
      refine wp_block ?_
      refine wp_seq ?_
      refine RG.start ?_
      refine S.quiet (k := 2) (keep := [0, 1, 5, 12, 13]) (m := 0) (σ' := ⟨[(0, .v (slv (a).length pa.1)), (1, .v (slv (b).length pb.1)), (5, .v (I (k : Int))), (12, .v (I ((a).length : Int))), (13, .v (I (k : Int)))], []⟩) .nil (by kernel_rfl) ?_
      clear S; intro ac w β S
      refine RG.done rfl (nx_then ?_)
      refine wp_seq ?_
      refine S.drawn (keep := [0, 1, 12, 13, 24]) (m := 0) (σ' := ⟨[(0, .v (slv (a).length pa.1)), (1, .v (slv (b).length pb.1)), (12, .v (I ((a).length : Int))), (13, .v (I (k : Int))), (24, .v (B (!decide ((el a k) = (el b k)))))], []⟩) (.cons (Q_idx (S.arg ha) (l := (a).length) (k := k) (i := (k : Int)) rfl rfl (by omega) Go.Proofs.Tryz.underlying91 (by kernel_rfl)) (.cons (Q_el (S.arg ha) (t := 142) (k := k) (by omega) rfl (by kernel_rfl) (by kernel_rfl)) (.cons (Q_idx (S.arg hb) (l := (b).length) (k := k) (i := (k : Int)) rfl rfl (by omega) Go.Proofs.Tryz.underlying91 (by kernel_rfl)) (.cons (Q_el (S.arg hb) (t := 142) (k := k) (by omega) rfl (by kernel_rfl) (by kernel_rfl)) (.cons (Eq_ne_Ins (t := 142) (el a k) (el b k) (by kernel_rfl)) .nil))))) rfl (by kernel_rfl) (by kernel_rfl) ?_
      clear S; intro ac w S
      refine id (nx_then ?_)
      refine S.cond (e := (!decide ((el a k) = (el b k)))) (by kernel_rfl) (fun h6 => ?_) (fun h6 => ?_)
      · refine wp_seq ?_
        refine RG.start ?_
        refine S.quiet (k := 1) (keep := [4]) (m := 0) (σ' := ⟨[(4, .v (B false))], []⟩) .nil (by kernel_rfl) ?_
        clear S; intro ac w β S
        refine RG.done rfl (nx_then ?_)
        refine wp_ret (rt_block (rt_then (rt_then (rt_block (rt_then ?_)))))
        refine S.ret (vs := [B false]) (by kernel_rfl) ?_
        exact ⟨retB (show false = decide (a = b) by clear S; first | (simp; intro e; subst e; simp_all; done) | (simp; rw [take_all (by omega), take_all (by omega)] at he; exact he) | (simp; exact take_ne (by simp_all)) | (symm; exact decide_eq_false (take_ne (by assumption))) | (symm; exact decide_eq_true (by rw [take_all (by omega), take_all (by omega)] at he; exact he)) | (symm; refine decide_eq_false ?_; intro e; rw [e] at *; omega)), S.chg⟩
      · refine wp_skip (nx_block (nx_then ?_))
        refine RG.start ?_
        refine S.quiet (k := 2) (keep := [0, 1, 12, 13]) (m := 0) (σ' := ⟨[(0, .v (slv (a).length pa.1)), (1, .v (slv (b).length pb.1)), (12, .v (I ((a).length : Int))), (13, .v (I ((k : Int) + 1)))], []⟩) (.cons (Q_add (x := (k : Int)) (y := 1) ⟨by omega, by omega⟩) .nil) (by kernel_rfl) ?_
        clear S; intro ac w β S
        refine RG.done rfl (nx_then ?_)
        replace S := S.prune (keep := [0, 1, 12, 13]) (m := 0) (σ' := ⟨[(0, .v (slv (a).length pa.1)), (1, .v (slv (b).length pb.1)), (12, .v (I ((a).length : Int))), (13, .v (I ((k : Int) + 1)))], []⟩) (by kernel_rfl)
        refine ⟨a.length - (k + 1), by omega, k + 1, _, _, _, rfl, ?_, ?_, ?_, S.cast (by kernel_rfl)⟩
        · clear S; first | omega | (simp [*]; done) | (simp [*]; omega)
        · clear S; first | omega | (simp [*]; done) | (simp [*]; omega)
        · clear S; exact take_eq_step (by omega) (by omega) he (by simp_all)
    · have g7 : ¬ ((k : Int) < ((a).length : Int)) := of_decide_eq_false h4
      refine wp_exit (ex_then (ex_then (ex_hit (nx_then ?_))))
      refine wp_seq ?_
      refine RG.start ?_
      refine S.quiet (k := 1) (keep := [4]) (m := 0) (σ' := ⟨[(4, .v (B true))], []⟩) .nil (by kernel_rfl) ?_
      clear S; intro ac w β S
      refine RG.done rfl (nx_then ?_)
      refine wp_ret ?_
      refine S.ret (vs := [B true]) (by kernel_rfl) ?_
      exact ⟨retB (show true = decide (a = b) by clear S; first | (simp; intro e; subst e; simp_all; done) | (simp; rw [take_all (by omega), take_all (by omega)] at he; exact he) | (simp; exact take_ne (by simp_all)) | (symm; exact decide_eq_false (take_ne (by assumption))) | (symm; exact decide_eq_true (by rw [take_all (by omega), take_all (by omega)] at he; exact he)) | (symm; refine decide_eq_false ?_; intro e; rw [e] at *; omega)), S.chg⟩

set_option maxRecDepth 100000 in
theorem c_impl_SameProg (w0 : World) (a : List TIns) (pa : LP TIns) (ha : GT.rd KK (Lt w0.heap.size) w0 a pa) (b : List TIns) (pb : LP TIns) (hb : GT.rd KK (Lt w0.heap.size) w0 b pb) : Calls Go.Proofs.Tryz.prog 74 [slv (a).length pa.1, slv (b).length pb.1].toArray w0 (fun e w' => e = .returned (B (decide (a = b))) ∧ Chg NoB w0 w') := by
  refine Calls.walk (args := [slv (a).length pa.1, slv (b).length pb.1]) NoB Go.Proofs.Tryz.func74 rfl rfl ?_
  intro ac β S
  have hlea : a.length ≤ 4194304 := LRd.le ha
  have hleb : b.length ≤ 4194304 := LRd.le hb
  refine wp_seq ?_
  refine RG.start ?_
  refine S.quiet (k := 1) (keep := [0, 1]) (m := 0) (σ' := ⟨[(0, .v (slv (a).length pa.1)), (1, .v (slv (b).length pb.1))], []⟩) .nil (by kernel_rfl) ?_
  clear S; intro ac w β S
  refine RG.done rfl (nx_then ?_)
  refine wp_seq ?_
  refine RG.start ?_
  refine S.quiet (k := 4) (keep := [4]) (m := 0) (σ' := ⟨[(4, .v (B (decide (a = b))))], []⟩) (.cons (Q_call fun w hw => c_slices_Equal___impl_Ins_impl_Ins_ w a pa (rd_of (S.arg ha) hw) b pb (rd_of (S.arg hb) hw)) .nil) (by kernel_rfl) ?_
  clear S; intro ac w β S
  refine RG.done rfl (nx_then ?_)
  refine wp_ret ?_
  refine S.ret (vs := [B (decide (a = b))]) (by kernel_rfl) ?_
  exact ⟨retB (show (decide (a = b)) = decide (a = b) by clear S; first | rfl | (simp [decide, *]; done) | (simp [decide, *]; omega) | (simp_all [decide]; done) | (simp_all [decide]; omega)), S.chg⟩

set_option maxRecDepth 100000 in
theorem c_slices_Equal___impl_Slot_impl_Slot_ (w0 : World) (a : List TSlot) (pa : LP TSlot) (ha : GT.rd KK (Lt w0.heap.size) w0 a pa) (b : List TSlot) (pb : LP TSlot) (hb : GT.rd KK (Lt w0.heap.size) w0 b pb) : Calls Go.Proofs.Tryz.prog 97 [slv (a).length pa.1, slv (b).length pb.1].toArray w0 (fun e w' => e = .returned (B (decide (a = b))) ∧ Chg NoB w0 w') := by
  refine Calls.walk (args := [slv (a).length pa.1, slv (b).length pb.1]) NoB Go.Proofs.Tryz.func97 rfl rfl ?_
  intro ac β S
  have hlea : a.length ≤ 4194304 := LRd.le ha
  have hleb : b.length ≤ 4194304 := LRd.le hb
  refine wp_seq ?_
  refine RG.start ?_
  refine S.quiet (k := 1) (keep := [0, 1]) (m := 0) (σ' := ⟨[(0, .v (slv (a).length pa.1)), (1, .v (slv (b).length pb.1))], []⟩) .nil (by kernel_rfl) ?_
  clear S; intro ac w β S
  refine RG.done rfl (nx_then ?_)
  refine wp_seq ?_
  refine wp_seq ?_
  refine RG.start ?_
  refine S.quiet (k := 5) (keep := [0, 1, 10]) (m := 0) (σ' := ⟨[(0, .v (slv (a).length pa.1)), (1, .v (slv (b).length pb.1)), (10, .v (B (((a).length : Int) != ((b).length : Int))))], []⟩) .nil (by kernel_rfl) ?_
  clear S; intro ac w β S
  refine RG.done rfl (nx_then ?_)
  refine S.cond (e := (((a).length : Int) != ((b).length : Int))) (by kernel_rfl) (fun h1 => ?_) (fun h1 => ?_)
  · have g2 : ¬ (((a).length : Int) = ((b).length : Int)) := bne_iff_ne.1 h1
    refine wp_seq ?_
    refine RG.start ?_
    refine S.quiet (k := 1) (keep := [4]) (m := 0) (σ' := ⟨[(4, .v (B false))], []⟩) .nil (by kernel_rfl) ?_
    clear S; intro ac w β S
    refine RG.done rfl (nx_then ?_)
    refine wp_ret (rt_then ?_)
    refine S.ret (vs := [B false]) (by kernel_rfl) ?_
    exact ⟨retB (show false = decide (a = b) by clear S; first | (simp; intro e; subst e; simp_all; done) | (simp; rw [take_all (by omega), take_all (by omega)] at he; exact he) | (simp; exact take_ne (by simp_all)) | (symm; exact decide_eq_false (take_ne (by assumption))) | (symm; exact decide_eq_true (by rw [take_all (by omega), take_all (by omega)] at he; exact he)) | (symm; refine decide_eq_false ?_; intro e; rw [e] at *; omega)), S.chg⟩
  · have g3 : ((a).length : Int) = ((b).length : Int) := ne_f h1
    refine wp_skip (nx_then ?_)
    refine wp_seq ?_
    refine wp_seq ?_
    refine RG.start ?_
    refine S.quiet (k := 3) (keep := [0, 1, 12, 13]) (m := 0) (σ' := ⟨[(0, .v (slv (a).length pa.1)), (1, .v (slv (b).length pb.1)), (12, .v (I ((a).length : Int))), (13, .v (I 0))], []⟩) .nil (by kernel_rfl) ?_
    clear S; intro ac w β S
    refine RG.done rfl (nx_then ?_)
    refine wp_block ?_
    replace S := S.prune (keep := [0, 1, 12, 13]) (m := 0) (σ' := ⟨[(0, .v (slv (a).length pa.1)), (1, .v (slv (b).length pb.1)), (12, .v (I ((a).length : Int))), (13, .v (I 0))], []⟩) (by kernel_rfl)
    refine wp_loop_down (fun mm ac w => ∃ (k : Nat)  (u : World) (N : Bl) (β : Nat → Nat), mm = a.length - k ∧ (k ≤ a.length) ∧ (a.length = b.length) ∧ (a.take k = b.take k) ∧ St Go.Proofs.Tryz.prog Go.Proofs.Tryz.f97.ntmps w0 NoB u N β ⟨[(0, .v (slv (a).length pa.1)), (1, .v (slv (b).length pb.1)), (12, .v (I ((a).length : Int))), (13, .v (I (k : Int)))], []⟩ ac w) _ ⟨0, _, _, _, rfl, (by first | omega | (simp; done) | (simp; omega)), (by first | omega | (simp; done) | (simp; omega)), (by simp), S.cast (by kernel_rfl)⟩ ?_
    clear S
    rintro mm ac w ⟨k, u, N, β, rfl, hk, hab, he, S⟩
    refine wp_seq ?_
    refine RG.start ?_
    refine S.quiet (k := 1) (keep := [0, 1, 12, 13, 14]) (m := 0) (σ' := ⟨[(0, .v (slv (a).length pa.1)), (1, .v (slv (b).length pb.1)), (12, .v (I ((a).length : Int))), (13, .v (I (k : Int))), (14, .v (B (decide ((k : Int) < ((a).length : Int)))))], []⟩) .nil (by kernel_rfl) ?_
    clear S; intro ac w β S
    refine RG.done rfl (nx_then ?_)
    refine wp_seq ?_
    refine S.cond (e := (decide ((k : Int) < ((a).length : Int)))) (by kernel_rfl) (fun h4 => ?_) (fun h4 => ?_)
    · have g5 : (k : Int) < ((a).length : Int) := of_decide_eq_true h4
      refine wp_skip (nx_then ?_)
      refine wp_seq ?_
      refine wp_block ?_
      refine wp_seq ?_
      refine RG.start ?_
      refine S.quiet (k := 2) (keep := [0, 1, 5, 12, 13]) (m := 0) (σ' := ⟨[(0, .v (slv (a).length pa.1)), (1, .v (slv (b).length pb.1)), (5, .v (I (k : Int))), (12, .v (I ((a).length : Int))), (13, .v (I (k : Int)))], []⟩) .nil (by kernel_rfl) ?_
      clear S; intro ac w β S
      refine RG.done rfl (nx_then ?_)
      refine wp_seq ?_
      refine S.drawn (keep := [0, 1, 12, 13, 24]) (m := 0) (σ' := ⟨[(0, .v (slv (a).length pa.1)), (1, .v (slv (b).length pb.1)), (12, .v (I ((a).length : Int))), (13, .v (I (k : Int))), (24, .v (B (!decide ((el a k) = (el b k)))))], []⟩) (.cons (Q_idx (S.arg ha) (l := (a).length) (k := k) (i := (k : Int)) rfl rfl (by omega) Go.Proofs.Tryz.underlying72 (by kernel_rfl)) (.cons (Q_el (S.arg ha) (t := 117) (k := k) (by omega) rfl (by kernel_rfl) (by kernel_rfl)) (.cons (Q_idx (S.arg hb) (l := (b).length) (k := k) (i := (k : Int)) rfl rfl (by omega) Go.Proofs.Tryz.underlying72 (by kernel_rfl)) (.cons (Q_el (S.arg hb) (t := 117) (k := k) (by omega) rfl (by kernel_rfl) (by kernel_rfl)) (.cons (Eq_ne_Slot (t := 117) (el a k) (el b k) (by kernel_rfl)) .nil))))) rfl (by kernel_rfl) (by kernel_rfl) ?_
      clear S; intro ac w S
      refine id (nx_then ?_)
      refine S.cond (e := (!decide ((el a k) = (el b k)))) (by kernel_rfl) (fun h6 => ?_) (fun h6 => ?_)
      · refine wp_seq ?_
        refine RG.start ?_
        refine S.quiet (k := 1) (keep := [4]) (m := 0) (σ' := ⟨[(4, .v (B false))], []⟩) .nil (by kernel_rfl) ?_
        clear S; intro ac w β S
        refine RG.done rfl (nx_then ?_)
        refine wp_ret (rt_block (rt_then (rt_then (rt_block (rt_then ?_)))))
        refine S.ret (vs := [B false]) (by kernel_rfl) ?_
        exact ⟨retB (show false = decide (a = b) by clear S; first | (simp; intro e; subst e; simp_all; done) | (simp; rw [take_all (by omega), take_all (by omega)] at he; exact he) | (simp; exact take_ne (by simp_all)) | (symm; exact decide_eq_false (take_ne (by assumption))) | (symm; exact decide_eq_true (by rw [take_all (by omega), take_all (by omega)] at he; exact he)) | (symm; refine decide_eq_false ?_; intro e; rw [e] at *; omega)), S.chg⟩
      · refine wp_skip (nx_block (nx_then ?_))
        refine RG.start ?_
        refine S.quiet (k := 2) (keep := [0, 1, 12, 13]) (m := 0) (σ' := ⟨[(0, .v (slv (a).length pa.1)), (1, .v (slv (b).length pb.1)), (12, .v (I ((a).length : Int))), (13, .v (I ((k : Int) + 1)))], []⟩) (.cons (Q_add (x := (k : Int)) (y := 1) ⟨by omega, by omega⟩) .nil) (by kernel_rfl) ?_
        clear S; intro ac w β S
        refine RG.done rfl (nx_then ?_)
        replace S := S.prune (keep := [0, 1, 12, 13]) (m := 0) (σ' := ⟨[(0, .v (slv (a).length pa.1)), (1, .v (slv (b).length pb.1)), (12, .v (I ((a).length : Int))), (13, .v (I ((k : Int) + 1)))], []⟩) (by kernel_rfl)
        refine ⟨a.length - (k + 1), by omega, k + 1, _, _, _, rfl, ?_, ?_, ?_, S.cast (by kernel_rfl)⟩
        · clear S; first | omega | (simp [*]; done) | (simp [*]; omega)
        · clear S; first | omega | (simp [*]; done) | (simp [*]; omega)
        · clear S; exact take_eq_step (by omega) (by omega) he (by simp_all)
    · have g7 : ¬ ((k : Int) < ((a).length : Int)) := of_decide_eq_false h4
      refine wp_exit (ex_then (ex_then (ex_hit (nx_then ?_))))
      refine wp_seq ?_
      refine RG.start ?_
      refine S.quiet (k := 1) (keep := [4]) (m := 0) (σ' := ⟨[(4, .v (B true))], []⟩) .nil (by kernel_rfl) ?_
      clear S; intro ac w β S
      refine RG.done rfl (nx_then ?_)
      refine wp_ret ?_
      refine S.ret (vs := [B true]) (by kernel_rfl) ?_
      exact ⟨retB (show true = decide (a = b) by clear S; first | (simp; intro e; subst e; simp_all; done) | (simp; rw [take_all (by omega), take_all (by omega)] at he; exact he) | (simp; exact take_ne (by simp_all)) | (symm; exact decide_eq_false (take_ne (by assumption))) | (symm; exact decide_eq_true (by rw [take_all (by omega), take_all (by omega)] at he; exact he)) | (symm; refine decide_eq_false ?_; intro e; rw [e] at *; omega)), S.chg⟩

set_option maxRecDepth 100000 in
theorem c_impl_SameTable (w0 : World) (a : List TSlot) (pa : LP TSlot) (ha : GT.rd KK (Lt w0.heap.size) w0 a pa) (b : List TSlot) (pb : LP TSlot) (hb : GT.rd KK (Lt w0.heap.size) w0 b pb) : Calls Go.Proofs.Tryz.prog 75 [slv (a).length pa.1, slv (b).length pb.1].toArray w0 (fun e w' => e = .returned (B (decide (a = b))) ∧ Chg NoB w0 w') := by
  refine Calls.walk (args := [slv (a).length pa.1, slv (b).length pb.1]) NoB Go.Proofs.Tryz.func75 rfl rfl ?_
  intro ac β S
  have hlea : a.length ≤ 4194304 := LRd.le ha
  have hleb : b.length ≤ 4194304 := LRd.le hb
  refine wp_seq ?_
  refine RG.start ?_
  refine S.quiet (k := 1) (keep := [0, 1]) (m := 0) (σ' := ⟨[(0, .v (slv (a).length pa.1)), (1, .v (slv (b).length pb.1))], []⟩) .nil (by kernel_rfl) ?_
  clear S; intro ac w β S
  refine RG.done rfl (nx_then ?_)
  refine wp_seq ?_
  refine RG.start ?_
  refine S.quiet (k := 4) (keep := [4]) (m := 0) (σ' := ⟨[(4, .v (B (decide (a = b))))], []⟩) (.cons (Q_call fun w hw => c_slices_Equal___impl_Slot_impl_Slot_ w a pa (rd_of (S.arg ha) hw) b pb (rd_of (S.arg hb) hw)) .nil) (by kernel_rfl) ?_
  clear S; intro ac w β S
  refine RG.done rfl (nx_then ?_)
  refine wp_ret ?_
  refine S.ret (vs := [B (decide (a = b))]) (by kernel_rfl) ?_
  exact ⟨retB (show (decide (a = b)) = decide (a = b) by clear S; first | rfl | (simp [decide, *]; done) | (simp [decide, *]; omega) | (simp_all [decide]; done) | (simp_all [decide]; omega)), S.chg⟩

set_option maxRecDepth 100000 in
theorem c_impl_SameGuest (w0 : World) (a : TGuest) (pa : PGuest) (ha : GT.rd KK (Lt w0.heap.size) w0 a pa) (b : TGuest) (pb : PGuest) (hb : GT.rd KK (Lt w0.heap.size) w0 b pb) : Calls Go.Proofs.Tryz.prog 51 [GT.val (α := TGuest) a pa, GT.val (α := TGuest) b pb].toArray w0 (fun e w' => e = .returned (B (decide (a = b))) ∧ Chg NoB w0 w') := by
  refine Calls.walk (args := [GT.val (α := TGuest) a pa, GT.val (α := TGuest) b pb]) NoB Go.Proofs.Tryz.func51 rfl rfl ?_
  intro ac β S
  have hlea_prog : a.prog.length ≤ 4194304 := LRd.le (RGuest.prog (d := a) ha)
  have hlea_written : a.written.length ≤ 4194304 := LRd.le (RGuest.written (d := a) ha)
  have hlea_live : a.live.length ≤ 4194304 := LRd.le (RGuest.live (d := a) ha)
  have hlea_seen : a.seen.length ≤ 4194304 := LRd.le (RGuest.seen (d := a) ha)
  have hleb_prog : b.prog.length ≤ 4194304 := LRd.le (RGuest.prog (d := b) hb)
  have hleb_written : b.written.length ≤ 4194304 := LRd.le (RGuest.written (d := b) hb)
  have hleb_live : b.live.length ≤ 4194304 := LRd.le (RGuest.live (d := b) hb)
  have hleb_seen : b.seen.length ≤ 4194304 := LRd.le (RGuest.seen (d := b) hb)
  refine wp_seq ?_
  refine RG.start ?_
  refine S.quiet (k := 3) (keep := [2, 3]) (m := 2) (σ' := ⟨[(2, .p 0 0), (3, .p 1 0)], [GT.cells (α := TGuest) a pa, GT.cells (α := TGuest) b pb]⟩) .nil (by kernel_rfl) ?_
  clear S; intro ac w β S
  refine RG.done rfl (nx_then ?_)
  refine wp_seq ?_
  refine RG.start ?_
  refine S.quiet (k := 6) (keep := [2, 3, 10]) (m := 2) (σ' := ⟨[(2, .p 0 0), (3, .p 1 0), (10, .v (B (decide (a.prog = b.prog))))], [GT.cells (α := TGuest) a pa, GT.cells (α := TGuest) b pb]⟩) (.cons (Q_call fun w hw => c_impl_SameProg w a.prog pa.prog (rd_of (RGuest.prog (d := a) (S.arg ha)) hw) b.prog pb.prog (rd_of (RGuest.prog (d := b) (S.arg hb)) hw)) .nil) (by kernel_rfl) ?_
  clear S; intro ac w β S
  rcases Bool.eq_false_or_eq_true (decide (a.prog = b.prog)) with h1 | h1 <;> rw [h1] at S
  · have g2 := of_decide_eq_true h1
    refine S.quiet (k := 7) (keep := [2, 3, 17]) (m := 2) (σ' := ⟨[(2, .p 0 0), (3, .p 1 0), (17, .v (B (a.acc == b.acc)))], [GT.cells (α := TGuest) a pa, GT.cells (α := TGuest) b pb]⟩) .nil (by kernel_rfl) ?_
    clear S; intro ac w β S
    rcases Bool.eq_false_or_eq_true (a.acc == b.acc) with h3 | h3 <;> rw [h3] at S
    · have g4 : a.acc = b.acc := eq_of_beq h3
      refine S.quiet (k := 7) (keep := [2, 3, 24]) (m := 2) (σ' := ⟨[(2, .p 0 0), (3, .p 1 0), (24, .v (B (a.pc == b.pc)))], [GT.cells (α := TGuest) a pa, GT.cells (α := TGuest) b pb]⟩) .nil (by kernel_rfl) ?_
      clear S; intro ac w β S
      rcases Bool.eq_false_or_eq_true (a.pc == b.pc) with h5 | h5 <;> rw [h5] at S
      · have g6 : a.pc = b.pc := eq_of_beq h5
        refine S.quiet (k := 7) (keep := [2, 3, 31]) (m := 2) (σ' := ⟨[(2, .p 0 0), (3, .p 1 0), (31, .v (B (decide (a.written = b.written))))], [GT.cells (α := TGuest) a pa, GT.cells (α := TGuest) b pb]⟩) (.cons (Q_call fun w hw => c_impl_SameTable w a.written pa.written (rd_of (RGuest.written (d := a) (S.arg ha)) hw) b.written pb.written (rd_of (RGuest.written (d := b) (S.arg hb)) hw)) .nil) (by kernel_rfl) ?_
        clear S; intro ac w β S
        rcases Bool.eq_false_or_eq_true (decide (a.written = b.written)) with h7 | h7 <;> rw [h7] at S
        · have g8 := of_decide_eq_true h7
          refine S.quiet (k := 7) (keep := [2, 3, 38]) (m := 2) (σ' := ⟨[(2, .p 0 0), (3, .p 1 0), (38, .v (B (decide (a.live = b.live))))], [GT.cells (α := TGuest) a pa, GT.cells (α := TGuest) b pb]⟩) (.cons (Q_call fun w hw => c_impl_SameTable w a.live pa.live (rd_of (RGuest.live (d := a) (S.arg ha)) hw) b.live pb.live (rd_of (RGuest.live (d := b) (S.arg hb)) hw)) .nil) (by kernel_rfl) ?_
          clear S; intro ac w β S
          rcases Bool.eq_false_or_eq_true (decide (a.live = b.live)) with h9 | h9 <;> rw [h9] at S
          · have g10 := of_decide_eq_true h9
            refine S.quiet (k := 7) (keep := [2, 3, 45]) (m := 2) (σ' := ⟨[(2, .p 0 0), (3, .p 1 0), (45, .v (B (decide (a.ctl = b.ctl))))], [GT.cells (α := TGuest) a pa, GT.cells (α := TGuest) b pb]⟩) (.cons (Eq_eq_Ctl (t := 93) a.ctl b.ctl (by kernel_rfl)) .nil) (by kernel_rfl) ?_
            clear S; intro ac w β S
            rcases Bool.eq_false_or_eq_true (decide (a.ctl = b.ctl)) with h11 | h11 <;> rw [h11] at S
            · refine S.quiet (k := 7) (keep := [2, 3, 52]) (m := 2) (σ' := ⟨[(2, .p 0 0), (3, .p 1 0), (52, .v (B (a.pend == b.pend)))], [GT.cells (α := TGuest) a pa, GT.cells (α := TGuest) b pb]⟩) .nil (by kernel_rfl) ?_
              clear S; intro ac w β S
              rcases Bool.eq_false_or_eq_true (a.pend == b.pend) with h12 | h12 <;> rw [h12] at S
              · have g13 : a.pend = b.pend := eq_of_beq h12
                refine S.quiet (k := 7) (keep := [2, 3, 59]) (m := 2) (σ' := ⟨[(2, .p 0 0), (3, .p 1 0), (59, .v (B (decide (a.exit = b.exit))))], [GT.cells (α := TGuest) a pa, GT.cells (α := TGuest) b pb]⟩) (.cons (Eq_eq_Exit (t := 95) a.exit b.exit (by kernel_rfl)) .nil) (by kernel_rfl) ?_
                clear S; intro ac w β S
                rcases Bool.eq_false_or_eq_true (decide (a.exit = b.exit)) with h14 | h14 <;> rw [h14] at S
                · refine S.quiet (k := 7) (keep := [2, 3, 66]) (m := 2) (σ' := ⟨[(2, .p 0 0), (3, .p 1 0), (66, .v (B (a.halted == b.halted)))], [GT.cells (α := TGuest) a pa, GT.cells (α := TGuest) b pb]⟩) .nil (by kernel_rfl) ?_
                  clear S; intro ac w β S
                  rcases Bool.eq_false_or_eq_true (a.halted == b.halted) with h15 | h15 <;> rw [h15] at S
                  · have g16 : a.halted = b.halted := eq_of_beq h15
                    refine S.quiet (k := 7) (keep := [4]) (m := 0) (σ' := ⟨[(4, .v (B (decide (a.seen = b.seen))))], []⟩) (.cons (Q_call fun w hw => c_slices_Equal___int_int_ w a.seen pa.seen (rd_of (RGuest.seen (d := a) (S.arg ha)) hw) b.seen pb.seen (rd_of (RGuest.seen (d := b) (S.arg hb)) hw)) .nil) (by kernel_rfl) ?_
                    clear S; intro ac w β S
                    refine RG.done rfl (nx_then ?_)
                    refine wp_ret ?_
                    refine S.ret (vs := [B (decide (a.seen = b.seen))]) (by kernel_rfl) ?_
                    exact ⟨retB (show (decide (a.seen = b.seen)) = decide (a = b) by clear S; (first | (symm; refine decide_eq_false ?_; intro e; subst e; simp_all; done) | (symm; refine decide_eq_true ?_; rw [TGuest.ext_iff]; simp_all; done) | (rw [Bool.eq_iff_iff]; simp only [decide_eq_true_eq, TGuest.ext_iff, beq_iff_eq, Bool.and_eq_true]; simp_all; done))), S.chg⟩
                  · have g17 : ¬ (a.halted = b.halted) := ne_of_beq_false h15
                    refine S.quiet (k := 7) (keep := [4]) (m := 0) (σ' := ⟨[(4, .v (B false))], []⟩) .nil (by kernel_rfl) ?_
                    clear S; intro ac w β S
                    refine RG.done rfl (nx_then ?_)
                    refine wp_ret ?_
                    refine S.ret (vs := [B false]) (by kernel_rfl) ?_
                    exact ⟨retB (show false = decide (a = b) by clear S; (first | (symm; refine decide_eq_false ?_; intro e; subst e; simp_all; done) | (symm; refine decide_eq_true ?_; rw [TGuest.ext_iff]; simp_all; done) | (rw [Bool.eq_iff_iff]; simp only [decide_eq_true_eq, TGuest.ext_iff, beq_iff_eq, Bool.and_eq_true]; simp_all; done))), S.chg⟩
                · refine S.quiet (k := 14) (keep := [4]) (m := 0) (σ' := ⟨[(4, .v (B false))], []⟩) .nil (by kernel_rfl) ?_
                  clear S; intro ac w β S
                  refine RG.done rfl (nx_then ?_)
                  refine wp_ret ?_
                  refine S.ret (vs := [B false]) (by kernel_rfl) ?_
                  exact ⟨retB (show false = decide (a = b) by clear S; (first | (symm; refine decide_eq_false ?_; intro e; subst e; simp_all; done) | (symm; refine decide_eq_true ?_; rw [TGuest.ext_iff]; simp_all; done) | (rw [Bool.eq_iff_iff]; simp only [decide_eq_true_eq, TGuest.ext_iff, beq_iff_eq, Bool.and_eq_true]; simp_all; done))), S.chg⟩
              · have g18 : ¬ (a.pend = b.pend) := ne_of_beq_false h12
                refine S.quiet (k := 21) (keep := [4]) (m := 0) (σ' := ⟨[(4, .v (B false))], []⟩) .nil (by kernel_rfl) ?_
                clear S; intro ac w β S
                refine RG.done rfl (nx_then ?_)
                refine wp_ret ?_
                refine S.ret (vs := [B false]) (by kernel_rfl) ?_
                exact ⟨retB (show false = decide (a = b) by clear S; (first | (symm; refine decide_eq_false ?_; intro e; subst e; simp_all; done) | (symm; refine decide_eq_true ?_; rw [TGuest.ext_iff]; simp_all; done) | (rw [Bool.eq_iff_iff]; simp only [decide_eq_true_eq, TGuest.ext_iff, beq_iff_eq, Bool.and_eq_true]; simp_all; done))), S.chg⟩
            · refine S.quiet (k := 28) (keep := [4]) (m := 0) (σ' := ⟨[(4, .v (B false))], []⟩) .nil (by kernel_rfl) ?_
              clear S; intro ac w β S
              refine RG.done rfl (nx_then ?_)
              refine wp_ret ?_
              refine S.ret (vs := [B false]) (by kernel_rfl) ?_
              exact ⟨retB (show false = decide (a = b) by clear S; (first | (symm; refine decide_eq_false ?_; intro e; subst e; simp_all; done) | (symm; refine decide_eq_true ?_; rw [TGuest.ext_iff]; simp_all; done) | (rw [Bool.eq_iff_iff]; simp only [decide_eq_true_eq, TGuest.ext_iff, beq_iff_eq, Bool.and_eq_true]; simp_all; done))), S.chg⟩
          · have g19 := of_decide_eq_false h9
            refine S.quiet (k := 35) (keep := [4]) (m := 0) (σ' := ⟨[(4, .v (B false))], []⟩) .nil (by kernel_rfl) ?_
            clear S; intro ac w β S
            refine RG.done rfl (nx_then ?_)
            refine wp_ret ?_
            refine S.ret (vs := [B false]) (by kernel_rfl) ?_
            exact ⟨retB (show false = decide (a = b) by clear S; (first | (symm; refine decide_eq_false ?_; intro e; subst e; simp_all; done) | (symm; refine decide_eq_true ?_; rw [TGuest.ext_iff]; simp_all; done) | (rw [Bool.eq_iff_iff]; simp only [decide_eq_true_eq, TGuest.ext_iff, beq_iff_eq, Bool.and_eq_true]; simp_all; done))), S.chg⟩
        · have g20 := of_decide_eq_false h7
          refine S.quiet (k := 42) (keep := [4]) (m := 0) (σ' := ⟨[(4, .v (B false))], []⟩) .nil (by kernel_rfl) ?_
          clear S; intro ac w β S
          refine RG.done rfl (nx_then ?_)
          refine wp_ret ?_
          refine S.ret (vs := [B false]) (by kernel_rfl) ?_
          exact ⟨retB (show false = decide (a = b) by clear S; (first | (symm; refine decide_eq_false ?_; intro e; subst e; simp_all; done) | (symm; refine decide_eq_true ?_; rw [TGuest.ext_iff]; simp_all; done) | (rw [Bool.eq_iff_iff]; simp only [decide_eq_true_eq, TGuest.ext_iff, beq_iff_eq, Bool.and_eq_true]; simp_all; done))), S.chg⟩
      · have g21 : ¬ (a.pc = b.pc) := ne_of_beq_false h5
        refine S.quiet (k := 49) (keep := [4]) (m := 0) (σ' := ⟨[(4, .v (B false))], []⟩) .nil (by kernel_rfl) ?_
        clear S; intro ac w β S
        refine RG.done rfl (nx_then ?_)
        refine wp_ret ?_
        refine S.ret (vs := [B false]) (by kernel_rfl) ?_
        exact ⟨retB (show false = decide (a = b) by clear S; (first | (symm; refine decide_eq_false ?_; intro e; subst e; simp_all; done) | (symm; refine decide_eq_true ?_; rw [TGuest.ext_iff]; simp_all; done) | (rw [Bool.eq_iff_iff]; simp only [decide_eq_true_eq, TGuest.ext_iff, beq_iff_eq, Bool.and_eq_true]; simp_all; done))), S.chg⟩
    · have g22 : ¬ (a.acc = b.acc) := ne_of_beq_false h3
      refine S.quiet (k := 56) (keep := [4]) (m := 0) (σ' := ⟨[(4, .v (B false))], []⟩) .nil (by kernel_rfl) ?_
      clear S; intro ac w β S
      refine RG.done rfl (nx_then ?_)
      refine wp_ret ?_
      refine S.ret (vs := [B false]) (by kernel_rfl) ?_
      exact ⟨retB (show false = decide (a = b) by clear S; (first | (symm; refine decide_eq_false ?_; intro e; subst e; simp_all; done) | (symm; refine decide_eq_true ?_; rw [TGuest.ext_iff]; simp_all; done) | (rw [Bool.eq_iff_iff]; simp only [decide_eq_true_eq, TGuest.ext_iff, beq_iff_eq, Bool.and_eq_true]; simp_all; done))), S.chg⟩
  · have g23 := of_decide_eq_false h1
    refine S.quiet (k := 63) (keep := [4]) (m := 0) (σ' := ⟨[(4, .v (B false))], []⟩) .nil (by kernel_rfl) ?_
    clear S; intro ac w β S
    refine RG.done rfl (nx_then ?_)
    refine wp_ret ?_
    refine S.ret (vs := [B false]) (by kernel_rfl) ?_
    exact ⟨retB (show false = decide (a = b) by clear S; (first | (symm; refine decide_eq_false ?_; intro e; subst e; simp_all; done) | (symm; refine decide_eq_true ?_; rw [TGuest.ext_iff]; simp_all; done) | (rw [Bool.eq_iff_iff]; simp only [decide_eq_true_eq, TGuest.ext_iff, beq_iff_eq, Bool.and_eq_true]; simp_all; done))), S.chg⟩

set_option maxRecDepth 100000 in
theorem c_slices_EqualFunc___impl_Guest___impl_Guest_impl_Guest_impl_Guest_ (w0 : World) (a : List TGuest) (pa : LP TGuest) (ha : GT.rd KK (Lt w0.heap.size) w0 a pa) (b : List TGuest) (pb : LP TGuest) (hb : GT.rd KK (Lt w0.heap.size) w0 b pb) : Calls Go.Proofs.Tryz.prog 50 [slv (a).length pa.1, slv (b).length pb.1, (.func (.func 51) #[] #[])].toArray w0 (fun e w' => e = .returned (B (decide (a = b))) ∧ Chg NoB w0 w') := by
  refine Calls.walk (args := [slv (a).length pa.1, slv (b).length pb.1, (.func (.func 51) #[] #[])]) NoB Go.Proofs.Tryz.func50 rfl rfl ?_
  intro ac β S
  have hlea : a.length ≤ 4194304 := LRd.le ha
  have hleb : b.length ≤ 4194304 := LRd.le hb
  refine wp_seq ?_
  refine RG.start ?_
  refine S.quiet (k := 1) (keep := [0, 1, 2]) (m := 0) (σ' := ⟨[(0, .v (slv (a).length pa.1)), (1, .v (slv (b).length pb.1)), (2, .v ((.func (.func 51) #[] #[])))], []⟩) .nil (by kernel_rfl) ?_
  clear S; intro ac w β S
  refine RG.done rfl (nx_then ?_)
  refine wp_seq ?_
  refine wp_seq ?_
  refine RG.start ?_
  refine S.quiet (k := 5) (keep := [0, 1, 2, 14]) (m := 0) (σ' := ⟨[(0, .v (slv (a).length pa.1)), (1, .v (slv (b).length pb.1)), (2, .v ((.func (.func 51) #[] #[]))), (14, .v (B (((a).length : Int) != ((b).length : Int))))], []⟩) .nil (by kernel_rfl) ?_
  clear S; intro ac w β S
  refine RG.done rfl (nx_then ?_)
  refine S.cond (e := (((a).length : Int) != ((b).length : Int))) (by kernel_rfl) (fun h1 => ?_) (fun h1 => ?_)
  · have g2 : ¬ (((a).length : Int) = ((b).length : Int)) := bne_iff_ne.1 h1
    refine wp_seq ?_
    refine RG.start ?_
    refine S.quiet (k := 1) (keep := [6]) (m := 0) (σ' := ⟨[(6, .v (B false))], []⟩) .nil (by kernel_rfl) ?_
    clear S; intro ac w β S
    refine RG.done rfl (nx_then ?_)
    refine wp_ret (rt_then ?_)
    refine S.ret (vs := [B false]) (by kernel_rfl) ?_
    exact ⟨retB (show false = decide (a = b) by clear S; first | (simp; intro e; subst e; simp_all; done) | (simp; rw [take_all (by omega), take_all (by omega)] at he; exact he) | (simp; exact take_ne (by simp_all)) | (symm; exact decide_eq_false (take_ne (by assumption))) | (symm; exact decide_eq_true (by rw [take_all (by omega), take_all (by omega)] at he; exact he)) | (symm; refine decide_eq_false ?_; intro e; rw [e] at *; omega)), S.chg⟩
  · have g3 : ((a).length : Int) = ((b).length : Int) := ne_f h1
    refine wp_skip (nx_then ?_)
    refine wp_seq ?_
    refine wp_seq ?_
    refine RG.start ?_
    refine S.quiet (k := 3) (keep := [1, 2, 15, 16, 17]) (m := 0) (σ' := ⟨[(1, .v (slv (b).length pb.1)), (2, .v ((.func (.func 51) #[] #[]))), (15, .v (slv (a).length pa.1)), (16, .v (I ((a).length : Int))), (17, .v (I 0))], []⟩) .nil (by kernel_rfl) ?_
    clear S; intro ac w β S
    refine RG.done rfl (nx_then ?_)
    refine wp_block ?_
    replace S := S.prune (keep := [1, 2, 15, 16, 17]) (m := 0) (σ' := ⟨[(1, .v (slv (b).length pb.1)), (2, .v ((.func (.func 51) #[] #[]))), (15, .v (slv (a).length pa.1)), (16, .v (I ((a).length : Int))), (17, .v (I 0))], []⟩) (by kernel_rfl)
    refine wp_loop_down (fun mm ac w => ∃ (k : Nat)  (u : World) (N : Bl) (β : Nat → Nat), mm = a.length - k ∧ (k ≤ a.length) ∧ (a.length = b.length) ∧ (a.take k = b.take k) ∧ St Go.Proofs.Tryz.prog Go.Proofs.Tryz.f50.ntmps w0 NoB u N β ⟨[(1, .v (slv (b).length pb.1)), (2, .v ((.func (.func 51) #[] #[]))), (15, .v (slv (a).length pa.1)), (16, .v (I ((a).length : Int))), (17, .v (I (k : Int)))], []⟩ ac w) _ ⟨0, _, _, _, rfl, (by first | omega | (simp; done) | (simp; omega)), (by first | omega | (simp; done) | (simp; omega)), (by simp), S.cast (by kernel_rfl)⟩ ?_
    clear S
    rintro mm ac w ⟨k, u, N, β, rfl, hk, hab, he, S⟩
    refine wp_seq ?_
    refine RG.start ?_
    refine S.quiet (k := 1) (keep := [1, 2, 15, 16, 17, 18]) (m := 0) (σ' := ⟨[(1, .v (slv (b).length pb.1)), (2, .v ((.func (.func 51) #[] #[]))), (15, .v (slv (a).length pa.1)), (16, .v (I ((a).length : Int))), (17, .v (I (k : Int))), (18, .v (B (decide ((k : Int) < ((a).length : Int)))))], []⟩) .nil (by kernel_rfl) ?_
    clear S; intro ac w β S
    refine RG.done rfl (nx_then ?_)
    refine wp_seq ?_
    refine S.cond (e := (decide ((k : Int) < ((a).length : Int)))) (by kernel_rfl) (fun h4 => ?_) (fun h4 => ?_)
    · have g5 : (k : Int) < ((a).length : Int) := of_decide_eq_true h4
      refine wp_skip (nx_then ?_)
      refine wp_seq ?_
      refine wp_block ?_
      refine wp_seq ?_
      refine RG.start ?_
      refine S.quiet (k := 6) (keep := [1, 2, 7, 8, 15, 16, 17]) (m := 1) (σ' := ⟨[(1, .v (slv (b).length pb.1)), (2, .v ((.func (.func 51) #[] #[]))), (7, .v (I (k : Int))), (8, .p 0 0), (15, .v (slv (a).length pa.1)), (16, .v (I ((a).length : Int))), (17, .v (I (k : Int)))], [GT.cells (α := TGuest) (el a k) (pa.2 k)]⟩) (.cons (Q_idx (S.arg ha) (l := (a).length) (k := k) (i := (k : Int)) rfl rfl (by omega) Go.Proofs.Tryz.underlying58 (by kernel_rfl)) (.cons (Q_el (S.arg ha) (t := 97) (k := k) (by omega) rfl (by kernel_rfl) (by kernel_rfl)) .nil)) (by kernel_rfl) ?_
      clear S; intro ac w β S
      refine RG.done rfl (nx_then ?_)
      refine wp_seq ?_
      refine RG.start ?_
      refine S.quiet (k := 6) (keep := [1, 2, 8, 9, 15, 16, 17]) (m := 2) (σ' := ⟨[(1, .v (slv (b).length pb.1)), (2, .v ((.func (.func 51) #[] #[]))), (8, .p 0 0), (9, .p 1 0), (15, .v (slv (a).length pa.1)), (16, .v (I ((a).length : Int))), (17, .v (I (k : Int)))], [GT.cells (α := TGuest) (el a k) (pa.2 k), GT.cells (α := TGuest) (el b k) (pb.2 k)]⟩) (.cons (Q_idx (S.arg hb) (l := (b).length) (k := k) (i := (k : Int)) rfl rfl (by omega) Go.Proofs.Tryz.underlying58 (by kernel_rfl)) (.cons (Q_el (S.arg hb) (t := 97) (k := k) (by omega) rfl (by kernel_rfl) (by kernel_rfl)) .nil)) (by kernel_rfl) ?_
      clear S; intro ac w β S
      refine RG.done rfl (nx_then ?_)
      refine wp_seq ?_
      refine RG.start ?_
      refine S.quiet (k := 5) (keep := [1, 2, 15, 16, 17, 30]) (m := 0) (σ' := ⟨[(1, .v (slv (b).length pb.1)), (2, .v ((.func (.func 51) #[] #[]))), (15, .v (slv (a).length pa.1)), (16, .v (I ((a).length : Int))), (17, .v (I (k : Int))), (30, .v (B (!(decide ((el a k) = (el b k))))))], []⟩) (.cons (Q_call fun w hw => c_impl_SameGuest w (el a k) (pa.2 k) (rd_of (LRd.el (S.arg ha) k (by omega)) hw) (el b k) (pb.2 k) (rd_of (LRd.el (S.arg hb) k (by omega)) hw)) .nil) (by kernel_rfl) ?_
      clear S; intro ac w β S
      refine RG.done rfl (nx_then ?_)
      refine S.cond (e := (!(decide ((el a k) = (el b k))))) (by kernel_rfl) (fun h6 => ?_) (fun h6 => ?_)
      · have h7 : (decide ((el a k) = (el b k))) = false := not_t h6
        have g8 := of_decide_eq_false h7
        refine wp_seq ?_
        refine RG.start ?_
        refine S.quiet (k := 1) (keep := [6]) (m := 0) (σ' := ⟨[(6, .v (B false))], []⟩) .nil (by kernel_rfl) ?_
        clear S; intro ac w β S
        refine RG.done rfl (nx_then ?_)
        refine wp_ret (rt_block (rt_then (rt_then (rt_block (rt_then ?_)))))
        refine S.ret (vs := [B false]) (by kernel_rfl) ?_
        exact ⟨retB (show false = decide (a = b) by clear S; first | (simp; intro e; subst e; simp_all; done) | (simp; rw [take_all (by omega), take_all (by omega)] at he; exact he) | (simp; exact take_ne (by simp_all)) | (symm; exact decide_eq_false (take_ne (by assumption))) | (symm; exact decide_eq_true (by rw [take_all (by omega), take_all (by omega)] at he; exact he)) | (symm; refine decide_eq_false ?_; intro e; rw [e] at *; omega)), S.chg⟩
      · have h9 : (decide ((el a k) = (el b k))) = true := not_f h6
        have g10 := of_decide_eq_true h9
        refine wp_skip (nx_block (nx_then ?_))
        refine RG.start ?_
        refine S.quiet (k := 2) (keep := [1, 2, 15, 16, 17]) (m := 0) (σ' := ⟨[(1, .v (slv (b).length pb.1)), (2, .v ((.func (.func 51) #[] #[]))), (15, .v (slv (a).length pa.1)), (16, .v (I ((a).length : Int))), (17, .v (I ((k : Int) + 1)))], []⟩) (.cons (Q_add (x := (k : Int)) (y := 1) ⟨by omega, by omega⟩) .nil) (by kernel_rfl) ?_
        clear S; intro ac w β S
        refine RG.done rfl (nx_then ?_)
        replace S := S.prune (keep := [1, 2, 15, 16, 17]) (m := 0) (σ' := ⟨[(1, .v (slv (b).length pb.1)), (2, .v ((.func (.func 51) #[] #[]))), (15, .v (slv (a).length pa.1)), (16, .v (I ((a).length : Int))), (17, .v (I ((k : Int) + 1)))], []⟩) (by kernel_rfl)
        refine ⟨a.length - (k + 1), by omega, k + 1, _, _, _, rfl, ?_, ?_, ?_, S.cast (by kernel_rfl)⟩
        · clear S; first | omega | (simp [*]; done) | (simp [*]; omega)
        · clear S; first | omega | (simp [*]; done) | (simp [*]; omega)
        · clear S; exact take_eq_step (by omega) (by omega) he (by simp_all)
    · have g11 : ¬ ((k : Int) < ((a).length : Int)) := of_decide_eq_false h4
      refine wp_exit (ex_then (ex_then (ex_hit (nx_then ?_))))
      refine wp_seq ?_
      refine RG.start ?_
      refine S.quiet (k := 1) (keep := [6]) (m := 0) (σ' := ⟨[(6, .v (B true))], []⟩) .nil (by kernel_rfl) ?_
      clear S; intro ac w β S
      refine RG.done rfl (nx_then ?_)
      refine wp_ret ?_
      refine S.ret (vs := [B true]) (by kernel_rfl) ?_
      exact ⟨retB (show true = decide (a = b) by clear S; first | (simp; intro e; subst e; simp_all; done) | (simp; rw [take_all (by omega), take_all (by omega)] at he; exact he) | (simp; exact take_ne (by simp_all)) | (symm; exact decide_eq_false (take_ne (by assumption))) | (symm; exact decide_eq_true (by rw [take_all (by omega), take_all (by omega)] at he; exact he)) | (symm; refine decide_eq_false ?_; intro e; rw [e] at *; omega)), S.chg⟩

set_option maxRecDepth 100000 in
theorem c_impl_SameBare (w0 : World) (a : TBare) (pa : PBare) (ha : GT.rd KK (Lt w0.heap.size) w0 a pa) (b : TBare) (pb : PBare) (hb : GT.rd KK (Lt w0.heap.size) w0 b pb) : Calls Go.Proofs.Tryz.prog 31 [GT.val (α := TBare) a pa, GT.val (α := TBare) b pb].toArray w0 (fun e w' => e = .returned (B (decide (a = b))) ∧ Chg NoB w0 w') := by
  refine Calls.walk (args := [GT.val (α := TBare) a pa, GT.val (α := TBare) b pb]) NoB Go.Proofs.Tryz.func31 rfl rfl ?_
  intro ac β S
  have hlea_mem : a.mem.length ≤ 4194304 := LRd.le (RBare.mem (d := a) ha)
  have hlea_guests : a.guests.length ≤ 4194304 := LRd.le (RBare.guests (d := a) ha)
  have hlea_outs : a.outs.length ≤ 4194304 := LRd.le (RBare.outs (d := a) ha)
  have hleb_mem : b.mem.length ≤ 4194304 := LRd.le (RBare.mem (d := b) hb)
  have hleb_guests : b.guests.length ≤ 4194304 := LRd.le (RBare.guests (d := b) hb)
  have hleb_outs : b.outs.length ≤ 4194304 := LRd.le (RBare.outs (d := b) hb)
  refine wp_seq ?_
  refine RG.start ?_
  refine S.quiet (k := 3) (keep := [2, 3]) (m := 2) (σ' := ⟨[(2, .p 0 0), (3, .p 1 0)], [GT.cells (α := TBare) a pa, GT.cells (α := TBare) b pb]⟩) .nil (by kernel_rfl) ?_
  clear S; intro ac w β S
  refine RG.done rfl (nx_then ?_)
  refine wp_seq ?_
  refine RG.start ?_
  refine S.quiet (k := 6) (keep := [2, 3, 10]) (m := 2) (σ' := ⟨[(2, .p 0 0), (3, .p 1 0), (10, .v (B (decide (a.mem = b.mem))))], [GT.cells (α := TBare) a pa, GT.cells (α := TBare) b pb]⟩) (.cons (Q_call fun w hw => c_impl_SameMem w a.mem pa.mem (rd_of (RBare.mem (d := a) (S.arg ha)) hw) b.mem pb.mem (rd_of (RBare.mem (d := b) (S.arg hb)) hw)) .nil) (by kernel_rfl) ?_
  clear S; intro ac w β S
  rcases Bool.eq_false_or_eq_true (decide (a.mem = b.mem)) with h1 | h1 <;> rw [h1] at S
  · have g2 := of_decide_eq_true h1
    refine S.quiet (k := 7) (keep := [2, 3, 17]) (m := 2) (σ' := ⟨[(2, .p 0 0), (3, .p 1 0), (17, .v (B (decide (a.guests = b.guests))))], [GT.cells (α := TBare) a pa, GT.cells (α := TBare) b pb]⟩) (.cons (Q_call fun w hw => c_slices_EqualFunc___impl_Guest___impl_Guest_impl_Guest_impl_Guest_ w a.guests pa.guests (rd_of (RBare.guests (d := a) (S.arg ha)) hw) b.guests pb.guests (rd_of (RBare.guests (d := b) (S.arg hb)) hw)) .nil) (by kernel_rfl) ?_
    clear S; intro ac w β S
    rcases Bool.eq_false_or_eq_true (decide (a.guests = b.guests)) with h3 | h3 <;> rw [h3] at S
    · have g4 := of_decide_eq_true h3
      refine S.quiet (k := 7) (keep := [2, 3, 24]) (m := 2) (σ' := ⟨[(2, .p 0 0), (3, .p 1 0), (24, .v (B (decide (a.outs = b.outs))))], [GT.cells (α := TBare) a pa, GT.cells (α := TBare) b pb]⟩) (.cons (Q_call fun w hw => c_slices_Equal___int_int_ w a.outs pa.outs (rd_of (RBare.outs (d := a) (S.arg ha)) hw) b.outs pb.outs (rd_of (RBare.outs (d := b) (S.arg hb)) hw)) .nil) (by kernel_rfl) ?_
      clear S; intro ac w β S
      rcases Bool.eq_false_or_eq_true (decide (a.outs = b.outs)) with h5 | h5 <;> rw [h5] at S
      · have g6 := of_decide_eq_true h5
        refine S.quiet (k := 7) (keep := [4]) (m := 0) (σ' := ⟨[(4, .v (B (a.pend == b.pend)))], []⟩) .nil (by kernel_rfl) ?_
        clear S; intro ac w β S
        refine RG.done rfl (nx_then ?_)
        refine wp_ret ?_
        refine S.ret (vs := [B (a.pend == b.pend)]) (by kernel_rfl) ?_
        exact ⟨retB (show (a.pend == b.pend) = decide (a = b) by clear S; (first | (symm; refine decide_eq_false ?_; intro e; subst e; simp_all; done) | (symm; refine decide_eq_true ?_; rw [TBare.ext_iff]; simp_all; done) | (rw [Bool.eq_iff_iff]; simp only [decide_eq_true_eq, TBare.ext_iff, beq_iff_eq, Bool.and_eq_true]; simp_all; done))), S.chg⟩
      · have g7 := of_decide_eq_false h5
        refine S.quiet (k := 7) (keep := [4]) (m := 0) (σ' := ⟨[(4, .v (B false))], []⟩) .nil (by kernel_rfl) ?_
        clear S; intro ac w β S
        refine RG.done rfl (nx_then ?_)
        refine wp_ret ?_
        refine S.ret (vs := [B false]) (by kernel_rfl) ?_
        exact ⟨retB (show false = decide (a = b) by clear S; (first | (symm; refine decide_eq_false ?_; intro e; subst e; simp_all; done) | (symm; refine decide_eq_true ?_; rw [TBare.ext_iff]; simp_all; done) | (rw [Bool.eq_iff_iff]; simp only [decide_eq_true_eq, TBare.ext_iff, beq_iff_eq, Bool.and_eq_true]; simp_all; done))), S.chg⟩
    · have g8 := of_decide_eq_false h3
      refine S.quiet (k := 14) (keep := [4]) (m := 0) (σ' := ⟨[(4, .v (B false))], []⟩) .nil (by kernel_rfl) ?_
      clear S; intro ac w β S
      refine RG.done rfl (nx_then ?_)
      refine wp_ret ?_
      refine S.ret (vs := [B false]) (by kernel_rfl) ?_
      exact ⟨retB (show false = decide (a = b) by clear S; (first | (symm; refine decide_eq_false ?_; intro e; subst e; simp_all; done) | (symm; refine decide_eq_true ?_; rw [TBare.ext_iff]; simp_all; done) | (rw [Bool.eq_iff_iff]; simp only [decide_eq_true_eq, TBare.ext_iff, beq_iff_eq, Bool.and_eq_true]; simp_all; done))), S.chg⟩
  · have g9 := of_decide_eq_false h1
    refine S.quiet (k := 21) (keep := [4]) (m := 0) (σ' := ⟨[(4, .v (B false))], []⟩) .nil (by kernel_rfl) ?_
    clear S; intro ac w β S
    refine RG.done rfl (nx_then ?_)
    refine wp_ret ?_
    refine S.ret (vs := [B false]) (by kernel_rfl) ?_
    exact ⟨retB (show false = decide (a = b) by clear S; (first | (symm; refine decide_eq_false ?_; intro e; subst e; simp_all; done) | (symm; refine decide_eq_true ?_; rw [TBare.ext_iff]; simp_all; done) | (rw [Bool.eq_iff_iff]; simp only [decide_eq_true_eq, TBare.ext_iff, beq_iff_eq, Bool.and_eq_true]; simp_all; done))), S.chg⟩

set_option maxRecDepth 100000 in
theorem c_slices_EqualFunc___impl_Bare___impl_Bare_impl_Bare_impl_Bare_ (w0 : World) (a : List TBare) (pa : LP TBare) (ha : GT.rd KK (Lt w0.heap.size) w0 a pa) (b : List TBare) (pb : LP TBare) (hb : GT.rd KK (Lt w0.heap.size) w0 b pb) : Calls Go.Proofs.Tryz.prog 30 [slv (a).length pa.1, slv (b).length pb.1, (.func (.func 31) #[] #[])].toArray w0 (fun e w' => e = .returned (B (decide (a = b))) ∧ Chg NoB w0 w') := by
  refine Calls.walk (args := [slv (a).length pa.1, slv (b).length pb.1, (.func (.func 31) #[] #[])]) NoB Go.Proofs.Tryz.func30 rfl rfl ?_
  intro ac β S
  have hlea : a.length ≤ 4194304 := LRd.le ha
  have hleb : b.length ≤ 4194304 := LRd.le hb
  refine wp_seq ?_
  refine RG.start ?_
  refine S.quiet (k := 1) (keep := [0, 1, 2]) (m := 0) (σ' := ⟨[(0, .v (slv (a).length pa.1)), (1, .v (slv (b).length pb.1)), (2, .v ((.func (.func 31) #[] #[])))], []⟩) .nil (by kernel_rfl) ?_
  clear S; intro ac w β S
  refine RG.done rfl (nx_then ?_)
  refine wp_seq ?_
  refine wp_seq ?_
  refine RG.start ?_
  refine S.quiet (k := 5) (keep := [0, 1, 2, 14]) (m := 0) (σ' := ⟨[(0, .v (slv (a).length pa.1)), (1, .v (slv (b).length pb.1)), (2, .v ((.func (.func 31) #[] #[]))), (14, .v (B (((a).length : Int) != ((b).length : Int))))], []⟩) .nil (by kernel_rfl) ?_
  clear S; intro ac w β S
  refine RG.done rfl (nx_then ?_)
  refine S.cond (e := (((a).length : Int) != ((b).length : Int))) (by kernel_rfl) (fun h1 => ?_) (fun h1 => ?_)
  · have g2 : ¬ (((a).length : Int) = ((b).length : Int)) := bne_iff_ne.1 h1
    refine wp_seq ?_
    refine RG.start ?_
    refine S.quiet (k := 1) (keep := [6]) (m := 0) (σ' := ⟨[(6, .v (B false))], []⟩) .nil (by kernel_rfl) ?_
    clear S; intro ac w β S
    refine RG.done rfl (nx_then ?_)
    refine wp_ret (rt_then ?_)
    refine S.ret (vs := [B false]) (by kernel_rfl) ?_
    exact ⟨retB (show false = decide (a = b) by clear S; first | (simp; intro e; subst e; simp_all; done) | (simp; rw [take_all (by omega), take_all (by omega)] at he; exact he) | (simp; exact take_ne (by simp_all)) | (symm; exact decide_eq_false (take_ne (by assumption))) | (symm; exact decide_eq_true (by rw [take_all (by omega), take_all (by omega)] at he; exact he)) | (symm; refine decide_eq_false ?_; intro e; rw [e] at *; omega)), S.chg⟩
  · have g3 : ((a).length : Int) = ((b).length : Int) := ne_f h1
    refine wp_skip (nx_then ?_)
    refine wp_seq ?_
    refine wp_seq ?_
    refine RG.start ?_
    refine S.quiet (k := 3) (keep := [1, 2, 15, 16, 17]) (m := 0) (σ' := ⟨[(1, .v (slv (b).length pb.1)), (2, .v ((.func (.func 31) #[] #[]))), (15, .v (slv (a).length pa.1)), (16, .v (I ((a).length : Int))), (17, .v (I 0))], []⟩) .nil (by kernel_rfl) ?_
    clear S; intro ac w β S
    refine RG.done rfl (nx_then ?_)
    refine wp_block ?_
    replace S := S.prune (keep := [1, 2, 15, 16, 17]) (m := 0) (σ' := ⟨[(1, .v (slv (b).length pb.1)), (2, .v ((.func (.func 31) #[] #[]))), (15, .v (slv (a).length pa.1)), (16, .v (I ((a).length : Int))), (17, .v (I 0))], []⟩) (by kernel_rfl)
    refine wp_loop_down (fun mm ac w => ∃ (k : Nat)  (u : World) (N : Bl) (β : Nat → Nat), mm = a.length - k ∧ (k ≤ a.length) ∧ (a.length = b.length) ∧ (a.take k = b.take k) ∧ St Go.Proofs.Tryz.prog Go.Proofs.Tryz.f30.ntmps w0 NoB u N β ⟨[(1, .v (slv (b).length pb.1)), (2, .v ((.func (.func 31) #[] #[]))), (15, .v (slv (a).length pa.1)), (16, .v (I ((a).length : Int))), (17, .v (I (k : Int)))], []⟩ ac w) _ ⟨0, _, _, _, rfl, (by first | omega | (simp; done) | (simp; omega)), (by first | omega | (simp; done) | (simp; omega)), (by simp), S.cast (by kernel_rfl)⟩ ?_
    clear S
    rintro mm ac w ⟨k, u, N, β, rfl, hk, hab, he, S⟩
    refine wp_seq ?_
    refine RG.start ?_
    refine S.quiet (k := 1) (keep := [1, 2, 15, 16, 17, 18]) (m := 0) (σ' := ⟨[(1, .v (slv (b).length pb.1)), (2, .v ((.func (.func 31) #[] #[]))), (15, .v (slv (a).length pa.1)), (16, .v (I ((a).length : Int))), (17, .v (I (k : Int))), (18, .v (B (decide ((k : Int) < ((a).length : Int)))))], []⟩) .nil (by kernel_rfl) ?_
    clear S; intro ac w β S
    refine RG.done rfl (nx_then ?_)
    refine wp_seq ?_
    refine S.cond (e := (decide ((k : Int) < ((a).length : Int)))) (by kernel_rfl) (fun h4 => ?_) (fun h4 => ?_)
    · have g5 : (k : Int) < ((a).length : Int) := of_decide_eq_true h4
      refine wp_skip (nx_then ?_)
      refine wp_seq ?_
      refine wp_block ?_
      refine wp_seq ?_
      refine RG.start ?_
      refine S.quiet (k := 6) (keep := [1, 2, 7, 8, 15, 16, 17]) (m := 1) (σ' := ⟨[(1, .v (slv (b).length pb.1)), (2, .v ((.func (.func 31) #[] #[]))), (7, .v (I (k : Int))), (8, .p 0 0), (15, .v (slv (a).length pa.1)), (16, .v (I ((a).length : Int))), (17, .v (I (k : Int)))], [GT.cells (α := TBare) (el a k) (pa.2 k)]⟩) (.cons (Q_idx (S.arg ha) (l := (a).length) (k := k) (i := (k : Int)) rfl rfl (by omega) Go.Proofs.Tryz.underlying38 (by kernel_rfl)) (.cons (Q_el (S.arg ha) (t := 60) (k := k) (by omega) rfl (by kernel_rfl) (by kernel_rfl)) .nil)) (by kernel_rfl) ?_
      clear S; intro ac w β S
      refine RG.done rfl (nx_then ?_)
      refine wp_seq ?_
      refine RG.start ?_
      refine S.quiet (k := 6) (keep := [1, 2, 8, 9, 15, 16, 17]) (m := 2) (σ' := ⟨[(1, .v (slv (b).length pb.1)), (2, .v ((.func (.func 31) #[] #[]))), (8, .p 0 0), (9, .p 1 0), (15, .v (slv (a).length pa.1)), (16, .v (I ((a).length : Int))), (17, .v (I (k : Int)))], [GT.cells (α := TBare) (el a k) (pa.2 k), GT.cells (α := TBare) (el b k) (pb.2 k)]⟩) (.cons (Q_idx (S.arg hb) (l := (b).length) (k := k) (i := (k : Int)) rfl rfl (by omega) Go.Proofs.Tryz.underlying38 (by kernel_rfl)) (.cons (Q_el (S.arg hb) (t := 60) (k := k) (by omega) rfl (by kernel_rfl) (by kernel_rfl)) .nil)) (by kernel_rfl) ?_
      clear S; intro ac w β S
      refine RG.done rfl (nx_then ?_)
      refine wp_seq ?_
      refine RG.start ?_
      refine S.quiet (k := 5) (keep := [1, 2, 15, 16, 17, 30]) (m := 0) (σ' := ⟨[(1, .v (slv (b).length pb.1)), (2, .v ((.func (.func 31) #[] #[]))), (15, .v (slv (a).length pa.1)), (16, .v (I ((a).length : Int))), (17, .v (I (k : Int))), (30, .v (B (!(decide ((el a k) = (el b k))))))], []⟩) (.cons (Q_call fun w hw => c_impl_SameBare w (el a k) (pa.2 k) (rd_of (LRd.el (S.arg ha) k (by omega)) hw) (el b k) (pb.2 k) (rd_of (LRd.el (S.arg hb) k (by omega)) hw)) .nil) (by kernel_rfl) ?_
      clear S; intro ac w β S
      refine RG.done rfl (nx_then ?_)
      refine S.cond (e := (!(decide ((el a k) = (el b k))))) (by kernel_rfl) (fun h6 => ?_) (fun h6 => ?_)
      · have h7 : (decide ((el a k) = (el b k))) = false := not_t h6
        have g8 := of_decide_eq_false h7
        refine wp_seq ?_
        refine RG.start ?_
        refine S.quiet (k := 1) (keep := [6]) (m := 0) (σ' := ⟨[(6, .v (B false))], []⟩) .nil (by kernel_rfl) ?_
        clear S; intro ac w β S
        refine RG.done rfl (nx_then ?_)
        refine wp_ret (rt_block (rt_then (rt_then (rt_block (rt_then ?_)))))
        refine S.ret (vs := [B false]) (by kernel_rfl) ?_
        exact ⟨retB (show false = decide (a = b) by clear S; first | (simp; intro e; subst e; simp_all; done) | (simp; rw [take_all (by omega), take_all (by omega)] at he; exact he) | (simp; exact take_ne (by simp_all)) | (symm; exact decide_eq_false (take_ne (by assumption))) | (symm; exact decide_eq_true (by rw [take_all (by omega), take_all (by omega)] at he; exact he)) | (symm; refine decide_eq_false ?_; intro e; rw [e] at *; omega)), S.chg⟩
      · have h9 : (decide ((el a k) = (el b k))) = true := not_f h6
        have g10 := of_decide_eq_true h9
        refine wp_skip (nx_block (nx_then ?_))
        refine RG.start ?_
        refine S.quiet (k := 2) (keep := [1, 2, 15, 16, 17]) (m := 0) (σ' := ⟨[(1, .v (slv (b).length pb.1)), (2, .v ((.func (.func 31) #[] #[]))), (15, .v (slv (a).length pa.1)), (16, .v (I ((a).length : Int))), (17, .v (I ((k : Int) + 1)))], []⟩) (.cons (Q_add (x := (k : Int)) (y := 1) ⟨by omega, by omega⟩) .nil) (by kernel_rfl) ?_
        clear S; intro ac w β S
        refine RG.done rfl (nx_then ?_)
        replace S := S.prune (keep := [1, 2, 15, 16, 17]) (m := 0) (σ' := ⟨[(1, .v (slv (b).length pb.1)), (2, .v ((.func (.func 31) #[] #[]))), (15, .v (slv (a).length pa.1)), (16, .v (I ((a).length : Int))), (17, .v (I ((k : Int) + 1)))], []⟩) (by kernel_rfl)
        refine ⟨a.length - (k + 1), by omega, k + 1, _, _, _, rfl, ?_, ?_, ?_, S.cast (by kernel_rfl)⟩
        · clear S; first | omega | (simp [*]; done) | (simp [*]; omega)
        · clear S; first | omega | (simp [*]; done) | (simp [*]; omega)
        · clear S; exact take_eq_step (by omega) (by omega) he (by simp_all)
    · have g11 : ¬ ((k : Int) < ((a).length : Int)) := of_decide_eq_false h4
      refine wp_exit (ex_then (ex_then (ex_hit (nx_then ?_))))
      refine wp_seq ?_
      refine RG.start ?_
      refine S.quiet (k := 1) (keep := [6]) (m := 0) (σ' := ⟨[(6, .v (B true))], []⟩) .nil (by kernel_rfl) ?_
      clear S; intro ac w β S
      refine RG.done rfl (nx_then ?_)
      refine wp_ret ?_
      refine S.ret (vs := [B true]) (by kernel_rfl) ?_
      exact ⟨retB (show true = decide (a = b) by clear S; first | (simp; intro e; subst e; simp_all; done) | (simp; rw [take_all (by omega), take_all (by omega)] at he; exact he) | (simp; exact take_ne (by simp_all)) | (symm; exact decide_eq_false (take_ne (by assumption))) | (symm; exact decide_eq_true (by rw [take_all (by omega), take_all (by omega)] at he; exact he)) | (symm; refine decide_eq_false ?_; intro e; rw [e] at *; omega)), S.chg⟩

set_option maxRecDepth 100000 in
theorem c_impl_IsSeenAs (w0 : World) (h : THost) (ph : PHost) (hh : GT.rd KK (Lt w0.heap.size) w0 h ph) (list : List TBare) (plist : LP TBare) (hlist : GT.rd KK (Lt w0.heap.size) w0 list plist) : Calls Go.Proofs.Tryz.prog 13 [GT.val (α := THost) h ph, slv (list).length plist.1].toArray w0 (fun e w' => e = .returned (B (f_isSeenAs h list)) ∧ Chg NoB w0 w') := by
  refine Calls.walk (args := [GT.val (α := THost) h ph, slv (list).length plist.1]) NoB Go.Proofs.Tryz.func13 rfl rfl ?_
  intro ac β S
  have hleh_mem : h.mem.length ≤ 4194304 := LRd.le (RHost.mem (d := h) hh)
  have hleh_mons : h.mons.length ≤ 4194304 := LRd.le (RHost.mons (d := h) hh)
  have hleh_buf : h.buf.length ≤ 4194304 := LRd.le (RHost.buf (d := h) hh)
  have hleh_iobuf : h.iobuf.length ≤ 4194304 := LRd.le (RHost.iobuf (d := h) hh)
  have hlelist : list.length ≤ 4194304 := LRd.le hlist
  refine wp_seq ?_
  refine RG.start ?_
  refine S.quiet (k := 2) (keep := [1, 2]) (m := 1) (σ' := ⟨[(1, .v (slv (list).length plist.1)), (2, .p 0 0)], [GT.cells (α := THost) h ph]⟩) .nil (by kernel_rfl) ?_
  clear S; intro ac w β S
  refine RG.done rfl (nx_then ?_)
  refine wp_seq ?_
  refine RG.start ?_
  refine S.quiet (k := 1) (keep := [1, 5]) (m := 0) (σ' := ⟨[(1, .v (slv (list).length plist.1)), (5, .v (GT.val (α := THost) h ph))], []⟩) .nil (by kernel_rfl) ?_
  clear S; intro ac w β S
  refine RG.op rfl (S.call1 (r := f_allSeenAs h) (d := 6) (c_impl_AllSeenAs w h ph (S.rd (S.arg hh))) (by kernel_rfl) rfl ?_)
  clear S; intro ac w N q1 F2 S up o3 d4
  clear up d4
  refine S.quiet (k := 3) (keep := [4]) (m := 0) (σ' := ⟨[(4, .v (B (decide ((f_allSeenAs h) = list))))], []⟩) (.cons (Q_call fun w hw => c_slices_EqualFunc___impl_Bare___impl_Bare_impl_Bare_impl_Bare_ w (f_allSeenAs h) q1 (rd_of o3.rn hw) list plist (rd_of (S.arg hlist) hw)) .nil) (by kernel_rfl) ?_
  clear S; intro ac w β S
  refine RG.done rfl (nx_then ?_)
  refine wp_ret ?_
  refine S.ret (vs := [B (decide ((f_allSeenAs h) = list))]) (by kernel_rfl) ?_
  exact ⟨retB (show (decide ((f_allSeenAs h) = list)) = f_isSeenAs h list by clear S; first | rfl | (simp [f_isSeenAs, *]; done) | (simp [f_isSeenAs, *]; omega) | (simp_all [f_isSeenAs]; done) | (simp_all [f_isSeenAs]; omega)), S.chg⟩

set_option maxRecDepth 100000 in
theorem c_laws_eqIntS (w0 : World) (a : List Int) (pa : LP Int) (ha : GT.rd KK (Lt w0.heap.size) w0 a pa) (b : List Int) (pb : LP Int) (hb : GT.rd KK (Lt w0.heap.size) w0 b pb) : Calls Go.Proofs.Tryz.prog 39 [slv (a).length pa.1, slv (b).length pb.1].toArray w0 (fun e w' => e = .returned (B (decide (a = b))) ∧ Chg NoB w0 w') := by
  refine Calls.walk (args := [slv (a).length pa.1, slv (b).length pb.1]) NoB Go.Proofs.Tryz.func39 rfl rfl ?_
  intro ac β S
  have hlea : a.length ≤ 4194304 := LRd.le ha
  have hleb : b.length ≤ 4194304 := LRd.le hb
  refine wp_seq ?_
  refine RG.start ?_
  refine S.quiet (k := 1) (keep := [0, 1]) (m := 0) (σ' := ⟨[(0, .v (slv (a).length pa.1)), (1, .v (slv (b).length pb.1))], []⟩) .nil (by kernel_rfl) ?_
  clear S; intro ac w β S
  refine RG.done rfl (nx_then ?_)
  refine wp_seq ?_
  refine wp_seq ?_
  refine RG.start ?_
  refine S.quiet (k := 5) (keep := [0, 1, 10]) (m := 0) (σ' := ⟨[(0, .v (slv (a).length pa.1)), (1, .v (slv (b).length pb.1)), (10, .v (B (((a).length : Int) != ((b).length : Int))))], []⟩) .nil (by kernel_rfl) ?_
  clear S; intro ac w β S
  refine RG.done rfl (nx_then ?_)
  refine S.cond (e := (((a).length : Int) != ((b).length : Int))) (by kernel_rfl) (fun h1 => ?_) (fun h1 => ?_)
  · have g2 : ¬ (((a).length : Int) = ((b).length : Int)) := bne_iff_ne.1 h1
    refine wp_seq ?_
    refine RG.start ?_
    refine S.quiet (k := 1) (keep := [4]) (m := 0) (σ' := ⟨[(4, .v (B false))], []⟩) .nil (by kernel_rfl) ?_
    clear S; intro ac w β S
    refine RG.done rfl (nx_then ?_)
    refine wp_ret (rt_then ?_)
    refine S.ret (vs := [B false]) (by kernel_rfl) ?_
    exact ⟨retB (show false = decide (a = b) by clear S; first | (simp; intro e; subst e; simp_all; done) | (simp; rw [take_all (by omega), take_all (by omega)] at he; exact he) | (simp; exact take_ne (by simp_all))), S.chg⟩
  · have g3 : ((a).length : Int) = ((b).length : Int) := ne_f h1
    refine wp_skip (nx_then ?_)
    refine wp_seq ?_
    refine wp_seq ?_
    refine RG.start ?_
    refine S.quiet (k := 1) (keep := [0, 1, 5]) (m := 0) (σ' := ⟨[(0, .v (slv (a).length pa.1)), (1, .v (slv (b).length pb.1)), (5, .v (I 0))], []⟩) .nil (by kernel_rfl) ?_
    clear S; intro ac w β S
    refine RG.done rfl (nx_then ?_)
    refine wp_block ?_
    replace S := S.prune (keep := [0, 1, 5]) (m := 0) (σ' := ⟨[(0, .v (slv (a).length pa.1)), (1, .v (slv (b).length pb.1)), (5, .v (I 0))], []⟩) (by kernel_rfl)
    refine wp_loop_down (fun mm ac w => ∃ (k : Nat)  (u : World) (N : Bl) (β : Nat → Nat), mm = a.length - k ∧ (k ≤ a.length) ∧ (a.length = b.length) ∧ (a.take k = b.take k) ∧ St Go.Proofs.Tryz.prog Go.Proofs.Tryz.f39.ntmps w0 NoB u N β ⟨[(0, .v (slv (a).length pa.1)), (1, .v (slv (b).length pb.1)), (5, .v (I (k : Int)))], []⟩ ac w) _ ⟨0, _, _, _, rfl, (by first | omega | (simp; done) | (simp; omega)), (by first | omega | (simp; done) | (simp; omega)), (by simp), S.cast (by kernel_rfl)⟩ ?_
    clear S
    rintro mm ac w ⟨k, u, N, β, rfl, hk, hab, he, S⟩
    refine wp_seq ?_
    refine wp_seq ?_
    refine RG.start ?_
    refine S.quiet (k := 4) (keep := [0, 1, 5, 14]) (m := 0) (σ' := ⟨[(0, .v (slv (a).length pa.1)), (1, .v (slv (b).length pb.1)), (5, .v (I (k : Int))), (14, .v (B (decide ((k : Int) < ((a).length : Int)))))], []⟩) .nil (by kernel_rfl) ?_
    clear S; intro ac w β S
    refine RG.done rfl (nx_then ?_)
    refine S.cond (e := (decide ((k : Int) < ((a).length : Int)))) (by kernel_rfl) (fun h4 => ?_) (fun h4 => ?_)
    · have g5 : (k : Int) < ((a).length : Int) := of_decide_eq_true h4
      refine wp_skip (nx_then ?_)
      refine wp_seq ?_
      refine wp_block ?_
      refine wp_seq ?_
      refine S.drawn (keep := [0, 1, 5, 25]) (m := 0) (σ' := ⟨[(0, .v (slv (a).length pa.1)), (1, .v (slv (b).length pb.1)), (5, .v (I (k : Int))), (25, .v (B ((el a k) != (el b k))))], []⟩) (.cons (Q_idx (S.arg ha) (l := (a).length) (k := k) (i := (k : Int)) rfl rfl (by omega) Go.Proofs.Tryz.underlying54 (by kernel_rfl)) (.cons (Q_el1 (S.arg ha) (t := 3) (k := k) (by omega) rfl (by kernel_rfl)) (.cons (Q_idx (S.arg hb) (l := (b).length) (k := k) (i := (k : Int)) rfl rfl (by omega) Go.Proofs.Tryz.underlying54 (by kernel_rfl)) (.cons (Q_el1 (S.arg hb) (t := 3) (k := k) (by omega) rfl (by kernel_rfl)) .nil)))) rfl (by kernel_rfl) (by kernel_rfl) ?_
      clear S; intro ac w S
      refine id (nx_then ?_)
      refine S.cond (e := ((el a k) != (el b k))) (by kernel_rfl) (fun h6 => ?_) (fun h6 => ?_)
      · have g7 : ¬ ((el a k) = (el b k)) := bne_iff_ne.1 h6
        refine wp_seq ?_
        refine RG.start ?_
        refine S.quiet (k := 1) (keep := [4]) (m := 0) (σ' := ⟨[(4, .v (B false))], []⟩) .nil (by kernel_rfl) ?_
        clear S; intro ac w β S
        refine RG.done rfl (nx_then ?_)
        refine wp_ret (rt_block (rt_then (rt_then (rt_block (rt_then ?_)))))
        refine S.ret (vs := [B false]) (by kernel_rfl) ?_
        exact ⟨retB (show false = decide (a = b) by clear S; first | (simp; intro e; subst e; simp_all; done) | (simp; rw [take_all (by omega), take_all (by omega)] at he; exact he) | (simp; exact take_ne (by simp_all))), S.chg⟩
      · have g8 : (el a k) = (el b k) := ne_f h6
        refine wp_skip (nx_block (nx_then ?_))
        refine RG.start ?_
        refine S.quiet (k := 3) (keep := [0, 1, 5]) (m := 0) (σ' := ⟨[(0, .v (slv (a).length pa.1)), (1, .v (slv (b).length pb.1)), (5, .v (I ((k : Int) + 1)))], []⟩) (.cons (Q_add (x := (k : Int)) (y := 1) ⟨by omega, by omega⟩) .nil) (by kernel_rfl) ?_
        clear S; intro ac w β S
        refine RG.done rfl (nx_then ?_)
        replace S := S.prune (keep := [0, 1, 5]) (m := 0) (σ' := ⟨[(0, .v (slv (a).length pa.1)), (1, .v (slv (b).length pb.1)), (5, .v (I ((k : Int) + 1)))], []⟩) (by kernel_rfl)
        refine ⟨a.length - (k + 1), by omega, k + 1, _, _, _, rfl, ?_, ?_, ?_, S.cast (by kernel_rfl)⟩
        · clear S; first | omega | (simp [*]; done) | (simp [*]; omega)
        · clear S; first | omega | (simp [*]; done) | (simp [*]; omega)
        · clear S; exact take_eq_step (by omega) (by omega) he (by simp_all)
    · have g9 : ¬ ((k : Int) < ((a).length : Int)) := of_decide_eq_false h4
      refine wp_exit (ex_then (ex_then (ex_hit (nx_then ?_))))
      refine wp_seq ?_
      refine RG.start ?_
      refine S.quiet (k := 1) (keep := [4]) (m := 0) (σ' := ⟨[(4, .v (B true))], []⟩) .nil (by kernel_rfl) ?_
      clear S; intro ac w β S
      refine RG.done rfl (nx_then ?_)
      refine wp_ret ?_
      refine S.ret (vs := [B true]) (by kernel_rfl) ?_
      exact ⟨retB (show true = decide (a = b) by clear S; first | (simp; intro e; subst e; simp_all; done) | (simp; rw [take_all (by omega), take_all (by omega)] at he; exact he) | (simp; exact take_ne (by simp_all))), S.chg⟩

set_option maxRecDepth 100000 in
theorem c_laws_eqIntSS (w0 : World) (a : List (List Int)) (pa : LP (List Int)) (ha : GT.rd KK (Lt w0.heap.size) w0 a pa) (b : List (List Int)) (pb : LP (List Int)) (hb : GT.rd KK (Lt w0.heap.size) w0 b pb) : Calls Go.Proofs.Tryz.prog 23 [slv (a).length pa.1, slv (b).length pb.1].toArray w0 (fun e w' => e = .returned (B (decide (a = b))) ∧ Chg NoB w0 w') := by
  refine Calls.walk (args := [slv (a).length pa.1, slv (b).length pb.1]) NoB Go.Proofs.Tryz.func23 rfl rfl ?_
  intro ac β S
  have hlea : a.length ≤ 4194304 := LRd.le ha
  have hleb : b.length ≤ 4194304 := LRd.le hb
  refine wp_seq ?_
  refine RG.start ?_
  refine S.quiet (k := 1) (keep := [0, 1]) (m := 0) (σ' := ⟨[(0, .v (slv (a).length pa.1)), (1, .v (slv (b).length pb.1))], []⟩) .nil (by kernel_rfl) ?_
  clear S; intro ac w β S
  refine RG.done rfl (nx_then ?_)
  refine wp_seq ?_
  refine wp_seq ?_
  refine RG.start ?_
  refine S.quiet (k := 5) (keep := [0, 1, 10]) (m := 0) (σ' := ⟨[(0, .v (slv (a).length pa.1)), (1, .v (slv (b).length pb.1)), (10, .v (B (((a).length : Int) != ((b).length : Int))))], []⟩) .nil (by kernel_rfl) ?_
  clear S; intro ac w β S
  refine RG.done rfl (nx_then ?_)
  refine S.cond (e := (((a).length : Int) != ((b).length : Int))) (by kernel_rfl) (fun h1 => ?_) (fun h1 => ?_)
  · have g2 : ¬ (((a).length : Int) = ((b).length : Int)) := bne_iff_ne.1 h1
    refine wp_seq ?_
    refine RG.start ?_
    refine S.quiet (k := 1) (keep := [4]) (m := 0) (σ' := ⟨[(4, .v (B false))], []⟩) .nil (by kernel_rfl) ?_
    clear S; intro ac w β S
    refine RG.done rfl (nx_then ?_)
    refine wp_ret (rt_then ?_)
    refine S.ret (vs := [B false]) (by kernel_rfl) ?_
    exact ⟨retB (show false = decide (a = b) by clear S; first | (simp; intro e; subst e; simp_all; done) | (simp; rw [take_all (by omega), take_all (by omega)] at he; exact he) | (simp; exact take_ne (by simp_all))), S.chg⟩
  · have g3 : ((a).length : Int) = ((b).length : Int) := ne_f h1
    refine wp_skip (nx_then ?_)
    refine wp_seq ?_
    refine wp_seq ?_
    refine RG.start ?_
    refine S.quiet (k := 1) (keep := [0, 1, 5]) (m := 0) (σ' := ⟨[(0, .v (slv (a).length pa.1)), (1, .v (slv (b).length pb.1)), (5, .v (I 0))], []⟩) .nil (by kernel_rfl) ?_
    clear S; intro ac w β S
    refine RG.done rfl (nx_then ?_)
    refine wp_block ?_
    replace S := S.prune (keep := [0, 1, 5]) (m := 0) (σ' := ⟨[(0, .v (slv (a).length pa.1)), (1, .v (slv (b).length pb.1)), (5, .v (I 0))], []⟩) (by kernel_rfl)
    refine wp_loop_down (fun mm ac w => ∃ (k : Nat)  (u : World) (N : Bl) (β : Nat → Nat), mm = a.length - k ∧ (k ≤ a.length) ∧ (a.length = b.length) ∧ (a.take k = b.take k) ∧ St Go.Proofs.Tryz.prog Go.Proofs.Tryz.f23.ntmps w0 NoB u N β ⟨[(0, .v (slv (a).length pa.1)), (1, .v (slv (b).length pb.1)), (5, .v (I (k : Int)))], []⟩ ac w) _ ⟨0, _, _, _, rfl, (by first | omega | (simp; done) | (simp; omega)), (by first | omega | (simp; done) | (simp; omega)), (by simp), S.cast (by kernel_rfl)⟩ ?_
    clear S
    rintro mm ac w ⟨k, u, N, β, rfl, hk, hab, he, S⟩
    refine wp_seq ?_
    refine wp_seq ?_
    refine RG.start ?_
    refine S.quiet (k := 4) (keep := [0, 1, 5, 14]) (m := 0) (σ' := ⟨[(0, .v (slv (a).length pa.1)), (1, .v (slv (b).length pb.1)), (5, .v (I (k : Int))), (14, .v (B (decide ((k : Int) < ((a).length : Int)))))], []⟩) .nil (by kernel_rfl) ?_
    clear S; intro ac w β S
    refine RG.done rfl (nx_then ?_)
    refine S.cond (e := (decide ((k : Int) < ((a).length : Int)))) (by kernel_rfl) (fun h4 => ?_) (fun h4 => ?_)
    · have g5 : (k : Int) < ((a).length : Int) := of_decide_eq_true h4
      refine wp_skip (nx_then ?_)
      refine wp_seq ?_
      refine wp_block ?_
      refine wp_seq ?_
      refine S.drawn (keep := [0, 1, 5, 26]) (m := 0) (σ' := ⟨[(0, .v (slv (a).length pa.1)), (1, .v (slv (b).length pb.1)), (5, .v (I (k : Int))), (26, .v (B (!(decide ((el a k) = (el b k))))))], []⟩) (.cons (Q_idx (S.arg ha) (l := (a).length) (k := k) (i := (k : Int)) rfl rfl (by omega) Go.Proofs.Tryz.underlying22 (by kernel_rfl)) (.cons (Q_el1 (S.arg ha) (t := 54) (k := k) (by omega) rfl (by kernel_rfl)) (.cons (Q_idx (S.arg hb) (l := (b).length) (k := k) (i := (k : Int)) rfl rfl (by omega) Go.Proofs.Tryz.underlying22 (by kernel_rfl)) (.cons (Q_el1 (S.arg hb) (t := 54) (k := k) (by omega) rfl (by kernel_rfl)) (.cons (Q_call fun w hw => c_laws_eqIntS w (el a k) (pa.2 k) (rd_of (LRd.el (S.arg ha) k (by omega)) hw) (el b k) (pb.2 k) (rd_of (LRd.el (S.arg hb) k (by omega)) hw)) .nil))))) rfl (by kernel_rfl) (by kernel_rfl) ?_
      clear S; intro ac w S
      refine id (nx_then ?_)
      refine S.cond (e := (!(decide ((el a k) = (el b k))))) (by kernel_rfl) (fun h6 => ?_) (fun h6 => ?_)
      · have h7 : (decide ((el a k) = (el b k))) = false := not_t h6
        have g8 := of_decide_eq_false h7
        refine wp_seq ?_
        refine RG.start ?_
        refine S.quiet (k := 1) (keep := [4]) (m := 0) (σ' := ⟨[(4, .v (B false))], []⟩) .nil (by kernel_rfl) ?_
        clear S; intro ac w β S
        refine RG.done rfl (nx_then ?_)
        refine wp_ret (rt_block (rt_then (rt_then (rt_block (rt_then ?_)))))
        refine S.ret (vs := [B false]) (by kernel_rfl) ?_
        exact ⟨retB (show false = decide (a = b) by clear S; first | (simp; intro e; subst e; simp_all; done) | (simp; rw [take_all (by omega), take_all (by omega)] at he; exact he) | (simp; exact take_ne (by simp_all))), S.chg⟩
      · have h9 : (decide ((el a k) = (el b k))) = true := not_f h6
        have g10 := of_decide_eq_true h9
        refine wp_skip (nx_block (nx_then ?_))
        refine RG.start ?_
        refine S.quiet (k := 3) (keep := [0, 1, 5]) (m := 0) (σ' := ⟨[(0, .v (slv (a).length pa.1)), (1, .v (slv (b).length pb.1)), (5, .v (I ((k : Int) + 1)))], []⟩) (.cons (Q_add (x := (k : Int)) (y := 1) ⟨by omega, by omega⟩) .nil) (by kernel_rfl) ?_
        clear S; intro ac w β S
        refine RG.done rfl (nx_then ?_)
        replace S := S.prune (keep := [0, 1, 5]) (m := 0) (σ' := ⟨[(0, .v (slv (a).length pa.1)), (1, .v (slv (b).length pb.1)), (5, .v (I ((k : Int) + 1)))], []⟩) (by kernel_rfl)
        refine ⟨a.length - (k + 1), by omega, k + 1, _, _, _, rfl, ?_, ?_, ?_, S.cast (by kernel_rfl)⟩
        · clear S; first | omega | (simp [*]; done) | (simp [*]; omega)
        · clear S; first | omega | (simp [*]; done) | (simp [*]; omega)
        · clear S; exact take_eq_step (by omega) (by omega) he (by simp_all)
    · have g11 : ¬ ((k : Int) < ((a).length : Int)) := of_decide_eq_false h4
      refine wp_exit (ex_then (ex_then (ex_hit (nx_then ?_))))
      refine wp_seq ?_
      refine RG.start ?_
      refine S.quiet (k := 1) (keep := [4]) (m := 0) (σ' := ⟨[(4, .v (B true))], []⟩) .nil (by kernel_rfl) ?_
      clear S; intro ac w β S
      refine RG.done rfl (nx_then ?_)
      refine wp_ret ?_
      refine S.ret (vs := [B true]) (by kernel_rfl) ?_
      exact ⟨retB (show true = decide (a = b) by clear S; first | (simp; intro e; subst e; simp_all; done) | (simp; rw [take_all (by omega), take_all (by omega)] at he; exact he) | (simp; exact take_ne (by simp_all))), S.chg⟩

set_option maxRecDepth 100000 in
theorem c_laws_eqSlot (w0 : World) (a : TSlot) (b : TSlot) : Calls Go.Proofs.Tryz.prog 84 [GT.val (α := TSlot) a (), GT.val (α := TSlot) b ()].toArray w0 (fun e w' => e = .returned (B (decide (a = b))) ∧ Chg NoB w0 w') := by
  refine Calls.walk (args := [GT.val (α := TSlot) a (), GT.val (α := TSlot) b ()]) NoB Go.Proofs.Tryz.func84 rfl rfl ?_
  intro ac β S
  refine wp_seq ?_
  refine RG.start ?_
  refine S.quiet (k := 3) (keep := [2, 3]) (m := 2) (σ' := ⟨[(2, .p 0 0), (3, .p 1 0)], [GT.cells (α := TSlot) a (), GT.cells (α := TSlot) b ()]⟩) .nil (by kernel_rfl) ?_
  clear S; intro ac w β S
  refine RG.done rfl (nx_then ?_)
  refine wp_seq ?_
  refine wp_seq ?_
  refine RG.start ?_
  refine S.quiet (k := 5) (keep := [2, 3, 9]) (m := 2) (σ' := ⟨[(2, .p 0 0), (3, .p 1 0), (9, .v (B (a.page != b.page)))], [GT.cells (α := TSlot) a (), GT.cells (α := TSlot) b ()]⟩) .nil (by kernel_rfl) ?_
  clear S; intro ac w β S
  refine RG.done rfl (nx_then ?_)
  refine S.cond (e := (a.page != b.page)) (by kernel_rfl) (fun h1 => ?_) (fun h1 => ?_)
  · have g2 : ¬ (a.page = b.page) := bne_iff_ne.1 h1
    refine wp_seq ?_
    refine RG.start ?_
    refine S.quiet (k := 1) (keep := [4]) (m := 0) (σ' := ⟨[(4, .v (B false))], []⟩) .nil (by kernel_rfl) ?_
    clear S; intro ac w β S
    refine RG.done rfl (nx_then ?_)
    refine wp_ret (rt_then ?_)
    refine S.ret (vs := [B false]) (by kernel_rfl) ?_
    exact ⟨retB (show false = decide (a = b) by clear S; first | (simp [TSlot.ext_iff, *]; done) | (simp_all [TSlot.ext_iff]; done)), S.chg⟩
  · have g3 : a.page = b.page := ne_f h1
    refine wp_skip (nx_then ?_)
    refine wp_seq ?_
    refine wp_seq ?_
    refine RG.start ?_
    refine S.quiet (k := 5) (keep := [14]) (m := 0) (σ' := ⟨[(14, .v (B (a.rights != b.rights)))], []⟩) .nil (by kernel_rfl) ?_
    clear S; intro ac w β S
    refine RG.done rfl (nx_then ?_)
    refine S.cond (e := (a.rights != b.rights)) (by kernel_rfl) (fun h4 => ?_) (fun h4 => ?_)
    · have g5 : ¬ (a.rights = b.rights) := bne_iff_ne.1 h4
      refine wp_seq ?_
      refine RG.start ?_
      refine S.quiet (k := 1) (keep := [4]) (m := 0) (σ' := ⟨[(4, .v (B false))], []⟩) .nil (by kernel_rfl) ?_
      clear S; intro ac w β S
      refine RG.done rfl (nx_then ?_)
      refine wp_ret (rt_then ?_)
      refine S.ret (vs := [B false]) (by kernel_rfl) ?_
      exact ⟨retB (show false = decide (a = b) by clear S; first | (simp [TSlot.ext_iff, *]; done) | (simp_all [TSlot.ext_iff]; done)), S.chg⟩
    · have g6 : a.rights = b.rights := ne_f h4
      refine wp_skip (nx_then ?_)
      refine wp_seq ?_
      refine RG.start ?_
      refine S.quiet (k := 1) (keep := [4]) (m := 0) (σ' := ⟨[(4, .v (B true))], []⟩) .nil (by kernel_rfl) ?_
      clear S; intro ac w β S
      refine RG.done rfl (nx_then ?_)
      refine wp_ret ?_
      refine S.ret (vs := [B true]) (by kernel_rfl) ?_
      exact ⟨retB (show true = decide (a = b) by clear S; first | (simp [TSlot.ext_iff, *]; done) | (simp_all [TSlot.ext_iff]; done)), S.chg⟩

set_option maxRecDepth 100000 in
theorem c_laws_eqSlotS (w0 : World) (a : List TSlot) (pa : LP TSlot) (ha : GT.rd KK (Lt w0.heap.size) w0 a pa) (b : List TSlot) (pb : LP TSlot) (hb : GT.rd KK (Lt w0.heap.size) w0 b pb) : Calls Go.Proofs.Tryz.prog 62 [slv (a).length pa.1, slv (b).length pb.1].toArray w0 (fun e w' => e = .returned (B (decide (a = b))) ∧ Chg NoB w0 w') := by
  refine Calls.walk (args := [slv (a).length pa.1, slv (b).length pb.1]) NoB Go.Proofs.Tryz.func62 rfl rfl ?_
  intro ac β S
  have hlea : a.length ≤ 4194304 := LRd.le ha
  have hleb : b.length ≤ 4194304 := LRd.le hb
  refine wp_seq ?_
  refine RG.start ?_
  refine S.quiet (k := 1) (keep := [0, 1]) (m := 0) (σ' := ⟨[(0, .v (slv (a).length pa.1)), (1, .v (slv (b).length pb.1))], []⟩) .nil (by kernel_rfl) ?_
  clear S; intro ac w β S
  refine RG.done rfl (nx_then ?_)
  refine wp_seq ?_
  refine wp_seq ?_
  refine RG.start ?_
  refine S.quiet (k := 5) (keep := [0, 1, 10]) (m := 0) (σ' := ⟨[(0, .v (slv (a).length pa.1)), (1, .v (slv (b).length pb.1)), (10, .v (B (((a).length : Int) != ((b).length : Int))))], []⟩) .nil (by kernel_rfl) ?_
  clear S; intro ac w β S
  refine RG.done rfl (nx_then ?_)
  refine S.cond (e := (((a).length : Int) != ((b).length : Int))) (by kernel_rfl) (fun h1 => ?_) (fun h1 => ?_)
  · have g2 : ¬ (((a).length : Int) = ((b).length : Int)) := bne_iff_ne.1 h1
    refine wp_seq ?_
    refine RG.start ?_
    refine S.quiet (k := 1) (keep := [4]) (m := 0) (σ' := ⟨[(4, .v (B false))], []⟩) .nil (by kernel_rfl) ?_
    clear S; intro ac w β S
    refine RG.done rfl (nx_then ?_)
    refine wp_ret (rt_then ?_)
    refine S.ret (vs := [B false]) (by kernel_rfl) ?_
    exact ⟨retB (show false = decide (a = b) by clear S; first | (simp; intro e; subst e; simp_all; done) | (simp; rw [take_all (by omega), take_all (by omega)] at he; exact he) | (simp; exact take_ne (by simp_all))), S.chg⟩
  · have g3 : ((a).length : Int) = ((b).length : Int) := ne_f h1
    refine wp_skip (nx_then ?_)
    refine wp_seq ?_
    refine wp_seq ?_
    refine RG.start ?_
    refine S.quiet (k := 1) (keep := [0, 1, 5]) (m := 0) (σ' := ⟨[(0, .v (slv (a).length pa.1)), (1, .v (slv (b).length pb.1)), (5, .v (I 0))], []⟩) .nil (by kernel_rfl) ?_
    clear S; intro ac w β S
    refine RG.done rfl (nx_then ?_)
    refine wp_block ?_
    replace S := S.prune (keep := [0, 1, 5]) (m := 0) (σ' := ⟨[(0, .v (slv (a).length pa.1)), (1, .v (slv (b).length pb.1)), (5, .v (I 0))], []⟩) (by kernel_rfl)
    refine wp_loop_down (fun mm ac w => ∃ (k : Nat)  (u : World) (N : Bl) (β : Nat → Nat), mm = a.length - k ∧ (k ≤ a.length) ∧ (a.length = b.length) ∧ (a.take k = b.take k) ∧ St Go.Proofs.Tryz.prog Go.Proofs.Tryz.f62.ntmps w0 NoB u N β ⟨[(0, .v (slv (a).length pa.1)), (1, .v (slv (b).length pb.1)), (5, .v (I (k : Int)))], []⟩ ac w) _ ⟨0, _, _, _, rfl, (by first | omega | (simp; done) | (simp; omega)), (by first | omega | (simp; done) | (simp; omega)), (by simp), S.cast (by kernel_rfl)⟩ ?_
    clear S
    rintro mm ac w ⟨k, u, N, β, rfl, hk, hab, he, S⟩
    refine wp_seq ?_
    refine wp_seq ?_
    refine RG.start ?_
    refine S.quiet (k := 4) (keep := [0, 1, 5, 14]) (m := 0) (σ' := ⟨[(0, .v (slv (a).length pa.1)), (1, .v (slv (b).length pb.1)), (5, .v (I (k : Int))), (14, .v (B (decide ((k : Int) < ((a).length : Int)))))], []⟩) .nil (by kernel_rfl) ?_
    clear S; intro ac w β S
    refine RG.done rfl (nx_then ?_)
    refine S.cond (e := (decide ((k : Int) < ((a).length : Int)))) (by kernel_rfl) (fun h4 => ?_) (fun h4 => ?_)
    · have g5 : (k : Int) < ((a).length : Int) := of_decide_eq_true h4
      refine wp_skip (nx_then ?_)
      refine wp_seq ?_
      refine wp_block ?_
      refine wp_seq ?_
      refine S.drawn (keep := [0, 1, 5, 26]) (m := 0) (σ' := ⟨[(0, .v (slv (a).length pa.1)), (1, .v (slv (b).length pb.1)), (5, .v (I (k : Int))), (26, .v (B (!(decide ((el a k) = (el b k))))))], []⟩) (.cons (Q_idx (S.arg ha) (l := (a).length) (k := k) (i := (k : Int)) rfl rfl (by omega) Go.Proofs.Tryz.underlying72 (by kernel_rfl)) (.cons (Q_el (S.arg ha) (t := 117) (k := k) (by omega) rfl (by kernel_rfl) (by kernel_rfl)) (.cons (Q_idx (S.arg hb) (l := (b).length) (k := k) (i := (k : Int)) rfl rfl (by omega) Go.Proofs.Tryz.underlying72 (by kernel_rfl)) (.cons (Q_el (S.arg hb) (t := 117) (k := k) (by omega) rfl (by kernel_rfl) (by kernel_rfl)) (.cons (Q_call fun w hw => c_laws_eqSlot w (el a k) (el b k)) .nil))))) rfl (by kernel_rfl) (by kernel_rfl) ?_
      clear S; intro ac w S
      refine id (nx_then ?_)
      refine S.cond (e := (!(decide ((el a k) = (el b k))))) (by kernel_rfl) (fun h6 => ?_) (fun h6 => ?_)
      · have h7 : (decide ((el a k) = (el b k))) = false := not_t h6
        have g8 := of_decide_eq_false h7
        refine wp_seq ?_
        refine RG.start ?_
        refine S.quiet (k := 1) (keep := [4]) (m := 0) (σ' := ⟨[(4, .v (B false))], []⟩) .nil (by kernel_rfl) ?_
        clear S; intro ac w β S
        refine RG.done rfl (nx_then ?_)
        refine wp_ret (rt_block (rt_then (rt_then (rt_block (rt_then ?_)))))
        refine S.ret (vs := [B false]) (by kernel_rfl) ?_
        exact ⟨retB (show false = decide (a = b) by clear S; first | (simp; intro e; subst e; simp_all; done) | (simp; rw [take_all (by omega), take_all (by omega)] at he; exact he) | (simp; exact take_ne (by simp_all))), S.chg⟩
      · have h9 : (decide ((el a k) = (el b k))) = true := not_f h6
        have g10 := of_decide_eq_true h9
        refine wp_skip (nx_block (nx_then ?_))
        refine RG.start ?_
        refine S.quiet (k := 3) (keep := [0, 1, 5]) (m := 0) (σ' := ⟨[(0, .v (slv (a).length pa.1)), (1, .v (slv (b).length pb.1)), (5, .v (I ((k : Int) + 1)))], []⟩) (.cons (Q_add (x := (k : Int)) (y := 1) ⟨by omega, by omega⟩) .nil) (by kernel_rfl) ?_
        clear S; intro ac w β S
        refine RG.done rfl (nx_then ?_)
        replace S := S.prune (keep := [0, 1, 5]) (m := 0) (σ' := ⟨[(0, .v (slv (a).length pa.1)), (1, .v (slv (b).length pb.1)), (5, .v (I ((k : Int) + 1)))], []⟩) (by kernel_rfl)
        refine ⟨a.length - (k + 1), by omega, k + 1, _, _, _, rfl, ?_, ?_, ?_, S.cast (by kernel_rfl)⟩
        · clear S; first | omega | (simp [*]; done) | (simp [*]; omega)
        · clear S; first | omega | (simp [*]; done) | (simp [*]; omega)
        · clear S; exact take_eq_step (by omega) (by omega) he (by simp_all)
    · have g11 : ¬ ((k : Int) < ((a).length : Int)) := of_decide_eq_false h4
      refine wp_exit (ex_then (ex_then (ex_hit (nx_then ?_))))
      refine wp_seq ?_
      refine RG.start ?_
      refine S.quiet (k := 1) (keep := [4]) (m := 0) (σ' := ⟨[(4, .v (B true))], []⟩) .nil (by kernel_rfl) ?_
      clear S; intro ac w β S
      refine RG.done rfl (nx_then ?_)
      refine wp_ret ?_
      refine S.ret (vs := [B true]) (by kernel_rfl) ?_
      exact ⟨retB (show true = decide (a = b) by clear S; first | (simp; intro e; subst e; simp_all; done) | (simp; rw [take_all (by omega), take_all (by omega)] at he; exact he) | (simp; exact take_ne (by simp_all))), S.chg⟩

set_option maxRecDepth 100000 in
theorem c_laws_eqBoolS (w0 : World) (a : List Bool) (pa : LP Bool) (ha : GT.rd KK (Lt w0.heap.size) w0 a pa) (b : List Bool) (pb : LP Bool) (hb : GT.rd KK (Lt w0.heap.size) w0 b pb) : Calls Go.Proofs.Tryz.prog 63 [slv (a).length pa.1, slv (b).length pb.1].toArray w0 (fun e w' => e = .returned (B (decide (a = b))) ∧ Chg NoB w0 w') := by
  refine Calls.walk (args := [slv (a).length pa.1, slv (b).length pb.1]) NoB Go.Proofs.Tryz.func63 rfl rfl ?_
  intro ac β S
  have hlea : a.length ≤ 4194304 := LRd.le ha
  have hleb : b.length ≤ 4194304 := LRd.le hb
  refine wp_seq ?_
  refine RG.start ?_
  refine S.quiet (k := 1) (keep := [0, 1]) (m := 0) (σ' := ⟨[(0, .v (slv (a).length pa.1)), (1, .v (slv (b).length pb.1))], []⟩) .nil (by kernel_rfl) ?_
  clear S; intro ac w β S
  refine RG.done rfl (nx_then ?_)
  refine wp_seq ?_
  refine wp_seq ?_
  refine RG.start ?_
  refine S.quiet (k := 5) (keep := [0, 1, 10]) (m := 0) (σ' := ⟨[(0, .v (slv (a).length pa.1)), (1, .v (slv (b).length pb.1)), (10, .v (B (((a).length : Int) != ((b).length : Int))))], []⟩) .nil (by kernel_rfl) ?_
  clear S; intro ac w β S
  refine RG.done rfl (nx_then ?_)
  refine S.cond (e := (((a).length : Int) != ((b).length : Int))) (by kernel_rfl) (fun h1 => ?_) (fun h1 => ?_)
  · have g2 : ¬ (((a).length : Int) = ((b).length : Int)) := bne_iff_ne.1 h1
    refine wp_seq ?_
    refine RG.start ?_
    refine S.quiet (k := 1) (keep := [4]) (m := 0) (σ' := ⟨[(4, .v (B false))], []⟩) .nil (by kernel_rfl) ?_
    clear S; intro ac w β S
    refine RG.done rfl (nx_then ?_)
    refine wp_ret (rt_then ?_)
    refine S.ret (vs := [B false]) (by kernel_rfl) ?_
    exact ⟨retB (show false = decide (a = b) by clear S; first | (simp; intro e; subst e; simp_all; done) | (simp; rw [take_all (by omega), take_all (by omega)] at he; exact he) | (simp; exact take_ne (by simp_all))), S.chg⟩
  · have g3 : ((a).length : Int) = ((b).length : Int) := ne_f h1
    refine wp_skip (nx_then ?_)
    refine wp_seq ?_
    refine wp_seq ?_
    refine RG.start ?_
    refine S.quiet (k := 1) (keep := [0, 1, 5]) (m := 0) (σ' := ⟨[(0, .v (slv (a).length pa.1)), (1, .v (slv (b).length pb.1)), (5, .v (I 0))], []⟩) .nil (by kernel_rfl) ?_
    clear S; intro ac w β S
    refine RG.done rfl (nx_then ?_)
    refine wp_block ?_
    replace S := S.prune (keep := [0, 1, 5]) (m := 0) (σ' := ⟨[(0, .v (slv (a).length pa.1)), (1, .v (slv (b).length pb.1)), (5, .v (I 0))], []⟩) (by kernel_rfl)
    refine wp_loop_down (fun mm ac w => ∃ (k : Nat)  (u : World) (N : Bl) (β : Nat → Nat), mm = a.length - k ∧ (k ≤ a.length) ∧ (a.length = b.length) ∧ (a.take k = b.take k) ∧ St Go.Proofs.Tryz.prog Go.Proofs.Tryz.f63.ntmps w0 NoB u N β ⟨[(0, .v (slv (a).length pa.1)), (1, .v (slv (b).length pb.1)), (5, .v (I (k : Int)))], []⟩ ac w) _ ⟨0, _, _, _, rfl, (by first | omega | (simp; done) | (simp; omega)), (by first | omega | (simp; done) | (simp; omega)), (by simp), S.cast (by kernel_rfl)⟩ ?_
    clear S
    rintro mm ac w ⟨k, u, N, β, rfl, hk, hab, he, S⟩
    refine wp_seq ?_
    refine wp_seq ?_
    refine RG.start ?_
    refine S.quiet (k := 4) (keep := [0, 1, 5, 14]) (m := 0) (σ' := ⟨[(0, .v (slv (a).length pa.1)), (1, .v (slv (b).length pb.1)), (5, .v (I (k : Int))), (14, .v (B (decide ((k : Int) < ((a).length : Int)))))], []⟩) .nil (by kernel_rfl) ?_
    clear S; intro ac w β S
    refine RG.done rfl (nx_then ?_)
    refine S.cond (e := (decide ((k : Int) < ((a).length : Int)))) (by kernel_rfl) (fun h4 => ?_) (fun h4 => ?_)
    · have g5 : (k : Int) < ((a).length : Int) := of_decide_eq_true h4
      refine wp_skip (nx_then ?_)
      refine wp_seq ?_
      refine wp_block ?_
      refine wp_seq ?_
      refine S.drawn (keep := [0, 1, 5, 25]) (m := 0) (σ' := ⟨[(0, .v (slv (a).length pa.1)), (1, .v (slv (b).length pb.1)), (5, .v (I (k : Int))), (25, .v (B (!((el a k) == (el b k)))))], []⟩) (.cons (Q_idx (S.arg ha) (l := (a).length) (k := k) (i := (k : Int)) rfl rfl (by omega) Go.Proofs.Tryz.underlying67 (by kernel_rfl)) (.cons (Q_el1 (S.arg ha) (t := 4) (k := k) (by omega) rfl (by kernel_rfl)) (.cons (Q_idx (S.arg hb) (l := (b).length) (k := k) (i := (k : Int)) rfl rfl (by omega) Go.Proofs.Tryz.underlying67 (by kernel_rfl)) (.cons (Q_el1 (S.arg hb) (t := 4) (k := k) (by omega) rfl (by kernel_rfl)) .nil)))) rfl (by kernel_rfl) (by kernel_rfl) ?_
      clear S; intro ac w S
      refine id (nx_then ?_)
      refine S.cond (e := (!((el a k) == (el b k)))) (by kernel_rfl) (fun h6 => ?_) (fun h6 => ?_)
      · have h7 : ((el a k) == (el b k)) = false := not_t h6
        have g8 : ¬ ((el a k) = (el b k)) := ne_of_beq_false h7
        refine wp_seq ?_
        refine RG.start ?_
        refine S.quiet (k := 1) (keep := [4]) (m := 0) (σ' := ⟨[(4, .v (B false))], []⟩) .nil (by kernel_rfl) ?_
        clear S; intro ac w β S
        refine RG.done rfl (nx_then ?_)
        refine wp_ret (rt_block (rt_then (rt_then (rt_block (rt_then ?_)))))
        refine S.ret (vs := [B false]) (by kernel_rfl) ?_
        exact ⟨retB (show false = decide (a = b) by clear S; first | (simp; intro e; subst e; simp_all; done) | (simp; rw [take_all (by omega), take_all (by omega)] at he; exact he) | (simp; exact take_ne (by simp_all))), S.chg⟩
      · have h9 : ((el a k) == (el b k)) = true := not_f h6
        have g10 : (el a k) = (el b k) := eq_of_beq h9
        refine wp_skip (nx_block (nx_then ?_))
        refine RG.start ?_
        refine S.quiet (k := 3) (keep := [0, 1, 5]) (m := 0) (σ' := ⟨[(0, .v (slv (a).length pa.1)), (1, .v (slv (b).length pb.1)), (5, .v (I ((k : Int) + 1)))], []⟩) (.cons (Q_add (x := (k : Int)) (y := 1) ⟨by omega, by omega⟩) .nil) (by kernel_rfl) ?_
        clear S; intro ac w β S
        refine RG.done rfl (nx_then ?_)
        replace S := S.prune (keep := [0, 1, 5]) (m := 0) (σ' := ⟨[(0, .v (slv (a).length pa.1)), (1, .v (slv (b).length pb.1)), (5, .v (I ((k : Int) + 1)))], []⟩) (by kernel_rfl)
        refine ⟨a.length - (k + 1), by omega, k + 1, _, _, _, rfl, ?_, ?_, ?_, S.cast (by kernel_rfl)⟩
        · clear S; first | omega | (simp [*]; done) | (simp [*]; omega)
        · clear S; first | omega | (simp [*]; done) | (simp [*]; omega)
        · clear S; exact take_eq_step (by omega) (by omega) he (by simp_all)
    · have g11 : ¬ ((k : Int) < ((a).length : Int)) := of_decide_eq_false h4
      refine wp_exit (ex_then (ex_then (ex_hit (nx_then ?_))))
      refine wp_seq ?_
      refine RG.start ?_
      refine S.quiet (k := 1) (keep := [4]) (m := 0) (σ' := ⟨[(4, .v (B true))], []⟩) .nil (by kernel_rfl) ?_
      clear S; intro ac w β S
      refine RG.done rfl (nx_then ?_)
      refine wp_ret ?_
      refine S.ret (vs := [B true]) (by kernel_rfl) ?_
      exact ⟨retB (show true = decide (a = b) by clear S; first | (simp; intro e; subst e; simp_all; done) | (simp; rw [take_all (by omega), take_all (by omega)] at he; exact he) | (simp; exact take_ne (by simp_all))), S.chg⟩

set_option maxRecDepth 100000 in
theorem c_laws_eqIns (w0 : World) (a : TIns) (b : TIns) : Calls Go.Proofs.Tryz.prog 109 [GT.val (α := TIns) a (), GT.val (α := TIns) b ()].toArray w0 (fun e w' => e = .returned (B (decide (a = b))) ∧ Chg NoB w0 w') := by
  refine Calls.walk (args := [GT.val (α := TIns) a (), GT.val (α := TIns) b ()]) NoB Go.Proofs.Tryz.func109 rfl rfl ?_
  intro ac β S
  refine wp_seq ?_
  refine RG.start ?_
  refine S.quiet (k := 3) (keep := [2, 3]) (m := 2) (σ' := ⟨[(2, .p 0 0), (3, .p 1 0)], [GT.cells (α := TIns) a (), GT.cells (α := TIns) b ()]⟩) .nil (by kernel_rfl) ?_
  clear S; intro ac w β S
  refine RG.done rfl (nx_then ?_)
  refine wp_seq ?_
  refine wp_seq ?_
  refine RG.start ?_
  refine S.quiet (k := 5) (keep := [2, 3, 9]) (m := 2) (σ' := ⟨[(2, .p 0 0), (3, .p 1 0), (9, .v (B (a.opc != b.opc)))], [GT.cells (α := TIns) a (), GT.cells (α := TIns) b ()]⟩) .nil (by kernel_rfl) ?_
  clear S; intro ac w β S
  refine RG.done rfl (nx_then ?_)
  refine S.cond (e := (a.opc != b.opc)) (by kernel_rfl) (fun h1 => ?_) (fun h1 => ?_)
  · have g2 : ¬ (a.opc = b.opc) := bne_iff_ne.1 h1
    refine wp_seq ?_
    refine RG.start ?_
    refine S.quiet (k := 1) (keep := [4]) (m := 0) (σ' := ⟨[(4, .v (B false))], []⟩) .nil (by kernel_rfl) ?_
    clear S; intro ac w β S
    refine RG.done rfl (nx_then ?_)
    refine wp_ret (rt_then ?_)
    refine S.ret (vs := [B false]) (by kernel_rfl) ?_
    exact ⟨retB (show false = decide (a = b) by clear S; first | (simp [TIns.ext_iff, *]; done) | (simp_all [TIns.ext_iff]; done)), S.chg⟩
  · have g3 : a.opc = b.opc := ne_f h1
    refine wp_skip (nx_then ?_)
    refine wp_seq ?_
    refine wp_seq ?_
    refine RG.start ?_
    refine S.quiet (k := 5) (keep := [14]) (m := 0) (σ' := ⟨[(14, .v (B (a.x != b.x)))], []⟩) .nil (by kernel_rfl) ?_
    clear S; intro ac w β S
    refine RG.done rfl (nx_then ?_)
    refine S.cond (e := (a.x != b.x)) (by kernel_rfl) (fun h4 => ?_) (fun h4 => ?_)
    · have g5 : ¬ (a.x = b.x) := bne_iff_ne.1 h4
      refine wp_seq ?_
      refine RG.start ?_
      refine S.quiet (k := 1) (keep := [4]) (m := 0) (σ' := ⟨[(4, .v (B false))], []⟩) .nil (by kernel_rfl) ?_
      clear S; intro ac w β S
      refine RG.done rfl (nx_then ?_)
      refine wp_ret (rt_then ?_)
      refine S.ret (vs := [B false]) (by kernel_rfl) ?_
      exact ⟨retB (show false = decide (a = b) by clear S; first | (simp [TIns.ext_iff, *]; done) | (simp_all [TIns.ext_iff]; done)), S.chg⟩
    · have g6 : a.x = b.x := ne_f h4
      refine wp_skip (nx_then ?_)
      refine wp_seq ?_
      refine RG.start ?_
      refine S.quiet (k := 1) (keep := [4]) (m := 0) (σ' := ⟨[(4, .v (B true))], []⟩) .nil (by kernel_rfl) ?_
      clear S; intro ac w β S
      refine RG.done rfl (nx_then ?_)
      refine wp_ret ?_
      refine S.ret (vs := [B true]) (by kernel_rfl) ?_
      exact ⟨retB (show true = decide (a = b) by clear S; first | (simp [TIns.ext_iff, *]; done) | (simp_all [TIns.ext_iff]; done)), S.chg⟩

set_option maxRecDepth 100000 in
theorem c_laws_eqInsS (w0 : World) (a : List TIns) (pa : LP TIns) (ha : GT.rd KK (Lt w0.heap.size) w0 a pa) (b : List TIns) (pb : LP TIns) (hb : GT.rd KK (Lt w0.heap.size) w0 b pb) : Calls Go.Proofs.Tryz.prog 98 [slv (a).length pa.1, slv (b).length pb.1].toArray w0 (fun e w' => e = .returned (B (decide (a = b))) ∧ Chg NoB w0 w') := by
  refine Calls.walk (args := [slv (a).length pa.1, slv (b).length pb.1]) NoB Go.Proofs.Tryz.func98 rfl rfl ?_
  intro ac β S
  have hlea : a.length ≤ 4194304 := LRd.le ha
  have hleb : b.length ≤ 4194304 := LRd.le hb
  refine wp_seq ?_
  refine RG.start ?_
  refine S.quiet (k := 1) (keep := [0, 1]) (m := 0) (σ' := ⟨[(0, .v (slv (a).length pa.1)), (1, .v (slv (b).length pb.1))], []⟩) .nil (by kernel_rfl) ?_
  clear S; intro ac w β S
  refine RG.done rfl (nx_then ?_)
  refine wp_seq ?_
  refine wp_seq ?_
  refine RG.start ?_
  refine S.quiet (k := 5) (keep := [0, 1, 10]) (m := 0) (σ' := ⟨[(0, .v (slv (a).length pa.1)), (1, .v (slv (b).length pb.1)), (10, .v (B (((a).length : Int) != ((b).length : Int))))], []⟩) .nil (by kernel_rfl) ?_
  clear S; intro ac w β S
  refine RG.done rfl (nx_then ?_)
  refine S.cond (e := (((a).length : Int) != ((b).length : Int))) (by kernel_rfl) (fun h1 => ?_) (fun h1 => ?_)
  · have g2 : ¬ (((a).length : Int) = ((b).length : Int)) := bne_iff_ne.1 h1
    refine wp_seq ?_
    refine RG.start ?_
    refine S.quiet (k := 1) (keep := [4]) (m := 0) (σ' := ⟨[(4, .v (B false))], []⟩) .nil (by kernel_rfl) ?_
    clear S; intro ac w β S
    refine RG.done rfl (nx_then ?_)
    refine wp_ret (rt_then ?_)
    refine S.ret (vs := [B false]) (by kernel_rfl) ?_
    exact ⟨retB (show false = decide (a = b) by clear S; first | (simp; intro e; subst e; simp_all; done) | (simp; rw [take_all (by omega), take_all (by omega)] at he; exact he) | (simp; exact take_ne (by simp_all))), S.chg⟩
  · have g3 : ((a).length : Int) = ((b).length : Int) := ne_f h1
    refine wp_skip (nx_then ?_)
    refine wp_seq ?_
    refine wp_seq ?_
    refine RG.start ?_
    refine S.quiet (k := 1) (keep := [0, 1, 5]) (m := 0) (σ' := ⟨[(0, .v (slv (a).length pa.1)), (1, .v (slv (b).length pb.1)), (5, .v (I 0))], []⟩) .nil (by kernel_rfl) ?_
    clear S; intro ac w β S
    refine RG.done rfl (nx_then ?_)
    refine wp_block ?_
    replace S := S.prune (keep := [0, 1, 5]) (m := 0) (σ' := ⟨[(0, .v (slv (a).length pa.1)), (1, .v (slv (b).length pb.1)), (5, .v (I 0))], []⟩) (by kernel_rfl)
    refine wp_loop_down (fun mm ac w => ∃ (k : Nat)  (u : World) (N : Bl) (β : Nat → Nat), mm = a.length - k ∧ (k ≤ a.length) ∧ (a.length = b.length) ∧ (a.take k = b.take k) ∧ St Go.Proofs.Tryz.prog Go.Proofs.Tryz.f98.ntmps w0 NoB u N β ⟨[(0, .v (slv (a).length pa.1)), (1, .v (slv (b).length pb.1)), (5, .v (I (k : Int)))], []⟩ ac w) _ ⟨0, _, _, _, rfl, (by first | omega | (simp; done) | (simp; omega)), (by first | omega | (simp; done) | (simp; omega)), (by simp), S.cast (by kernel_rfl)⟩ ?_
    clear S
    rintro mm ac w ⟨k, u, N, β, rfl, hk, hab, he, S⟩
    refine wp_seq ?_
    refine wp_seq ?_
    refine RG.start ?_
    refine S.quiet (k := 4) (keep := [0, 1, 5, 14]) (m := 0) (σ' := ⟨[(0, .v (slv (a).length pa.1)), (1, .v (slv (b).length pb.1)), (5, .v (I (k : Int))), (14, .v (B (decide ((k : Int) < ((a).length : Int)))))], []⟩) .nil (by kernel_rfl) ?_
    clear S; intro ac w β S
    refine RG.done rfl (nx_then ?_)
    refine S.cond (e := (decide ((k : Int) < ((a).length : Int)))) (by kernel_rfl) (fun h4 => ?_) (fun h4 => ?_)
    · have g5 : (k : Int) < ((a).length : Int) := of_decide_eq_true h4
      refine wp_skip (nx_then ?_)
      refine wp_seq ?_
      refine wp_block ?_
      refine wp_seq ?_
      refine S.drawn (keep := [0, 1, 5, 26]) (m := 0) (σ' := ⟨[(0, .v (slv (a).length pa.1)), (1, .v (slv (b).length pb.1)), (5, .v (I (k : Int))), (26, .v (B (!(decide ((el a k) = (el b k))))))], []⟩) (.cons (Q_idx (S.arg ha) (l := (a).length) (k := k) (i := (k : Int)) rfl rfl (by omega) Go.Proofs.Tryz.underlying91 (by kernel_rfl)) (.cons (Q_el (S.arg ha) (t := 142) (k := k) (by omega) rfl (by kernel_rfl) (by kernel_rfl)) (.cons (Q_idx (S.arg hb) (l := (b).length) (k := k) (i := (k : Int)) rfl rfl (by omega) Go.Proofs.Tryz.underlying91 (by kernel_rfl)) (.cons (Q_el (S.arg hb) (t := 142) (k := k) (by omega) rfl (by kernel_rfl) (by kernel_rfl)) (.cons (Q_call fun w hw => c_laws_eqIns w (el a k) (el b k)) .nil))))) rfl (by kernel_rfl) (by kernel_rfl) ?_
      clear S; intro ac w S
      refine id (nx_then ?_)
      refine S.cond (e := (!(decide ((el a k) = (el b k))))) (by kernel_rfl) (fun h6 => ?_) (fun h6 => ?_)
      · have h7 : (decide ((el a k) = (el b k))) = false := not_t h6
        have g8 := of_decide_eq_false h7
        refine wp_seq ?_
        refine RG.start ?_
        refine S.quiet (k := 1) (keep := [4]) (m := 0) (σ' := ⟨[(4, .v (B false))], []⟩) .nil (by kernel_rfl) ?_
        clear S; intro ac w β S
        refine RG.done rfl (nx_then ?_)
        refine wp_ret (rt_block (rt_then (rt_then (rt_block (rt_then ?_)))))
        refine S.ret (vs := [B false]) (by kernel_rfl) ?_
        exact ⟨retB (show false = decide (a = b) by clear S; first | (simp; intro e; subst e; simp_all; done) | (simp; rw [take_all (by omega), take_all (by omega)] at he; exact he) | (simp; exact take_ne (by simp_all))), S.chg⟩
      · have h9 : (decide ((el a k) = (el b k))) = true := not_f h6
        have g10 := of_decide_eq_true h9
        refine wp_skip (nx_block (nx_then ?_))
        refine RG.start ?_
        refine S.quiet (k := 3) (keep := [0, 1, 5]) (m := 0) (σ' := ⟨[(0, .v (slv (a).length pa.1)), (1, .v (slv (b).length pb.1)), (5, .v (I ((k : Int) + 1)))], []⟩) (.cons (Q_add (x := (k : Int)) (y := 1) ⟨by omega, by omega⟩) .nil) (by kernel_rfl) ?_
        clear S; intro ac w β S
        refine RG.done rfl (nx_then ?_)
        replace S := S.prune (keep := [0, 1, 5]) (m := 0) (σ' := ⟨[(0, .v (slv (a).length pa.1)), (1, .v (slv (b).length pb.1)), (5, .v (I ((k : Int) + 1)))], []⟩) (by kernel_rfl)
        refine ⟨a.length - (k + 1), by omega, k + 1, _, _, _, rfl, ?_, ?_, ?_, S.cast (by kernel_rfl)⟩
        · clear S; first | omega | (simp [*]; done) | (simp [*]; omega)
        · clear S; first | omega | (simp [*]; done) | (simp [*]; omega)
        · clear S; exact take_eq_step (by omega) (by omega) he (by simp_all)
    · have g11 : ¬ ((k : Int) < ((a).length : Int)) := of_decide_eq_false h4
      refine wp_exit (ex_then (ex_then (ex_hit (nx_then ?_))))
      refine wp_seq ?_
      refine RG.start ?_
      refine S.quiet (k := 1) (keep := [4]) (m := 0) (σ' := ⟨[(4, .v (B true))], []⟩) .nil (by kernel_rfl) ?_
      clear S; intro ac w β S
      refine RG.done rfl (nx_then ?_)
      refine wp_ret ?_
      refine S.ret (vs := [B true]) (by kernel_rfl) ?_
      exact ⟨retB (show true = decide (a = b) by clear S; first | (simp; intro e; subst e; simp_all; done) | (simp; rw [take_all (by omega), take_all (by omega)] at he; exact he) | (simp; exact take_ne (by simp_all))), S.chg⟩

set_option maxRecDepth 100000 in
theorem c_laws_eqCtl (w0 : World) (a : TCtl) (b : TCtl) : Calls Go.Proofs.Tryz.prog 99 [GT.val (α := TCtl) a (), GT.val (α := TCtl) b ()].toArray w0 (fun e w' => e = .returned (B (decide (a = b))) ∧ Chg NoB w0 w') := by
  refine Calls.walk (args := [GT.val (α := TCtl) a (), GT.val (α := TCtl) b ()]) NoB Go.Proofs.Tryz.func99 rfl rfl ?_
  intro ac β S
  refine wp_seq ?_
  refine RG.start ?_
  refine S.quiet (k := 3) (keep := [2, 3]) (m := 2) (σ' := ⟨[(2, .p 0 0), (3, .p 1 0)], [GT.cells (α := TCtl) a (), GT.cells (α := TCtl) b ()]⟩) .nil (by kernel_rfl) ?_
  clear S; intro ac w β S
  refine RG.done rfl (nx_then ?_)
  refine wp_seq ?_
  refine wp_seq ?_
  refine RG.start ?_
  refine S.quiet (k := 5) (keep := [2, 3, 9]) (m := 2) (σ' := ⟨[(2, .p 0 0), (3, .p 1 0), (9, .v (B (a.traps != b.traps)))], [GT.cells (α := TCtl) a (), GT.cells (α := TCtl) b ()]⟩) .nil (by kernel_rfl) ?_
  clear S; intro ac w β S
  refine RG.done rfl (nx_then ?_)
  refine S.cond (e := (a.traps != b.traps)) (by kernel_rfl) (fun h1 => ?_) (fun h1 => ?_)
  · have g2 : ¬ (a.traps = b.traps) := bne_iff_ne.1 h1
    refine wp_seq ?_
    refine RG.start ?_
    refine S.quiet (k := 1) (keep := [4]) (m := 0) (σ' := ⟨[(4, .v (B false))], []⟩) .nil (by kernel_rfl) ?_
    clear S; intro ac w β S
    refine RG.done rfl (nx_then ?_)
    refine wp_ret (rt_then ?_)
    refine S.ret (vs := [B false]) (by kernel_rfl) ?_
    exact ⟨retB (show false = decide (a = b) by clear S; first | (simp [TCtl.ext_iff, *]; done) | (simp_all [TCtl.ext_iff]; done)), S.chg⟩
  · have g3 : a.traps = b.traps := ne_f h1
    refine wp_skip (nx_then ?_)
    refine wp_seq ?_
    refine wp_seq ?_
    refine RG.start ?_
    refine S.quiet (k := 5) (keep := [2, 3, 14]) (m := 2) (σ' := ⟨[(2, .p 0 0), (3, .p 1 0), (14, .v (B (a.post != b.post)))], [GT.cells (α := TCtl) a (), GT.cells (α := TCtl) b ()]⟩) .nil (by kernel_rfl) ?_
    clear S; intro ac w β S
    refine RG.done rfl (nx_then ?_)
    refine S.cond (e := (a.post != b.post)) (by kernel_rfl) (fun h4 => ?_) (fun h4 => ?_)
    · have g5 : ¬ (a.post = b.post) := bne_iff_ne.1 h4
      refine wp_seq ?_
      refine RG.start ?_
      refine S.quiet (k := 1) (keep := [4]) (m := 0) (σ' := ⟨[(4, .v (B false))], []⟩) .nil (by kernel_rfl) ?_
      clear S; intro ac w β S
      refine RG.done rfl (nx_then ?_)
      refine wp_ret (rt_then ?_)
      refine S.ret (vs := [B false]) (by kernel_rfl) ?_
      exact ⟨retB (show false = decide (a = b) by clear S; first | (simp [TCtl.ext_iff, *]; done) | (simp_all [TCtl.ext_iff]; done)), S.chg⟩
    · have g6 : a.post = b.post := ne_f h4
      refine wp_skip (nx_then ?_)
      refine wp_seq ?_
      refine wp_seq ?_
      refine RG.start ?_
      refine S.quiet (k := 5) (keep := [19]) (m := 0) (σ' := ⟨[(19, .v (B (!(a.opn == b.opn))))], []⟩) .nil (by kernel_rfl) ?_
      clear S; intro ac w β S
      refine RG.done rfl (nx_then ?_)
      refine S.cond (e := (!(a.opn == b.opn))) (by kernel_rfl) (fun h7 => ?_) (fun h7 => ?_)
      · have h8 : (a.opn == b.opn) = false := not_t h7
        have g9 : ¬ (a.opn = b.opn) := ne_of_beq_false h8
        refine wp_seq ?_
        refine RG.start ?_
        refine S.quiet (k := 1) (keep := [4]) (m := 0) (σ' := ⟨[(4, .v (B false))], []⟩) .nil (by kernel_rfl) ?_
        clear S; intro ac w β S
        refine RG.done rfl (nx_then ?_)
        refine wp_ret (rt_then ?_)
        refine S.ret (vs := [B false]) (by kernel_rfl) ?_
        exact ⟨retB (show false = decide (a = b) by clear S; first | (simp [TCtl.ext_iff, *]; done) | (simp_all [TCtl.ext_iff]; done)), S.chg⟩
      · have h10 : (a.opn == b.opn) = true := not_f h7
        have g11 : a.opn = b.opn := eq_of_beq h10
        refine wp_skip (nx_then ?_)
        refine wp_seq ?_
        refine RG.start ?_
        refine S.quiet (k := 1) (keep := [4]) (m := 0) (σ' := ⟨[(4, .v (B true))], []⟩) .nil (by kernel_rfl) ?_
        clear S; intro ac w β S
        refine RG.done rfl (nx_then ?_)
        refine wp_ret ?_
        refine S.ret (vs := [B true]) (by kernel_rfl) ?_
        exact ⟨retB (show true = decide (a = b) by clear S; first | (simp [TCtl.ext_iff, *]; done) | (simp_all [TCtl.ext_iff]; done)), S.chg⟩

set_option maxRecDepth 100000 in
theorem c_laws_eqExit (w0 : World) (a : TExit) (b : TExit) : Calls Go.Proofs.Tryz.prog 100 [GT.val (α := TExit) a (), GT.val (α := TExit) b ()].toArray w0 (fun e w' => e = .returned (B (decide (a = b))) ∧ Chg NoB w0 w') := by
  refine Calls.walk (args := [GT.val (α := TExit) a (), GT.val (α := TExit) b ()]) NoB Go.Proofs.Tryz.func100 rfl rfl ?_
  intro ac β S
  refine wp_seq ?_
  refine RG.start ?_
  refine S.quiet (k := 3) (keep := [2, 3]) (m := 2) (σ' := ⟨[(2, .p 0 0), (3, .p 1 0)], [GT.cells (α := TExit) a (), GT.cells (α := TExit) b ()]⟩) .nil (by kernel_rfl) ?_
  clear S; intro ac w β S
  refine RG.done rfl (nx_then ?_)
  refine wp_seq ?_
  refine wp_seq ?_
  refine RG.start ?_
  refine S.quiet (k := 5) (keep := [2, 3, 9]) (m := 2) (σ' := ⟨[(2, .p 0 0), (3, .p 1 0), (9, .v (B (a.kind != b.kind)))], [GT.cells (α := TExit) a (), GT.cells (α := TExit) b ()]⟩) .nil (by kernel_rfl) ?_
  clear S; intro ac w β S
  refine RG.done rfl (nx_then ?_)
  refine S.cond (e := (a.kind != b.kind)) (by kernel_rfl) (fun h1 => ?_) (fun h1 => ?_)
  · have g2 : ¬ (a.kind = b.kind) := bne_iff_ne.1 h1
    refine wp_seq ?_
    refine RG.start ?_
    refine S.quiet (k := 1) (keep := [4]) (m := 0) (σ' := ⟨[(4, .v (B false))], []⟩) .nil (by kernel_rfl) ?_
    clear S; intro ac w β S
    refine RG.done rfl (nx_then ?_)
    refine wp_ret (rt_then ?_)
    refine S.ret (vs := [B false]) (by kernel_rfl) ?_
    exact ⟨retB (show false = decide (a = b) by clear S; first | (simp [TExit.ext_iff, *]; done) | (simp_all [TExit.ext_iff]; done)), S.chg⟩
  · have g3 : a.kind = b.kind := ne_f h1
    refine wp_skip (nx_then ?_)
    refine wp_seq ?_
    refine wp_seq ?_
    refine RG.start ?_
    refine S.quiet (k := 5) (keep := [2, 3, 14]) (m := 2) (σ' := ⟨[(2, .p 0 0), (3, .p 1 0), (14, .v (B (a.page != b.page)))], [GT.cells (α := TExit) a (), GT.cells (α := TExit) b ()]⟩) .nil (by kernel_rfl) ?_
    clear S; intro ac w β S
    refine RG.done rfl (nx_then ?_)
    refine S.cond (e := (a.page != b.page)) (by kernel_rfl) (fun h4 => ?_) (fun h4 => ?_)
    · have g5 : ¬ (a.page = b.page) := bne_iff_ne.1 h4
      refine wp_seq ?_
      refine RG.start ?_
      refine S.quiet (k := 1) (keep := [4]) (m := 0) (σ' := ⟨[(4, .v (B false))], []⟩) .nil (by kernel_rfl) ?_
      clear S; intro ac w β S
      refine RG.done rfl (nx_then ?_)
      refine wp_ret (rt_then ?_)
      refine S.ret (vs := [B false]) (by kernel_rfl) ?_
      exact ⟨retB (show false = decide (a = b) by clear S; first | (simp [TExit.ext_iff, *]; done) | (simp_all [TExit.ext_iff]; done)), S.chg⟩
    · have g6 : a.page = b.page := ne_f h4
      refine wp_skip (nx_then ?_)
      refine wp_seq ?_
      refine wp_seq ?_
      refine RG.start ?_
      refine S.quiet (k := 5) (keep := [2, 3, 19]) (m := 2) (σ' := ⟨[(2, .p 0 0), (3, .p 1 0), (19, .v (B (!(a.wr == b.wr))))], [GT.cells (α := TExit) a (), GT.cells (α := TExit) b ()]⟩) .nil (by kernel_rfl) ?_
      clear S; intro ac w β S
      refine RG.done rfl (nx_then ?_)
      refine S.cond (e := (!(a.wr == b.wr))) (by kernel_rfl) (fun h7 => ?_) (fun h7 => ?_)
      · have h8 : (a.wr == b.wr) = false := not_t h7
        have g9 : ¬ (a.wr = b.wr) := ne_of_beq_false h8
        refine wp_seq ?_
        refine RG.start ?_
        refine S.quiet (k := 1) (keep := [4]) (m := 0) (σ' := ⟨[(4, .v (B false))], []⟩) .nil (by kernel_rfl) ?_
        clear S; intro ac w β S
        refine RG.done rfl (nx_then ?_)
        refine wp_ret (rt_then ?_)
        refine S.ret (vs := [B false]) (by kernel_rfl) ?_
        exact ⟨retB (show false = decide (a = b) by clear S; first | (simp [TExit.ext_iff, *]; done) | (simp_all [TExit.ext_iff]; done)), S.chg⟩
      · have h10 : (a.wr == b.wr) = true := not_f h7
        have g11 : a.wr = b.wr := eq_of_beq h10
        refine wp_skip (nx_then ?_)
        refine wp_seq ?_
        refine wp_seq ?_
        refine RG.start ?_
        refine S.quiet (k := 5) (keep := [24]) (m := 0) (σ' := ⟨[(24, .v (B (a.n != b.n)))], []⟩) .nil (by kernel_rfl) ?_
        clear S; intro ac w β S
        refine RG.done rfl (nx_then ?_)
        refine S.cond (e := (a.n != b.n)) (by kernel_rfl) (fun h12 => ?_) (fun h12 => ?_)
        · have g13 : ¬ (a.n = b.n) := bne_iff_ne.1 h12
          refine wp_seq ?_
          refine RG.start ?_
          refine S.quiet (k := 1) (keep := [4]) (m := 0) (σ' := ⟨[(4, .v (B false))], []⟩) .nil (by kernel_rfl) ?_
          clear S; intro ac w β S
          refine RG.done rfl (nx_then ?_)
          refine wp_ret (rt_then ?_)
          refine S.ret (vs := [B false]) (by kernel_rfl) ?_
          exact ⟨retB (show false = decide (a = b) by clear S; first | (simp [TExit.ext_iff, *]; done) | (simp_all [TExit.ext_iff]; done)), S.chg⟩
        · have g14 : a.n = b.n := ne_f h12
          refine wp_skip (nx_then ?_)
          refine wp_seq ?_
          refine RG.start ?_
          refine S.quiet (k := 1) (keep := [4]) (m := 0) (σ' := ⟨[(4, .v (B true))], []⟩) .nil (by kernel_rfl) ?_
          clear S; intro ac w β S
          refine RG.done rfl (nx_then ?_)
          refine wp_ret ?_
          refine S.ret (vs := [B true]) (by kernel_rfl) ?_
          exact ⟨retB (show true = decide (a = b) by clear S; first | (simp [TExit.ext_iff, *]; done) | (simp_all [TExit.ext_iff]; done)), S.chg⟩

end Go.Proofs.YtpjhamcanhnfjaaGreat
