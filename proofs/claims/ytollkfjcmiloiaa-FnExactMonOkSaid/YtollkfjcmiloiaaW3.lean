/- The walks: what each function that the laws reach computes (part 3). -/
import Derived.Test.YtollkfjcmiloiaaW2
import Derived.Test.YtollkfjcmiloiaaProg
import Derived.KernelRfl
namespace Go.Proofs.Ytollkfjcmiloiaa
open Go
set_option linter.unusedVariables false
set_option linter.unusedSimpArgs false

set_option maxRecDepth 100000 in
theorem c_impl_CtlFaults (w0 : World) (c : TCtl) : Calls Go.Proofs.Try.prog 114 [GT.val (α := TCtl) c ()].toArray w0 (Ret1 NoB w0 (f_ctlFaults c : List Int)) := by
  refine Calls.walk (args := [GT.val (α := TCtl) c ()]) NoB Go.Proofs.Try.func114 rfl rfl ?_
  intro ac β S
  refine wp_seq ?_
  refine RG.start ?_
  refine S.quiet (k := 2) (keep := [1]) (m := 1) (σ' := ⟨[(1, .p 0 0)], [GT.cells (α := TCtl) c ()]⟩) .nil (by kernel_rfl) ?_
  clear S; intro ac w β S
  refine RG.done rfl (nx_then ?_)
  refine wp_seq ?_
  refine RG.start ?_
  refine RG.op rfl (S.bs0 (α := Int) (d := 4) (by kernel_rfl) ?_)
  clear S; intro ac w N q1 F2 S up o3 d4
  clear up d4
  refine S.quiet (k := 1) (keep := [1, 3]) (m := 1) (σ' := ⟨[(1, .p 0 0), (3, .v (slv 0 q1.1))], [GT.cells (α := TCtl) c ()]⟩) .nil (by kernel_rfl) ?_
  clear S; intro ac w β S
  refine RG.done rfl (nx_then ?_)
  refine wp_seq ?_
  refine wp_seq ?_
  refine RG.start ?_
  refine S.quiet (k := 4) (keep := [1, 3, 8]) (m := 1) (σ' := ⟨[(1, .p 0 0), (3, .v (slv 0 q1.1)), (8, .v (B (!(f_within c.traps 0 3))))], [GT.cells (α := TCtl) c ()]⟩) (.cons (Q_call fun w hw => c_impl_within w c.traps 0 3) .nil) (by kernel_rfl) ?_
  clear S; intro ac w β S
  refine RG.done rfl (nx_then ?_)
  refine S.cond (e := (!(f_within c.traps 0 3))) (by kernel_rfl) (fun h5 => ?_) (fun h5 => ?_)
  · have h6 : (f_within c.traps 0 3) = false := not_t h5
    have g7 := within_f h6
    refine RG.start ?_
    refine S.quiet (k := 1) (keep := [1, 9]) (m := 1) (σ' := ⟨[(1, .p 0 0), (9, .v (slv 0 q1.1))], [GT.cells (α := TCtl) c ()]⟩) .nil (by kernel_rfl) ?_
    clear S; intro ac w β S
    refine RG.op rfl (S.bs1 (α := Int) (x := 1) (p := ()) (F := NoB) (show In64 1 from ⟨by decide, by decide⟩) (fun b h => False.elim h) (fun b h => False.elim h) (d := 10) (by kernel_rfl) ?_)
    clear S; intro ac w N q8 F9 S up o10 d11
    have d12 : Disj F2 F9 := d11 _ (fun b _ h => False.elim h) o3.sub
    replace o3 := o3.up up
    clear up d11
    refine RG.op rfl (S.appFlat (α := Int) o3 (o10.rn) (fun _ _ h => h) (by' := 8) (d := 11) (lx := 0) (ly := 1) rfl rfl (by kernel_rfl) (show _ ≤ 4194304 by simp only [List.length_append, List.length_cons, List.length_nil]; omega) ?_)
    clear S; intro ac w N q13 F14 S up o15 d16
    have d17 : Disj F9 F14 := d16 _ (Disj.symm d12) o10.sub
    replace o10 := o10.upF (Disj.symm d12) up
    clear up d16
    refine S.quiet (k := 1) (keep := [1, 3]) (m := 1) (σ' := ⟨[(1, .p 0 0), (3, .v (slv ((([] : List Int) ++ [1])).length q13.1))], [GT.cells (α := TCtl) c ()]⟩) .nil (by kernel_rfl) ?_
    clear S; intro ac w β S
    refine RG.done rfl (nx_then ?_)
    refine wp_seq ?_
    refine wp_seq ?_
    refine RG.start ?_
    refine S.quiet (k := 4) (keep := [1, 3, 15]) (m := 1) (σ' := ⟨[(1, .p 0 0), (3, .v (slv ((([] : List Int) ++ [1])).length q13.1)), (15, .v (B (!(f_within c.post 0 255))))], [GT.cells (α := TCtl) c ()]⟩) (.cons (Q_call fun w hw => c_impl_within w c.post 0 255) .nil) (by kernel_rfl) ?_
    clear S; intro ac w β S
    refine RG.done rfl (nx_then ?_)
    refine S.cond (e := (!(f_within c.post 0 255))) (by kernel_rfl) (fun h18 => ?_) (fun h18 => ?_)
    · have h19 : (f_within c.post 0 255) = false := not_t h18
      have g20 := within_f h19
      refine RG.start ?_
      refine S.quiet (k := 1) (keep := [1, 16]) (m := 1) (σ' := ⟨[(1, .p 0 0), (16, .v (slv ((([] : List Int) ++ [1])).length q13.1))], [GT.cells (α := TCtl) c ()]⟩) .nil (by kernel_rfl) ?_
      clear S; intro ac w β S
      refine RG.op rfl (S.bs1 (α := Int) (x := 2) (p := ()) (F := NoB) (show In64 2 from ⟨by decide, by decide⟩) (fun b h => False.elim h) (fun b h => False.elim h) (d := 17) (by kernel_rfl) ?_)
      clear S; intro ac w N q21 F22 S up o23 d24
      have d25 : Disj F14 F22 := d24 _ (fun b _ h => False.elim h) o15.sub
      replace o15 := o15.up up
      clear up d24
      refine RG.op rfl (S.appFlat (α := Int) o15 (o23.rn) (fun _ _ h => h) (by' := 8) (d := 18) (lx := ((([] : List Int) ++ [1])).length) (ly := 1) rfl rfl (by kernel_rfl) (show _ ≤ 4194304 by simp only [List.length_append, List.length_cons, List.length_nil]; omega) ?_)
      clear S; intro ac w N q26 F27 S up o28 d29
      have d30 : Disj F22 F27 := d29 _ (Disj.symm d25) o23.sub
      replace o23 := o23.upF (Disj.symm d25) up
      clear up d29
      refine S.quiet (k := 1) (keep := [1, 3]) (m := 1) (σ' := ⟨[(1, .p 0 0), (3, .v (slv (((([] : List Int) ++ [1]) ++ [2])).length q26.1))], [GT.cells (α := TCtl) c ()]⟩) .nil (by kernel_rfl) ?_
      clear S; intro ac w β S
      refine RG.done rfl (nx_then ?_)
      refine wp_seq ?_
      refine wp_seq ?_
      refine RG.start ?_
      refine S.quiet (k := 4) (keep := [1, 3, 22]) (m := 1) (σ' := ⟨[(1, .p 0 0), (3, .v (slv (((([] : List Int) ++ [1]) ++ [2])).length q26.1)), (22, .v (B (c.post != 0)))], [GT.cells (α := TCtl) c ()]⟩) .nil (by kernel_rfl) ?_
      clear S; intro ac w β S
      rcases Bool.eq_false_or_eq_true (c.post != 0) with h31 | h31 <;> rw [h31] at S
      · have g32 : ¬ (c.post = 0) := bne_iff_ne.1 h31
        refine S.quiet (k := 4) (keep := [1, 3, 26]) (m := 1) (σ' := ⟨[(1, .p 0 0), (3, .v (slv (((([] : List Int) ++ [1]) ++ [2])).length q26.1)), (26, .v (B (!c.opn)))], [GT.cells (α := TCtl) c ()]⟩) .nil (by kernel_rfl) ?_
        clear S; intro ac w β S
        refine RG.done rfl (nx_then ?_)
        refine S.cond (e := (!c.opn)) (by kernel_rfl) (fun h33 => ?_) (fun h33 => ?_)
        · have h34 : c.opn = false := not_t h33
          refine RG.start ?_
          refine S.quiet (k := 1) (keep := [1, 27]) (m := 1) (σ' := ⟨[(1, .p 0 0), (27, .v (slv (((([] : List Int) ++ [1]) ++ [2])).length q26.1))], [GT.cells (α := TCtl) c ()]⟩) .nil (by kernel_rfl) ?_
          clear S; intro ac w β S
          refine RG.op rfl (S.bs1 (α := Int) (x := 3) (p := ()) (F := NoB) (show In64 3 from ⟨by decide, by decide⟩) (fun b h => False.elim h) (fun b h => False.elim h) (d := 28) (by kernel_rfl) ?_)
          clear S; intro ac w N q35 F36 S up o37 d38
          have d39 : Disj F27 F36 := d38 _ (fun b _ h => False.elim h) o28.sub
          replace o28 := o28.up up
          clear up d38
          refine RG.op rfl (S.appFlat (α := Int) o28 (o37.rn) (fun _ _ h => h) (by' := 8) (d := 29) (lx := (((([] : List Int) ++ [1]) ++ [2])).length) (ly := 1) rfl rfl (by kernel_rfl) (show _ ≤ 4194304 by simp only [List.length_append, List.length_cons, List.length_nil]; omega) ?_)
          clear S; intro ac w N q40 F41 S up o42 d43
          have d44 : Disj F36 F41 := d43 _ (Disj.symm d39) o37.sub
          replace o37 := o37.upF (Disj.symm d39) up
          clear up d43
          refine S.quiet (k := 1) (keep := [1, 3]) (m := 1) (σ' := ⟨[(1, .p 0 0), (3, .v (slv ((((([] : List Int) ++ [1]) ++ [2]) ++ [3])).length q40.1))], [GT.cells (α := TCtl) c ()]⟩) .nil (by kernel_rfl) ?_
          clear S; intro ac w β S
          refine RG.done rfl (nx_then ?_)
          refine wp_seq ?_
          refine wp_seq ?_
          refine RG.start ?_
          refine S.quiet (k := 4) (keep := [1, 3, 33]) (m := 1) (σ' := ⟨[(1, .p 0 0), (3, .v (slv ((((([] : List Int) ++ [1]) ++ [2]) ++ [3])).length q40.1)), (33, .v (B (c.traps == 2)))], [GT.cells (α := TCtl) c ()]⟩) .nil (by kernel_rfl) ?_
          clear S; intro ac w β S
          rcases Bool.eq_false_or_eq_true (c.traps == 2) with h45 | h45 <;> rw [h45] at S
          · have g46 : c.traps = 2 := eq_of_beq h45
            refine S.quiet (k := 4) (keep := [3, 37]) (m := 0) (σ' := ⟨[(3, .v (slv ((((([] : List Int) ++ [1]) ++ [2]) ++ [3])).length q40.1)), (37, .v (B (c.post != 0)))], []⟩) .nil (by kernel_rfl) ?_
            clear S; intro ac w β S
            refine RG.done rfl (nx_then ?_)
            refine S.cond (e := (c.post != 0)) (by kernel_rfl) (fun h47 => ?_) (fun h47 => ?_)
            · have g48 : ¬ (c.post = 0) := bne_iff_ne.1 h47
              refine RG.start ?_
              refine S.quiet (k := 1) (keep := [38]) (m := 0) (σ' := ⟨[(38, .v (slv ((((([] : List Int) ++ [1]) ++ [2]) ++ [3])).length q40.1))], []⟩) .nil (by kernel_rfl) ?_
              clear S; intro ac w β S
              refine RG.op rfl (S.bs1 (α := Int) (x := 4) (p := ()) (F := NoB) (show In64 4 from ⟨by decide, by decide⟩) (fun b h => False.elim h) (fun b h => False.elim h) (d := 39) (by kernel_rfl) ?_)
              clear S; intro ac w N q49 F50 S up o51 d52
              have d53 : Disj F41 F50 := d52 _ (fun b _ h => False.elim h) o42.sub
              replace o42 := o42.up up
              clear up d52
              refine RG.op rfl (S.appFlat (α := Int) o42 (o51.rn) (fun _ _ h => h) (by' := 8) (d := 40) (lx := ((((([] : List Int) ++ [1]) ++ [2]) ++ [3])).length) (ly := 1) rfl rfl (by kernel_rfl) (show _ ≤ 4194304 by simp only [List.length_append, List.length_cons, List.length_nil]; omega) ?_)
              clear S; intro ac w N q54 F55 S up o56 d57
              have d58 : Disj F50 F55 := d57 _ (Disj.symm d53) o51.sub
              replace o51 := o51.upF (Disj.symm d53) up
              clear up d57
              refine S.quiet (k := 1) (keep := [3]) (m := 0) (σ' := ⟨[(3, .v (slv (((((([] : List Int) ++ [1]) ++ [2]) ++ [3]) ++ [4])).length q54.1))], []⟩) .nil (by kernel_rfl) ?_
              clear S; intro ac w β S
              refine RG.done rfl (nx_then ?_)
              refine wp_seq ?_
              refine RG.start ?_
              refine S.quiet (k := 2) (keep := [2]) (m := 0) (σ' := ⟨[(2, .v (slv (((((([] : List Int) ++ [1]) ++ [2]) ++ [3]) ++ [4])).length q54.1))], []⟩) .nil (by kernel_rfl) ?_
              clear S; intro ac w β S
              refine RG.done rfl (nx_then ?_)
              refine wp_ret ?_
              refine S.ret (vs := [slv (((((([] : List Int) ++ [1]) ++ [2]) ++ [3]) ++ [4])).length q54.1]) (by kernel_rfl) ?_
              exact ret1_of S (show f_ctlFaults c = ((((([] : List Int) ++ [1]) ++ [2]) ++ [3]) ++ [4]) by clear S; (unfold f_ctlFaults; (repeat' split) <;> first | rfl | (exfalso; simp_all; done) | (exfalso; omega))) rfl o56
            · have g59 : c.post = 0 := ne_f h47
              refine wp_skip (nx_then ?_)
              refine wp_seq ?_
              refine RG.start ?_
              refine S.quiet (k := 2) (keep := [2]) (m := 0) (σ' := ⟨[(2, .v (slv ((((([] : List Int) ++ [1]) ++ [2]) ++ [3])).length q40.1))], []⟩) .nil (by kernel_rfl) ?_
              clear S; intro ac w β S
              refine RG.done rfl (nx_then ?_)
              refine wp_ret ?_
              refine S.ret (vs := [slv ((((([] : List Int) ++ [1]) ++ [2]) ++ [3])).length q40.1]) (by kernel_rfl) ?_
              exact ret1_of S (show f_ctlFaults c = (((([] : List Int) ++ [1]) ++ [2]) ++ [3]) by clear S; (unfold f_ctlFaults; (repeat' split) <;> first | rfl | (exfalso; simp_all; done) | (exfalso; omega))) rfl o42
          · have g60 : ¬ (c.traps = 2) := ne_of_beq_false h45
            refine S.quiet (k := 4) (keep := [3, 37]) (m := 0) (σ' := ⟨[(3, .v (slv ((((([] : List Int) ++ [1]) ++ [2]) ++ [3])).length q40.1)), (37, .v (B false))], []⟩) .nil (by kernel_rfl) ?_
            clear S; intro ac w β S
            refine RG.done rfl (nx_then ?_)
            refine S.cond (e := false) (by kernel_rfl) (fun hx => by cases hx) (fun _ => ?_)
            refine wp_skip (nx_then ?_)
            refine wp_seq ?_
            refine RG.start ?_
            refine S.quiet (k := 2) (keep := [2]) (m := 0) (σ' := ⟨[(2, .v (slv ((((([] : List Int) ++ [1]) ++ [2]) ++ [3])).length q40.1))], []⟩) .nil (by kernel_rfl) ?_
            clear S; intro ac w β S
            refine RG.done rfl (nx_then ?_)
            refine wp_ret ?_
            refine S.ret (vs := [slv ((((([] : List Int) ++ [1]) ++ [2]) ++ [3])).length q40.1]) (by kernel_rfl) ?_
            exact ret1_of S (show f_ctlFaults c = (((([] : List Int) ++ [1]) ++ [2]) ++ [3]) by clear S; (unfold f_ctlFaults; (repeat' split) <;> first | rfl | (exfalso; simp_all; done) | (exfalso; omega))) rfl o42
        · have h61 : c.opn = true := not_f h33
          refine wp_skip (nx_then ?_)
          refine wp_seq ?_
          refine wp_seq ?_
          refine RG.start ?_
          refine S.quiet (k := 4) (keep := [1, 3, 33]) (m := 1) (σ' := ⟨[(1, .p 0 0), (3, .v (slv (((([] : List Int) ++ [1]) ++ [2])).length q26.1)), (33, .v (B (c.traps == 2)))], [GT.cells (α := TCtl) c ()]⟩) .nil (by kernel_rfl) ?_
          clear S; intro ac w β S
          rcases Bool.eq_false_or_eq_true (c.traps == 2) with h62 | h62 <;> rw [h62] at S
          · have g63 : c.traps = 2 := eq_of_beq h62
            refine S.quiet (k := 4) (keep := [3, 37]) (m := 0) (σ' := ⟨[(3, .v (slv (((([] : List Int) ++ [1]) ++ [2])).length q26.1)), (37, .v (B (c.post != 0)))], []⟩) .nil (by kernel_rfl) ?_
            clear S; intro ac w β S
            refine RG.done rfl (nx_then ?_)
            refine S.cond (e := (c.post != 0)) (by kernel_rfl) (fun h64 => ?_) (fun h64 => ?_)
            · have g65 : ¬ (c.post = 0) := bne_iff_ne.1 h64
              refine RG.start ?_
              refine S.quiet (k := 1) (keep := [38]) (m := 0) (σ' := ⟨[(38, .v (slv (((([] : List Int) ++ [1]) ++ [2])).length q26.1))], []⟩) .nil (by kernel_rfl) ?_
              clear S; intro ac w β S
              refine RG.op rfl (S.bs1 (α := Int) (x := 4) (p := ()) (F := NoB) (show In64 4 from ⟨by decide, by decide⟩) (fun b h => False.elim h) (fun b h => False.elim h) (d := 39) (by kernel_rfl) ?_)
              clear S; intro ac w N q66 F67 S up o68 d69
              have d70 : Disj F27 F67 := d69 _ (fun b _ h => False.elim h) o28.sub
              replace o28 := o28.up up
              clear up d69
              refine RG.op rfl (S.appFlat (α := Int) o28 (o68.rn) (fun _ _ h => h) (by' := 8) (d := 40) (lx := (((([] : List Int) ++ [1]) ++ [2])).length) (ly := 1) rfl rfl (by kernel_rfl) (show _ ≤ 4194304 by simp only [List.length_append, List.length_cons, List.length_nil]; omega) ?_)
              clear S; intro ac w N q71 F72 S up o73 d74
              have d75 : Disj F67 F72 := d74 _ (Disj.symm d70) o68.sub
              replace o68 := o68.upF (Disj.symm d70) up
              clear up d74
              refine S.quiet (k := 1) (keep := [3]) (m := 0) (σ' := ⟨[(3, .v (slv ((((([] : List Int) ++ [1]) ++ [2]) ++ [4])).length q71.1))], []⟩) .nil (by kernel_rfl) ?_
              clear S; intro ac w β S
              refine RG.done rfl (nx_then ?_)
              refine wp_seq ?_
              refine RG.start ?_
              refine S.quiet (k := 2) (keep := [2]) (m := 0) (σ' := ⟨[(2, .v (slv ((((([] : List Int) ++ [1]) ++ [2]) ++ [4])).length q71.1))], []⟩) .nil (by kernel_rfl) ?_
              clear S; intro ac w β S
              refine RG.done rfl (nx_then ?_)
              refine wp_ret ?_
              refine S.ret (vs := [slv ((((([] : List Int) ++ [1]) ++ [2]) ++ [4])).length q71.1]) (by kernel_rfl) ?_
              exact ret1_of S (show f_ctlFaults c = (((([] : List Int) ++ [1]) ++ [2]) ++ [4]) by clear S; (unfold f_ctlFaults; (repeat' split) <;> first | rfl | (exfalso; simp_all; done) | (exfalso; omega))) rfl o73
            · have g76 : c.post = 0 := ne_f h64
              refine wp_skip (nx_then ?_)
              refine wp_seq ?_
              refine RG.start ?_
              refine S.quiet (k := 2) (keep := [2]) (m := 0) (σ' := ⟨[(2, .v (slv (((([] : List Int) ++ [1]) ++ [2])).length q26.1))], []⟩) .nil (by kernel_rfl) ?_
              clear S; intro ac w β S
              refine RG.done rfl (nx_then ?_)
              refine wp_ret ?_
              refine S.ret (vs := [slv (((([] : List Int) ++ [1]) ++ [2])).length q26.1]) (by kernel_rfl) ?_
              exact ret1_of S (show f_ctlFaults c = ((([] : List Int) ++ [1]) ++ [2]) by clear S; (unfold f_ctlFaults; (repeat' split) <;> first | rfl | (exfalso; simp_all; done) | (exfalso; omega))) rfl o28
          · have g77 : ¬ (c.traps = 2) := ne_of_beq_false h62
            refine S.quiet (k := 4) (keep := [3, 37]) (m := 0) (σ' := ⟨[(3, .v (slv (((([] : List Int) ++ [1]) ++ [2])).length q26.1)), (37, .v (B false))], []⟩) .nil (by kernel_rfl) ?_
            clear S; intro ac w β S
            refine RG.done rfl (nx_then ?_)
            refine S.cond (e := false) (by kernel_rfl) (fun hx => by cases hx) (fun _ => ?_)
            refine wp_skip (nx_then ?_)
            refine wp_seq ?_
            refine RG.start ?_
            refine S.quiet (k := 2) (keep := [2]) (m := 0) (σ' := ⟨[(2, .v (slv (((([] : List Int) ++ [1]) ++ [2])).length q26.1))], []⟩) .nil (by kernel_rfl) ?_
            clear S; intro ac w β S
            refine RG.done rfl (nx_then ?_)
            refine wp_ret ?_
            refine S.ret (vs := [slv (((([] : List Int) ++ [1]) ++ [2])).length q26.1]) (by kernel_rfl) ?_
            exact ret1_of S (show f_ctlFaults c = ((([] : List Int) ++ [1]) ++ [2]) by clear S; (unfold f_ctlFaults; (repeat' split) <;> first | rfl | (exfalso; simp_all; done) | (exfalso; omega))) rfl o28
      · have g78 : c.post = 0 := ne_f h31
        refine S.quiet (k := 4) (keep := [1, 3, 26]) (m := 1) (σ' := ⟨[(1, .p 0 0), (3, .v (slv (((([] : List Int) ++ [1]) ++ [2])).length q26.1)), (26, .v (B false))], [GT.cells (α := TCtl) c ()]⟩) .nil (by kernel_rfl) ?_
        clear S; intro ac w β S
        refine RG.done rfl (nx_then ?_)
        refine S.cond (e := false) (by kernel_rfl) (fun hx => by cases hx) (fun _ => ?_)
        refine wp_skip (nx_then ?_)
        refine wp_seq ?_
        refine wp_seq ?_
        refine RG.start ?_
        refine S.quiet (k := 4) (keep := [1, 3, 33]) (m := 1) (σ' := ⟨[(1, .p 0 0), (3, .v (slv (((([] : List Int) ++ [1]) ++ [2])).length q26.1)), (33, .v (B (c.traps == 2)))], [GT.cells (α := TCtl) c ()]⟩) .nil (by kernel_rfl) ?_
        clear S; intro ac w β S
        rcases Bool.eq_false_or_eq_true (c.traps == 2) with h79 | h79 <;> rw [h79] at S
        · have g80 : c.traps = 2 := eq_of_beq h79
          refine S.quiet (k := 4) (keep := [3, 37]) (m := 0) (σ' := ⟨[(3, .v (slv (((([] : List Int) ++ [1]) ++ [2])).length q26.1)), (37, .v (B (c.post != 0)))], []⟩) .nil (by kernel_rfl) ?_
          clear S; intro ac w β S
          refine RG.done rfl (nx_then ?_)
          refine S.cond (e := (c.post != 0)) (by kernel_rfl) (fun h81 => ?_) (fun h81 => ?_)
          · have g82 : ¬ (c.post = 0) := bne_iff_ne.1 h81
            refine RG.start ?_
            refine S.quiet (k := 1) (keep := [38]) (m := 0) (σ' := ⟨[(38, .v (slv (((([] : List Int) ++ [1]) ++ [2])).length q26.1))], []⟩) .nil (by kernel_rfl) ?_
            clear S; intro ac w β S
            refine RG.op rfl (S.bs1 (α := Int) (x := 4) (p := ()) (F := NoB) (show In64 4 from ⟨by decide, by decide⟩) (fun b h => False.elim h) (fun b h => False.elim h) (d := 39) (by kernel_rfl) ?_)
            clear S; intro ac w N q83 F84 S up o85 d86
            have d87 : Disj F27 F84 := d86 _ (fun b _ h => False.elim h) o28.sub
            replace o28 := o28.up up
            clear up d86
            refine RG.op rfl (S.appFlat (α := Int) o28 (o85.rn) (fun _ _ h => h) (by' := 8) (d := 40) (lx := (((([] : List Int) ++ [1]) ++ [2])).length) (ly := 1) rfl rfl (by kernel_rfl) (show _ ≤ 4194304 by simp only [List.length_append, List.length_cons, List.length_nil]; omega) ?_)
            clear S; intro ac w N q88 F89 S up o90 d91
            have d92 : Disj F84 F89 := d91 _ (Disj.symm d87) o85.sub
            replace o85 := o85.upF (Disj.symm d87) up
            clear up d91
            refine S.quiet (k := 1) (keep := [3]) (m := 0) (σ' := ⟨[(3, .v (slv ((((([] : List Int) ++ [1]) ++ [2]) ++ [4])).length q88.1))], []⟩) .nil (by kernel_rfl) ?_
            clear S; intro ac w β S
            refine RG.done rfl (nx_then ?_)
            refine wp_seq ?_
            refine RG.start ?_
            refine S.quiet (k := 2) (keep := [2]) (m := 0) (σ' := ⟨[(2, .v (slv ((((([] : List Int) ++ [1]) ++ [2]) ++ [4])).length q88.1))], []⟩) .nil (by kernel_rfl) ?_
            clear S; intro ac w β S
            refine RG.done rfl (nx_then ?_)
            refine wp_ret ?_
            refine S.ret (vs := [slv ((((([] : List Int) ++ [1]) ++ [2]) ++ [4])).length q88.1]) (by kernel_rfl) ?_
            exact ret1_of S (show f_ctlFaults c = (((([] : List Int) ++ [1]) ++ [2]) ++ [4]) by clear S; (unfold f_ctlFaults; (repeat' split) <;> first | rfl | (exfalso; simp_all; done) | (exfalso; omega))) rfl o90
          · have g93 : c.post = 0 := ne_f h81
            refine wp_skip (nx_then ?_)
            refine wp_seq ?_
            refine RG.start ?_
            refine S.quiet (k := 2) (keep := [2]) (m := 0) (σ' := ⟨[(2, .v (slv (((([] : List Int) ++ [1]) ++ [2])).length q26.1))], []⟩) .nil (by kernel_rfl) ?_
            clear S; intro ac w β S
            refine RG.done rfl (nx_then ?_)
            refine wp_ret ?_
            refine S.ret (vs := [slv (((([] : List Int) ++ [1]) ++ [2])).length q26.1]) (by kernel_rfl) ?_
            exact ret1_of S (show f_ctlFaults c = ((([] : List Int) ++ [1]) ++ [2]) by clear S; (unfold f_ctlFaults; (repeat' split) <;> first | rfl | (exfalso; simp_all; done) | (exfalso; omega))) rfl o28
        · have g94 : ¬ (c.traps = 2) := ne_of_beq_false h79
          refine S.quiet (k := 4) (keep := [3, 37]) (m := 0) (σ' := ⟨[(3, .v (slv (((([] : List Int) ++ [1]) ++ [2])).length q26.1)), (37, .v (B false))], []⟩) .nil (by kernel_rfl) ?_
          clear S; intro ac w β S
          refine RG.done rfl (nx_then ?_)
          refine S.cond (e := false) (by kernel_rfl) (fun hx => by cases hx) (fun _ => ?_)
          refine wp_skip (nx_then ?_)
          refine wp_seq ?_
          refine RG.start ?_
          refine S.quiet (k := 2) (keep := [2]) (m := 0) (σ' := ⟨[(2, .v (slv (((([] : List Int) ++ [1]) ++ [2])).length q26.1))], []⟩) .nil (by kernel_rfl) ?_
          clear S; intro ac w β S
          refine RG.done rfl (nx_then ?_)
          refine wp_ret ?_
          refine S.ret (vs := [slv (((([] : List Int) ++ [1]) ++ [2])).length q26.1]) (by kernel_rfl) ?_
          exact ret1_of S (show f_ctlFaults c = ((([] : List Int) ++ [1]) ++ [2]) by clear S; (unfold f_ctlFaults; (repeat' split) <;> first | rfl | (exfalso; simp_all; done) | (exfalso; omega))) rfl o28
    · have h95 : (f_within c.post 0 255) = true := not_f h18
      have g96 := within_t h95
      refine wp_skip (nx_then ?_)
      refine wp_seq ?_
      refine wp_seq ?_
      refine RG.start ?_
      refine S.quiet (k := 4) (keep := [1, 3, 22]) (m := 1) (σ' := ⟨[(1, .p 0 0), (3, .v (slv ((([] : List Int) ++ [1])).length q13.1)), (22, .v (B (c.post != 0)))], [GT.cells (α := TCtl) c ()]⟩) .nil (by kernel_rfl) ?_
      clear S; intro ac w β S
      rcases Bool.eq_false_or_eq_true (c.post != 0) with h97 | h97 <;> rw [h97] at S
      · have g98 : ¬ (c.post = 0) := bne_iff_ne.1 h97
        refine S.quiet (k := 4) (keep := [1, 3, 26]) (m := 1) (σ' := ⟨[(1, .p 0 0), (3, .v (slv ((([] : List Int) ++ [1])).length q13.1)), (26, .v (B (!c.opn)))], [GT.cells (α := TCtl) c ()]⟩) .nil (by kernel_rfl) ?_
        clear S; intro ac w β S
        refine RG.done rfl (nx_then ?_)
        refine S.cond (e := (!c.opn)) (by kernel_rfl) (fun h99 => ?_) (fun h99 => ?_)
        · have h100 : c.opn = false := not_t h99
          refine RG.start ?_
          refine S.quiet (k := 1) (keep := [1, 27]) (m := 1) (σ' := ⟨[(1, .p 0 0), (27, .v (slv ((([] : List Int) ++ [1])).length q13.1))], [GT.cells (α := TCtl) c ()]⟩) .nil (by kernel_rfl) ?_
          clear S; intro ac w β S
          refine RG.op rfl (S.bs1 (α := Int) (x := 3) (p := ()) (F := NoB) (show In64 3 from ⟨by decide, by decide⟩) (fun b h => False.elim h) (fun b h => False.elim h) (d := 28) (by kernel_rfl) ?_)
          clear S; intro ac w N q101 F102 S up o103 d104
          have d105 : Disj F14 F102 := d104 _ (fun b _ h => False.elim h) o15.sub
          replace o15 := o15.up up
          clear up d104
          refine RG.op rfl (S.appFlat (α := Int) o15 (o103.rn) (fun _ _ h => h) (by' := 8) (d := 29) (lx := ((([] : List Int) ++ [1])).length) (ly := 1) rfl rfl (by kernel_rfl) (show _ ≤ 4194304 by simp only [List.length_append, List.length_cons, List.length_nil]; omega) ?_)
          clear S; intro ac w N q106 F107 S up o108 d109
          have d110 : Disj F102 F107 := d109 _ (Disj.symm d105) o103.sub
          replace o103 := o103.upF (Disj.symm d105) up
          clear up d109
          refine S.quiet (k := 1) (keep := [1, 3]) (m := 1) (σ' := ⟨[(1, .p 0 0), (3, .v (slv (((([] : List Int) ++ [1]) ++ [3])).length q106.1))], [GT.cells (α := TCtl) c ()]⟩) .nil (by kernel_rfl) ?_
          clear S; intro ac w β S
          refine RG.done rfl (nx_then ?_)
          refine wp_seq ?_
          refine wp_seq ?_
          refine RG.start ?_
          refine S.quiet (k := 4) (keep := [1, 3, 33]) (m := 1) (σ' := ⟨[(1, .p 0 0), (3, .v (slv (((([] : List Int) ++ [1]) ++ [3])).length q106.1)), (33, .v (B (c.traps == 2)))], [GT.cells (α := TCtl) c ()]⟩) .nil (by kernel_rfl) ?_
          clear S; intro ac w β S
          rcases Bool.eq_false_or_eq_true (c.traps == 2) with h111 | h111 <;> rw [h111] at S
          · have g112 : c.traps = 2 := eq_of_beq h111
            refine S.quiet (k := 4) (keep := [3, 37]) (m := 0) (σ' := ⟨[(3, .v (slv (((([] : List Int) ++ [1]) ++ [3])).length q106.1)), (37, .v (B (c.post != 0)))], []⟩) .nil (by kernel_rfl) ?_
            clear S; intro ac w β S
            refine RG.done rfl (nx_then ?_)
            refine S.cond (e := (c.post != 0)) (by kernel_rfl) (fun h113 => ?_) (fun h113 => ?_)
            · have g114 : ¬ (c.post = 0) := bne_iff_ne.1 h113
              refine RG.start ?_
              refine S.quiet (k := 1) (keep := [38]) (m := 0) (σ' := ⟨[(38, .v (slv (((([] : List Int) ++ [1]) ++ [3])).length q106.1))], []⟩) .nil (by kernel_rfl) ?_
              clear S; intro ac w β S
              refine RG.op rfl (S.bs1 (α := Int) (x := 4) (p := ()) (F := NoB) (show In64 4 from ⟨by decide, by decide⟩) (fun b h => False.elim h) (fun b h => False.elim h) (d := 39) (by kernel_rfl) ?_)
              clear S; intro ac w N q115 F116 S up o117 d118
              have d119 : Disj F107 F116 := d118 _ (fun b _ h => False.elim h) o108.sub
              replace o108 := o108.up up
              clear up d118
              refine RG.op rfl (S.appFlat (α := Int) o108 (o117.rn) (fun _ _ h => h) (by' := 8) (d := 40) (lx := (((([] : List Int) ++ [1]) ++ [3])).length) (ly := 1) rfl rfl (by kernel_rfl) (show _ ≤ 4194304 by simp only [List.length_append, List.length_cons, List.length_nil]; omega) ?_)
              clear S; intro ac w N q120 F121 S up o122 d123
              have d124 : Disj F116 F121 := d123 _ (Disj.symm d119) o117.sub
              replace o117 := o117.upF (Disj.symm d119) up
              clear up d123
              refine S.quiet (k := 1) (keep := [3]) (m := 0) (σ' := ⟨[(3, .v (slv ((((([] : List Int) ++ [1]) ++ [3]) ++ [4])).length q120.1))], []⟩) .nil (by kernel_rfl) ?_
              clear S; intro ac w β S
              refine RG.done rfl (nx_then ?_)
              refine wp_seq ?_
              refine RG.start ?_
              refine S.quiet (k := 2) (keep := [2]) (m := 0) (σ' := ⟨[(2, .v (slv ((((([] : List Int) ++ [1]) ++ [3]) ++ [4])).length q120.1))], []⟩) .nil (by kernel_rfl) ?_
              clear S; intro ac w β S
              refine RG.done rfl (nx_then ?_)
              refine wp_ret ?_
              refine S.ret (vs := [slv ((((([] : List Int) ++ [1]) ++ [3]) ++ [4])).length q120.1]) (by kernel_rfl) ?_
              exact ret1_of S (show f_ctlFaults c = (((([] : List Int) ++ [1]) ++ [3]) ++ [4]) by clear S; (unfold f_ctlFaults; (repeat' split) <;> first | rfl | (exfalso; simp_all; done) | (exfalso; omega))) rfl o122
            · have g125 : c.post = 0 := ne_f h113
              refine wp_skip (nx_then ?_)
              refine wp_seq ?_
              refine RG.start ?_
              refine S.quiet (k := 2) (keep := [2]) (m := 0) (σ' := ⟨[(2, .v (slv (((([] : List Int) ++ [1]) ++ [3])).length q106.1))], []⟩) .nil (by kernel_rfl) ?_
              clear S; intro ac w β S
              refine RG.done rfl (nx_then ?_)
              refine wp_ret ?_
              refine S.ret (vs := [slv (((([] : List Int) ++ [1]) ++ [3])).length q106.1]) (by kernel_rfl) ?_
              exact ret1_of S (show f_ctlFaults c = ((([] : List Int) ++ [1]) ++ [3]) by clear S; (unfold f_ctlFaults; (repeat' split) <;> first | rfl | (exfalso; simp_all; done) | (exfalso; omega))) rfl o108
          · have g126 : ¬ (c.traps = 2) := ne_of_beq_false h111
            refine S.quiet (k := 4) (keep := [3, 37]) (m := 0) (σ' := ⟨[(3, .v (slv (((([] : List Int) ++ [1]) ++ [3])).length q106.1)), (37, .v (B false))], []⟩) .nil (by kernel_rfl) ?_
            clear S; intro ac w β S
            refine RG.done rfl (nx_then ?_)
            refine S.cond (e := false) (by kernel_rfl) (fun hx => by cases hx) (fun _ => ?_)
            refine wp_skip (nx_then ?_)
            refine wp_seq ?_
            refine RG.start ?_
            refine S.quiet (k := 2) (keep := [2]) (m := 0) (σ' := ⟨[(2, .v (slv (((([] : List Int) ++ [1]) ++ [3])).length q106.1))], []⟩) .nil (by kernel_rfl) ?_
            clear S; intro ac w β S
            refine RG.done rfl (nx_then ?_)
            refine wp_ret ?_
            refine S.ret (vs := [slv (((([] : List Int) ++ [1]) ++ [3])).length q106.1]) (by kernel_rfl) ?_
            exact ret1_of S (show f_ctlFaults c = ((([] : List Int) ++ [1]) ++ [3]) by clear S; (unfold f_ctlFaults; (repeat' split) <;> first | rfl | (exfalso; simp_all; done) | (exfalso; omega))) rfl o108
        · have h127 : c.opn = true := not_f h99
          refine wp_skip (nx_then ?_)
          refine wp_seq ?_
          refine wp_seq ?_
          refine RG.start ?_
          refine S.quiet (k := 4) (keep := [1, 3, 33]) (m := 1) (σ' := ⟨[(1, .p 0 0), (3, .v (slv ((([] : List Int) ++ [1])).length q13.1)), (33, .v (B (c.traps == 2)))], [GT.cells (α := TCtl) c ()]⟩) .nil (by kernel_rfl) ?_
          clear S; intro ac w β S
          rcases Bool.eq_false_or_eq_true (c.traps == 2) with h128 | h128 <;> rw [h128] at S
          · have g129 : c.traps = 2 := eq_of_beq h128
            refine S.quiet (k := 4) (keep := [3, 37]) (m := 0) (σ' := ⟨[(3, .v (slv ((([] : List Int) ++ [1])).length q13.1)), (37, .v (B (c.post != 0)))], []⟩) .nil (by kernel_rfl) ?_
            clear S; intro ac w β S
            refine RG.done rfl (nx_then ?_)
            refine S.cond (e := (c.post != 0)) (by kernel_rfl) (fun h130 => ?_) (fun h130 => ?_)
            · have g131 : ¬ (c.post = 0) := bne_iff_ne.1 h130
              refine RG.start ?_
              refine S.quiet (k := 1) (keep := [38]) (m := 0) (σ' := ⟨[(38, .v (slv ((([] : List Int) ++ [1])).length q13.1))], []⟩) .nil (by kernel_rfl) ?_
              clear S; intro ac w β S
              refine RG.op rfl (S.bs1 (α := Int) (x := 4) (p := ()) (F := NoB) (show In64 4 from ⟨by decide, by decide⟩) (fun b h => False.elim h) (fun b h => False.elim h) (d := 39) (by kernel_rfl) ?_)
              clear S; intro ac w N q132 F133 S up o134 d135
              have d136 : Disj F14 F133 := d135 _ (fun b _ h => False.elim h) o15.sub
              replace o15 := o15.up up
              clear up d135
              refine RG.op rfl (S.appFlat (α := Int) o15 (o134.rn) (fun _ _ h => h) (by' := 8) (d := 40) (lx := ((([] : List Int) ++ [1])).length) (ly := 1) rfl rfl (by kernel_rfl) (show _ ≤ 4194304 by simp only [List.length_append, List.length_cons, List.length_nil]; omega) ?_)
              clear S; intro ac w N q137 F138 S up o139 d140
              have d141 : Disj F133 F138 := d140 _ (Disj.symm d136) o134.sub
              replace o134 := o134.upF (Disj.symm d136) up
              clear up d140
              refine S.quiet (k := 1) (keep := [3]) (m := 0) (σ' := ⟨[(3, .v (slv (((([] : List Int) ++ [1]) ++ [4])).length q137.1))], []⟩) .nil (by kernel_rfl) ?_
              clear S; intro ac w β S
              refine RG.done rfl (nx_then ?_)
              refine wp_seq ?_
              refine RG.start ?_
              refine S.quiet (k := 2) (keep := [2]) (m := 0) (σ' := ⟨[(2, .v (slv (((([] : List Int) ++ [1]) ++ [4])).length q137.1))], []⟩) .nil (by kernel_rfl) ?_
              clear S; intro ac w β S
              refine RG.done rfl (nx_then ?_)
              refine wp_ret ?_
              refine S.ret (vs := [slv (((([] : List Int) ++ [1]) ++ [4])).length q137.1]) (by kernel_rfl) ?_
              exact ret1_of S (show f_ctlFaults c = ((([] : List Int) ++ [1]) ++ [4]) by clear S; (unfold f_ctlFaults; (repeat' split) <;> first | rfl | (exfalso; simp_all; done) | (exfalso; omega))) rfl o139
            · have g142 : c.post = 0 := ne_f h130
              refine wp_skip (nx_then ?_)
              refine wp_seq ?_
              refine RG.start ?_
              refine S.quiet (k := 2) (keep := [2]) (m := 0) (σ' := ⟨[(2, .v (slv ((([] : List Int) ++ [1])).length q13.1))], []⟩) .nil (by kernel_rfl) ?_
              clear S; intro ac w β S
              refine RG.done rfl (nx_then ?_)
              refine wp_ret ?_
              refine S.ret (vs := [slv ((([] : List Int) ++ [1])).length q13.1]) (by kernel_rfl) ?_
              exact ret1_of S (show f_ctlFaults c = (([] : List Int) ++ [1]) by clear S; (unfold f_ctlFaults; (repeat' split) <;> first | rfl | (exfalso; simp_all; done) | (exfalso; omega))) rfl o15
          · have g143 : ¬ (c.traps = 2) := ne_of_beq_false h128
            refine S.quiet (k := 4) (keep := [3, 37]) (m := 0) (σ' := ⟨[(3, .v (slv ((([] : List Int) ++ [1])).length q13.1)), (37, .v (B false))], []⟩) .nil (by kernel_rfl) ?_
            clear S; intro ac w β S
            refine RG.done rfl (nx_then ?_)
            refine S.cond (e := false) (by kernel_rfl) (fun hx => by cases hx) (fun _ => ?_)
            refine wp_skip (nx_then ?_)
            refine wp_seq ?_
            refine RG.start ?_
            refine S.quiet (k := 2) (keep := [2]) (m := 0) (σ' := ⟨[(2, .v (slv ((([] : List Int) ++ [1])).length q13.1))], []⟩) .nil (by kernel_rfl) ?_
            clear S; intro ac w β S
            refine RG.done rfl (nx_then ?_)
            refine wp_ret ?_
            refine S.ret (vs := [slv ((([] : List Int) ++ [1])).length q13.1]) (by kernel_rfl) ?_
            exact ret1_of S (show f_ctlFaults c = (([] : List Int) ++ [1]) by clear S; (unfold f_ctlFaults; (repeat' split) <;> first | rfl | (exfalso; simp_all; done) | (exfalso; omega))) rfl o15
      · have g144 : c.post = 0 := ne_f h97
        refine S.quiet (k := 4) (keep := [1, 3, 26]) (m := 1) (σ' := ⟨[(1, .p 0 0), (3, .v (slv ((([] : List Int) ++ [1])).length q13.1)), (26, .v (B false))], [GT.cells (α := TCtl) c ()]⟩) .nil (by kernel_rfl) ?_
        clear S; intro ac w β S
        refine RG.done rfl (nx_then ?_)
        refine S.cond (e := false) (by kernel_rfl) (fun hx => by cases hx) (fun _ => ?_)
        refine wp_skip (nx_then ?_)
        refine wp_seq ?_
        refine wp_seq ?_
        refine RG.start ?_
        refine S.quiet (k := 4) (keep := [1, 3, 33]) (m := 1) (σ' := ⟨[(1, .p 0 0), (3, .v (slv ((([] : List Int) ++ [1])).length q13.1)), (33, .v (B (c.traps == 2)))], [GT.cells (α := TCtl) c ()]⟩) .nil (by kernel_rfl) ?_
        clear S; intro ac w β S
        rcases Bool.eq_false_or_eq_true (c.traps == 2) with h145 | h145 <;> rw [h145] at S
        · have g146 : c.traps = 2 := eq_of_beq h145
          refine S.quiet (k := 4) (keep := [3, 37]) (m := 0) (σ' := ⟨[(3, .v (slv ((([] : List Int) ++ [1])).length q13.1)), (37, .v (B (c.post != 0)))], []⟩) .nil (by kernel_rfl) ?_
          clear S; intro ac w β S
          refine RG.done rfl (nx_then ?_)
          refine S.cond (e := (c.post != 0)) (by kernel_rfl) (fun h147 => ?_) (fun h147 => ?_)
          · have g148 : ¬ (c.post = 0) := bne_iff_ne.1 h147
            refine RG.start ?_
            refine S.quiet (k := 1) (keep := [38]) (m := 0) (σ' := ⟨[(38, .v (slv ((([] : List Int) ++ [1])).length q13.1))], []⟩) .nil (by kernel_rfl) ?_
            clear S; intro ac w β S
            refine RG.op rfl (S.bs1 (α := Int) (x := 4) (p := ()) (F := NoB) (show In64 4 from ⟨by decide, by decide⟩) (fun b h => False.elim h) (fun b h => False.elim h) (d := 39) (by kernel_rfl) ?_)
            clear S; intro ac w N q149 F150 S up o151 d152
            have d153 : Disj F14 F150 := d152 _ (fun b _ h => False.elim h) o15.sub
            replace o15 := o15.up up
            clear up d152
            refine RG.op rfl (S.appFlat (α := Int) o15 (o151.rn) (fun _ _ h => h) (by' := 8) (d := 40) (lx := ((([] : List Int) ++ [1])).length) (ly := 1) rfl rfl (by kernel_rfl) (show _ ≤ 4194304 by simp only [List.length_append, List.length_cons, List.length_nil]; omega) ?_)
            clear S; intro ac w N q154 F155 S up o156 d157
            have d158 : Disj F150 F155 := d157 _ (Disj.symm d153) o151.sub
            replace o151 := o151.upF (Disj.symm d153) up
            clear up d157
            refine S.quiet (k := 1) (keep := [3]) (m := 0) (σ' := ⟨[(3, .v (slv (((([] : List Int) ++ [1]) ++ [4])).length q154.1))], []⟩) .nil (by kernel_rfl) ?_
            clear S; intro ac w β S
            refine RG.done rfl (nx_then ?_)
            refine wp_seq ?_
            refine RG.start ?_
            refine S.quiet (k := 2) (keep := [2]) (m := 0) (σ' := ⟨[(2, .v (slv (((([] : List Int) ++ [1]) ++ [4])).length q154.1))], []⟩) .nil (by kernel_rfl) ?_
            clear S; intro ac w β S
            refine RG.done rfl (nx_then ?_)
            refine wp_ret ?_
            refine S.ret (vs := [slv (((([] : List Int) ++ [1]) ++ [4])).length q154.1]) (by kernel_rfl) ?_
            exact ret1_of S (show f_ctlFaults c = ((([] : List Int) ++ [1]) ++ [4]) by clear S; (unfold f_ctlFaults; (repeat' split) <;> first | rfl | (exfalso; simp_all; done) | (exfalso; omega))) rfl o156
          · have g159 : c.post = 0 := ne_f h147
            refine wp_skip (nx_then ?_)
            refine wp_seq ?_
            refine RG.start ?_
            refine S.quiet (k := 2) (keep := [2]) (m := 0) (σ' := ⟨[(2, .v (slv ((([] : List Int) ++ [1])).length q13.1))], []⟩) .nil (by kernel_rfl) ?_
            clear S; intro ac w β S
            refine RG.done rfl (nx_then ?_)
            refine wp_ret ?_
            refine S.ret (vs := [slv ((([] : List Int) ++ [1])).length q13.1]) (by kernel_rfl) ?_
            exact ret1_of S (show f_ctlFaults c = (([] : List Int) ++ [1]) by clear S; (unfold f_ctlFaults; (repeat' split) <;> first | rfl | (exfalso; simp_all; done) | (exfalso; omega))) rfl o15
        · have g160 : ¬ (c.traps = 2) := ne_of_beq_false h145
          refine S.quiet (k := 4) (keep := [3, 37]) (m := 0) (σ' := ⟨[(3, .v (slv ((([] : List Int) ++ [1])).length q13.1)), (37, .v (B false))], []⟩) .nil (by kernel_rfl) ?_
          clear S; intro ac w β S
          refine RG.done rfl (nx_then ?_)
          refine S.cond (e := false) (by kernel_rfl) (fun hx => by cases hx) (fun _ => ?_)
          refine wp_skip (nx_then ?_)
          refine wp_seq ?_
          refine RG.start ?_
          refine S.quiet (k := 2) (keep := [2]) (m := 0) (σ' := ⟨[(2, .v (slv ((([] : List Int) ++ [1])).length q13.1))], []⟩) .nil (by kernel_rfl) ?_
          clear S; intro ac w β S
          refine RG.done rfl (nx_then ?_)
          refine wp_ret ?_
          refine S.ret (vs := [slv ((([] : List Int) ++ [1])).length q13.1]) (by kernel_rfl) ?_
          exact ret1_of S (show f_ctlFaults c = (([] : List Int) ++ [1]) by clear S; (unfold f_ctlFaults; (repeat' split) <;> first | rfl | (exfalso; simp_all; done) | (exfalso; omega))) rfl o15
  · have h161 : (f_within c.traps 0 3) = true := not_f h5
    have g162 := within_t h161
    refine wp_skip (nx_then ?_)
    refine wp_seq ?_
    refine wp_seq ?_
    refine RG.start ?_
    refine S.quiet (k := 4) (keep := [1, 3, 15]) (m := 1) (σ' := ⟨[(1, .p 0 0), (3, .v (slv 0 q1.1)), (15, .v (B (!(f_within c.post 0 255))))], [GT.cells (α := TCtl) c ()]⟩) (.cons (Q_call fun w hw => c_impl_within w c.post 0 255) .nil) (by kernel_rfl) ?_
    clear S; intro ac w β S
    refine RG.done rfl (nx_then ?_)
    refine S.cond (e := (!(f_within c.post 0 255))) (by kernel_rfl) (fun h163 => ?_) (fun h163 => ?_)
    · have h164 : (f_within c.post 0 255) = false := not_t h163
      have g165 := within_f h164
      refine RG.start ?_
      refine S.quiet (k := 1) (keep := [1, 16]) (m := 1) (σ' := ⟨[(1, .p 0 0), (16, .v (slv 0 q1.1))], [GT.cells (α := TCtl) c ()]⟩) .nil (by kernel_rfl) ?_
      clear S; intro ac w β S
      refine RG.op rfl (S.bs1 (α := Int) (x := 2) (p := ()) (F := NoB) (show In64 2 from ⟨by decide, by decide⟩) (fun b h => False.elim h) (fun b h => False.elim h) (d := 17) (by kernel_rfl) ?_)
      clear S; intro ac w N q166 F167 S up o168 d169
      have d170 : Disj F2 F167 := d169 _ (fun b _ h => False.elim h) o3.sub
      replace o3 := o3.up up
      clear up d169
      refine RG.op rfl (S.appFlat (α := Int) o3 (o168.rn) (fun _ _ h => h) (by' := 8) (d := 18) (lx := 0) (ly := 1) rfl rfl (by kernel_rfl) (show _ ≤ 4194304 by simp only [List.length_append, List.length_cons, List.length_nil]; omega) ?_)
      clear S; intro ac w N q171 F172 S up o173 d174
      have d175 : Disj F167 F172 := d174 _ (Disj.symm d170) o168.sub
      replace o168 := o168.upF (Disj.symm d170) up
      clear up d174
      refine S.quiet (k := 1) (keep := [1, 3]) (m := 1) (σ' := ⟨[(1, .p 0 0), (3, .v (slv ((([] : List Int) ++ [2])).length q171.1))], [GT.cells (α := TCtl) c ()]⟩) .nil (by kernel_rfl) ?_
      clear S; intro ac w β S
      refine RG.done rfl (nx_then ?_)
      refine wp_seq ?_
      refine wp_seq ?_
      refine RG.start ?_
      refine S.quiet (k := 4) (keep := [1, 3, 22]) (m := 1) (σ' := ⟨[(1, .p 0 0), (3, .v (slv ((([] : List Int) ++ [2])).length q171.1)), (22, .v (B (c.post != 0)))], [GT.cells (α := TCtl) c ()]⟩) .nil (by kernel_rfl) ?_
      clear S; intro ac w β S
      rcases Bool.eq_false_or_eq_true (c.post != 0) with h176 | h176 <;> rw [h176] at S
      · have g177 : ¬ (c.post = 0) := bne_iff_ne.1 h176
        refine S.quiet (k := 4) (keep := [1, 3, 26]) (m := 1) (σ' := ⟨[(1, .p 0 0), (3, .v (slv ((([] : List Int) ++ [2])).length q171.1)), (26, .v (B (!c.opn)))], [GT.cells (α := TCtl) c ()]⟩) .nil (by kernel_rfl) ?_
        clear S; intro ac w β S
        refine RG.done rfl (nx_then ?_)
        refine S.cond (e := (!c.opn)) (by kernel_rfl) (fun h178 => ?_) (fun h178 => ?_)
        · have h179 : c.opn = false := not_t h178
          refine RG.start ?_
          refine S.quiet (k := 1) (keep := [1, 27]) (m := 1) (σ' := ⟨[(1, .p 0 0), (27, .v (slv ((([] : List Int) ++ [2])).length q171.1))], [GT.cells (α := TCtl) c ()]⟩) .nil (by kernel_rfl) ?_
          clear S; intro ac w β S
          refine RG.op rfl (S.bs1 (α := Int) (x := 3) (p := ()) (F := NoB) (show In64 3 from ⟨by decide, by decide⟩) (fun b h => False.elim h) (fun b h => False.elim h) (d := 28) (by kernel_rfl) ?_)
          clear S; intro ac w N q180 F181 S up o182 d183
          have d184 : Disj F172 F181 := d183 _ (fun b _ h => False.elim h) o173.sub
          replace o173 := o173.up up
          clear up d183
          refine RG.op rfl (S.appFlat (α := Int) o173 (o182.rn) (fun _ _ h => h) (by' := 8) (d := 29) (lx := ((([] : List Int) ++ [2])).length) (ly := 1) rfl rfl (by kernel_rfl) (show _ ≤ 4194304 by simp only [List.length_append, List.length_cons, List.length_nil]; omega) ?_)
          clear S; intro ac w N q185 F186 S up o187 d188
          have d189 : Disj F181 F186 := d188 _ (Disj.symm d184) o182.sub
          replace o182 := o182.upF (Disj.symm d184) up
          clear up d188
          refine S.quiet (k := 1) (keep := [1, 3]) (m := 1) (σ' := ⟨[(1, .p 0 0), (3, .v (slv (((([] : List Int) ++ [2]) ++ [3])).length q185.1))], [GT.cells (α := TCtl) c ()]⟩) .nil (by kernel_rfl) ?_
          clear S; intro ac w β S
          refine RG.done rfl (nx_then ?_)
          refine wp_seq ?_
          refine wp_seq ?_
          refine RG.start ?_
          refine S.quiet (k := 4) (keep := [1, 3, 33]) (m := 1) (σ' := ⟨[(1, .p 0 0), (3, .v (slv (((([] : List Int) ++ [2]) ++ [3])).length q185.1)), (33, .v (B (c.traps == 2)))], [GT.cells (α := TCtl) c ()]⟩) .nil (by kernel_rfl) ?_
          clear S; intro ac w β S
          rcases Bool.eq_false_or_eq_true (c.traps == 2) with h190 | h190 <;> rw [h190] at S
          · have g191 : c.traps = 2 := eq_of_beq h190
            refine S.quiet (k := 4) (keep := [3, 37]) (m := 0) (σ' := ⟨[(3, .v (slv (((([] : List Int) ++ [2]) ++ [3])).length q185.1)), (37, .v (B (c.post != 0)))], []⟩) .nil (by kernel_rfl) ?_
            clear S; intro ac w β S
            refine RG.done rfl (nx_then ?_)
            refine S.cond (e := (c.post != 0)) (by kernel_rfl) (fun h192 => ?_) (fun h192 => ?_)
            · have g193 : ¬ (c.post = 0) := bne_iff_ne.1 h192
              refine RG.start ?_
              refine S.quiet (k := 1) (keep := [38]) (m := 0) (σ' := ⟨[(38, .v (slv (((([] : List Int) ++ [2]) ++ [3])).length q185.1))], []⟩) .nil (by kernel_rfl) ?_
              clear S; intro ac w β S
              refine RG.op rfl (S.bs1 (α := Int) (x := 4) (p := ()) (F := NoB) (show In64 4 from ⟨by decide, by decide⟩) (fun b h => False.elim h) (fun b h => False.elim h) (d := 39) (by kernel_rfl) ?_)
              clear S; intro ac w N q194 F195 S up o196 d197
              have d198 : Disj F186 F195 := d197 _ (fun b _ h => False.elim h) o187.sub
              replace o187 := o187.up up
              clear up d197
              refine RG.op rfl (S.appFlat (α := Int) o187 (o196.rn) (fun _ _ h => h) (by' := 8) (d := 40) (lx := (((([] : List Int) ++ [2]) ++ [3])).length) (ly := 1) rfl rfl (by kernel_rfl) (show _ ≤ 4194304 by simp only [List.length_append, List.length_cons, List.length_nil]; omega) ?_)
              clear S; intro ac w N q199 F200 S up o201 d202
              have d203 : Disj F195 F200 := d202 _ (Disj.symm d198) o196.sub
              replace o196 := o196.upF (Disj.symm d198) up
              clear up d202
              refine S.quiet (k := 1) (keep := [3]) (m := 0) (σ' := ⟨[(3, .v (slv ((((([] : List Int) ++ [2]) ++ [3]) ++ [4])).length q199.1))], []⟩) .nil (by kernel_rfl) ?_
              clear S; intro ac w β S
              refine RG.done rfl (nx_then ?_)
              refine wp_seq ?_
              refine RG.start ?_
              refine S.quiet (k := 2) (keep := [2]) (m := 0) (σ' := ⟨[(2, .v (slv ((((([] : List Int) ++ [2]) ++ [3]) ++ [4])).length q199.1))], []⟩) .nil (by kernel_rfl) ?_
              clear S; intro ac w β S
              refine RG.done rfl (nx_then ?_)
              refine wp_ret ?_
              refine S.ret (vs := [slv ((((([] : List Int) ++ [2]) ++ [3]) ++ [4])).length q199.1]) (by kernel_rfl) ?_
              exact ret1_of S (show f_ctlFaults c = (((([] : List Int) ++ [2]) ++ [3]) ++ [4]) by clear S; (unfold f_ctlFaults; (repeat' split) <;> first | rfl | (exfalso; simp_all; done) | (exfalso; omega))) rfl o201
            · have g204 : c.post = 0 := ne_f h192
              refine wp_skip (nx_then ?_)
              refine wp_seq ?_
              refine RG.start ?_
              refine S.quiet (k := 2) (keep := [2]) (m := 0) (σ' := ⟨[(2, .v (slv (((([] : List Int) ++ [2]) ++ [3])).length q185.1))], []⟩) .nil (by kernel_rfl) ?_
              clear S; intro ac w β S
              refine RG.done rfl (nx_then ?_)
              refine wp_ret ?_
              refine S.ret (vs := [slv (((([] : List Int) ++ [2]) ++ [3])).length q185.1]) (by kernel_rfl) ?_
              exact ret1_of S (show f_ctlFaults c = ((([] : List Int) ++ [2]) ++ [3]) by clear S; (unfold f_ctlFaults; (repeat' split) <;> first | rfl | (exfalso; simp_all; done) | (exfalso; omega))) rfl o187
          · have g205 : ¬ (c.traps = 2) := ne_of_beq_false h190
            refine S.quiet (k := 4) (keep := [3, 37]) (m := 0) (σ' := ⟨[(3, .v (slv (((([] : List Int) ++ [2]) ++ [3])).length q185.1)), (37, .v (B false))], []⟩) .nil (by kernel_rfl) ?_
            clear S; intro ac w β S
            refine RG.done rfl (nx_then ?_)
            refine S.cond (e := false) (by kernel_rfl) (fun hx => by cases hx) (fun _ => ?_)
            refine wp_skip (nx_then ?_)
            refine wp_seq ?_
            refine RG.start ?_
            refine S.quiet (k := 2) (keep := [2]) (m := 0) (σ' := ⟨[(2, .v (slv (((([] : List Int) ++ [2]) ++ [3])).length q185.1))], []⟩) .nil (by kernel_rfl) ?_
            clear S; intro ac w β S
            refine RG.done rfl (nx_then ?_)
            refine wp_ret ?_
            refine S.ret (vs := [slv (((([] : List Int) ++ [2]) ++ [3])).length q185.1]) (by kernel_rfl) ?_
            exact ret1_of S (show f_ctlFaults c = ((([] : List Int) ++ [2]) ++ [3]) by clear S; (unfold f_ctlFaults; (repeat' split) <;> first | rfl | (exfalso; simp_all; done) | (exfalso; omega))) rfl o187
        · have h206 : c.opn = true := not_f h178
          refine wp_skip (nx_then ?_)
          refine wp_seq ?_
          refine wp_seq ?_
          refine RG.start ?_
          refine S.quiet (k := 4) (keep := [1, 3, 33]) (m := 1) (σ' := ⟨[(1, .p 0 0), (3, .v (slv ((([] : List Int) ++ [2])).length q171.1)), (33, .v (B (c.traps == 2)))], [GT.cells (α := TCtl) c ()]⟩) .nil (by kernel_rfl) ?_
          clear S; intro ac w β S
          rcases Bool.eq_false_or_eq_true (c.traps == 2) with h207 | h207 <;> rw [h207] at S
          · have g208 : c.traps = 2 := eq_of_beq h207
            refine S.quiet (k := 4) (keep := [3, 37]) (m := 0) (σ' := ⟨[(3, .v (slv ((([] : List Int) ++ [2])).length q171.1)), (37, .v (B (c.post != 0)))], []⟩) .nil (by kernel_rfl) ?_
            clear S; intro ac w β S
            refine RG.done rfl (nx_then ?_)
            refine S.cond (e := (c.post != 0)) (by kernel_rfl) (fun h209 => ?_) (fun h209 => ?_)
            · have g210 : ¬ (c.post = 0) := bne_iff_ne.1 h209
              refine RG.start ?_
              refine S.quiet (k := 1) (keep := [38]) (m := 0) (σ' := ⟨[(38, .v (slv ((([] : List Int) ++ [2])).length q171.1))], []⟩) .nil (by kernel_rfl) ?_
              clear S; intro ac w β S
              refine RG.op rfl (S.bs1 (α := Int) (x := 4) (p := ()) (F := NoB) (show In64 4 from ⟨by decide, by decide⟩) (fun b h => False.elim h) (fun b h => False.elim h) (d := 39) (by kernel_rfl) ?_)
              clear S; intro ac w N q211 F212 S up o213 d214
              have d215 : Disj F172 F212 := d214 _ (fun b _ h => False.elim h) o173.sub
              replace o173 := o173.up up
              clear up d214
              refine RG.op rfl (S.appFlat (α := Int) o173 (o213.rn) (fun _ _ h => h) (by' := 8) (d := 40) (lx := ((([] : List Int) ++ [2])).length) (ly := 1) rfl rfl (by kernel_rfl) (show _ ≤ 4194304 by simp only [List.length_append, List.length_cons, List.length_nil]; omega) ?_)
              clear S; intro ac w N q216 F217 S up o218 d219
              have d220 : Disj F212 F217 := d219 _ (Disj.symm d215) o213.sub
              replace o213 := o213.upF (Disj.symm d215) up
              clear up d219
              refine S.quiet (k := 1) (keep := [3]) (m := 0) (σ' := ⟨[(3, .v (slv (((([] : List Int) ++ [2]) ++ [4])).length q216.1))], []⟩) .nil (by kernel_rfl) ?_
              clear S; intro ac w β S
              refine RG.done rfl (nx_then ?_)
              refine wp_seq ?_
              refine RG.start ?_
              refine S.quiet (k := 2) (keep := [2]) (m := 0) (σ' := ⟨[(2, .v (slv (((([] : List Int) ++ [2]) ++ [4])).length q216.1))], []⟩) .nil (by kernel_rfl) ?_
              clear S; intro ac w β S
              refine RG.done rfl (nx_then ?_)
              refine wp_ret ?_
              refine S.ret (vs := [slv (((([] : List Int) ++ [2]) ++ [4])).length q216.1]) (by kernel_rfl) ?_
              exact ret1_of S (show f_ctlFaults c = ((([] : List Int) ++ [2]) ++ [4]) by clear S; (unfold f_ctlFaults; (repeat' split) <;> first | rfl | (exfalso; simp_all; done) | (exfalso; omega))) rfl o218
            · have g221 : c.post = 0 := ne_f h209
              refine wp_skip (nx_then ?_)
              refine wp_seq ?_
              refine RG.start ?_
              refine S.quiet (k := 2) (keep := [2]) (m := 0) (σ' := ⟨[(2, .v (slv ((([] : List Int) ++ [2])).length q171.1))], []⟩) .nil (by kernel_rfl) ?_
              clear S; intro ac w β S
              refine RG.done rfl (nx_then ?_)
              refine wp_ret ?_
              refine S.ret (vs := [slv ((([] : List Int) ++ [2])).length q171.1]) (by kernel_rfl) ?_
              exact ret1_of S (show f_ctlFaults c = (([] : List Int) ++ [2]) by clear S; (unfold f_ctlFaults; (repeat' split) <;> first | rfl | (exfalso; simp_all; done) | (exfalso; omega))) rfl o173
          · have g222 : ¬ (c.traps = 2) := ne_of_beq_false h207
            refine S.quiet (k := 4) (keep := [3, 37]) (m := 0) (σ' := ⟨[(3, .v (slv ((([] : List Int) ++ [2])).length q171.1)), (37, .v (B false))], []⟩) .nil (by kernel_rfl) ?_
            clear S; intro ac w β S
            refine RG.done rfl (nx_then ?_)
            refine S.cond (e := false) (by kernel_rfl) (fun hx => by cases hx) (fun _ => ?_)
            refine wp_skip (nx_then ?_)
            refine wp_seq ?_
            refine RG.start ?_
            refine S.quiet (k := 2) (keep := [2]) (m := 0) (σ' := ⟨[(2, .v (slv ((([] : List Int) ++ [2])).length q171.1))], []⟩) .nil (by kernel_rfl) ?_
            clear S; intro ac w β S
            refine RG.done rfl (nx_then ?_)
            refine wp_ret ?_
            refine S.ret (vs := [slv ((([] : List Int) ++ [2])).length q171.1]) (by kernel_rfl) ?_
            exact ret1_of S (show f_ctlFaults c = (([] : List Int) ++ [2]) by clear S; (unfold f_ctlFaults; (repeat' split) <;> first | rfl | (exfalso; simp_all; done) | (exfalso; omega))) rfl o173
      · have g223 : c.post = 0 := ne_f h176
        refine S.quiet (k := 4) (keep := [1, 3, 26]) (m := 1) (σ' := ⟨[(1, .p 0 0), (3, .v (slv ((([] : List Int) ++ [2])).length q171.1)), (26, .v (B false))], [GT.cells (α := TCtl) c ()]⟩) .nil (by kernel_rfl) ?_
        clear S; intro ac w β S
        refine RG.done rfl (nx_then ?_)
        refine S.cond (e := false) (by kernel_rfl) (fun hx => by cases hx) (fun _ => ?_)
        refine wp_skip (nx_then ?_)
        refine wp_seq ?_
        refine wp_seq ?_
        refine RG.start ?_
        refine S.quiet (k := 4) (keep := [1, 3, 33]) (m := 1) (σ' := ⟨[(1, .p 0 0), (3, .v (slv ((([] : List Int) ++ [2])).length q171.1)), (33, .v (B (c.traps == 2)))], [GT.cells (α := TCtl) c ()]⟩) .nil (by kernel_rfl) ?_
        clear S; intro ac w β S
        rcases Bool.eq_false_or_eq_true (c.traps == 2) with h224 | h224 <;> rw [h224] at S
        · have g225 : c.traps = 2 := eq_of_beq h224
          refine S.quiet (k := 4) (keep := [3, 37]) (m := 0) (σ' := ⟨[(3, .v (slv ((([] : List Int) ++ [2])).length q171.1)), (37, .v (B (c.post != 0)))], []⟩) .nil (by kernel_rfl) ?_
          clear S; intro ac w β S
          refine RG.done rfl (nx_then ?_)
          refine S.cond (e := (c.post != 0)) (by kernel_rfl) (fun h226 => ?_) (fun h226 => ?_)
          · have g227 : ¬ (c.post = 0) := bne_iff_ne.1 h226
            refine RG.start ?_
            refine S.quiet (k := 1) (keep := [38]) (m := 0) (σ' := ⟨[(38, .v (slv ((([] : List Int) ++ [2])).length q171.1))], []⟩) .nil (by kernel_rfl) ?_
            clear S; intro ac w β S
            refine RG.op rfl (S.bs1 (α := Int) (x := 4) (p := ()) (F := NoB) (show In64 4 from ⟨by decide, by decide⟩) (fun b h => False.elim h) (fun b h => False.elim h) (d := 39) (by kernel_rfl) ?_)
            clear S; intro ac w N q228 F229 S up o230 d231
            have d232 : Disj F172 F229 := d231 _ (fun b _ h => False.elim h) o173.sub
            replace o173 := o173.up up
            clear up d231
            refine RG.op rfl (S.appFlat (α := Int) o173 (o230.rn) (fun _ _ h => h) (by' := 8) (d := 40) (lx := ((([] : List Int) ++ [2])).length) (ly := 1) rfl rfl (by kernel_rfl) (show _ ≤ 4194304 by simp only [List.length_append, List.length_cons, List.length_nil]; omega) ?_)
            clear S; intro ac w N q233 F234 S up o235 d236
            have d237 : Disj F229 F234 := d236 _ (Disj.symm d232) o230.sub
            replace o230 := o230.upF (Disj.symm d232) up
            clear up d236
            refine S.quiet (k := 1) (keep := [3]) (m := 0) (σ' := ⟨[(3, .v (slv (((([] : List Int) ++ [2]) ++ [4])).length q233.1))], []⟩) .nil (by kernel_rfl) ?_
            clear S; intro ac w β S
            refine RG.done rfl (nx_then ?_)
            refine wp_seq ?_
            refine RG.start ?_
            refine S.quiet (k := 2) (keep := [2]) (m := 0) (σ' := ⟨[(2, .v (slv (((([] : List Int) ++ [2]) ++ [4])).length q233.1))], []⟩) .nil (by kernel_rfl) ?_
            clear S; intro ac w β S
            refine RG.done rfl (nx_then ?_)
            refine wp_ret ?_
            refine S.ret (vs := [slv (((([] : List Int) ++ [2]) ++ [4])).length q233.1]) (by kernel_rfl) ?_
            exact ret1_of S (show f_ctlFaults c = ((([] : List Int) ++ [2]) ++ [4]) by clear S; (unfold f_ctlFaults; (repeat' split) <;> first | rfl | (exfalso; simp_all; done) | (exfalso; omega))) rfl o235
          · have g238 : c.post = 0 := ne_f h226
            refine wp_skip (nx_then ?_)
            refine wp_seq ?_
            refine RG.start ?_
            refine S.quiet (k := 2) (keep := [2]) (m := 0) (σ' := ⟨[(2, .v (slv ((([] : List Int) ++ [2])).length q171.1))], []⟩) .nil (by kernel_rfl) ?_
            clear S; intro ac w β S
            refine RG.done rfl (nx_then ?_)
            refine wp_ret ?_
            refine S.ret (vs := [slv ((([] : List Int) ++ [2])).length q171.1]) (by kernel_rfl) ?_
            exact ret1_of S (show f_ctlFaults c = (([] : List Int) ++ [2]) by clear S; (unfold f_ctlFaults; (repeat' split) <;> first | rfl | (exfalso; simp_all; done) | (exfalso; omega))) rfl o173
        · have g239 : ¬ (c.traps = 2) := ne_of_beq_false h224
          refine S.quiet (k := 4) (keep := [3, 37]) (m := 0) (σ' := ⟨[(3, .v (slv ((([] : List Int) ++ [2])).length q171.1)), (37, .v (B false))], []⟩) .nil (by kernel_rfl) ?_
          clear S; intro ac w β S
          refine RG.done rfl (nx_then ?_)
          refine S.cond (e := false) (by kernel_rfl) (fun hx => by cases hx) (fun _ => ?_)
          refine wp_skip (nx_then ?_)
          refine wp_seq ?_
          refine RG.start ?_
          refine S.quiet (k := 2) (keep := [2]) (m := 0) (σ' := ⟨[(2, .v (slv ((([] : List Int) ++ [2])).length q171.1))], []⟩) .nil (by kernel_rfl) ?_
          clear S; intro ac w β S
          refine RG.done rfl (nx_then ?_)
          refine wp_ret ?_
          refine S.ret (vs := [slv ((([] : List Int) ++ [2])).length q171.1]) (by kernel_rfl) ?_
          exact ret1_of S (show f_ctlFaults c = (([] : List Int) ++ [2]) by clear S; (unfold f_ctlFaults; (repeat' split) <;> first | rfl | (exfalso; simp_all; done) | (exfalso; omega))) rfl o173
    · have h240 : (f_within c.post 0 255) = true := not_f h163
      have g241 := within_t h240
      refine wp_skip (nx_then ?_)
      refine wp_seq ?_
      refine wp_seq ?_
      refine RG.start ?_
      refine S.quiet (k := 4) (keep := [1, 3, 22]) (m := 1) (σ' := ⟨[(1, .p 0 0), (3, .v (slv 0 q1.1)), (22, .v (B (c.post != 0)))], [GT.cells (α := TCtl) c ()]⟩) .nil (by kernel_rfl) ?_
      clear S; intro ac w β S
      rcases Bool.eq_false_or_eq_true (c.post != 0) with h242 | h242 <;> rw [h242] at S
      · have g243 : ¬ (c.post = 0) := bne_iff_ne.1 h242
        refine S.quiet (k := 4) (keep := [1, 3, 26]) (m := 1) (σ' := ⟨[(1, .p 0 0), (3, .v (slv 0 q1.1)), (26, .v (B (!c.opn)))], [GT.cells (α := TCtl) c ()]⟩) .nil (by kernel_rfl) ?_
        clear S; intro ac w β S
        refine RG.done rfl (nx_then ?_)
        refine S.cond (e := (!c.opn)) (by kernel_rfl) (fun h244 => ?_) (fun h244 => ?_)
        · have h245 : c.opn = false := not_t h244
          refine RG.start ?_
          refine S.quiet (k := 1) (keep := [1, 27]) (m := 1) (σ' := ⟨[(1, .p 0 0), (27, .v (slv 0 q1.1))], [GT.cells (α := TCtl) c ()]⟩) .nil (by kernel_rfl) ?_
          clear S; intro ac w β S
          refine RG.op rfl (S.bs1 (α := Int) (x := 3) (p := ()) (F := NoB) (show In64 3 from ⟨by decide, by decide⟩) (fun b h => False.elim h) (fun b h => False.elim h) (d := 28) (by kernel_rfl) ?_)
          clear S; intro ac w N q246 F247 S up o248 d249
          have d250 : Disj F2 F247 := d249 _ (fun b _ h => False.elim h) o3.sub
          replace o3 := o3.up up
          clear up d249
          refine RG.op rfl (S.appFlat (α := Int) o3 (o248.rn) (fun _ _ h => h) (by' := 8) (d := 29) (lx := 0) (ly := 1) rfl rfl (by kernel_rfl) (show _ ≤ 4194304 by simp only [List.length_append, List.length_cons, List.length_nil]; omega) ?_)
          clear S; intro ac w N q251 F252 S up o253 d254
          have d255 : Disj F247 F252 := d254 _ (Disj.symm d250) o248.sub
          replace o248 := o248.upF (Disj.symm d250) up
          clear up d254
          refine S.quiet (k := 1) (keep := [1, 3]) (m := 1) (σ' := ⟨[(1, .p 0 0), (3, .v (slv ((([] : List Int) ++ [3])).length q251.1))], [GT.cells (α := TCtl) c ()]⟩) .nil (by kernel_rfl) ?_
          clear S; intro ac w β S
          refine RG.done rfl (nx_then ?_)
          refine wp_seq ?_
          refine wp_seq ?_
          refine RG.start ?_
          refine S.quiet (k := 4) (keep := [1, 3, 33]) (m := 1) (σ' := ⟨[(1, .p 0 0), (3, .v (slv ((([] : List Int) ++ [3])).length q251.1)), (33, .v (B (c.traps == 2)))], [GT.cells (α := TCtl) c ()]⟩) .nil (by kernel_rfl) ?_
          clear S; intro ac w β S
          rcases Bool.eq_false_or_eq_true (c.traps == 2) with h256 | h256 <;> rw [h256] at S
          · have g257 : c.traps = 2 := eq_of_beq h256
            refine S.quiet (k := 4) (keep := [3, 37]) (m := 0) (σ' := ⟨[(3, .v (slv ((([] : List Int) ++ [3])).length q251.1)), (37, .v (B (c.post != 0)))], []⟩) .nil (by kernel_rfl) ?_
            clear S; intro ac w β S
            refine RG.done rfl (nx_then ?_)
            refine S.cond (e := (c.post != 0)) (by kernel_rfl) (fun h258 => ?_) (fun h258 => ?_)
            · have g259 : ¬ (c.post = 0) := bne_iff_ne.1 h258
              refine RG.start ?_
              refine S.quiet (k := 1) (keep := [38]) (m := 0) (σ' := ⟨[(38, .v (slv ((([] : List Int) ++ [3])).length q251.1))], []⟩) .nil (by kernel_rfl) ?_
              clear S; intro ac w β S
              refine RG.op rfl (S.bs1 (α := Int) (x := 4) (p := ()) (F := NoB) (show In64 4 from ⟨by decide, by decide⟩) (fun b h => False.elim h) (fun b h => False.elim h) (d := 39) (by kernel_rfl) ?_)
              clear S; intro ac w N q260 F261 S up o262 d263
              have d264 : Disj F252 F261 := d263 _ (fun b _ h => False.elim h) o253.sub
              replace o253 := o253.up up
              clear up d263
              refine RG.op rfl (S.appFlat (α := Int) o253 (o262.rn) (fun _ _ h => h) (by' := 8) (d := 40) (lx := ((([] : List Int) ++ [3])).length) (ly := 1) rfl rfl (by kernel_rfl) (show _ ≤ 4194304 by simp only [List.length_append, List.length_cons, List.length_nil]; omega) ?_)
              clear S; intro ac w N q265 F266 S up o267 d268
              have d269 : Disj F261 F266 := d268 _ (Disj.symm d264) o262.sub
              replace o262 := o262.upF (Disj.symm d264) up
              clear up d268
              refine S.quiet (k := 1) (keep := [3]) (m := 0) (σ' := ⟨[(3, .v (slv (((([] : List Int) ++ [3]) ++ [4])).length q265.1))], []⟩) .nil (by kernel_rfl) ?_
              clear S; intro ac w β S
              refine RG.done rfl (nx_then ?_)
              refine wp_seq ?_
              refine RG.start ?_
              refine S.quiet (k := 2) (keep := [2]) (m := 0) (σ' := ⟨[(2, .v (slv (((([] : List Int) ++ [3]) ++ [4])).length q265.1))], []⟩) .nil (by kernel_rfl) ?_
              clear S; intro ac w β S
              refine RG.done rfl (nx_then ?_)
              refine wp_ret ?_
              refine S.ret (vs := [slv (((([] : List Int) ++ [3]) ++ [4])).length q265.1]) (by kernel_rfl) ?_
              exact ret1_of S (show f_ctlFaults c = ((([] : List Int) ++ [3]) ++ [4]) by clear S; (unfold f_ctlFaults; (repeat' split) <;> first | rfl | (exfalso; simp_all; done) | (exfalso; omega))) rfl o267
            · have g270 : c.post = 0 := ne_f h258
              refine wp_skip (nx_then ?_)
              refine wp_seq ?_
              refine RG.start ?_
              refine S.quiet (k := 2) (keep := [2]) (m := 0) (σ' := ⟨[(2, .v (slv ((([] : List Int) ++ [3])).length q251.1))], []⟩) .nil (by kernel_rfl) ?_
              clear S; intro ac w β S
              refine RG.done rfl (nx_then ?_)
              refine wp_ret ?_
              refine S.ret (vs := [slv ((([] : List Int) ++ [3])).length q251.1]) (by kernel_rfl) ?_
              exact ret1_of S (show f_ctlFaults c = (([] : List Int) ++ [3]) by clear S; (unfold f_ctlFaults; (repeat' split) <;> first | rfl | (exfalso; simp_all; done) | (exfalso; omega))) rfl o253
          · have g271 : ¬ (c.traps = 2) := ne_of_beq_false h256
            refine S.quiet (k := 4) (keep := [3, 37]) (m := 0) (σ' := ⟨[(3, .v (slv ((([] : List Int) ++ [3])).length q251.1)), (37, .v (B false))], []⟩) .nil (by kernel_rfl) ?_
            clear S; intro ac w β S
            refine RG.done rfl (nx_then ?_)
            refine S.cond (e := false) (by kernel_rfl) (fun hx => by cases hx) (fun _ => ?_)
            refine wp_skip (nx_then ?_)
            refine wp_seq ?_
            refine RG.start ?_
            refine S.quiet (k := 2) (keep := [2]) (m := 0) (σ' := ⟨[(2, .v (slv ((([] : List Int) ++ [3])).length q251.1))], []⟩) .nil (by kernel_rfl) ?_
            clear S; intro ac w β S
            refine RG.done rfl (nx_then ?_)
            refine wp_ret ?_
            refine S.ret (vs := [slv ((([] : List Int) ++ [3])).length q251.1]) (by kernel_rfl) ?_
            exact ret1_of S (show f_ctlFaults c = (([] : List Int) ++ [3]) by clear S; (unfold f_ctlFaults; (repeat' split) <;> first | rfl | (exfalso; simp_all; done) | (exfalso; omega))) rfl o253
        · have h272 : c.opn = true := not_f h244
          refine wp_skip (nx_then ?_)
          refine wp_seq ?_
          refine wp_seq ?_
          refine RG.start ?_
          refine S.quiet (k := 4) (keep := [1, 3, 33]) (m := 1) (σ' := ⟨[(1, .p 0 0), (3, .v (slv 0 q1.1)), (33, .v (B (c.traps == 2)))], [GT.cells (α := TCtl) c ()]⟩) .nil (by kernel_rfl) ?_
          clear S; intro ac w β S
          rcases Bool.eq_false_or_eq_true (c.traps == 2) with h273 | h273 <;> rw [h273] at S
          · have g274 : c.traps = 2 := eq_of_beq h273
            refine S.quiet (k := 4) (keep := [3, 37]) (m := 0) (σ' := ⟨[(3, .v (slv 0 q1.1)), (37, .v (B (c.post != 0)))], []⟩) .nil (by kernel_rfl) ?_
            clear S; intro ac w β S
            refine RG.done rfl (nx_then ?_)
            refine S.cond (e := (c.post != 0)) (by kernel_rfl) (fun h275 => ?_) (fun h275 => ?_)
            · have g276 : ¬ (c.post = 0) := bne_iff_ne.1 h275
              refine RG.start ?_
              refine S.quiet (k := 1) (keep := [38]) (m := 0) (σ' := ⟨[(38, .v (slv 0 q1.1))], []⟩) .nil (by kernel_rfl) ?_
              clear S; intro ac w β S
              refine RG.op rfl (S.bs1 (α := Int) (x := 4) (p := ()) (F := NoB) (show In64 4 from ⟨by decide, by decide⟩) (fun b h => False.elim h) (fun b h => False.elim h) (d := 39) (by kernel_rfl) ?_)
              clear S; intro ac w N q277 F278 S up o279 d280
              have d281 : Disj F2 F278 := d280 _ (fun b _ h => False.elim h) o3.sub
              replace o3 := o3.up up
              clear up d280
              refine RG.op rfl (S.appFlat (α := Int) o3 (o279.rn) (fun _ _ h => h) (by' := 8) (d := 40) (lx := 0) (ly := 1) rfl rfl (by kernel_rfl) (show _ ≤ 4194304 by simp only [List.length_append, List.length_cons, List.length_nil]; omega) ?_)
              clear S; intro ac w N q282 F283 S up o284 d285
              have d286 : Disj F278 F283 := d285 _ (Disj.symm d281) o279.sub
              replace o279 := o279.upF (Disj.symm d281) up
              clear up d285
              refine S.quiet (k := 1) (keep := [3]) (m := 0) (σ' := ⟨[(3, .v (slv ((([] : List Int) ++ [4])).length q282.1))], []⟩) .nil (by kernel_rfl) ?_
              clear S; intro ac w β S
              refine RG.done rfl (nx_then ?_)
              refine wp_seq ?_
              refine RG.start ?_
              refine S.quiet (k := 2) (keep := [2]) (m := 0) (σ' := ⟨[(2, .v (slv ((([] : List Int) ++ [4])).length q282.1))], []⟩) .nil (by kernel_rfl) ?_
              clear S; intro ac w β S
              refine RG.done rfl (nx_then ?_)
              refine wp_ret ?_
              refine S.ret (vs := [slv ((([] : List Int) ++ [4])).length q282.1]) (by kernel_rfl) ?_
              exact ret1_of S (show f_ctlFaults c = (([] : List Int) ++ [4]) by clear S; (unfold f_ctlFaults; (repeat' split) <;> first | rfl | (exfalso; simp_all; done) | (exfalso; omega))) rfl o284
            · have g287 : c.post = 0 := ne_f h275
              refine wp_skip (nx_then ?_)
              refine wp_seq ?_
              refine RG.start ?_
              refine S.quiet (k := 2) (keep := [2]) (m := 0) (σ' := ⟨[(2, .v (slv 0 q1.1))], []⟩) .nil (by kernel_rfl) ?_
              clear S; intro ac w β S
              refine RG.done rfl (nx_then ?_)
              refine wp_ret ?_
              refine S.ret (vs := [slv 0 q1.1]) (by kernel_rfl) ?_
              exact ret1_of S (show f_ctlFaults c = ([] : List Int) by clear S; (unfold f_ctlFaults; (repeat' split) <;> first | rfl | (exfalso; simp_all; done) | (exfalso; omega))) (by rw [show 0 = (([] : List Int)).length from rfl]; rfl) o3
          · have g288 : ¬ (c.traps = 2) := ne_of_beq_false h273
            refine S.quiet (k := 4) (keep := [3, 37]) (m := 0) (σ' := ⟨[(3, .v (slv 0 q1.1)), (37, .v (B false))], []⟩) .nil (by kernel_rfl) ?_
            clear S; intro ac w β S
            refine RG.done rfl (nx_then ?_)
            refine S.cond (e := false) (by kernel_rfl) (fun hx => by cases hx) (fun _ => ?_)
            refine wp_skip (nx_then ?_)
            refine wp_seq ?_
            refine RG.start ?_
            refine S.quiet (k := 2) (keep := [2]) (m := 0) (σ' := ⟨[(2, .v (slv 0 q1.1))], []⟩) .nil (by kernel_rfl) ?_
            clear S; intro ac w β S
            refine RG.done rfl (nx_then ?_)
            refine wp_ret ?_
            refine S.ret (vs := [slv 0 q1.1]) (by kernel_rfl) ?_
            exact ret1_of S (show f_ctlFaults c = ([] : List Int) by clear S; (unfold f_ctlFaults; (repeat' split) <;> first | rfl | (exfalso; simp_all; done) | (exfalso; omega))) (by rw [show 0 = (([] : List Int)).length from rfl]; rfl) o3
      · have g289 : c.post = 0 := ne_f h242
        refine S.quiet (k := 4) (keep := [1, 3, 26]) (m := 1) (σ' := ⟨[(1, .p 0 0), (3, .v (slv 0 q1.1)), (26, .v (B false))], [GT.cells (α := TCtl) c ()]⟩) .nil (by kernel_rfl) ?_
        clear S; intro ac w β S
        refine RG.done rfl (nx_then ?_)
        refine S.cond (e := false) (by kernel_rfl) (fun hx => by cases hx) (fun _ => ?_)
        refine wp_skip (nx_then ?_)
        refine wp_seq ?_
        refine wp_seq ?_
        refine RG.start ?_
        refine S.quiet (k := 4) (keep := [1, 3, 33]) (m := 1) (σ' := ⟨[(1, .p 0 0), (3, .v (slv 0 q1.1)), (33, .v (B (c.traps == 2)))], [GT.cells (α := TCtl) c ()]⟩) .nil (by kernel_rfl) ?_
        clear S; intro ac w β S
        rcases Bool.eq_false_or_eq_true (c.traps == 2) with h290 | h290 <;> rw [h290] at S
        · have g291 : c.traps = 2 := eq_of_beq h290
          refine S.quiet (k := 4) (keep := [3, 37]) (m := 0) (σ' := ⟨[(3, .v (slv 0 q1.1)), (37, .v (B (c.post != 0)))], []⟩) .nil (by kernel_rfl) ?_
          clear S; intro ac w β S
          refine RG.done rfl (nx_then ?_)
          refine S.cond (e := (c.post != 0)) (by kernel_rfl) (fun h292 => ?_) (fun h292 => ?_)
          · have g293 : ¬ (c.post = 0) := bne_iff_ne.1 h292
            refine RG.start ?_
            refine S.quiet (k := 1) (keep := [38]) (m := 0) (σ' := ⟨[(38, .v (slv 0 q1.1))], []⟩) .nil (by kernel_rfl) ?_
            clear S; intro ac w β S
            refine RG.op rfl (S.bs1 (α := Int) (x := 4) (p := ()) (F := NoB) (show In64 4 from ⟨by decide, by decide⟩) (fun b h => False.elim h) (fun b h => False.elim h) (d := 39) (by kernel_rfl) ?_)
            clear S; intro ac w N q294 F295 S up o296 d297
            have d298 : Disj F2 F295 := d297 _ (fun b _ h => False.elim h) o3.sub
            replace o3 := o3.up up
            clear up d297
            refine RG.op rfl (S.appFlat (α := Int) o3 (o296.rn) (fun _ _ h => h) (by' := 8) (d := 40) (lx := 0) (ly := 1) rfl rfl (by kernel_rfl) (show _ ≤ 4194304 by simp only [List.length_append, List.length_cons, List.length_nil]; omega) ?_)
            clear S; intro ac w N q299 F300 S up o301 d302
            have d303 : Disj F295 F300 := d302 _ (Disj.symm d298) o296.sub
            replace o296 := o296.upF (Disj.symm d298) up
            clear up d302
            refine S.quiet (k := 1) (keep := [3]) (m := 0) (σ' := ⟨[(3, .v (slv ((([] : List Int) ++ [4])).length q299.1))], []⟩) .nil (by kernel_rfl) ?_
            clear S; intro ac w β S
            refine RG.done rfl (nx_then ?_)
            refine wp_seq ?_
            refine RG.start ?_
            refine S.quiet (k := 2) (keep := [2]) (m := 0) (σ' := ⟨[(2, .v (slv ((([] : List Int) ++ [4])).length q299.1))], []⟩) .nil (by kernel_rfl) ?_
            clear S; intro ac w β S
            refine RG.done rfl (nx_then ?_)
            refine wp_ret ?_
            refine S.ret (vs := [slv ((([] : List Int) ++ [4])).length q299.1]) (by kernel_rfl) ?_
            exact ret1_of S (show f_ctlFaults c = (([] : List Int) ++ [4]) by clear S; (unfold f_ctlFaults; (repeat' split) <;> first | rfl | (exfalso; simp_all; done) | (exfalso; omega))) rfl o301
          · have g304 : c.post = 0 := ne_f h292
            refine wp_skip (nx_then ?_)
            refine wp_seq ?_
            refine RG.start ?_
            refine S.quiet (k := 2) (keep := [2]) (m := 0) (σ' := ⟨[(2, .v (slv 0 q1.1))], []⟩) .nil (by kernel_rfl) ?_
            clear S; intro ac w β S
            refine RG.done rfl (nx_then ?_)
            refine wp_ret ?_
            refine S.ret (vs := [slv 0 q1.1]) (by kernel_rfl) ?_
            exact ret1_of S (show f_ctlFaults c = ([] : List Int) by clear S; (unfold f_ctlFaults; (repeat' split) <;> first | rfl | (exfalso; simp_all; done) | (exfalso; omega))) (by rw [show 0 = (([] : List Int)).length from rfl]; rfl) o3
        · have g305 : ¬ (c.traps = 2) := ne_of_beq_false h290
          refine S.quiet (k := 4) (keep := [3, 37]) (m := 0) (σ' := ⟨[(3, .v (slv 0 q1.1)), (37, .v (B false))], []⟩) .nil (by kernel_rfl) ?_
          clear S; intro ac w β S
          refine RG.done rfl (nx_then ?_)
          refine S.cond (e := false) (by kernel_rfl) (fun hx => by cases hx) (fun _ => ?_)
          refine wp_skip (nx_then ?_)
          refine wp_seq ?_
          refine RG.start ?_
          refine S.quiet (k := 2) (keep := [2]) (m := 0) (σ' := ⟨[(2, .v (slv 0 q1.1))], []⟩) .nil (by kernel_rfl) ?_
          clear S; intro ac w β S
          refine RG.done rfl (nx_then ?_)
          refine wp_ret ?_
          refine S.ret (vs := [slv 0 q1.1]) (by kernel_rfl) ?_
          exact ret1_of S (show f_ctlFaults c = ([] : List Int) by clear S; (unfold f_ctlFaults; (repeat' split) <;> first | rfl | (exfalso; simp_all; done) | (exfalso; omega))) (by rw [show 0 = (([] : List Int)).length from rfl]; rfl) o3

set_option maxRecDepth 100000 in
theorem c_impl_CtlOk (w0 : World) (c : TCtl) : Calls Go.Proofs.Try.prog 92 [GT.val (α := TCtl) c ()].toArray w0 (fun e w' => e = .returned (B (f_ctlOk c)) ∧ Chg NoB w0 w') := by
  refine Calls.walk (args := [GT.val (α := TCtl) c ()]) NoB Go.Proofs.Try.func92 rfl rfl ?_
  intro ac β S
  refine wp_seq ?_
  refine RG.start ?_
  refine S.quiet (k := 2) (keep := [1]) (m := 1) (σ' := ⟨[(1, .p 0 0)], [GT.cells (α := TCtl) c ()]⟩) .nil (by kernel_rfl) ?_
  clear S; intro ac w β S
  refine RG.done rfl (nx_then ?_)
  refine wp_seq ?_
  refine RG.start ?_
  refine S.quiet (k := 1) (keep := [3]) (m := 0) (σ' := ⟨[(3, .v (GT.val (α := TCtl) c ()))], []⟩) .nil (by kernel_rfl) ?_
  clear S; intro ac w β S
  refine RG.op rfl (S.call1 (r := f_ctlFaults c) (d := 4) (c_impl_CtlFaults w c) (by kernel_rfl) rfl ?_)
  clear S; intro ac w N q1 F2 S up o3 d4
  clear up d4
  refine S.quiet (k := 3) (keep := [2]) (m := 0) (σ' := ⟨[(2, .v (B ((((f_ctlFaults c)).length : Int) == 0)))], []⟩) .nil (by kernel_rfl) ?_
  clear S; intro ac w β S
  refine RG.done rfl (nx_then ?_)
  refine wp_ret ?_
  refine S.ret (vs := [B ((((f_ctlFaults c)).length : Int) == 0)]) (by kernel_rfl) ?_
  exact ⟨retB (show ((((f_ctlFaults c)).length : Int) == 0) = f_ctlOk c by clear S; first | rfl | (simp [f_ctlOk, *]; done) | (simp [f_ctlOk, *]; omega) | (simp_all [f_ctlOk]; done) | (simp_all [f_ctlOk]; omega)), S.chg⟩

set_option maxRecDepth 100000 in
theorem c_impl_ExitOk (w0 : World) (x : TExit) : Calls Go.Proofs.Try.prog 93 [GT.val (α := TExit) x ()].toArray w0 (fun e w' => e = .returned (B (f_exitOk x)) ∧ Chg NoB w0 w') := by
  refine Calls.walk (args := [GT.val (α := TExit) x ()]) NoB Go.Proofs.Try.func93 rfl rfl ?_
  intro ac β S
  refine wp_seq ?_
  refine RG.start ?_
  refine S.quiet (k := 2) (keep := [1]) (m := 1) (σ' := ⟨[(1, .p 0 0)], [GT.cells (α := TExit) x ()]⟩) .nil (by kernel_rfl) ?_
  clear S; intro ac w β S
  refine RG.done rfl (nx_then ?_)
  refine wp_seq ?_
  refine wp_seq ?_
  refine RG.start ?_
  refine S.quiet (k := 2) (keep := [1, 4]) (m := 1) (σ' := ⟨[(1, .p 0 0), (4, .v (I x.kind))], [GT.cells (α := TExit) x ()]⟩) .nil (by kernel_rfl) ?_
  clear S; intro ac w β S
  refine RG.done rfl (nx_then ?_)
  refine wp_block ?_
  refine wp_seq ?_
  refine wp_seq ?_
  refine RG.start ?_
  refine S.quiet (k := 2) (keep := [1, 4, 5]) (m := 1) (σ' := ⟨[(1, .p 0 0), (4, .v (I x.kind)), (5, .v (B (x.kind == 0)))], [GT.cells (α := TExit) x ()]⟩) .nil (by kernel_rfl) ?_
  clear S; intro ac w β S
  refine RG.done rfl (nx_then ?_)
  refine S.cond (e := (x.kind == 0)) (by kernel_rfl) (fun h1 => ?_) (fun h1 => ?_)
  · rw [h1] at S
    have g2 : x.kind = 0 := eq_of_beq h1
    refine wp_skip (nx_then ?_)
    refine S.cond (e := true) (by kernel_rfl) (fun _ => ?_) (fun hx => by cases hx)
    refine wp_seq ?_
    refine RG.start ?_
    refine S.quiet (k := 4) (keep := [1, 11]) (m := 1) (σ' := ⟨[(1, .p 0 0), (11, .v (B (x.page == 0)))], [GT.cells (α := TExit) x ()]⟩) .nil (by kernel_rfl) ?_
    clear S; intro ac w β S
    rcases Bool.eq_false_or_eq_true (x.page == 0) with h3 | h3 <;> rw [h3] at S
    · have g4 : x.page = 0 := eq_of_beq h3
      refine S.quiet (k := 5) (keep := [1, 16]) (m := 1) (σ' := ⟨[(1, .p 0 0), (16, .v (B (!x.wr)))], [GT.cells (α := TExit) x ()]⟩) .nil (by kernel_rfl) ?_
      clear S; intro ac w β S
      rcases Bool.eq_false_or_eq_true (!x.wr) with h5 | h5 <;> rw [h5] at S
      · have h6 : x.wr = false := not_t h5
        refine S.quiet (k := 5) (keep := [2]) (m := 0) (σ' := ⟨[(2, .v (B (x.n == 0)))], []⟩) .nil (by kernel_rfl) ?_
        clear S; intro ac w β S
        refine RG.done rfl (nx_then ?_)
        refine wp_ret (rt_block (rt_then ?_))
        refine S.ret (vs := [B (x.n == 0)]) (by kernel_rfl) ?_
        exact ⟨retB (show (x.n == 0) = f_exitOk x by clear S; (unfold f_exitOk; (repeat' split) <;> first | rfl | (exfalso; simp_all; done) | (exfalso; omega) | (rw [Bool.eq_iff_iff]; simp [TExit.ext_iff, *]; done) | (rw [Bool.eq_iff_iff]; simp_all [TExit.ext_iff, and_assoc]; done) | (rw [Bool.eq_iff_iff]; simp_all [TExit.ext_iff, and_assoc]; omega))), S.chg⟩
      · have h7 : x.wr = true := not_f h5
        refine S.quiet (k := 5) (keep := [2]) (m := 0) (σ' := ⟨[(2, .v (B false))], []⟩) .nil (by kernel_rfl) ?_
        clear S; intro ac w β S
        refine RG.done rfl (nx_then ?_)
        refine wp_ret (rt_block (rt_then ?_))
        refine S.ret (vs := [B false]) (by kernel_rfl) ?_
        exact ⟨retB (show false = f_exitOk x by clear S; (unfold f_exitOk; (repeat' split) <;> first | rfl | (exfalso; simp_all; done) | (exfalso; omega) | (rw [Bool.eq_iff_iff]; simp [TExit.ext_iff, *]; done) | (rw [Bool.eq_iff_iff]; simp_all [TExit.ext_iff, and_assoc]; done) | (rw [Bool.eq_iff_iff]; simp_all [TExit.ext_iff, and_assoc]; omega))), S.chg⟩
    · have g8 : ¬ (x.page = 0) := ne_of_beq_false h3
      refine S.quiet (k := 10) (keep := [2]) (m := 0) (σ' := ⟨[(2, .v (B false))], []⟩) .nil (by kernel_rfl) ?_
      clear S; intro ac w β S
      refine RG.done rfl (nx_then ?_)
      refine wp_ret (rt_block (rt_then ?_))
      refine S.ret (vs := [B false]) (by kernel_rfl) ?_
      exact ⟨retB (show false = f_exitOk x by clear S; (unfold f_exitOk; (repeat' split) <;> first | rfl | (exfalso; simp_all; done) | (exfalso; omega) | (rw [Bool.eq_iff_iff]; simp [TExit.ext_iff, *]; done) | (rw [Bool.eq_iff_iff]; simp_all [TExit.ext_iff, and_assoc]; done) | (rw [Bool.eq_iff_iff]; simp_all [TExit.ext_iff, and_assoc]; omega))), S.chg⟩
  · have g9 : ¬ (x.kind = 0) := ne_of_beq_false h1
    refine RG.start ?_
    refine S.quiet (k := 2) (keep := [1, 4, 5]) (m := 1) (σ' := ⟨[(1, .p 0 0), (4, .v (I x.kind)), (5, .v (B (x.kind == 4)))], [GT.cells (α := TExit) x ()]⟩) .nil (by kernel_rfl) ?_
    clear S; intro ac w β S
    refine RG.done rfl (nx_then ?_)
    refine S.cond (e := (x.kind == 4)) (by kernel_rfl) (fun h10 => ?_) (fun h10 => ?_)
    · have g11 : x.kind = 4 := eq_of_beq h10
      refine wp_seq ?_
      refine RG.start ?_
      refine S.quiet (k := 4) (keep := [1, 11]) (m := 1) (σ' := ⟨[(1, .p 0 0), (11, .v (B (x.page == 0)))], [GT.cells (α := TExit) x ()]⟩) .nil (by kernel_rfl) ?_
      clear S; intro ac w β S
      rcases Bool.eq_false_or_eq_true (x.page == 0) with h12 | h12 <;> rw [h12] at S
      · have g13 : x.page = 0 := eq_of_beq h12
        refine S.quiet (k := 5) (keep := [1, 16]) (m := 1) (σ' := ⟨[(1, .p 0 0), (16, .v (B (!x.wr)))], [GT.cells (α := TExit) x ()]⟩) .nil (by kernel_rfl) ?_
        clear S; intro ac w β S
        rcases Bool.eq_false_or_eq_true (!x.wr) with h14 | h14 <;> rw [h14] at S
        · have h15 : x.wr = false := not_t h14
          refine S.quiet (k := 5) (keep := [2]) (m := 0) (σ' := ⟨[(2, .v (B (x.n == 0)))], []⟩) .nil (by kernel_rfl) ?_
          clear S; intro ac w β S
          refine RG.done rfl (nx_then ?_)
          refine wp_ret (rt_block (rt_then ?_))
          refine S.ret (vs := [B (x.n == 0)]) (by kernel_rfl) ?_
          exact ⟨retB (show (x.n == 0) = f_exitOk x by clear S; (unfold f_exitOk; (repeat' split) <;> first | rfl | (exfalso; simp_all; done) | (exfalso; omega) | (rw [Bool.eq_iff_iff]; simp [TExit.ext_iff, *]; done) | (rw [Bool.eq_iff_iff]; simp_all [TExit.ext_iff, and_assoc]; done) | (rw [Bool.eq_iff_iff]; simp_all [TExit.ext_iff, and_assoc]; omega))), S.chg⟩
        · have h16 : x.wr = true := not_f h14
          refine S.quiet (k := 5) (keep := [2]) (m := 0) (σ' := ⟨[(2, .v (B false))], []⟩) .nil (by kernel_rfl) ?_
          clear S; intro ac w β S
          refine RG.done rfl (nx_then ?_)
          refine wp_ret (rt_block (rt_then ?_))
          refine S.ret (vs := [B false]) (by kernel_rfl) ?_
          exact ⟨retB (show false = f_exitOk x by clear S; (unfold f_exitOk; (repeat' split) <;> first | rfl | (exfalso; simp_all; done) | (exfalso; omega) | (rw [Bool.eq_iff_iff]; simp [TExit.ext_iff, *]; done) | (rw [Bool.eq_iff_iff]; simp_all [TExit.ext_iff, and_assoc]; done) | (rw [Bool.eq_iff_iff]; simp_all [TExit.ext_iff, and_assoc]; omega))), S.chg⟩
      · have g17 : ¬ (x.page = 0) := ne_of_beq_false h12
        refine S.quiet (k := 10) (keep := [2]) (m := 0) (σ' := ⟨[(2, .v (B false))], []⟩) .nil (by kernel_rfl) ?_
        clear S; intro ac w β S
        refine RG.done rfl (nx_then ?_)
        refine wp_ret (rt_block (rt_then ?_))
        refine S.ret (vs := [B false]) (by kernel_rfl) ?_
        exact ⟨retB (show false = f_exitOk x by clear S; (unfold f_exitOk; (repeat' split) <;> first | rfl | (exfalso; simp_all; done) | (exfalso; omega) | (rw [Bool.eq_iff_iff]; simp [TExit.ext_iff, *]; done) | (rw [Bool.eq_iff_iff]; simp_all [TExit.ext_iff, and_assoc]; done) | (rw [Bool.eq_iff_iff]; simp_all [TExit.ext_iff, and_assoc]; omega))), S.chg⟩
    · have g18 : ¬ (x.kind = 4) := ne_of_beq_false h10
      refine wp_seq ?_
      refine RG.start ?_
      refine S.quiet (k := 2) (keep := [1, 4, 21]) (m := 1) (σ' := ⟨[(1, .p 0 0), (4, .v (I x.kind)), (21, .v (B (x.kind == 1)))], [GT.cells (α := TExit) x ()]⟩) .nil (by kernel_rfl) ?_
      clear S; intro ac w β S
      refine RG.done rfl (nx_then ?_)
      refine S.cond (e := (x.kind == 1)) (by kernel_rfl) (fun h19 => ?_) (fun h19 => ?_)
      · have g20 : x.kind = 1 := eq_of_beq h19
        refine wp_seq ?_
        refine RG.start ?_
        refine S.quiet (k := 4) (keep := [1, 26]) (m := 1) (σ' := ⟨[(1, .p 0 0), (26, .v (B (f_within x.page 0 3)))], [GT.cells (α := TExit) x ()]⟩) (.cons (Q_call fun w hw => c_impl_within w x.page 0 3) .nil) (by kernel_rfl) ?_
        clear S; intro ac w β S
        rcases Bool.eq_false_or_eq_true (f_within x.page 0 3) with h21 | h21 <;> rw [h21] at S
        · have g22 := within_t h21
          refine S.quiet (k := 5) (keep := [2]) (m := 0) (σ' := ⟨[(2, .v (B (x.n == 0)))], []⟩) .nil (by kernel_rfl) ?_
          clear S; intro ac w β S
          refine RG.done rfl (nx_then ?_)
          refine wp_ret (rt_block (rt_then ?_))
          refine S.ret (vs := [B (x.n == 0)]) (by kernel_rfl) ?_
          exact ⟨retB (show (x.n == 0) = f_exitOk x by clear S; (unfold f_exitOk; (repeat' split) <;> first | rfl | (exfalso; simp_all; done) | (exfalso; omega) | (rw [Bool.eq_iff_iff]; simp [TExit.ext_iff, *]; done) | (rw [Bool.eq_iff_iff]; simp_all [TExit.ext_iff, and_assoc]; done) | (rw [Bool.eq_iff_iff]; simp_all [TExit.ext_iff, and_assoc]; omega))), S.chg⟩
        · have g23 := within_f h21
          refine S.quiet (k := 5) (keep := [2]) (m := 0) (σ' := ⟨[(2, .v (B false))], []⟩) .nil (by kernel_rfl) ?_
          clear S; intro ac w β S
          refine RG.done rfl (nx_then ?_)
          refine wp_ret (rt_block (rt_then ?_))
          refine S.ret (vs := [B false]) (by kernel_rfl) ?_
          exact ⟨retB (show false = f_exitOk x by clear S; (unfold f_exitOk; (repeat' split) <;> first | rfl | (exfalso; simp_all; done) | (exfalso; omega) | (rw [Bool.eq_iff_iff]; simp [TExit.ext_iff, *]; done) | (rw [Bool.eq_iff_iff]; simp_all [TExit.ext_iff, and_assoc]; done) | (rw [Bool.eq_iff_iff]; simp_all [TExit.ext_iff, and_assoc]; omega))), S.chg⟩
      · have g24 : ¬ (x.kind = 1) := ne_of_beq_false h19
        refine wp_seq ?_
        refine wp_seq ?_
        refine RG.start ?_
        refine S.quiet (k := 2) (keep := [1, 4, 31]) (m := 1) (σ' := ⟨[(1, .p 0 0), (4, .v (I x.kind)), (31, .v (B (x.kind == 2)))], [GT.cells (α := TExit) x ()]⟩) .nil (by kernel_rfl) ?_
        clear S; intro ac w β S
        refine RG.done rfl (nx_then ?_)
        refine S.cond (e := (x.kind == 2)) (by kernel_rfl) (fun h25 => ?_) (fun h25 => ?_)
        · rw [h25] at S
          have g26 : x.kind = 2 := eq_of_beq h25
          refine wp_skip (nx_then ?_)
          refine S.cond (e := true) (by kernel_rfl) (fun _ => ?_) (fun hx => by cases hx)
          refine wp_seq ?_
          refine RG.start ?_
          refine S.quiet (k := 4) (keep := [1, 37]) (m := 1) (σ' := ⟨[(1, .p 0 0), (37, .v (B (f_within x.n 0 99)))], [GT.cells (α := TExit) x ()]⟩) (.cons (Q_call fun w hw => c_impl_within w x.n 0 99) .nil) (by kernel_rfl) ?_
          clear S; intro ac w β S
          rcases Bool.eq_false_or_eq_true (f_within x.n 0 99) with h27 | h27 <;> rw [h27] at S
          · have g28 := within_t h27
            refine S.quiet (k := 5) (keep := [1, 42]) (m := 1) (σ' := ⟨[(1, .p 0 0), (42, .v (B (x.page == 0)))], [GT.cells (α := TExit) x ()]⟩) .nil (by kernel_rfl) ?_
            clear S; intro ac w β S
            rcases Bool.eq_false_or_eq_true (x.page == 0) with h29 | h29 <;> rw [h29] at S
            · have g30 : x.page = 0 := eq_of_beq h29
              refine S.quiet (k := 5) (keep := [2]) (m := 0) (σ' := ⟨[(2, .v (B (!x.wr)))], []⟩) .nil (by kernel_rfl) ?_
              clear S; intro ac w β S
              refine RG.done rfl (nx_then ?_)
              refine wp_ret (rt_block (rt_then ?_))
              refine S.ret (vs := [B (!x.wr)]) (by kernel_rfl) ?_
              exact ⟨retB (show (!x.wr) = f_exitOk x by clear S; (unfold f_exitOk; (repeat' split) <;> first | rfl | (exfalso; simp_all; done) | (exfalso; omega) | (rw [Bool.eq_iff_iff]; simp [TExit.ext_iff, *]; done) | (rw [Bool.eq_iff_iff]; simp_all [TExit.ext_iff, and_assoc]; done) | (rw [Bool.eq_iff_iff]; simp_all [TExit.ext_iff, and_assoc]; omega))), S.chg⟩
            · have g31 : ¬ (x.page = 0) := ne_of_beq_false h29
              refine S.quiet (k := 5) (keep := [2]) (m := 0) (σ' := ⟨[(2, .v (B false))], []⟩) .nil (by kernel_rfl) ?_
              clear S; intro ac w β S
              refine RG.done rfl (nx_then ?_)
              refine wp_ret (rt_block (rt_then ?_))
              refine S.ret (vs := [B false]) (by kernel_rfl) ?_
              exact ⟨retB (show false = f_exitOk x by clear S; (unfold f_exitOk; (repeat' split) <;> first | rfl | (exfalso; simp_all; done) | (exfalso; omega) | (rw [Bool.eq_iff_iff]; simp [TExit.ext_iff, *]; done) | (rw [Bool.eq_iff_iff]; simp_all [TExit.ext_iff, and_assoc]; done) | (rw [Bool.eq_iff_iff]; simp_all [TExit.ext_iff, and_assoc]; omega))), S.chg⟩
          · have g32 := within_f h27
            refine S.quiet (k := 10) (keep := [2]) (m := 0) (σ' := ⟨[(2, .v (B false))], []⟩) .nil (by kernel_rfl) ?_
            clear S; intro ac w β S
            refine RG.done rfl (nx_then ?_)
            refine wp_ret (rt_block (rt_then ?_))
            refine S.ret (vs := [B false]) (by kernel_rfl) ?_
            exact ⟨retB (show false = f_exitOk x by clear S; (unfold f_exitOk; (repeat' split) <;> first | rfl | (exfalso; simp_all; done) | (exfalso; omega) | (rw [Bool.eq_iff_iff]; simp [TExit.ext_iff, *]; done) | (rw [Bool.eq_iff_iff]; simp_all [TExit.ext_iff, and_assoc]; done) | (rw [Bool.eq_iff_iff]; simp_all [TExit.ext_iff, and_assoc]; omega))), S.chg⟩
        · have g33 : ¬ (x.kind = 2) := ne_of_beq_false h25
          refine RG.start ?_
          refine S.quiet (k := 2) (keep := [1, 31]) (m := 1) (σ' := ⟨[(1, .p 0 0), (31, .v (B (x.kind == 3)))], [GT.cells (α := TExit) x ()]⟩) .nil (by kernel_rfl) ?_
          clear S; intro ac w β S
          refine RG.done rfl (nx_then ?_)
          refine S.cond (e := (x.kind == 3)) (by kernel_rfl) (fun h34 => ?_) (fun h34 => ?_)
          · have g35 : x.kind = 3 := eq_of_beq h34
            refine wp_seq ?_
            refine RG.start ?_
            refine S.quiet (k := 4) (keep := [1, 37]) (m := 1) (σ' := ⟨[(1, .p 0 0), (37, .v (B (f_within x.n 0 99)))], [GT.cells (α := TExit) x ()]⟩) (.cons (Q_call fun w hw => c_impl_within w x.n 0 99) .nil) (by kernel_rfl) ?_
            clear S; intro ac w β S
            rcases Bool.eq_false_or_eq_true (f_within x.n 0 99) with h36 | h36 <;> rw [h36] at S
            · have g37 := within_t h36
              refine S.quiet (k := 5) (keep := [1, 42]) (m := 1) (σ' := ⟨[(1, .p 0 0), (42, .v (B (x.page == 0)))], [GT.cells (α := TExit) x ()]⟩) .nil (by kernel_rfl) ?_
              clear S; intro ac w β S
              rcases Bool.eq_false_or_eq_true (x.page == 0) with h38 | h38 <;> rw [h38] at S
              · have g39 : x.page = 0 := eq_of_beq h38
                refine S.quiet (k := 5) (keep := [2]) (m := 0) (σ' := ⟨[(2, .v (B (!x.wr)))], []⟩) .nil (by kernel_rfl) ?_
                clear S; intro ac w β S
                refine RG.done rfl (nx_then ?_)
                refine wp_ret (rt_block (rt_then ?_))
                refine S.ret (vs := [B (!x.wr)]) (by kernel_rfl) ?_
                exact ⟨retB (show (!x.wr) = f_exitOk x by clear S; (unfold f_exitOk; (repeat' split) <;> first | rfl | (exfalso; simp_all; done) | (exfalso; omega) | (rw [Bool.eq_iff_iff]; simp [TExit.ext_iff, *]; done) | (rw [Bool.eq_iff_iff]; simp_all [TExit.ext_iff, and_assoc]; done) | (rw [Bool.eq_iff_iff]; simp_all [TExit.ext_iff, and_assoc]; omega))), S.chg⟩
              · have g40 : ¬ (x.page = 0) := ne_of_beq_false h38
                refine S.quiet (k := 5) (keep := [2]) (m := 0) (σ' := ⟨[(2, .v (B false))], []⟩) .nil (by kernel_rfl) ?_
                clear S; intro ac w β S
                refine RG.done rfl (nx_then ?_)
                refine wp_ret (rt_block (rt_then ?_))
                refine S.ret (vs := [B false]) (by kernel_rfl) ?_
                exact ⟨retB (show false = f_exitOk x by clear S; (unfold f_exitOk; (repeat' split) <;> first | rfl | (exfalso; simp_all; done) | (exfalso; omega) | (rw [Bool.eq_iff_iff]; simp [TExit.ext_iff, *]; done) | (rw [Bool.eq_iff_iff]; simp_all [TExit.ext_iff, and_assoc]; done) | (rw [Bool.eq_iff_iff]; simp_all [TExit.ext_iff, and_assoc]; omega))), S.chg⟩
            · have g41 := within_f h36
              refine S.quiet (k := 10) (keep := [2]) (m := 0) (σ' := ⟨[(2, .v (B false))], []⟩) .nil (by kernel_rfl) ?_
              clear S; intro ac w β S
              refine RG.done rfl (nx_then ?_)
              refine wp_ret (rt_block (rt_then ?_))
              refine S.ret (vs := [B false]) (by kernel_rfl) ?_
              exact ⟨retB (show false = f_exitOk x by clear S; (unfold f_exitOk; (repeat' split) <;> first | rfl | (exfalso; simp_all; done) | (exfalso; omega) | (rw [Bool.eq_iff_iff]; simp [TExit.ext_iff, *]; done) | (rw [Bool.eq_iff_iff]; simp_all [TExit.ext_iff, and_assoc]; done) | (rw [Bool.eq_iff_iff]; simp_all [TExit.ext_iff, and_assoc]; omega))), S.chg⟩
          · have g42 : ¬ (x.kind = 3) := ne_of_beq_false h34
            refine wp_skip (nx_block (nx_then ?_))
            refine wp_seq ?_
            refine RG.start ?_
            refine S.quiet (k := 1) (keep := [2]) (m := 0) (σ' := ⟨[(2, .v (B false))], []⟩) .nil (by kernel_rfl) ?_
            clear S; intro ac w β S
            refine RG.done rfl (nx_then ?_)
            refine wp_ret ?_
            refine S.ret (vs := [B false]) (by kernel_rfl) ?_
            exact ⟨retB (show false = f_exitOk x by clear S; (unfold f_exitOk; (repeat' split) <;> first | rfl | (exfalso; simp_all; done) | (exfalso; omega) | (rw [Bool.eq_iff_iff]; simp [TExit.ext_iff, *]; done) | (rw [Bool.eq_iff_iff]; simp_all [TExit.ext_iff, and_assoc]; done) | (rw [Bool.eq_iff_iff]; simp_all [TExit.ext_iff, and_assoc]; omega))), S.chg⟩

set_option maxRecDepth 100000 in
theorem c_impl_GuestOk (w0 : World) (g : TGuest) (pg : PGuest) (hg : GT.rd KK (Lt w0.heap.size) w0 g pg) : Calls Go.Proofs.Try.prog 64 [GT.val (α := TGuest) g pg].toArray w0 (fun e w' => e = .returned (B (f_guestOk g)) ∧ Chg NoB w0 w') := by
  refine Calls.walk (args := [GT.val (α := TGuest) g pg]) NoB Go.Proofs.Try.func64 rfl rfl ?_
  intro ac β S
  have hleg_prog : g.prog.length ≤ 4194304 := LRd.le (RGuest.prog (d := g) hg)
  have hleg_written : g.written.length ≤ 4194304 := LRd.le (RGuest.written (d := g) hg)
  have hleg_live : g.live.length ≤ 4194304 := LRd.le (RGuest.live (d := g) hg)
  have hleg_seen : g.seen.length ≤ 4194304 := LRd.le (RGuest.seen (d := g) hg)
  refine wp_seq ?_
  refine RG.start ?_
  refine S.quiet (k := 2) (keep := [1]) (m := 1) (σ' := ⟨[(1, .p 0 0)], [GT.cells (α := TGuest) g pg]⟩) .nil (by kernel_rfl) ?_
  clear S; intro ac w β S
  refine RG.done rfl (nx_then ?_)
  refine wp_seq ?_
  refine RG.start ?_
  refine S.quiet (k := 4) (keep := [1, 6]) (m := 1) (σ' := ⟨[(1, .p 0 0), (6, .v (B (f_progOk g.prog)))], [GT.cells (α := TGuest) g pg]⟩) (.cons (Q_call fun w hw => c_impl_ProgOk w g.prog pg.prog (rd_of (RGuest.prog (d := g) (S.arg hg)) hw)) .nil) (by kernel_rfl) ?_
  clear S; intro ac w β S
  rcases Bool.eq_false_or_eq_true (f_progOk g.prog) with h1 | h1 <;> rw [h1] at S
  · refine S.quiet (k := 5) (keep := [1, 11]) (m := 1) (σ' := ⟨[(1, .p 0 0), (11, .v (B (f_within g.acc 0 99)))], [GT.cells (α := TGuest) g pg]⟩) (.cons (Q_call fun w hw => c_impl_within w g.acc 0 99) .nil) (by kernel_rfl) ?_
    clear S; intro ac w β S
    rcases Bool.eq_false_or_eq_true (f_within g.acc 0 99) with h2 | h2 <;> rw [h2] at S
    · have g3 := within_t h2
      refine S.quiet (k := 5) (keep := [1, 16]) (m := 1) (σ' := ⟨[(1, .p 0 0), (16, .v (B (f_within g.pc 0 12)))], [GT.cells (α := TGuest) g pg]⟩) (.cons (Q_call fun w hw => c_impl_within w g.pc 0 12) .nil) (by kernel_rfl) ?_
      clear S; intro ac w β S
      rcases Bool.eq_false_or_eq_true (f_within g.pc 0 12) with h4 | h4 <;> rw [h4] at S
      · have g5 := within_t h4
        refine S.quiet (k := 5) (keep := [1, 21]) (m := 1) (σ' := ⟨[(1, .p 0 0), (21, .v (B (f_tableOk g.written 4 8)))], [GT.cells (α := TGuest) g pg]⟩) (.cons (Q_call fun w hw => c_impl_TableOk w g.written pg.written (rd_of (RGuest.written (d := g) (S.arg hg)) hw) 4 8 (by omega) (by omega)) .nil) (by kernel_rfl) ?_
        clear S; intro ac w β S
        rcases Bool.eq_false_or_eq_true (f_tableOk g.written 4 8) with h6 | h6 <;> rw [h6] at S
        · have g7 := tableOk_t h6
          refine S.quiet (k := 5) (keep := [1, 26]) (m := 1) (σ' := ⟨[(1, .p 0 0), (26, .v (B (f_tableOk g.live 4 8)))], [GT.cells (α := TGuest) g pg]⟩) (.cons (Q_call fun w hw => c_impl_TableOk w g.live pg.live (rd_of (RGuest.live (d := g) (S.arg hg)) hw) 4 8 (by omega) (by omega)) .nil) (by kernel_rfl) ?_
          clear S; intro ac w β S
          rcases Bool.eq_false_or_eq_true (f_tableOk g.live 4 8) with h8 | h8 <;> rw [h8] at S
          · have g9 := tableOk_t h8
            refine S.quiet (k := 5) (keep := [1, 31]) (m := 1) (σ' := ⟨[(1, .p 0 0), (31, .v (B (f_ctlOk g.ctl)))], [GT.cells (α := TGuest) g pg]⟩) (.cons (Q_call fun w hw => c_impl_CtlOk w g.ctl) .nil) (by kernel_rfl) ?_
            clear S; intro ac w β S
            rcases Bool.eq_false_or_eq_true (f_ctlOk g.ctl) with h10 | h10 <;> rw [h10] at S
            · refine S.quiet (k := 5) (keep := [1, 36]) (m := 1) (σ' := ⟨[(1, .p 0 0), (36, .v (B (f_within g.pend 0 255)))], [GT.cells (α := TGuest) g pg]⟩) (.cons (Q_call fun w hw => c_impl_PendOk w g.pend) .nil) (by kernel_rfl) ?_
              clear S; intro ac w β S
              rcases Bool.eq_false_or_eq_true (f_within g.pend 0 255) with h11 | h11 <;> rw [h11] at S
              · have g12 := within_t h11
                refine S.quiet (k := 5) (keep := [1, 41]) (m := 1) (σ' := ⟨[(1, .p 0 0), (41, .v (B (f_exitOk g.exit)))], [GT.cells (α := TGuest) g pg]⟩) (.cons (Q_call fun w hw => c_impl_ExitOk w g.exit) .nil) (by kernel_rfl) ?_
                clear S; intro ac w β S
                rcases Bool.eq_false_or_eq_true (f_exitOk g.exit) with h13 | h13 <;> rw [h13] at S
                · refine S.quiet (k := 6) (keep := [2]) (m := 0) (σ' := ⟨[(2, .v (B (decide (((g.seen).length : Int) ≤ 40))))], []⟩) .nil (by kernel_rfl) ?_
                  clear S; intro ac w β S
                  refine RG.done rfl (nx_then ?_)
                  refine wp_ret ?_
                  refine S.ret (vs := [B (decide (((g.seen).length : Int) ≤ 40))]) (by kernel_rfl) ?_
                  exact ⟨retB (show (decide (((g.seen).length : Int) ≤ 40)) = f_guestOk g by clear S; first | rfl | (simp [f_guestOk, *]; done) | (simp [f_guestOk, *]; omega) | (simp_all [f_guestOk]; done) | (simp_all [f_guestOk]; omega)), S.chg⟩
                · refine S.quiet (k := 6) (keep := [2]) (m := 0) (σ' := ⟨[(2, .v (B false))], []⟩) .nil (by kernel_rfl) ?_
                  clear S; intro ac w β S
                  refine RG.done rfl (nx_then ?_)
                  refine wp_ret ?_
                  refine S.ret (vs := [B false]) (by kernel_rfl) ?_
                  exact ⟨retB (show false = f_guestOk g by clear S; first | rfl | (simp [f_guestOk, *]; done) | (simp [f_guestOk, *]; omega) | (simp_all [f_guestOk]; done) | (simp_all [f_guestOk]; omega)), S.chg⟩
              · have g14 := within_f h11
                refine S.quiet (k := 11) (keep := [2]) (m := 0) (σ' := ⟨[(2, .v (B false))], []⟩) .nil (by kernel_rfl) ?_
                clear S; intro ac w β S
                refine RG.done rfl (nx_then ?_)
                refine wp_ret ?_
                refine S.ret (vs := [B false]) (by kernel_rfl) ?_
                exact ⟨retB (show false = f_guestOk g by clear S; first | rfl | (simp [f_guestOk, *]; done) | (simp [f_guestOk, *]; omega) | (simp_all [f_guestOk]; done) | (simp_all [f_guestOk]; omega)), S.chg⟩
            · refine S.quiet (k := 16) (keep := [2]) (m := 0) (σ' := ⟨[(2, .v (B false))], []⟩) .nil (by kernel_rfl) ?_
              clear S; intro ac w β S
              refine RG.done rfl (nx_then ?_)
              refine wp_ret ?_
              refine S.ret (vs := [B false]) (by kernel_rfl) ?_
              exact ⟨retB (show false = f_guestOk g by clear S; first | rfl | (simp [f_guestOk, *]; done) | (simp [f_guestOk, *]; omega) | (simp_all [f_guestOk]; done) | (simp_all [f_guestOk]; omega)), S.chg⟩
          · refine S.quiet (k := 21) (keep := [2]) (m := 0) (σ' := ⟨[(2, .v (B false))], []⟩) .nil (by kernel_rfl) ?_
            clear S; intro ac w β S
            refine RG.done rfl (nx_then ?_)
            refine wp_ret ?_
            refine S.ret (vs := [B false]) (by kernel_rfl) ?_
            exact ⟨retB (show false = f_guestOk g by clear S; first | rfl | (simp [f_guestOk, *]; done) | (simp [f_guestOk, *]; omega) | (simp_all [f_guestOk]; done) | (simp_all [f_guestOk]; omega)), S.chg⟩
        · refine S.quiet (k := 26) (keep := [2]) (m := 0) (σ' := ⟨[(2, .v (B false))], []⟩) .nil (by kernel_rfl) ?_
          clear S; intro ac w β S
          refine RG.done rfl (nx_then ?_)
          refine wp_ret ?_
          refine S.ret (vs := [B false]) (by kernel_rfl) ?_
          exact ⟨retB (show false = f_guestOk g by clear S; first | rfl | (simp [f_guestOk, *]; done) | (simp [f_guestOk, *]; omega) | (simp_all [f_guestOk]; done) | (simp_all [f_guestOk]; omega)), S.chg⟩
      · have g15 := within_f h4
        refine S.quiet (k := 31) (keep := [2]) (m := 0) (σ' := ⟨[(2, .v (B false))], []⟩) .nil (by kernel_rfl) ?_
        clear S; intro ac w β S
        refine RG.done rfl (nx_then ?_)
        refine wp_ret ?_
        refine S.ret (vs := [B false]) (by kernel_rfl) ?_
        exact ⟨retB (show false = f_guestOk g by clear S; first | rfl | (simp [f_guestOk, *]; done) | (simp [f_guestOk, *]; omega) | (simp_all [f_guestOk]; done) | (simp_all [f_guestOk]; omega)), S.chg⟩
    · have g16 := within_f h2
      refine S.quiet (k := 36) (keep := [2]) (m := 0) (σ' := ⟨[(2, .v (B false))], []⟩) .nil (by kernel_rfl) ?_
      clear S; intro ac w β S
      refine RG.done rfl (nx_then ?_)
      refine wp_ret ?_
      refine S.ret (vs := [B false]) (by kernel_rfl) ?_
      exact ⟨retB (show false = f_guestOk g by clear S; first | rfl | (simp [f_guestOk, *]; done) | (simp [f_guestOk, *]; omega) | (simp_all [f_guestOk]; done) | (simp_all [f_guestOk]; omega)), S.chg⟩
  · refine S.quiet (k := 41) (keep := [2]) (m := 0) (σ' := ⟨[(2, .v (B false))], []⟩) .nil (by kernel_rfl) ?_
    clear S; intro ac w β S
    refine RG.done rfl (nx_then ?_)
    refine wp_ret ?_
    refine S.ret (vs := [B false]) (by kernel_rfl) ?_
    exact ⟨retB (show false = f_guestOk g by clear S; first | rfl | (simp [f_guestOk, *]; done) | (simp [f_guestOk, *]; omega) | (simp_all [f_guestOk]; done) | (simp_all [f_guestOk]; omega)), S.chg⟩

set_option maxRecDepth 100000 in
theorem c_impl_PageOk (w0 : World) (cells : List Int) (pcells : LP Int) (hcells : GT.rd KK (Lt w0.heap.size) w0 cells pcells) : Calls Go.Proofs.Try.prog 66 [slv (cells).length pcells.1].toArray w0 (fun e w' => e = .returned (B (f_pageOk cells)) ∧ Chg NoB w0 w') := by
  refine Calls.walk (args := [slv (cells).length pcells.1]) NoB Go.Proofs.Try.func66 rfl rfl ?_
  intro ac β S
  have hlecells : cells.length ≤ 4194304 := LRd.le hcells
  refine wp_seq ?_
  refine RG.start ?_
  refine S.quiet (k := 1) (keep := [0]) (m := 0) (σ' := ⟨[(0, .v (slv (cells).length pcells.1))], []⟩) .nil (by kernel_rfl) ?_
  clear S; intro ac w β S
  refine RG.done rfl (nx_then ?_)
  refine wp_seq ?_
  refine wp_seq ?_
  refine RG.start ?_
  refine S.quiet (k := 3) (keep := [0, 5, 6, 7]) (m := 0) (σ' := ⟨[(0, .v (slv (cells).length pcells.1)), (5, .v (slv (cells).length pcells.1)), (6, .v (I ((cells).length : Int))), (7, .v (I 0))], []⟩) .nil (by kernel_rfl) ?_
  clear S; intro ac w β S
  refine RG.done rfl (nx_then ?_)
  refine wp_block ?_
  replace S := S.prune (keep := [0, 5, 6, 7]) (m := 0) (σ' := ⟨[(0, .v (slv (cells).length pcells.1)), (5, .v (slv (cells).length pcells.1)), (6, .v (I ((cells).length : Int))), (7, .v (I 0))], []⟩) (by kernel_rfl)
  refine wp_loop_down (fun mm ac w => ∃ (k : Nat)  (u : World) (N : Bl) (β : Nat → Nat), mm = (cells).length - k ∧ (k ≤ (cells).length) ∧ (((cells).take k).all (fun v => f_within v 0 99) = true) ∧ St Go.Proofs.Try.prog Go.Proofs.Try.f66.ntmps w0 NoB u N β ⟨[(0, .v (slv (cells).length pcells.1)), (5, .v (slv (cells).length pcells.1)), (6, .v (I ((cells).length : Int))), (7, .v (I (k : Int)))], []⟩ ac w) _ ⟨0, _, _, _, rfl, (by first | omega | (simp; done) | (simp; omega)), (by simp), S.cast (by kernel_rfl)⟩ ?_
  clear S
  rintro mm ac w ⟨k, u, N, β, rfl, hk, he, S⟩
  refine wp_seq ?_
  refine RG.start ?_
  refine S.quiet (k := 1) (keep := [0, 5, 6, 7, 8]) (m := 0) (σ' := ⟨[(0, .v (slv (cells).length pcells.1)), (5, .v (slv (cells).length pcells.1)), (6, .v (I ((cells).length : Int))), (7, .v (I (k : Int))), (8, .v (B (decide ((k : Int) < ((cells).length : Int)))))], []⟩) .nil (by kernel_rfl) ?_
  clear S; intro ac w β S
  refine RG.done rfl (nx_then ?_)
  refine wp_seq ?_
  refine S.cond (e := (decide ((k : Int) < ((cells).length : Int)))) (by kernel_rfl) (fun h1 => ?_) (fun h1 => ?_)
  · have g2 : (k : Int) < ((cells).length : Int) := of_decide_eq_true h1
    refine wp_skip (nx_then ?_)
    refine wp_seq ?_
    refine wp_block ?_
    refine wp_seq ?_
    refine RG.start ?_
    refine S.quiet (k := 3) (keep := [0, 4, 5, 6, 7]) (m := 0) (σ' := ⟨[(0, .v (slv (cells).length pcells.1)), (4, .v (I (el cells k))), (5, .v (slv (cells).length pcells.1)), (6, .v (I ((cells).length : Int))), (7, .v (I (k : Int)))], []⟩) (.cons (Q_idx (S.arg hcells) (l := (cells).length) (k := k) (i := (k : Int)) rfl rfl (by omega) Go.Proofs.Try.underlying42 (by kernel_rfl)) (.cons (Q_el1 (S.arg hcells) (t := 3) (k := k) (by omega) rfl (by kernel_rfl)) .nil)) (by kernel_rfl) ?_
    clear S; intro ac w β S
    refine RG.done rfl (nx_then ?_)
    refine wp_seq ?_
    refine RG.start ?_
    refine S.quiet (k := 3) (keep := [0, 5, 6, 7, 13]) (m := 0) (σ' := ⟨[(0, .v (slv (cells).length pcells.1)), (5, .v (slv (cells).length pcells.1)), (6, .v (I ((cells).length : Int))), (7, .v (I (k : Int))), (13, .v (B (!(f_within (el cells k) 0 99))))], []⟩) (.cons (Q_call fun w hw => c_impl_within w (el cells k) 0 99) .nil) (by kernel_rfl) ?_
    clear S; intro ac w β S
    refine RG.done rfl (nx_then ?_)
    refine S.cond (e := (!(f_within (el cells k) 0 99))) (by kernel_rfl) (fun h3 => ?_) (fun h3 => ?_)
    · have h4 : (f_within (el cells k) 0 99) = false := not_t h3
      have g5 := within_f h4
      refine wp_seq ?_
      refine RG.start ?_
      refine S.quiet (k := 1) (keep := [2]) (m := 0) (σ' := ⟨[(2, .v (B false))], []⟩) .nil (by kernel_rfl) ?_
      clear S; intro ac w β S
      refine RG.done rfl (nx_then ?_)
      refine wp_ret (rt_block (rt_then (rt_then (rt_block (rt_then ?_)))))
      refine S.ret (vs := [B false]) (by kernel_rfl) ?_
      exact ⟨retB (show false = f_pageOk cells by clear S; (first | rfl | (unfold f_pageOk; rw [all_end (by omega) he]; simp; done) | (unfold f_pageOk; rw [all_bad (k := k) (by omega) (by first | assumption | simp_all)]; simp; done) | (unfold f_pageOk; rw [all_end (by omega) he]; simp [*]; done) | (unfold f_pageOk; rw [all_end (by omega) he]; simp; omega))), S.chg⟩
    · have h6 : (f_within (el cells k) 0 99) = true := not_f h3
      have g7 := within_t h6
      refine wp_skip (nx_block (nx_then ?_))
      refine RG.start ?_
      refine S.quiet (k := 2) (keep := [0, 5, 6, 7]) (m := 0) (σ' := ⟨[(0, .v (slv (cells).length pcells.1)), (5, .v (slv (cells).length pcells.1)), (6, .v (I ((cells).length : Int))), (7, .v (I ((k : Int) + 1)))], []⟩) (.cons (Q_add (x := (k : Int)) (y := 1) ⟨by omega, by omega⟩) .nil) (by kernel_rfl) ?_
      clear S; intro ac w β S
      refine RG.done rfl (nx_then ?_)
      replace S := S.prune (keep := [0, 5, 6, 7]) (m := 0) (σ' := ⟨[(0, .v (slv (cells).length pcells.1)), (5, .v (slv (cells).length pcells.1)), (6, .v (I ((cells).length : Int))), (7, .v (I ((k : Int) + 1)))], []⟩) (by kernel_rfl)
      refine ⟨(cells).length - (k + 1), by omega, k + 1, _, _, _, rfl, ?_, ?_, S.cast (by kernel_rfl)⟩
      · clear S; first | omega | (simp [*]; done) | (simp [*]; omega)
      · clear S; exact all_step (by omega) he (by first | assumption | (simp only [f_slotOk, f_within] at *; simp_all; done) | (simp_all; done) | (simp_all; omega))
  · have g8 : ¬ ((k : Int) < ((cells).length : Int)) := of_decide_eq_false h1
    refine wp_exit (ex_then (ex_then (ex_hit (nx_then ?_))))
    refine wp_seq ?_
    refine RG.start ?_
    refine S.quiet (k := 4) (keep := [2]) (m := 0) (σ' := ⟨[(2, .v (B (((cells).length : Int) == 4)))], []⟩) .nil (by kernel_rfl) ?_
    clear S; intro ac w β S
    refine RG.done rfl (nx_then ?_)
    refine wp_ret ?_
    refine S.ret (vs := [B (((cells).length : Int) == 4)]) (by kernel_rfl) ?_
    exact ⟨retB (show (((cells).length : Int) == 4) = f_pageOk cells by clear S; (first | rfl | (unfold f_pageOk; rw [all_end (by omega) he]; simp; done) | (unfold f_pageOk; rw [all_bad (k := k) (by omega) (by first | assumption | simp_all)]; simp; done) | (unfold f_pageOk; rw [all_end (by omega) he]; simp [*]; done) | (unfold f_pageOk; rw [all_end (by omega) he]; simp; omega))), S.chg⟩

set_option maxRecDepth 100000 in
theorem c_impl_RightsOk (w0 : World) (r : Int) : Calls Go.Proofs.Try.prog 94 [I r].toArray w0 (fun e w' => e = .returned (B (f_within r 0 3)) ∧ Chg NoB w0 w') := by
  refine Calls.walk (args := [I r]) NoB Go.Proofs.Try.func94 rfl rfl ?_
  intro ac β S
  refine wp_seq ?_
  refine RG.start ?_
  refine S.quiet (k := 1) (keep := [0]) (m := 0) (σ' := ⟨[(0, .v (I r))], []⟩) .nil (by kernel_rfl) ?_
  clear S; intro ac w β S
  refine RG.done rfl (nx_then ?_)
  refine wp_seq ?_
  refine RG.start ?_
  refine S.quiet (k := 3) (keep := [2]) (m := 0) (σ' := ⟨[(2, .v (B (f_within r 0 3)))], []⟩) (.cons (Q_call fun w hw => c_impl_within w r 0 3) .nil) (by kernel_rfl) ?_
  clear S; intro ac w β S
  refine RG.done rfl (nx_then ?_)
  refine wp_ret ?_
  refine S.ret (vs := [B (f_within r 0 3)]) (by kernel_rfl) ?_
  exact ⟨retB (show (f_within r 0 3) = f_within r 0 3 by clear S; first | rfl | (simp [f_within, *]; done) | (simp [f_within, *]; omega) | (simp_all [f_within]; done) | (simp_all [f_within]; omega)), S.chg⟩

set_option maxRecDepth 100000 in
theorem c_impl_Enough (w0 : World) (rights : Int) (need : Int) : Calls Go.Proofs.Try.prog 67 [I rights, I need].toArray w0 (fun e w' => e = .returned (B (f_enough rights need)) ∧ Chg NoB w0 w') := by
  refine Calls.walk (args := [I rights, I need]) NoB Go.Proofs.Try.func67 rfl rfl ?_
  intro ac β S
  refine wp_seq ?_
  refine RG.start ?_
  refine S.quiet (k := 1) (keep := [0, 1]) (m := 0) (σ' := ⟨[(0, .v (I rights)), (1, .v (I need))], []⟩) .nil (by kernel_rfl) ?_
  clear S; intro ac w β S
  refine RG.done rfl (nx_then ?_)
  refine wp_seq ?_
  refine RG.start ?_
  refine S.quiet (k := 3) (keep := [0, 1, 7]) (m := 0) (σ' := ⟨[(0, .v (I rights)), (1, .v (I need)), (7, .v (B (f_within rights 0 3)))], []⟩) (.cons (Q_call fun w hw => c_impl_RightsOk w rights) .nil) (by kernel_rfl) ?_
  clear S; intro ac w β S
  rcases Bool.eq_false_or_eq_true (f_within rights 0 3) with h1 | h1 <;> rw [h1] at S
  · have g2 := within_t h1
    refine S.quiet (k := 4) (keep := [0, 1, 11]) (m := 0) (σ' := ⟨[(0, .v (I rights)), (1, .v (I need)), (11, .v (B (f_within need 0 3)))], []⟩) (.cons (Q_call fun w hw => c_impl_RightsOk w need) .nil) (by kernel_rfl) ?_
    clear S; intro ac w β S
    rcases Bool.eq_false_or_eq_true (f_within need 0 3) with h3 | h3 <;> rw [h3] at S
    · have g4 := within_t h3
      refine S.quiet (k := 7) (keep := [4]) (m := 0) (σ' := ⟨[(4, .v (B ((land64 rights need) == need)))], []⟩) (.cons (Q_land64 (x := rights) (y := need)) .nil) (by kernel_rfl) ?_
      clear S; intro ac w β S
      refine RG.done rfl (nx_then ?_)
      refine wp_ret ?_
      refine S.ret (vs := [B ((land64 rights need) == need)]) (by kernel_rfl) ?_
      exact ⟨retB (show ((land64 rights need) == need) = f_enough rights need by clear S; first | rfl | (simp [f_enough, *]; done) | (simp [f_enough, *]; omega) | (simp_all [f_enough]; done) | (simp_all [f_enough]; omega)), S.chg⟩
    · have g5 := within_f h3
      refine S.quiet (k := 7) (keep := [4]) (m := 0) (σ' := ⟨[(4, .v (B false))], []⟩) .nil (by kernel_rfl) ?_
      clear S; intro ac w β S
      refine RG.done rfl (nx_then ?_)
      refine wp_ret ?_
      refine S.ret (vs := [B false]) (by kernel_rfl) ?_
      exact ⟨retB (show false = f_enough rights need by clear S; first | rfl | (simp [f_enough, *]; done) | (simp [f_enough, *]; omega) | (simp_all [f_enough]; done) | (simp_all [f_enough]; omega)), S.chg⟩
  · have g6 := within_f h1
    refine S.quiet (k := 11) (keep := [4]) (m := 0) (σ' := ⟨[(4, .v (B false))], []⟩) .nil (by kernel_rfl) ?_
    clear S; intro ac w β S
    refine RG.done rfl (nx_then ?_)
    refine wp_ret ?_
    refine S.ret (vs := [B false]) (by kernel_rfl) ?_
    exact ⟨retB (show false = f_enough rights need by clear S; first | rfl | (simp [f_enough, *]; done) | (simp [f_enough, *]; omega) | (simp_all [f_enough]; done) | (simp_all [f_enough]; omega)), S.chg⟩

set_option maxRecDepth 100000 in
theorem c_impl_MonOk (w0 : World) (m : TMon) (pm : PMon) (hm : GT.rd KK (Lt w0.heap.size) w0 m pm) : Calls Go.Proofs.Try.prog 19 [GT.val (α := TMon) m pm].toArray w0 (fun e w' => e = .returned (B (f_monOk m)) ∧ Chg NoB w0 w') := by
  refine Calls.walk (args := [GT.val (α := TMon) m pm]) NoB Go.Proofs.Try.func19 rfl rfl ?_
  intro ac β S
  have hlem_outer : m.outer.length ≤ 4194304 := LRd.le (RMon.outer (d := m) hm)
  have hlem_out : m.out.length ≤ 4194304 := LRd.le (RMon.out (d := m) hm)
  have hlem_dirty : m.dirty.length ≤ 4194304 := LRd.le (RMon.dirty (d := m) hm)
  have hlem_guests : m.guests.length ≤ 4194304 := LRd.le (RMon.guests (d := m) hm)
  have hlem_outs : m.outs.length ≤ 4194304 := LRd.le (RMon.outs (d := m) hm)
  have hlem_tables : m.tables.length ≤ 4194304 := LRd.le (RMon.tables (d := m) hm)
  refine wp_seq ?_
  refine RG.start ?_
  refine S.quiet (k := 2) (keep := [1]) (m := 1) (σ' := ⟨[(1, .p 0 0)], [GT.cells (α := TMon) m pm]⟩) .nil (by kernel_rfl) ?_
  clear S; intro ac w β S
  refine RG.done rfl (nx_then ?_)
  refine wp_seq ?_
  refine wp_seq ?_
  refine RG.start ?_
  refine S.quiet (k := 6) (keep := [1, 12]) (m := 1) (σ' := ⟨[(1, .p 0 0), (12, .v (B (!(f_within ((m.guests).length : Int) 1 2))))], [GT.cells (α := TMon) m pm]⟩) (.cons (Q_call fun w hw => c_impl_within w ((m.guests).length : Int) 1 2) .nil) (by kernel_rfl) ?_
  clear S; intro ac w β S
  rcases Bool.eq_false_or_eq_true (!(f_within ((m.guests).length : Int) 1 2)) with h1 | h1 <;> rw [h1] at S
  · have h2 : (f_within ((m.guests).length : Int) 1 2) = false := not_t h1
    have g3 := within_f h2
    refine S.quiet (k := 50) (keep := [1, 62]) (m := 1) (σ' := ⟨[(1, .p 0 0), (62, .v (B true))], [GT.cells (α := TMon) m pm]⟩) .nil (by kernel_rfl) ?_
    clear S; intro ac w β S
    refine RG.done rfl (nx_then ?_)
    refine S.cond (e := true) (by kernel_rfl) (fun _ => ?_) (fun hx => by cases hx)
    refine wp_seq ?_
    refine RG.start ?_
    refine S.quiet (k := 1) (keep := [2]) (m := 0) (σ' := ⟨[(2, .v (B false))], []⟩) .nil (by kernel_rfl) ?_
    clear S; intro ac w β S
    refine RG.done rfl (nx_then ?_)
    refine wp_ret (rt_then ?_)
    refine S.ret (vs := [B false]) (by kernel_rfl) ?_
    exact ⟨retB (show false = f_monOk m by clear S; (first | rfl | (symm; rw [← Bool.not_eq_true]; intro hc; simp only [f_monOk, f_monHead, f_monTail, Bool.and_eq_true, decide_eq_true_eq, beq_iff_eq] at hc; first | omega | (simp_all; done) | (simp_all; omega) | (have hx := all_el (k := k) hc.1.2 (by omega); simp_all; done) | (have hx := rng_el (k := j) hc.2 (by omega); unfold f_pageSlot at hx; split at hx <;> first | (simp_all; done) | (simp_all; omega))) | (symm; simp only [f_monOk, f_monHead, f_monTail, Bool.and_eq_true, decide_eq_true_eq, beq_iff_eq]; (repeat' apply And.intro); all_goals first | assumption | omega | (simp_all; done) | (simp_all; omega) | (exact all_end (by omega) he) | ((have e8 : j = 8 := (by omega)); subst e8; exact hp)) | (rw [Bool.eq_iff_iff]; simp only [f_monOk, f_monHead, f_monTail, Bool.and_eq_true, decide_eq_true_eq, beq_iff_eq]; refine ⟨fun hr => ?_, fun hc => ?_⟩ <;> ((repeat' apply And.intro); all_goals first | assumption | omega | (simp_all; done) | (simp_all; omega) | (exact all_end (by omega) he) | ((have e8 : j = 8 := (by omega)); subst e8; exact hp))))), S.chg⟩
  · have h4 : (f_within ((m.guests).length : Int) 1 2) = true := not_f h1
    have g5 := within_t h4
    refine S.quiet (k := 9) (keep := [1, 21]) (m := 1) (σ' := ⟨[(1, .p 0 0), (21, .v (B (((m.tables).length : Int) != ((m.guests).length : Int))))], [GT.cells (α := TMon) m pm]⟩) .nil (by kernel_rfl) ?_
    clear S; intro ac w β S
    rcases Bool.eq_false_or_eq_true (((m.tables).length : Int) != ((m.guests).length : Int)) with h6 | h6 <;> rw [h6] at S
    · have g7 : ¬ (((m.tables).length : Int) = ((m.guests).length : Int)) := bne_iff_ne.1 h6
      refine S.quiet (k := 41) (keep := [1, 62]) (m := 1) (σ' := ⟨[(1, .p 0 0), (62, .v (B true))], [GT.cells (α := TMon) m pm]⟩) .nil (by kernel_rfl) ?_
      clear S; intro ac w β S
      refine RG.done rfl (nx_then ?_)
      refine S.cond (e := true) (by kernel_rfl) (fun _ => ?_) (fun hx => by cases hx)
      refine wp_seq ?_
      refine RG.start ?_
      refine S.quiet (k := 1) (keep := [2]) (m := 0) (σ' := ⟨[(2, .v (B false))], []⟩) .nil (by kernel_rfl) ?_
      clear S; intro ac w β S
      refine RG.done rfl (nx_then ?_)
      refine wp_ret (rt_then ?_)
      refine S.ret (vs := [B false]) (by kernel_rfl) ?_
      exact ⟨retB (show false = f_monOk m by clear S; (first | rfl | (symm; rw [← Bool.not_eq_true]; intro hc; simp only [f_monOk, f_monHead, f_monTail, Bool.and_eq_true, decide_eq_true_eq, beq_iff_eq] at hc; first | omega | (simp_all; done) | (simp_all; omega) | (have hx := all_el (k := k) hc.1.2 (by omega); simp_all; done) | (have hx := rng_el (k := j) hc.2 (by omega); unfold f_pageSlot at hx; split at hx <;> first | (simp_all; done) | (simp_all; omega))) | (symm; simp only [f_monOk, f_monHead, f_monTail, Bool.and_eq_true, decide_eq_true_eq, beq_iff_eq]; (repeat' apply And.intro); all_goals first | assumption | omega | (simp_all; done) | (simp_all; omega) | (exact all_end (by omega) he) | ((have e8 : j = 8 := (by omega)); subst e8; exact hp)) | (rw [Bool.eq_iff_iff]; simp only [f_monOk, f_monHead, f_monTail, Bool.and_eq_true, decide_eq_true_eq, beq_iff_eq]; refine ⟨fun hr => ?_, fun hc => ?_⟩ <;> ((repeat' apply And.intro); all_goals first | assumption | omega | (simp_all; done) | (simp_all; omega) | (exact all_end (by omega) he) | ((have e8 : j = 8 := (by omega)); subst e8; exact hp))))), S.chg⟩
    · have g8 : ((m.tables).length : Int) = ((m.guests).length : Int) := ne_f h6
      refine S.quiet (k := 6) (keep := [1, 27]) (m := 1) (σ' := ⟨[(1, .p 0 0), (27, .v (B (!(f_tableOk m.outer 8 12))))], [GT.cells (α := TMon) m pm]⟩) (.cons (Q_call fun w hw => c_impl_TableOk w m.outer pm.outer (rd_of (RMon.outer (d := m) (S.arg hm)) hw) 8 12 (by omega) (by omega)) .nil) (by kernel_rfl) ?_
      clear S; intro ac w β S
      rcases Bool.eq_false_or_eq_true (!(f_tableOk m.outer 8 12)) with h9 | h9 <;> rw [h9] at S
      · have h10 : (f_tableOk m.outer 8 12) = false := not_t h9
        refine S.quiet (k := 35) (keep := [1, 62]) (m := 1) (σ' := ⟨[(1, .p 0 0), (62, .v (B true))], [GT.cells (α := TMon) m pm]⟩) .nil (by kernel_rfl) ?_
        clear S; intro ac w β S
        refine RG.done rfl (nx_then ?_)
        refine S.cond (e := true) (by kernel_rfl) (fun _ => ?_) (fun hx => by cases hx)
        refine wp_seq ?_
        refine RG.start ?_
        refine S.quiet (k := 1) (keep := [2]) (m := 0) (σ' := ⟨[(2, .v (B false))], []⟩) .nil (by kernel_rfl) ?_
        clear S; intro ac w β S
        refine RG.done rfl (nx_then ?_)
        refine wp_ret (rt_then ?_)
        refine S.ret (vs := [B false]) (by kernel_rfl) ?_
        exact ⟨retB (show false = f_monOk m by clear S; (first | rfl | (symm; rw [← Bool.not_eq_true]; intro hc; simp only [f_monOk, f_monHead, f_monTail, Bool.and_eq_true, decide_eq_true_eq, beq_iff_eq] at hc; first | omega | (simp_all; done) | (simp_all; omega) | (have hx := all_el (k := k) hc.1.2 (by omega); simp_all; done) | (have hx := rng_el (k := j) hc.2 (by omega); unfold f_pageSlot at hx; split at hx <;> first | (simp_all; done) | (simp_all; omega))) | (symm; simp only [f_monOk, f_monHead, f_monTail, Bool.and_eq_true, decide_eq_true_eq, beq_iff_eq]; (repeat' apply And.intro); all_goals first | assumption | omega | (simp_all; done) | (simp_all; omega) | (exact all_end (by omega) he) | ((have e8 : j = 8 := (by omega)); subst e8; exact hp)) | (rw [Bool.eq_iff_iff]; simp only [f_monOk, f_monHead, f_monTail, Bool.and_eq_true, decide_eq_true_eq, beq_iff_eq]; refine ⟨fun hr => ?_, fun hc => ?_⟩ <;> ((repeat' apply And.intro); all_goals first | assumption | omega | (simp_all; done) | (simp_all; omega) | (exact all_end (by omega) he) | ((have e8 : j = 8 := (by omega)); subst e8; exact hp))))), S.chg⟩
      · have h11 : (f_tableOk m.outer 8 12) = true := not_f h9
        have g12 := tableOk_t h11
        refine S.quiet (k := 6) (keep := [1, 33]) (m := 1) (σ' := ⟨[(1, .p 0 0), (33, .v (B (((m.out).length : Int) != 8)))], [GT.cells (α := TMon) m pm]⟩) .nil (by kernel_rfl) ?_
        clear S; intro ac w β S
        rcases Bool.eq_false_or_eq_true (((m.out).length : Int) != 8) with h13 | h13 <;> rw [h13] at S
        · have g14 : ¬ (((m.out).length : Int) = 8) := bne_iff_ne.1 h13
          refine S.quiet (k := 29) (keep := [1, 62]) (m := 1) (σ' := ⟨[(1, .p 0 0), (62, .v (B true))], [GT.cells (α := TMon) m pm]⟩) .nil (by kernel_rfl) ?_
          clear S; intro ac w β S
          refine RG.done rfl (nx_then ?_)
          refine S.cond (e := true) (by kernel_rfl) (fun _ => ?_) (fun hx => by cases hx)
          refine wp_seq ?_
          refine RG.start ?_
          refine S.quiet (k := 1) (keep := [2]) (m := 0) (σ' := ⟨[(2, .v (B false))], []⟩) .nil (by kernel_rfl) ?_
          clear S; intro ac w β S
          refine RG.done rfl (nx_then ?_)
          refine wp_ret (rt_then ?_)
          refine S.ret (vs := [B false]) (by kernel_rfl) ?_
          exact ⟨retB (show false = f_monOk m by clear S; (first | rfl | (symm; rw [← Bool.not_eq_true]; intro hc; simp only [f_monOk, f_monHead, f_monTail, Bool.and_eq_true, decide_eq_true_eq, beq_iff_eq] at hc; first | omega | (simp_all; done) | (simp_all; omega) | (have hx := all_el (k := k) hc.1.2 (by omega); simp_all; done) | (have hx := rng_el (k := j) hc.2 (by omega); unfold f_pageSlot at hx; split at hx <;> first | (simp_all; done) | (simp_all; omega))) | (symm; simp only [f_monOk, f_monHead, f_monTail, Bool.and_eq_true, decide_eq_true_eq, beq_iff_eq]; (repeat' apply And.intro); all_goals first | assumption | omega | (simp_all; done) | (simp_all; omega) | (exact all_end (by omega) he) | ((have e8 : j = 8 := (by omega)); subst e8; exact hp)) | (rw [Bool.eq_iff_iff]; simp only [f_monOk, f_monHead, f_monTail, Bool.and_eq_true, decide_eq_true_eq, beq_iff_eq]; refine ⟨fun hr => ?_, fun hc => ?_⟩ <;> ((repeat' apply And.intro); all_goals first | assumption | omega | (simp_all; done) | (simp_all; omega) | (exact all_end (by omega) he) | ((have e8 : j = 8 := (by omega)); subst e8; exact hp))))), S.chg⟩
        · have g15 : ((m.out).length : Int) = 8 := ne_f h13
          refine S.quiet (k := 6) (keep := [1, 39]) (m := 1) (σ' := ⟨[(1, .p 0 0), (39, .v (B (((m.dirty).length : Int) != 8)))], [GT.cells (α := TMon) m pm]⟩) .nil (by kernel_rfl) ?_
          clear S; intro ac w β S
          rcases Bool.eq_false_or_eq_true (((m.dirty).length : Int) != 8) with h16 | h16 <;> rw [h16] at S
          · have g17 : ¬ (((m.dirty).length : Int) = 8) := bne_iff_ne.1 h16
            refine S.quiet (k := 23) (keep := [1, 62]) (m := 1) (σ' := ⟨[(1, .p 0 0), (62, .v (B true))], [GT.cells (α := TMon) m pm]⟩) .nil (by kernel_rfl) ?_
            clear S; intro ac w β S
            refine RG.done rfl (nx_then ?_)
            refine S.cond (e := true) (by kernel_rfl) (fun _ => ?_) (fun hx => by cases hx)
            refine wp_seq ?_
            refine RG.start ?_
            refine S.quiet (k := 1) (keep := [2]) (m := 0) (σ' := ⟨[(2, .v (B false))], []⟩) .nil (by kernel_rfl) ?_
            clear S; intro ac w β S
            refine RG.done rfl (nx_then ?_)
            refine wp_ret (rt_then ?_)
            refine S.ret (vs := [B false]) (by kernel_rfl) ?_
            exact ⟨retB (show false = f_monOk m by clear S; (first | rfl | (symm; rw [← Bool.not_eq_true]; intro hc; simp only [f_monOk, f_monHead, f_monTail, Bool.and_eq_true, decide_eq_true_eq, beq_iff_eq] at hc; first | omega | (simp_all; done) | (simp_all; omega) | (have hx := all_el (k := k) hc.1.2 (by omega); simp_all; done) | (have hx := rng_el (k := j) hc.2 (by omega); unfold f_pageSlot at hx; split at hx <;> first | (simp_all; done) | (simp_all; omega))) | (symm; simp only [f_monOk, f_monHead, f_monTail, Bool.and_eq_true, decide_eq_true_eq, beq_iff_eq]; (repeat' apply And.intro); all_goals first | assumption | omega | (simp_all; done) | (simp_all; omega) | (exact all_end (by omega) he) | ((have e8 : j = 8 := (by omega)); subst e8; exact hp)) | (rw [Bool.eq_iff_iff]; simp only [f_monOk, f_monHead, f_monTail, Bool.and_eq_true, decide_eq_true_eq, beq_iff_eq]; refine ⟨fun hr => ?_, fun hc => ?_⟩ <;> ((repeat' apply And.intro); all_goals first | assumption | omega | (simp_all; done) | (simp_all; omega) | (exact all_end (by omega) he) | ((have e8 : j = 8 := (by omega)); subst e8; exact hp))))), S.chg⟩
          · have g18 : ((m.dirty).length : Int) = 8 := ne_f h16
            refine S.quiet (k := 6) (keep := [1, 45]) (m := 1) (σ' := ⟨[(1, .p 0 0), (45, .v (B (decide (((m.outs).length : Int) > 40))))], [GT.cells (α := TMon) m pm]⟩) .nil (by kernel_rfl) ?_
            clear S; intro ac w β S
            rcases Bool.eq_false_or_eq_true (decide (((m.outs).length : Int) > 40)) with h19 | h19 <;> rw [h19] at S
            · have g20 : ((m.outs).length : Int) > 40 := of_decide_eq_true h19
              refine S.quiet (k := 17) (keep := [1, 62]) (m := 1) (σ' := ⟨[(1, .p 0 0), (62, .v (B true))], [GT.cells (α := TMon) m pm]⟩) .nil (by kernel_rfl) ?_
              clear S; intro ac w β S
              refine RG.done rfl (nx_then ?_)
              refine S.cond (e := true) (by kernel_rfl) (fun _ => ?_) (fun hx => by cases hx)
              refine wp_seq ?_
              refine RG.start ?_
              refine S.quiet (k := 1) (keep := [2]) (m := 0) (σ' := ⟨[(2, .v (B false))], []⟩) .nil (by kernel_rfl) ?_
              clear S; intro ac w β S
              refine RG.done rfl (nx_then ?_)
              refine wp_ret (rt_then ?_)
              refine S.ret (vs := [B false]) (by kernel_rfl) ?_
              exact ⟨retB (show false = f_monOk m by clear S; (first | rfl | (symm; rw [← Bool.not_eq_true]; intro hc; simp only [f_monOk, f_monHead, f_monTail, Bool.and_eq_true, decide_eq_true_eq, beq_iff_eq] at hc; first | omega | (simp_all; done) | (simp_all; omega) | (have hx := all_el (k := k) hc.1.2 (by omega); simp_all; done) | (have hx := rng_el (k := j) hc.2 (by omega); unfold f_pageSlot at hx; split at hx <;> first | (simp_all; done) | (simp_all; omega))) | (symm; simp only [f_monOk, f_monHead, f_monTail, Bool.and_eq_true, decide_eq_true_eq, beq_iff_eq]; (repeat' apply And.intro); all_goals first | assumption | omega | (simp_all; done) | (simp_all; omega) | (exact all_end (by omega) he) | ((have e8 : j = 8 := (by omega)); subst e8; exact hp)) | (rw [Bool.eq_iff_iff]; simp only [f_monOk, f_monHead, f_monTail, Bool.and_eq_true, decide_eq_true_eq, beq_iff_eq]; refine ⟨fun hr => ?_, fun hc => ?_⟩ <;> ((repeat' apply And.intro); all_goals first | assumption | omega | (simp_all; done) | (simp_all; omega) | (exact all_end (by omega) he) | ((have e8 : j = 8 := (by omega)); subst e8; exact hp))))), S.chg⟩
            · have g21 : ¬ (((m.outs).length : Int) > 40) := of_decide_eq_false h19
              refine S.quiet (k := 6) (keep := [1, 51]) (m := 1) (σ' := ⟨[(1, .p 0 0), (51, .v (B (!(f_within m.pend 0 255))))], [GT.cells (α := TMon) m pm]⟩) (.cons (Q_call fun w hw => c_impl_PendOk w m.pend) .nil) (by kernel_rfl) ?_
              clear S; intro ac w β S
              rcases Bool.eq_false_or_eq_true (!(f_within m.pend 0 255)) with h22 | h22 <;> rw [h22] at S
              · have h23 : (f_within m.pend 0 255) = false := not_t h22
                have g24 := within_f h23
                refine S.quiet (k := 11) (keep := [1, 62]) (m := 1) (σ' := ⟨[(1, .p 0 0), (62, .v (B true))], [GT.cells (α := TMon) m pm]⟩) .nil (by kernel_rfl) ?_
                clear S; intro ac w β S
                refine RG.done rfl (nx_then ?_)
                refine S.cond (e := true) (by kernel_rfl) (fun _ => ?_) (fun hx => by cases hx)
                refine wp_seq ?_
                refine RG.start ?_
                refine S.quiet (k := 1) (keep := [2]) (m := 0) (σ' := ⟨[(2, .v (B false))], []⟩) .nil (by kernel_rfl) ?_
                clear S; intro ac w β S
                refine RG.done rfl (nx_then ?_)
                refine wp_ret (rt_then ?_)
                refine S.ret (vs := [B false]) (by kernel_rfl) ?_
                exact ⟨retB (show false = f_monOk m by clear S; (first | rfl | (symm; rw [← Bool.not_eq_true]; intro hc; simp only [f_monOk, f_monHead, f_monTail, Bool.and_eq_true, decide_eq_true_eq, beq_iff_eq] at hc; first | omega | (simp_all; done) | (simp_all; omega) | (have hx := all_el (k := k) hc.1.2 (by omega); simp_all; done) | (have hx := rng_el (k := j) hc.2 (by omega); unfold f_pageSlot at hx; split at hx <;> first | (simp_all; done) | (simp_all; omega))) | (symm; simp only [f_monOk, f_monHead, f_monTail, Bool.and_eq_true, decide_eq_true_eq, beq_iff_eq]; (repeat' apply And.intro); all_goals first | assumption | omega | (simp_all; done) | (simp_all; omega) | (exact all_end (by omega) he) | ((have e8 : j = 8 := (by omega)); subst e8; exact hp)) | (rw [Bool.eq_iff_iff]; simp only [f_monOk, f_monHead, f_monTail, Bool.and_eq_true, decide_eq_true_eq, beq_iff_eq]; refine ⟨fun hr => ?_, fun hc => ?_⟩ <;> ((repeat' apply And.intro); all_goals first | assumption | omega | (simp_all; done) | (simp_all; omega) | (exact all_end (by omega) he) | ((have e8 : j = 8 := (by omega)); subst e8; exact hp))))), S.chg⟩
              · have h25 : (f_within m.pend 0 255) = true := not_f h22
                have g26 := within_t h25
                refine S.quiet (k := 6) (keep := [1, 57]) (m := 1) (σ' := ⟨[(1, .p 0 0), (57, .v (B (!(f_within m.traps 0 3))))], [GT.cells (α := TMon) m pm]⟩) (.cons (Q_call fun w hw => c_impl_within w m.traps 0 3) .nil) (by kernel_rfl) ?_
                clear S; intro ac w β S
                rcases Bool.eq_false_or_eq_true (!(f_within m.traps 0 3)) with h27 | h27 <;> rw [h27] at S
                · have h28 : (f_within m.traps 0 3) = false := not_t h27
                  have g29 := within_f h28
                  refine S.quiet (k := 5) (keep := [1, 62]) (m := 1) (σ' := ⟨[(1, .p 0 0), (62, .v (B true))], [GT.cells (α := TMon) m pm]⟩) .nil (by kernel_rfl) ?_
                  clear S; intro ac w β S
                  refine RG.done rfl (nx_then ?_)
                  refine S.cond (e := true) (by kernel_rfl) (fun _ => ?_) (fun hx => by cases hx)
                  refine wp_seq ?_
                  refine RG.start ?_
                  refine S.quiet (k := 1) (keep := [2]) (m := 0) (σ' := ⟨[(2, .v (B false))], []⟩) .nil (by kernel_rfl) ?_
                  clear S; intro ac w β S
                  refine RG.done rfl (nx_then ?_)
                  refine wp_ret (rt_then ?_)
                  refine S.ret (vs := [B false]) (by kernel_rfl) ?_
                  exact ⟨retB (show false = f_monOk m by clear S; (first | rfl | (symm; rw [← Bool.not_eq_true]; intro hc; simp only [f_monOk, f_monHead, f_monTail, Bool.and_eq_true, decide_eq_true_eq, beq_iff_eq] at hc; first | omega | (simp_all; done) | (simp_all; omega) | (have hx := all_el (k := k) hc.1.2 (by omega); simp_all; done) | (have hx := rng_el (k := j) hc.2 (by omega); unfold f_pageSlot at hx; split at hx <;> first | (simp_all; done) | (simp_all; omega))) | (symm; simp only [f_monOk, f_monHead, f_monTail, Bool.and_eq_true, decide_eq_true_eq, beq_iff_eq]; (repeat' apply And.intro); all_goals first | assumption | omega | (simp_all; done) | (simp_all; omega) | (exact all_end (by omega) he) | ((have e8 : j = 8 := (by omega)); subst e8; exact hp)) | (rw [Bool.eq_iff_iff]; simp only [f_monOk, f_monHead, f_monTail, Bool.and_eq_true, decide_eq_true_eq, beq_iff_eq]; refine ⟨fun hr => ?_, fun hc => ?_⟩ <;> ((repeat' apply And.intro); all_goals first | assumption | omega | (simp_all; done) | (simp_all; omega) | (exact all_end (by omega) he) | ((have e8 : j = 8 := (by omega)); subst e8; exact hp))))), S.chg⟩
                · have h30 : (f_within m.traps 0 3) = true := not_f h27
                  have g31 := within_t h30
                  refine S.quiet (k := 5) (keep := [1, 62]) (m := 1) (σ' := ⟨[(1, .p 0 0), (62, .v (B (!(f_within m.owned 0 1000000000))))], [GT.cells (α := TMon) m pm]⟩) (.cons (Q_call fun w hw => c_impl_within w m.owned 0 1000000000) .nil) (by kernel_rfl) ?_
                  clear S; intro ac w β S
                  refine RG.done rfl (nx_then ?_)
                  refine S.cond (e := (!(f_within m.owned 0 1000000000))) (by kernel_rfl) (fun h32 => ?_) (fun h32 => ?_)
                  · have h33 : (f_within m.owned 0 1000000000) = false := not_t h32
                    have g34 := within_f h33
                    refine wp_seq ?_
                    refine RG.start ?_
                    refine S.quiet (k := 1) (keep := [2]) (m := 0) (σ' := ⟨[(2, .v (B false))], []⟩) .nil (by kernel_rfl) ?_
                    clear S; intro ac w β S
                    refine RG.done rfl (nx_then ?_)
                    refine wp_ret (rt_then ?_)
                    refine S.ret (vs := [B false]) (by kernel_rfl) ?_
                    exact ⟨retB (show false = f_monOk m by clear S; (first | rfl | (symm; rw [← Bool.not_eq_true]; intro hc; simp only [f_monOk, f_monHead, f_monTail, Bool.and_eq_true, decide_eq_true_eq, beq_iff_eq] at hc; first | omega | (simp_all; done) | (simp_all; omega) | (have hx := all_el (k := k) hc.1.2 (by omega); simp_all; done) | (have hx := rng_el (k := j) hc.2 (by omega); unfold f_pageSlot at hx; split at hx <;> first | (simp_all; done) | (simp_all; omega))) | (symm; simp only [f_monOk, f_monHead, f_monTail, Bool.and_eq_true, decide_eq_true_eq, beq_iff_eq]; (repeat' apply And.intro); all_goals first | assumption | omega | (simp_all; done) | (simp_all; omega) | (exact all_end (by omega) he) | ((have e8 : j = 8 := (by omega)); subst e8; exact hp)) | (rw [Bool.eq_iff_iff]; simp only [f_monOk, f_monHead, f_monTail, Bool.and_eq_true, decide_eq_true_eq, beq_iff_eq]; refine ⟨fun hr => ?_, fun hc => ?_⟩ <;> ((repeat' apply And.intro); all_goals first | assumption | omega | (simp_all; done) | (simp_all; omega) | (exact all_end (by omega) he) | ((have e8 : j = 8 := (by omega)); subst e8; exact hp))))), S.chg⟩
                  · have h35 : (f_within m.owned 0 1000000000) = true := not_f h32
                    have g36 := within_t h35
                    refine wp_skip (nx_then ?_)
                    refine wp_seq ?_
                    refine wp_seq ?_
                    refine RG.start ?_
                    refine S.quiet (k := 4) (keep := [1, 64, 65, 66]) (m := 1) (σ' := ⟨[(1, .p 0 0), (64, .v (slv (m.guests).length pm.guests.1)), (65, .v (I ((m.guests).length : Int))), (66, .v (I 0))], [GT.cells (α := TMon) m pm]⟩) .nil (by kernel_rfl) ?_
                    clear S; intro ac w β S
                    refine RG.done rfl (nx_then ?_)
                    refine wp_block ?_
                    replace S := S.prune (keep := [1, 64, 65, 66]) (m := 1) (σ' := ⟨[(1, .p 0 0), (64, .v (slv (m.guests).length pm.guests.1)), (65, .v (I ((m.guests).length : Int))), (66, .v (I 0))], [GT.cells (α := TMon) m pm]⟩) (by kernel_rfl)
                    refine wp_loop_down (fun mm ac w => ∃ (k : Nat)  (u : World) (N : Bl) (β : Nat → Nat), mm = (m.guests).length - k ∧ (k ≤ (m.guests).length) ∧ (((m.guests).take k).all f_guestOk = true) ∧ St Go.Proofs.Try.prog Go.Proofs.Try.f19.ntmps w0 NoB u N β ⟨[(1, .p 0 0), (64, .v (slv (m.guests).length pm.guests.1)), (65, .v (I ((m.guests).length : Int))), (66, .v (I (k : Int)))], [GT.cells (α := TMon) m pm]⟩ ac w) _ ⟨0, _, _, _, rfl, (by first | omega | (simp; done) | (simp; omega)), (by simp), S.cast (by kernel_rfl)⟩ ?_
                    clear S
                    rintro mm ac w ⟨k, u, N, β, rfl, hk, he, S⟩
                    refine wp_seq ?_
                    refine RG.start ?_
                    refine S.quiet (k := 1) (keep := [1, 64, 65, 66, 67]) (m := 1) (σ' := ⟨[(1, .p 0 0), (64, .v (slv (m.guests).length pm.guests.1)), (65, .v (I ((m.guests).length : Int))), (66, .v (I (k : Int))), (67, .v (B (decide ((k : Int) < ((m.guests).length : Int)))))], [GT.cells (α := TMon) m pm]⟩) .nil (by kernel_rfl) ?_
                    clear S; intro ac w β S
                    refine RG.done rfl (nx_then ?_)
                    refine wp_seq ?_
                    refine S.cond (e := (decide ((k : Int) < ((m.guests).length : Int)))) (by kernel_rfl) (fun h37 => ?_) (fun h37 => ?_)
                    · have g38 : (k : Int) < ((m.guests).length : Int) := of_decide_eq_true h37
                      refine wp_skip (nx_then ?_)
                      refine wp_seq ?_
                      refine wp_block ?_
                      refine wp_seq ?_
                      refine RG.start ?_
                      refine S.quiet (k := 4) (keep := [1, 4, 64, 65, 66]) (m := 2) (σ' := ⟨[(1, .p 0 0), (4, .p 1 0), (64, .v (slv (m.guests).length pm.guests.1)), (65, .v (I ((m.guests).length : Int))), (66, .v (I (k : Int)))], [GT.cells (α := TMon) m pm, GT.cells (α := TGuest) (el m.guests k) (pm.guests.2 k)]⟩) (.cons (Q_idx (RMon.guests (d := m) (S.arg hm)) (l := (m.guests).length) (k := k) (i := (k : Int)) rfl rfl (by omega) Go.Proofs.Try.underlying49 (by kernel_rfl)) (.cons (Q_el (RMon.guests (d := m) (S.arg hm)) (t := 88) (k := k) (by omega) rfl (by kernel_rfl) (by kernel_rfl)) .nil)) (by kernel_rfl) ?_
                      clear S; intro ac w β S
                      refine RG.done rfl (nx_then ?_)
                      refine wp_seq ?_
                      refine RG.start ?_
                      refine S.quiet (k := 3) (keep := [1, 64, 65, 66, 72]) (m := 1) (σ' := ⟨[(1, .p 0 0), (64, .v (slv (m.guests).length pm.guests.1)), (65, .v (I ((m.guests).length : Int))), (66, .v (I (k : Int))), (72, .v (B (!(f_guestOk (el m.guests k)))))], [GT.cells (α := TMon) m pm]⟩) (.cons (Q_call fun w hw => c_impl_GuestOk w (el m.guests k) (pm.guests.2 k) (rd_of (LRd.el (RMon.guests (d := m) (S.arg hm)) k (by omega)) hw)) .nil) (by kernel_rfl) ?_
                      clear S; intro ac w β S
                      refine RG.done rfl (nx_then ?_)
                      refine S.cond (e := (!(f_guestOk (el m.guests k)))) (by kernel_rfl) (fun h39 => ?_) (fun h39 => ?_)
                      · have h40 : (f_guestOk (el m.guests k)) = false := not_t h39
                        refine wp_seq ?_
                        refine RG.start ?_
                        refine S.quiet (k := 1) (keep := [2]) (m := 0) (σ' := ⟨[(2, .v (B false))], []⟩) .nil (by kernel_rfl) ?_
                        clear S; intro ac w β S
                        refine RG.done rfl (nx_then ?_)
                        refine wp_ret (rt_block (rt_then (rt_then (rt_block (rt_then ?_)))))
                        refine S.ret (vs := [B false]) (by kernel_rfl) ?_
                        exact ⟨retB (show false = f_monOk m by clear S; (first | rfl | (symm; rw [← Bool.not_eq_true]; intro hc; simp only [f_monOk, f_monHead, f_monTail, Bool.and_eq_true, decide_eq_true_eq, beq_iff_eq] at hc; first | omega | (simp_all; done) | (simp_all; omega) | (have hx := all_el (k := k) hc.1.2 (by omega); simp_all; done) | (have hx := rng_el (k := j) hc.2 (by omega); unfold f_pageSlot at hx; split at hx <;> first | (simp_all; done) | (simp_all; omega))) | (symm; simp only [f_monOk, f_monHead, f_monTail, Bool.and_eq_true, decide_eq_true_eq, beq_iff_eq]; (repeat' apply And.intro); all_goals first | assumption | omega | (simp_all; done) | (simp_all; omega) | (exact all_end (by omega) he) | ((have e8 : j = 8 := (by omega)); subst e8; exact hp)) | (rw [Bool.eq_iff_iff]; simp only [f_monOk, f_monHead, f_monTail, Bool.and_eq_true, decide_eq_true_eq, beq_iff_eq]; refine ⟨fun hr => ?_, fun hc => ?_⟩ <;> ((repeat' apply And.intro); all_goals first | assumption | omega | (simp_all; done) | (simp_all; omega) | (exact all_end (by omega) he) | ((have e8 : j = 8 := (by omega)); subst e8; exact hp))))), S.chg⟩
                      · have h41 : (f_guestOk (el m.guests k)) = true := not_f h39
                        refine wp_skip (nx_block (nx_then ?_))
                        refine RG.start ?_
                        refine S.quiet (k := 2) (keep := [1, 64, 65, 66]) (m := 1) (σ' := ⟨[(1, .p 0 0), (64, .v (slv (m.guests).length pm.guests.1)), (65, .v (I ((m.guests).length : Int))), (66, .v (I ((k : Int) + 1)))], [GT.cells (α := TMon) m pm]⟩) (.cons (Q_add (x := (k : Int)) (y := 1) ⟨by omega, by omega⟩) .nil) (by kernel_rfl) ?_
                        clear S; intro ac w β S
                        refine RG.done rfl (nx_then ?_)
                        replace S := S.prune (keep := [1, 64, 65, 66]) (m := 1) (σ' := ⟨[(1, .p 0 0), (64, .v (slv (m.guests).length pm.guests.1)), (65, .v (I ((m.guests).length : Int))), (66, .v (I ((k : Int) + 1)))], [GT.cells (α := TMon) m pm]⟩) (by kernel_rfl)
                        refine ⟨(m.guests).length - (k + 1), by omega, k + 1, _, _, _, rfl, ?_, ?_, S.cast (by kernel_rfl)⟩
                        · clear S; first | omega | (simp [*]; done) | (simp [*]; omega)
                        · clear S; exact all_step (by omega) he (by first | assumption | (simp only [f_slotOk, f_within] at *; simp_all; done) | (simp_all; done) | (simp_all; omega))
                    · have g42 : ¬ ((k : Int) < ((m.guests).length : Int)) := of_decide_eq_false h37
                      refine wp_exit (ex_then (ex_then (ex_hit (nx_then ?_))))
                      refine wp_seq ?_
                      refine wp_seq ?_
                      refine RG.start ?_
                      refine S.quiet (k := 4) (keep := [1, 75, 76, 77]) (m := 1) (σ' := ⟨[(1, .p 0 0), (75, .v (slv (m.outer).length pm.outer.1)), (76, .v (I ((m.outer).length : Int))), (77, .v (I 0))], [GT.cells (α := TMon) m pm]⟩) .nil (by kernel_rfl) ?_
                      clear S; intro ac w β S
                      refine RG.done rfl (nx_then ?_)
                      refine wp_block ?_
                      replace S := S.prune (keep := [1, 75, 76, 77]) (m := 1) (σ' := ⟨[(1, .p 0 0), (75, .v (slv (m.outer).length pm.outer.1)), (76, .v (I ((m.outer).length : Int))), (77, .v (I 0))], [GT.cells (α := TMon) m pm]⟩) (by kernel_rfl)
                      refine wp_loop_down (fun mm ac w => ∃ (j : Nat)  (u : World) (N : Bl) (β : Nat → Nat), mm = m.outer.length - j ∧ (j ≤ m.outer.length) ∧ ((List.range j).all (f_pageSlot m) = true) ∧ St Go.Proofs.Try.prog Go.Proofs.Try.f19.ntmps w0 NoB u N β ⟨[(1, .p 0 0), (75, .v (slv (m.outer).length pm.outer.1)), (76, .v (I ((m.outer).length : Int))), (77, .v (I (j : Int)))], [GT.cells (α := TMon) m pm]⟩ ac w) _ ⟨0, _, _, _, rfl, (by first | omega | (simp; done) | (simp; omega)), (by rfl), S.cast (by kernel_rfl)⟩ ?_
                      clear S
                      rintro mm ac w ⟨j, u, N, β, rfl, hj, hp, S⟩
                      have hlo : m.outer.length = 8 := by omega
                      have hlu : m.out.length = 8 := by omega
                      refine wp_seq ?_
                      refine RG.start ?_
                      refine S.quiet (k := 1) (keep := [1, 75, 76, 77, 78]) (m := 1) (σ' := ⟨[(1, .p 0 0), (75, .v (slv (m.outer).length pm.outer.1)), (76, .v (I ((m.outer).length : Int))), (77, .v (I (j : Int))), (78, .v (B (decide ((j : Int) < ((m.outer).length : Int)))))], [GT.cells (α := TMon) m pm]⟩) .nil (by kernel_rfl) ?_
                      clear S; intro ac w β S
                      refine RG.done rfl (nx_then ?_)
                      refine wp_seq ?_
                      refine S.cond (e := (decide ((j : Int) < ((m.outer).length : Int)))) (by kernel_rfl) (fun h43 => ?_) (fun h43 => ?_)
                      · have g44 : (j : Int) < ((m.outer).length : Int) := of_decide_eq_true h43
                        refine wp_skip (nx_then ?_)
                        refine wp_seq ?_
                        refine wp_block ?_
                        refine wp_seq ?_
                        refine RG.start ?_
                        refine S.quiet (k := 6) (keep := [1, 5, 6, 75, 76, 77]) (m := 2) (σ' := ⟨[(1, .p 0 0), (5, .v (I (j : Int))), (6, .p 1 0), (75, .v (slv (m.outer).length pm.outer.1)), (76, .v (I ((m.outer).length : Int))), (77, .v (I (j : Int)))], [GT.cells (α := TMon) m pm, GT.cells (α := TSlot) (el m.outer j) ()]⟩) (.cons (Q_idx (RMon.outer (d := m) (S.arg hm)) (l := (m.outer).length) (k := j) (i := (j : Int)) rfl rfl (by omega) Go.Proofs.Try.underlying48 (by kernel_rfl)) (.cons (Q_el (RMon.outer (d := m) (S.arg hm)) (t := 66) (k := j) (by omega) rfl (by kernel_rfl) (by kernel_rfl)) .nil)) (by kernel_rfl) ?_
                        clear S; intro ac w β S
                        refine RG.done rfl (nx_then ?_)
                        refine wp_seq ?_
                        refine S.drawn (keep := [1, 5, 6, 75, 76, 77, 84]) (m := 2) (σ' := ⟨[(1, .p 0 0), (5, .v (I (j : Int))), (6, .p 1 0), (75, .v (slv (m.outer).length pm.outer.1)), (76, .v (I ((m.outer).length : Int))), (77, .v (I (j : Int))), (84, .v (B (decide ((el m.outer j) = ((⟨-1, 0⟩ : TSlot))))))], [GT.cells (α := TMon) m pm, GT.cells (α := TSlot) (el m.outer j) ()]⟩) (.cons (Q_call fun w hw => c_impl_NoSlot w ) (.cons (Eq_eq_Slot (t := 66) (el m.outer j) ((⟨-1, 0⟩ : TSlot)) (by kernel_rfl)) .nil)) rfl (by kernel_rfl) (by kernel_rfl) ?_
                        clear S; intro ac w S
                        refine id (nx_then ?_)
                        refine S.cond (e := decide ((el m.outer j) = ((⟨-1, 0⟩ : TSlot)))) (by kernel_rfl) (fun h45 => ?_) (fun h45 => ?_)
                        · refine wp_seq ?_
                          refine RG.start ?_
                          refine S.quiet (k := 7) (keep := [1, 75, 76, 77, 91]) (m := 1) (σ' := ⟨[(1, .p 0 0), (75, .v (slv (m.outer).length pm.outer.1)), (76, .v (I ((m.outer).length : Int))), (77, .v (I (j : Int))), (91, .v (B (!(f_pageOk (el m.out j)))))], [GT.cells (α := TMon) m pm]⟩) (.cons (Q_idx (RMon.out (d := m) (S.arg hm)) (l := (m.out).length) (k := j) (i := (j : Int)) rfl rfl (by omega) Go.Proofs.Try.underlying22 (by kernel_rfl)) (.cons (Q_el1 (RMon.out (d := m) (S.arg hm)) (t := 42) (k := j) (by omega) rfl (by kernel_rfl)) (.cons (Q_call fun w hw => c_impl_PageOk w (el m.out j) (pm.out.2 j) (rd_of (LRd.el (RMon.out (d := m) (S.arg hm)) j (by omega)) hw)) .nil))) (by kernel_rfl) ?_
                          clear S; intro ac w β S
                          refine RG.done rfl (nx_then ?_)
                          refine S.cond (e := (!(f_pageOk (el m.out j)))) (by kernel_rfl) (fun h46 => ?_) (fun h46 => ?_)
                          · have h47 : (f_pageOk (el m.out j)) = false := not_t h46
                            refine wp_seq ?_
                            refine RG.start ?_
                            refine S.quiet (k := 1) (keep := [2]) (m := 0) (σ' := ⟨[(2, .v (B false))], []⟩) .nil (by kernel_rfl) ?_
                            clear S; intro ac w β S
                            refine RG.done rfl (nx_then ?_)
                            refine wp_ret (rt_block (rt_then (rt_then (rt_block (rt_then ?_)))))
                            refine S.ret (vs := [B false]) (by kernel_rfl) ?_
                            exact ⟨retB (show false = f_monOk m by clear S; (first | rfl | (symm; rw [← Bool.not_eq_true]; intro hc; simp only [f_monOk, f_monHead, f_monTail, Bool.and_eq_true, decide_eq_true_eq, beq_iff_eq] at hc; first | omega | (simp_all; done) | (simp_all; omega) | (have hx := all_el (k := k) hc.1.2 (by omega); simp_all; done) | (have hx := rng_el (k := j) hc.2 (by omega); unfold f_pageSlot at hx; split at hx <;> first | (simp_all; done) | (simp_all; omega))) | (symm; simp only [f_monOk, f_monHead, f_monTail, Bool.and_eq_true, decide_eq_true_eq, beq_iff_eq]; (repeat' apply And.intro); all_goals first | assumption | omega | (simp_all; done) | (simp_all; omega) | (exact all_end (by omega) he) | ((have e8 : j = 8 := (by omega)); subst e8; exact hp)) | (rw [Bool.eq_iff_iff]; simp only [f_monOk, f_monHead, f_monTail, Bool.and_eq_true, decide_eq_true_eq, beq_iff_eq]; refine ⟨fun hr => ?_, fun hc => ?_⟩ <;> ((repeat' apply And.intro); all_goals first | assumption | omega | (simp_all; done) | (simp_all; omega) | (exact all_end (by omega) he) | ((have e8 : j = 8 := (by omega)); subst e8; exact hp))))), S.chg⟩
                          · have h48 : (f_pageOk (el m.out j)) = true := not_f h46
                            refine wp_skip (nx_block (nx_then ?_))
                            refine RG.start ?_
                            refine S.quiet (k := 2) (keep := [1, 75, 76, 77]) (m := 1) (σ' := ⟨[(1, .p 0 0), (75, .v (slv (m.outer).length pm.outer.1)), (76, .v (I ((m.outer).length : Int))), (77, .v (I ((j : Int) + 1)))], [GT.cells (α := TMon) m pm]⟩) (.cons (Q_add (x := (j : Int)) (y := 1) ⟨by omega, by omega⟩) .nil) (by kernel_rfl) ?_
                            clear S; intro ac w β S
                            refine RG.done rfl (nx_then ?_)
                            replace S := S.prune (keep := [1, 75, 76, 77]) (m := 1) (σ' := ⟨[(1, .p 0 0), (75, .v (slv (m.outer).length pm.outer.1)), (76, .v (I ((m.outer).length : Int))), (77, .v (I ((j : Int) + 1)))], [GT.cells (α := TMon) m pm]⟩) (by kernel_rfl)
                            refine ⟨m.outer.length - (j + 1), by omega, j + 1, _, _, _, rfl, ?_, ?_, S.cast (by kernel_rfl)⟩
                            · clear S; first | omega | (simp [*]; done) | (simp [*]; omega)
                            · clear S; (refine rng_step hp ?_; unfold f_pageSlot; (repeat' split) <;> first | (exfalso; simp_all; done) | (simp_all; done) | (simp_all; omega))
                        · refine wp_seq ?_
                          refine RG.start ?_
                          refine S.quiet (k := 5) (keep := [1, 5, 75, 76, 77, 96]) (m := 1) (σ' := ⟨[(1, .p 0 0), (5, .v (I (j : Int))), (75, .v (slv (m.outer).length pm.outer.1)), (76, .v (I ((m.outer).length : Int))), (77, .v (I (j : Int))), (96, .v (B (!(f_enough ((el m.outer j).rights) 1))))], [GT.cells (α := TMon) m pm]⟩) (.cons (Q_call fun w hw => c_impl_Enough w ((el m.outer j).rights) 1) .nil) (by kernel_rfl) ?_
                          clear S; intro ac w β S
                          rcases Bool.eq_false_or_eq_true (!(f_enough ((el m.outer j).rights) 1)) with h49 | h49 <;> rw [h49] at S
                          · have h50 : (f_enough ((el m.outer j).rights) 1) = false := not_t h49
                            refine S.quiet (k := 8) (keep := [1, 75, 76, 77, 104]) (m := 1) (σ' := ⟨[(1, .p 0 0), (75, .v (slv (m.outer).length pm.outer.1)), (76, .v (I ((m.outer).length : Int))), (77, .v (I (j : Int))), (104, .v (B true))], [GT.cells (α := TMon) m pm]⟩) .nil (by kernel_rfl) ?_
                            clear S; intro ac w β S
                            refine RG.done rfl (nx_then ?_)
                            refine S.cond (e := true) (by kernel_rfl) (fun _ => ?_) (fun hx => by cases hx)
                            refine wp_seq ?_
                            refine RG.start ?_
                            refine S.quiet (k := 1) (keep := [2]) (m := 0) (σ' := ⟨[(2, .v (B false))], []⟩) .nil (by kernel_rfl) ?_
                            clear S; intro ac w β S
                            refine RG.done rfl (nx_then ?_)
                            refine wp_ret (rt_block (rt_then (rt_then (rt_block (rt_then ?_)))))
                            refine S.ret (vs := [B false]) (by kernel_rfl) ?_
                            exact ⟨retB (show false = f_monOk m by clear S; (first | rfl | (symm; rw [← Bool.not_eq_true]; intro hc; simp only [f_monOk, f_monHead, f_monTail, Bool.and_eq_true, decide_eq_true_eq, beq_iff_eq] at hc; first | omega | (simp_all; done) | (simp_all; omega) | (have hx := all_el (k := k) hc.1.2 (by omega); simp_all; done) | (have hx := rng_el (k := j) hc.2 (by omega); unfold f_pageSlot at hx; split at hx <;> first | (simp_all; done) | (simp_all; omega))) | (symm; simp only [f_monOk, f_monHead, f_monTail, Bool.and_eq_true, decide_eq_true_eq, beq_iff_eq]; (repeat' apply And.intro); all_goals first | assumption | omega | (simp_all; done) | (simp_all; omega) | (exact all_end (by omega) he) | ((have e8 : j = 8 := (by omega)); subst e8; exact hp)) | (rw [Bool.eq_iff_iff]; simp only [f_monOk, f_monHead, f_monTail, Bool.and_eq_true, decide_eq_true_eq, beq_iff_eq]; refine ⟨fun hr => ?_, fun hc => ?_⟩ <;> ((repeat' apply And.intro); all_goals first | assumption | omega | (simp_all; done) | (simp_all; omega) | (exact all_end (by omega) he) | ((have e8 : j = 8 := (by omega)); subst e8; exact hp))))), S.chg⟩
                          · have h51 : (f_enough ((el m.outer j).rights) 1) = true := not_f h49
                            refine S.quiet (k := 8) (keep := [1, 75, 76, 77, 104]) (m := 1) (σ' := ⟨[(1, .p 0 0), (75, .v (slv (m.outer).length pm.outer.1)), (76, .v (I ((m.outer).length : Int))), (77, .v (I (j : Int))), (104, .v (B (decide ((((el m.out j)).length : Int) > 0))))], [GT.cells (α := TMon) m pm]⟩) (.cons (Q_idx (RMon.out (d := m) (S.arg hm)) (l := (m.out).length) (k := j) (i := (j : Int)) rfl rfl (by omega) Go.Proofs.Try.underlying22 (by kernel_rfl)) (.cons (Q_el1 (RMon.out (d := m) (S.arg hm)) (t := 42) (k := j) (by omega) rfl (by kernel_rfl)) .nil)) (by kernel_rfl) ?_
                            clear S; intro ac w β S
                            refine RG.done rfl (nx_then ?_)
                            refine S.cond (e := (decide ((((el m.out j)).length : Int) > 0))) (by kernel_rfl) (fun h52 => ?_) (fun h52 => ?_)
                            · have g53 : (((el m.out j)).length : Int) > 0 := of_decide_eq_true h52
                              refine wp_seq ?_
                              refine RG.start ?_
                              refine S.quiet (k := 1) (keep := [2]) (m := 0) (σ' := ⟨[(2, .v (B false))], []⟩) .nil (by kernel_rfl) ?_
                              clear S; intro ac w β S
                              refine RG.done rfl (nx_then ?_)
                              refine wp_ret (rt_block (rt_then (rt_then (rt_block (rt_then ?_)))))
                              refine S.ret (vs := [B false]) (by kernel_rfl) ?_
                              exact ⟨retB (show false = f_monOk m by clear S; (first | rfl | (symm; rw [← Bool.not_eq_true]; intro hc; simp only [f_monOk, f_monHead, f_monTail, Bool.and_eq_true, decide_eq_true_eq, beq_iff_eq] at hc; first | omega | (simp_all; done) | (simp_all; omega) | (have hx := all_el (k := k) hc.1.2 (by omega); simp_all; done) | (have hx := rng_el (k := j) hc.2 (by omega); unfold f_pageSlot at hx; split at hx <;> first | (simp_all; done) | (simp_all; omega))) | (symm; simp only [f_monOk, f_monHead, f_monTail, Bool.and_eq_true, decide_eq_true_eq, beq_iff_eq]; (repeat' apply And.intro); all_goals first | assumption | omega | (simp_all; done) | (simp_all; omega) | (exact all_end (by omega) he) | ((have e8 : j = 8 := (by omega)); subst e8; exact hp)) | (rw [Bool.eq_iff_iff]; simp only [f_monOk, f_monHead, f_monTail, Bool.and_eq_true, decide_eq_true_eq, beq_iff_eq]; refine ⟨fun hr => ?_, fun hc => ?_⟩ <;> ((repeat' apply And.intro); all_goals first | assumption | omega | (simp_all; done) | (simp_all; omega) | (exact all_end (by omega) he) | ((have e8 : j = 8 := (by omega)); subst e8; exact hp))))), S.chg⟩
                            · have g54 : ¬ ((((el m.out j)).length : Int) > 0) := of_decide_eq_false h52
                              refine wp_skip (nx_block (nx_then ?_))
                              refine RG.start ?_
                              refine S.quiet (k := 2) (keep := [1, 75, 76, 77]) (m := 1) (σ' := ⟨[(1, .p 0 0), (75, .v (slv (m.outer).length pm.outer.1)), (76, .v (I ((m.outer).length : Int))), (77, .v (I ((j : Int) + 1)))], [GT.cells (α := TMon) m pm]⟩) (.cons (Q_add (x := (j : Int)) (y := 1) ⟨by omega, by omega⟩) .nil) (by kernel_rfl) ?_
                              clear S; intro ac w β S
                              refine RG.done rfl (nx_then ?_)
                              replace S := S.prune (keep := [1, 75, 76, 77]) (m := 1) (σ' := ⟨[(1, .p 0 0), (75, .v (slv (m.outer).length pm.outer.1)), (76, .v (I ((m.outer).length : Int))), (77, .v (I ((j : Int) + 1)))], [GT.cells (α := TMon) m pm]⟩) (by kernel_rfl)
                              refine ⟨m.outer.length - (j + 1), by omega, j + 1, _, _, _, rfl, ?_, ?_, S.cast (by kernel_rfl)⟩
                              · clear S; first | omega | (simp [*]; done) | (simp [*]; omega)
                              · clear S; (refine rng_step hp ?_; unfold f_pageSlot; (repeat' split) <;> first | (exfalso; simp_all; done) | (simp_all; done) | (simp_all; omega))
                      · have g55 : ¬ ((j : Int) < ((m.outer).length : Int)) := of_decide_eq_false h43
                        refine wp_exit (ex_then (ex_then (ex_hit (nx_then ?_))))
                        refine wp_seq ?_
                        refine RG.start ?_
                        refine S.quiet (k := 1) (keep := [2]) (m := 0) (σ' := ⟨[(2, .v (B true))], []⟩) .nil (by kernel_rfl) ?_
                        clear S; intro ac w β S
                        refine RG.done rfl (nx_then ?_)
                        refine wp_ret ?_
                        refine S.ret (vs := [B true]) (by kernel_rfl) ?_
                        exact ⟨retB (show true = f_monOk m by clear S; (first | rfl | (symm; rw [← Bool.not_eq_true]; intro hc; simp only [f_monOk, f_monHead, f_monTail, Bool.and_eq_true, decide_eq_true_eq, beq_iff_eq] at hc; first | omega | (simp_all; done) | (simp_all; omega) | (have hx := all_el (k := k) hc.1.2 (by omega); simp_all; done) | (have hx := rng_el (k := j) hc.2 (by omega); unfold f_pageSlot at hx; split at hx <;> first | (simp_all; done) | (simp_all; omega))) | (symm; simp only [f_monOk, f_monHead, f_monTail, Bool.and_eq_true, decide_eq_true_eq, beq_iff_eq]; (repeat' apply And.intro); all_goals first | assumption | omega | (simp_all; done) | (simp_all; omega) | (exact all_end (by omega) he) | ((have e8 : j = 8 := (by omega)); subst e8; exact hp)) | (rw [Bool.eq_iff_iff]; simp only [f_monOk, f_monHead, f_monTail, Bool.and_eq_true, decide_eq_true_eq, beq_iff_eq]; refine ⟨fun hr => ?_, fun hc => ?_⟩ <;> ((repeat' apply And.intro); all_goals first | assumption | omega | (simp_all; done) | (simp_all; omega) | (exact all_end (by omega) he) | ((have e8 : j = 8 := (by omega)); subst e8; exact hp))))), S.chg⟩

set_option maxRecDepth 100000 in
theorem c_laws_eqSlot (w0 : World) (a : TSlot) (b : TSlot) : Calls Go.Proofs.Try.prog 95 [GT.val (α := TSlot) a (), GT.val (α := TSlot) b ()].toArray w0 (fun e w' => e = .returned (B (decide (a = b))) ∧ Chg NoB w0 w') := by
  refine Calls.walk (args := [GT.val (α := TSlot) a (), GT.val (α := TSlot) b ()]) NoB Go.Proofs.Try.func95 rfl rfl ?_
  intro ac β S
  refine wp_seq ?_
  refine RG.start ?_
  refine S.quiet (k := 3) (keep := [2, 3]) (m := 2) (σ' := ⟨[(2, .p 0 0), (3, .p 1 0)], [GT.cells (α := TSlot) a (), GT.cells (α := TSlot) b ()]⟩) .nil (by kernel_rfl) ?_
  clear S; intro ac w β S
  refine RG.done rfl (nx_then ?_)
  refine wp_seq ?_
  refine wp_seq ?_
  refine RG.start ?_
  refine S.quiet (k := 5) (keep := [2, 3, 9]) (m := 2) (σ' := ⟨[(2, .p 0 0), (3, .p 1 0), (9, .v (B (a.page != b.page)))], [GT.cells (α := TSlot) a (), GT.cells (α := TSlot) b ()]⟩) .nil (by kernel_rfl) ?_
  clear S; intro ac w β S
  refine RG.done rfl (nx_then ?_)
  refine S.cond (e := (a.page != b.page)) (by kernel_rfl) (fun h1 => ?_) (fun h1 => ?_)
  · have g2 : ¬ (a.page = b.page) := bne_iff_ne.1 h1
    refine wp_seq ?_
    refine RG.start ?_
    refine S.quiet (k := 1) (keep := [4]) (m := 0) (σ' := ⟨[(4, .v (B false))], []⟩) .nil (by kernel_rfl) ?_
    clear S; intro ac w β S
    refine RG.done rfl (nx_then ?_)
    refine wp_ret (rt_then ?_)
    refine S.ret (vs := [B false]) (by kernel_rfl) ?_
    exact ⟨retB (show false = decide (a = b) by clear S; first | (simp [TSlot.ext_iff, *]; done) | (simp_all [TSlot.ext_iff]; done)), S.chg⟩
  · have g3 : a.page = b.page := ne_f h1
    refine wp_skip (nx_then ?_)
    refine wp_seq ?_
    refine wp_seq ?_
    refine RG.start ?_
    refine S.quiet (k := 5) (keep := [14]) (m := 0) (σ' := ⟨[(14, .v (B (a.rights != b.rights)))], []⟩) .nil (by kernel_rfl) ?_
    clear S; intro ac w β S
    refine RG.done rfl (nx_then ?_)
    refine S.cond (e := (a.rights != b.rights)) (by kernel_rfl) (fun h4 => ?_) (fun h4 => ?_)
    · have g5 : ¬ (a.rights = b.rights) := bne_iff_ne.1 h4
      refine wp_seq ?_
      refine RG.start ?_
      refine S.quiet (k := 1) (keep := [4]) (m := 0) (σ' := ⟨[(4, .v (B false))], []⟩) .nil (by kernel_rfl) ?_
      clear S; intro ac w β S
      refine RG.done rfl (nx_then ?_)
      refine wp_ret (rt_then ?_)
      refine S.ret (vs := [B false]) (by kernel_rfl) ?_
      exact ⟨retB (show false = decide (a = b) by clear S; first | (simp [TSlot.ext_iff, *]; done) | (simp_all [TSlot.ext_iff]; done)), S.chg⟩
    · have g6 : a.rights = b.rights := ne_f h4
      refine wp_skip (nx_then ?_)
      refine wp_seq ?_
      refine RG.start ?_
      refine S.quiet (k := 1) (keep := [4]) (m := 0) (σ' := ⟨[(4, .v (B true))], []⟩) .nil (by kernel_rfl) ?_
      clear S; intro ac w β S
      refine RG.done rfl (nx_then ?_)
      refine wp_ret ?_
      refine S.ret (vs := [B true]) (by kernel_rfl) ?_
      exact ⟨retB (show true = decide (a = b) by clear S; first | (simp [TSlot.ext_iff, *]; done) | (simp_all [TSlot.ext_iff]; done)), S.chg⟩

set_option maxRecDepth 100000 in
theorem c_laws_eqSlotS (w0 : World) (a : List TSlot) (pa : LP TSlot) (ha : GT.rd KK (Lt w0.heap.size) w0 a pa) (b : List TSlot) (pb : LP TSlot) (hb : GT.rd KK (Lt w0.heap.size) w0 b pb) : Calls Go.Proofs.Try.prog 68 [slv (a).length pa.1, slv (b).length pb.1].toArray w0 (fun e w' => e = .returned (B (decide (a = b))) ∧ Chg NoB w0 w') := by
  refine Calls.walk (args := [slv (a).length pa.1, slv (b).length pb.1]) NoB Go.Proofs.Try.func68 rfl rfl ?_
  intro ac β S
  have hlea : a.length ≤ 4194304 := LRd.le ha
  have hleb : b.length ≤ 4194304 := LRd.le hb
  refine wp_seq ?_
  refine RG.start ?_
  refine S.quiet (k := 1) (keep := [0, 1]) (m := 0) (σ' := ⟨[(0, .v (slv (a).length pa.1)), (1, .v (slv (b).length pb.1))], []⟩) .nil (by kernel_rfl) ?_
  clear S; intro ac w β S
  refine RG.done rfl (nx_then ?_)
  refine wp_seq ?_
  refine wp_seq ?_
  refine RG.start ?_
  refine S.quiet (k := 5) (keep := [0, 1, 10]) (m := 0) (σ' := ⟨[(0, .v (slv (a).length pa.1)), (1, .v (slv (b).length pb.1)), (10, .v (B (((a).length : Int) != ((b).length : Int))))], []⟩) .nil (by kernel_rfl) ?_
  clear S; intro ac w β S
  refine RG.done rfl (nx_then ?_)
  refine S.cond (e := (((a).length : Int) != ((b).length : Int))) (by kernel_rfl) (fun h1 => ?_) (fun h1 => ?_)
  · have g2 : ¬ (((a).length : Int) = ((b).length : Int)) := bne_iff_ne.1 h1
    refine wp_seq ?_
    refine RG.start ?_
    refine S.quiet (k := 1) (keep := [4]) (m := 0) (σ' := ⟨[(4, .v (B false))], []⟩) .nil (by kernel_rfl) ?_
    clear S; intro ac w β S
    refine RG.done rfl (nx_then ?_)
    refine wp_ret (rt_then ?_)
    refine S.ret (vs := [B false]) (by kernel_rfl) ?_
    exact ⟨retB (show false = decide (a = b) by clear S; first | (simp; intro e; subst e; simp_all; done) | (simp; rw [take_all (by omega), take_all (by omega)] at he; exact he) | (simp; exact take_ne (by simp_all))), S.chg⟩
  · have g3 : ((a).length : Int) = ((b).length : Int) := ne_f h1
    refine wp_skip (nx_then ?_)
    refine wp_seq ?_
    refine wp_seq ?_
    refine RG.start ?_
    refine S.quiet (k := 1) (keep := [0, 1, 5]) (m := 0) (σ' := ⟨[(0, .v (slv (a).length pa.1)), (1, .v (slv (b).length pb.1)), (5, .v (I 0))], []⟩) .nil (by kernel_rfl) ?_
    clear S; intro ac w β S
    refine RG.done rfl (nx_then ?_)
    refine wp_block ?_
    replace S := S.prune (keep := [0, 1, 5]) (m := 0) (σ' := ⟨[(0, .v (slv (a).length pa.1)), (1, .v (slv (b).length pb.1)), (5, .v (I 0))], []⟩) (by kernel_rfl)
    refine wp_loop_down (fun mm ac w => ∃ (k : Nat)  (u : World) (N : Bl) (β : Nat → Nat), mm = a.length - k ∧ (k ≤ a.length) ∧ (a.length = b.length) ∧ (a.take k = b.take k) ∧ St Go.Proofs.Try.prog Go.Proofs.Try.f68.ntmps w0 NoB u N β ⟨[(0, .v (slv (a).length pa.1)), (1, .v (slv (b).length pb.1)), (5, .v (I (k : Int)))], []⟩ ac w) _ ⟨0, _, _, _, rfl, (by first | omega | (simp; done) | (simp; omega)), (by first | omega | (simp; done) | (simp; omega)), (by simp), S.cast (by kernel_rfl)⟩ ?_
    clear S
    rintro mm ac w ⟨k, u, N, β, rfl, hk, hab, he, S⟩
    refine wp_seq ?_
    refine wp_seq ?_
    refine RG.start ?_
    refine S.quiet (k := 4) (keep := [0, 1, 5, 14]) (m := 0) (σ' := ⟨[(0, .v (slv (a).length pa.1)), (1, .v (slv (b).length pb.1)), (5, .v (I (k : Int))), (14, .v (B (decide ((k : Int) < ((a).length : Int)))))], []⟩) .nil (by kernel_rfl) ?_
    clear S; intro ac w β S
    refine RG.done rfl (nx_then ?_)
    refine S.cond (e := (decide ((k : Int) < ((a).length : Int)))) (by kernel_rfl) (fun h4 => ?_) (fun h4 => ?_)
    · have g5 : (k : Int) < ((a).length : Int) := of_decide_eq_true h4
      refine wp_skip (nx_then ?_)
      refine wp_seq ?_
      refine wp_block ?_
      refine wp_seq ?_
      refine S.drawn (keep := [0, 1, 5, 26]) (m := 0) (σ' := ⟨[(0, .v (slv (a).length pa.1)), (1, .v (slv (b).length pb.1)), (5, .v (I (k : Int))), (26, .v (B (!(decide ((el a k) = (el b k))))))], []⟩) (.cons (Q_idx (S.arg ha) (l := (a).length) (k := k) (i := (k : Int)) rfl rfl (by omega) Go.Proofs.Try.underlying48 (by kernel_rfl)) (.cons (Q_el (S.arg ha) (t := 66) (k := k) (by omega) rfl (by kernel_rfl) (by kernel_rfl)) (.cons (Q_idx (S.arg hb) (l := (b).length) (k := k) (i := (k : Int)) rfl rfl (by omega) Go.Proofs.Try.underlying48 (by kernel_rfl)) (.cons (Q_el (S.arg hb) (t := 66) (k := k) (by omega) rfl (by kernel_rfl) (by kernel_rfl)) (.cons (Q_call fun w hw => c_laws_eqSlot w (el a k) (el b k)) .nil))))) rfl (by kernel_rfl) (by kernel_rfl) ?_
      clear S; intro ac w S
      refine id (nx_then ?_)
      refine S.cond (e := (!(decide ((el a k) = (el b k))))) (by kernel_rfl) (fun h6 => ?_) (fun h6 => ?_)
      · have h7 : (decide ((el a k) = (el b k))) = false := not_t h6
        have g8 := of_decide_eq_false h7
        refine wp_seq ?_
        refine RG.start ?_
        refine S.quiet (k := 1) (keep := [4]) (m := 0) (σ' := ⟨[(4, .v (B false))], []⟩) .nil (by kernel_rfl) ?_
        clear S; intro ac w β S
        refine RG.done rfl (nx_then ?_)
        refine wp_ret (rt_block (rt_then (rt_then (rt_block (rt_then ?_)))))
        refine S.ret (vs := [B false]) (by kernel_rfl) ?_
        exact ⟨retB (show false = decide (a = b) by clear S; first | (simp; intro e; subst e; simp_all; done) | (simp; rw [take_all (by omega), take_all (by omega)] at he; exact he) | (simp; exact take_ne (by simp_all))), S.chg⟩
      · have h9 : (decide ((el a k) = (el b k))) = true := not_f h6
        have g10 := of_decide_eq_true h9
        refine wp_skip (nx_block (nx_then ?_))
        refine RG.start ?_
        refine S.quiet (k := 3) (keep := [0, 1, 5]) (m := 0) (σ' := ⟨[(0, .v (slv (a).length pa.1)), (1, .v (slv (b).length pb.1)), (5, .v (I ((k : Int) + 1)))], []⟩) (.cons (Q_add (x := (k : Int)) (y := 1) ⟨by omega, by omega⟩) .nil) (by kernel_rfl) ?_
        clear S; intro ac w β S
        refine RG.done rfl (nx_then ?_)
        replace S := S.prune (keep := [0, 1, 5]) (m := 0) (σ' := ⟨[(0, .v (slv (a).length pa.1)), (1, .v (slv (b).length pb.1)), (5, .v (I ((k : Int) + 1)))], []⟩) (by kernel_rfl)
        refine ⟨a.length - (k + 1), by omega, k + 1, _, _, _, rfl, ?_, ?_, ?_, S.cast (by kernel_rfl)⟩
        · clear S; first | omega | (simp [*]; done) | (simp [*]; omega)
        · clear S; first | omega | (simp [*]; done) | (simp [*]; omega)
        · clear S; exact take_eq_step (by omega) (by omega) he (by simp_all)
    · have g11 : ¬ ((k : Int) < ((a).length : Int)) := of_decide_eq_false h4
      refine wp_exit (ex_then (ex_then (ex_hit (nx_then ?_))))
      refine wp_seq ?_
      refine RG.start ?_
      refine S.quiet (k := 1) (keep := [4]) (m := 0) (σ' := ⟨[(4, .v (B true))], []⟩) .nil (by kernel_rfl) ?_
      clear S; intro ac w β S
      refine RG.done rfl (nx_then ?_)
      refine wp_ret ?_
      refine S.ret (vs := [B true]) (by kernel_rfl) ?_
      exact ⟨retB (show true = decide (a = b) by clear S; first | (simp; intro e; subst e; simp_all; done) | (simp; rw [take_all (by omega), take_all (by omega)] at he; exact he) | (simp; exact take_ne (by simp_all))), S.chg⟩

set_option maxRecDepth 100000 in
theorem c_laws_eqIntS (w0 : World) (a : List Int) (pa : LP Int) (ha : GT.rd KK (Lt w0.heap.size) w0 a pa) (b : List Int) (pb : LP Int) (hb : GT.rd KK (Lt w0.heap.size) w0 b pb) : Calls Go.Proofs.Try.prog 25 [slv (a).length pa.1, slv (b).length pb.1].toArray w0 (fun e w' => e = .returned (B (decide (a = b))) ∧ Chg NoB w0 w') := by
  refine Calls.walk (args := [slv (a).length pa.1, slv (b).length pb.1]) NoB Go.Proofs.Try.func25 rfl rfl ?_
  intro ac β S
  have hlea : a.length ≤ 4194304 := LRd.le ha
  have hleb : b.length ≤ 4194304 := LRd.le hb
  refine wp_seq ?_
  refine RG.start ?_
  refine S.quiet (k := 1) (keep := [0, 1]) (m := 0) (σ' := ⟨[(0, .v (slv (a).length pa.1)), (1, .v (slv (b).length pb.1))], []⟩) .nil (by kernel_rfl) ?_
  clear S; intro ac w β S
  refine RG.done rfl (nx_then ?_)
  refine wp_seq ?_
  refine wp_seq ?_
  refine RG.start ?_
  refine S.quiet (k := 5) (keep := [0, 1, 10]) (m := 0) (σ' := ⟨[(0, .v (slv (a).length pa.1)), (1, .v (slv (b).length pb.1)), (10, .v (B (((a).length : Int) != ((b).length : Int))))], []⟩) .nil (by kernel_rfl) ?_
  clear S; intro ac w β S
  refine RG.done rfl (nx_then ?_)
  refine S.cond (e := (((a).length : Int) != ((b).length : Int))) (by kernel_rfl) (fun h1 => ?_) (fun h1 => ?_)
  · have g2 : ¬ (((a).length : Int) = ((b).length : Int)) := bne_iff_ne.1 h1
    refine wp_seq ?_
    refine RG.start ?_
    refine S.quiet (k := 1) (keep := [4]) (m := 0) (σ' := ⟨[(4, .v (B false))], []⟩) .nil (by kernel_rfl) ?_
    clear S; intro ac w β S
    refine RG.done rfl (nx_then ?_)
    refine wp_ret (rt_then ?_)
    refine S.ret (vs := [B false]) (by kernel_rfl) ?_
    exact ⟨retB (show false = decide (a = b) by clear S; first | (simp; intro e; subst e; simp_all; done) | (simp; rw [take_all (by omega), take_all (by omega)] at he; exact he) | (simp; exact take_ne (by simp_all))), S.chg⟩
  · have g3 : ((a).length : Int) = ((b).length : Int) := ne_f h1
    refine wp_skip (nx_then ?_)
    refine wp_seq ?_
    refine wp_seq ?_
    refine RG.start ?_
    refine S.quiet (k := 1) (keep := [0, 1, 5]) (m := 0) (σ' := ⟨[(0, .v (slv (a).length pa.1)), (1, .v (slv (b).length pb.1)), (5, .v (I 0))], []⟩) .nil (by kernel_rfl) ?_
    clear S; intro ac w β S
    refine RG.done rfl (nx_then ?_)
    refine wp_block ?_
    replace S := S.prune (keep := [0, 1, 5]) (m := 0) (σ' := ⟨[(0, .v (slv (a).length pa.1)), (1, .v (slv (b).length pb.1)), (5, .v (I 0))], []⟩) (by kernel_rfl)
    refine wp_loop_down (fun mm ac w => ∃ (k : Nat)  (u : World) (N : Bl) (β : Nat → Nat), mm = a.length - k ∧ (k ≤ a.length) ∧ (a.length = b.length) ∧ (a.take k = b.take k) ∧ St Go.Proofs.Try.prog Go.Proofs.Try.f25.ntmps w0 NoB u N β ⟨[(0, .v (slv (a).length pa.1)), (1, .v (slv (b).length pb.1)), (5, .v (I (k : Int)))], []⟩ ac w) _ ⟨0, _, _, _, rfl, (by first | omega | (simp; done) | (simp; omega)), (by first | omega | (simp; done) | (simp; omega)), (by simp), S.cast (by kernel_rfl)⟩ ?_
    clear S
    rintro mm ac w ⟨k, u, N, β, rfl, hk, hab, he, S⟩
    refine wp_seq ?_
    refine wp_seq ?_
    refine RG.start ?_
    refine S.quiet (k := 4) (keep := [0, 1, 5, 14]) (m := 0) (σ' := ⟨[(0, .v (slv (a).length pa.1)), (1, .v (slv (b).length pb.1)), (5, .v (I (k : Int))), (14, .v (B (decide ((k : Int) < ((a).length : Int)))))], []⟩) .nil (by kernel_rfl) ?_
    clear S; intro ac w β S
    refine RG.done rfl (nx_then ?_)
    refine S.cond (e := (decide ((k : Int) < ((a).length : Int)))) (by kernel_rfl) (fun h4 => ?_) (fun h4 => ?_)
    · have g5 : (k : Int) < ((a).length : Int) := of_decide_eq_true h4
      refine wp_skip (nx_then ?_)
      refine wp_seq ?_
      refine wp_block ?_
      refine wp_seq ?_
      refine S.drawn (keep := [0, 1, 5, 25]) (m := 0) (σ' := ⟨[(0, .v (slv (a).length pa.1)), (1, .v (slv (b).length pb.1)), (5, .v (I (k : Int))), (25, .v (B ((el a k) != (el b k))))], []⟩) (.cons (Q_idx (S.arg ha) (l := (a).length) (k := k) (i := (k : Int)) rfl rfl (by omega) Go.Proofs.Try.underlying42 (by kernel_rfl)) (.cons (Q_el1 (S.arg ha) (t := 3) (k := k) (by omega) rfl (by kernel_rfl)) (.cons (Q_idx (S.arg hb) (l := (b).length) (k := k) (i := (k : Int)) rfl rfl (by omega) Go.Proofs.Try.underlying42 (by kernel_rfl)) (.cons (Q_el1 (S.arg hb) (t := 3) (k := k) (by omega) rfl (by kernel_rfl)) .nil)))) rfl (by kernel_rfl) (by kernel_rfl) ?_
      clear S; intro ac w S
      refine id (nx_then ?_)
      refine S.cond (e := ((el a k) != (el b k))) (by kernel_rfl) (fun h6 => ?_) (fun h6 => ?_)
      · have g7 : ¬ ((el a k) = (el b k)) := bne_iff_ne.1 h6
        refine wp_seq ?_
        refine RG.start ?_
        refine S.quiet (k := 1) (keep := [4]) (m := 0) (σ' := ⟨[(4, .v (B false))], []⟩) .nil (by kernel_rfl) ?_
        clear S; intro ac w β S
        refine RG.done rfl (nx_then ?_)
        refine wp_ret (rt_block (rt_then (rt_then (rt_block (rt_then ?_)))))
        refine S.ret (vs := [B false]) (by kernel_rfl) ?_
        exact ⟨retB (show false = decide (a = b) by clear S; first | (simp; intro e; subst e; simp_all; done) | (simp; rw [take_all (by omega), take_all (by omega)] at he; exact he) | (simp; exact take_ne (by simp_all))), S.chg⟩
      · have g8 : (el a k) = (el b k) := ne_f h6
        refine wp_skip (nx_block (nx_then ?_))
        refine RG.start ?_
        refine S.quiet (k := 3) (keep := [0, 1, 5]) (m := 0) (σ' := ⟨[(0, .v (slv (a).length pa.1)), (1, .v (slv (b).length pb.1)), (5, .v (I ((k : Int) + 1)))], []⟩) (.cons (Q_add (x := (k : Int)) (y := 1) ⟨by omega, by omega⟩) .nil) (by kernel_rfl) ?_
        clear S; intro ac w β S
        refine RG.done rfl (nx_then ?_)
        replace S := S.prune (keep := [0, 1, 5]) (m := 0) (σ' := ⟨[(0, .v (slv (a).length pa.1)), (1, .v (slv (b).length pb.1)), (5, .v (I ((k : Int) + 1)))], []⟩) (by kernel_rfl)
        refine ⟨a.length - (k + 1), by omega, k + 1, _, _, _, rfl, ?_, ?_, ?_, S.cast (by kernel_rfl)⟩
        · clear S; first | omega | (simp [*]; done) | (simp [*]; omega)
        · clear S; first | omega | (simp [*]; done) | (simp [*]; omega)
        · clear S; exact take_eq_step (by omega) (by omega) he (by simp_all)
    · have g9 : ¬ ((k : Int) < ((a).length : Int)) := of_decide_eq_false h4
      refine wp_exit (ex_then (ex_then (ex_hit (nx_then ?_))))
      refine wp_seq ?_
      refine RG.start ?_
      refine S.quiet (k := 1) (keep := [4]) (m := 0) (σ' := ⟨[(4, .v (B true))], []⟩) .nil (by kernel_rfl) ?_
      clear S; intro ac w β S
      refine RG.done rfl (nx_then ?_)
      refine wp_ret ?_
      refine S.ret (vs := [B true]) (by kernel_rfl) ?_
      exact ⟨retB (show true = decide (a = b) by clear S; first | (simp; intro e; subst e; simp_all; done) | (simp; rw [take_all (by omega), take_all (by omega)] at he; exact he) | (simp; exact take_ne (by simp_all))), S.chg⟩

set_option maxRecDepth 100000 in
theorem c_laws_eqIntSS (w0 : World) (a : List (List Int)) (pa : LP (List Int)) (ha : GT.rd KK (Lt w0.heap.size) w0 a pa) (b : List (List Int)) (pb : LP (List Int)) (hb : GT.rd KK (Lt w0.heap.size) w0 b pb) : Calls Go.Proofs.Try.prog 31 [slv (a).length pa.1, slv (b).length pb.1].toArray w0 (fun e w' => e = .returned (B (decide (a = b))) ∧ Chg NoB w0 w') := by
  refine Calls.walk (args := [slv (a).length pa.1, slv (b).length pb.1]) NoB Go.Proofs.Try.func31 rfl rfl ?_
  intro ac β S
  have hlea : a.length ≤ 4194304 := LRd.le ha
  have hleb : b.length ≤ 4194304 := LRd.le hb
  refine wp_seq ?_
  refine RG.start ?_
  refine S.quiet (k := 1) (keep := [0, 1]) (m := 0) (σ' := ⟨[(0, .v (slv (a).length pa.1)), (1, .v (slv (b).length pb.1))], []⟩) .nil (by kernel_rfl) ?_
  clear S; intro ac w β S
  refine RG.done rfl (nx_then ?_)
  refine wp_seq ?_
  refine wp_seq ?_
  refine RG.start ?_
  refine S.quiet (k := 5) (keep := [0, 1, 10]) (m := 0) (σ' := ⟨[(0, .v (slv (a).length pa.1)), (1, .v (slv (b).length pb.1)), (10, .v (B (((a).length : Int) != ((b).length : Int))))], []⟩) .nil (by kernel_rfl) ?_
  clear S; intro ac w β S
  refine RG.done rfl (nx_then ?_)
  refine S.cond (e := (((a).length : Int) != ((b).length : Int))) (by kernel_rfl) (fun h1 => ?_) (fun h1 => ?_)
  · have g2 : ¬ (((a).length : Int) = ((b).length : Int)) := bne_iff_ne.1 h1
    refine wp_seq ?_
    refine RG.start ?_
    refine S.quiet (k := 1) (keep := [4]) (m := 0) (σ' := ⟨[(4, .v (B false))], []⟩) .nil (by kernel_rfl) ?_
    clear S; intro ac w β S
    refine RG.done rfl (nx_then ?_)
    refine wp_ret (rt_then ?_)
    refine S.ret (vs := [B false]) (by kernel_rfl) ?_
    exact ⟨retB (show false = decide (a = b) by clear S; first | (simp; intro e; subst e; simp_all; done) | (simp; rw [take_all (by omega), take_all (by omega)] at he; exact he) | (simp; exact take_ne (by simp_all))), S.chg⟩
  · have g3 : ((a).length : Int) = ((b).length : Int) := ne_f h1
    refine wp_skip (nx_then ?_)
    refine wp_seq ?_
    refine wp_seq ?_
    refine RG.start ?_
    refine S.quiet (k := 1) (keep := [0, 1, 5]) (m := 0) (σ' := ⟨[(0, .v (slv (a).length pa.1)), (1, .v (slv (b).length pb.1)), (5, .v (I 0))], []⟩) .nil (by kernel_rfl) ?_
    clear S; intro ac w β S
    refine RG.done rfl (nx_then ?_)
    refine wp_block ?_
    replace S := S.prune (keep := [0, 1, 5]) (m := 0) (σ' := ⟨[(0, .v (slv (a).length pa.1)), (1, .v (slv (b).length pb.1)), (5, .v (I 0))], []⟩) (by kernel_rfl)
    refine wp_loop_down (fun mm ac w => ∃ (k : Nat)  (u : World) (N : Bl) (β : Nat → Nat), mm = a.length - k ∧ (k ≤ a.length) ∧ (a.length = b.length) ∧ (a.take k = b.take k) ∧ St Go.Proofs.Try.prog Go.Proofs.Try.f31.ntmps w0 NoB u N β ⟨[(0, .v (slv (a).length pa.1)), (1, .v (slv (b).length pb.1)), (5, .v (I (k : Int)))], []⟩ ac w) _ ⟨0, _, _, _, rfl, (by first | omega | (simp; done) | (simp; omega)), (by first | omega | (simp; done) | (simp; omega)), (by simp), S.cast (by kernel_rfl)⟩ ?_
    clear S
    rintro mm ac w ⟨k, u, N, β, rfl, hk, hab, he, S⟩
    refine wp_seq ?_
    refine wp_seq ?_
    refine RG.start ?_
    refine S.quiet (k := 4) (keep := [0, 1, 5, 14]) (m := 0) (σ' := ⟨[(0, .v (slv (a).length pa.1)), (1, .v (slv (b).length pb.1)), (5, .v (I (k : Int))), (14, .v (B (decide ((k : Int) < ((a).length : Int)))))], []⟩) .nil (by kernel_rfl) ?_
    clear S; intro ac w β S
    refine RG.done rfl (nx_then ?_)
    refine S.cond (e := (decide ((k : Int) < ((a).length : Int)))) (by kernel_rfl) (fun h4 => ?_) (fun h4 => ?_)
    · have g5 : (k : Int) < ((a).length : Int) := of_decide_eq_true h4
      refine wp_skip (nx_then ?_)
      refine wp_seq ?_
      refine wp_block ?_
      refine wp_seq ?_
      refine S.drawn (keep := [0, 1, 5, 26]) (m := 0) (σ' := ⟨[(0, .v (slv (a).length pa.1)), (1, .v (slv (b).length pb.1)), (5, .v (I (k : Int))), (26, .v (B (!(decide ((el a k) = (el b k))))))], []⟩) (.cons (Q_idx (S.arg ha) (l := (a).length) (k := k) (i := (k : Int)) rfl rfl (by omega) Go.Proofs.Try.underlying22 (by kernel_rfl)) (.cons (Q_el1 (S.arg ha) (t := 42) (k := k) (by omega) rfl (by kernel_rfl)) (.cons (Q_idx (S.arg hb) (l := (b).length) (k := k) (i := (k : Int)) rfl rfl (by omega) Go.Proofs.Try.underlying22 (by kernel_rfl)) (.cons (Q_el1 (S.arg hb) (t := 42) (k := k) (by omega) rfl (by kernel_rfl)) (.cons (Q_call fun w hw => c_laws_eqIntS w (el a k) (pa.2 k) (rd_of (LRd.el (S.arg ha) k (by omega)) hw) (el b k) (pb.2 k) (rd_of (LRd.el (S.arg hb) k (by omega)) hw)) .nil))))) rfl (by kernel_rfl) (by kernel_rfl) ?_
      clear S; intro ac w S
      refine id (nx_then ?_)
      refine S.cond (e := (!(decide ((el a k) = (el b k))))) (by kernel_rfl) (fun h6 => ?_) (fun h6 => ?_)
      · have h7 : (decide ((el a k) = (el b k))) = false := not_t h6
        have g8 := of_decide_eq_false h7
        refine wp_seq ?_
        refine RG.start ?_
        refine S.quiet (k := 1) (keep := [4]) (m := 0) (σ' := ⟨[(4, .v (B false))], []⟩) .nil (by kernel_rfl) ?_
        clear S; intro ac w β S
        refine RG.done rfl (nx_then ?_)
        refine wp_ret (rt_block (rt_then (rt_then (rt_block (rt_then ?_)))))
        refine S.ret (vs := [B false]) (by kernel_rfl) ?_
        exact ⟨retB (show false = decide (a = b) by clear S; first | (simp; intro e; subst e; simp_all; done) | (simp; rw [take_all (by omega), take_all (by omega)] at he; exact he) | (simp; exact take_ne (by simp_all))), S.chg⟩
      · have h9 : (decide ((el a k) = (el b k))) = true := not_f h6
        have g10 := of_decide_eq_true h9
        refine wp_skip (nx_block (nx_then ?_))
        refine RG.start ?_
        refine S.quiet (k := 3) (keep := [0, 1, 5]) (m := 0) (σ' := ⟨[(0, .v (slv (a).length pa.1)), (1, .v (slv (b).length pb.1)), (5, .v (I ((k : Int) + 1)))], []⟩) (.cons (Q_add (x := (k : Int)) (y := 1) ⟨by omega, by omega⟩) .nil) (by kernel_rfl) ?_
        clear S; intro ac w β S
        refine RG.done rfl (nx_then ?_)
        replace S := S.prune (keep := [0, 1, 5]) (m := 0) (σ' := ⟨[(0, .v (slv (a).length pa.1)), (1, .v (slv (b).length pb.1)), (5, .v (I ((k : Int) + 1)))], []⟩) (by kernel_rfl)
        refine ⟨a.length - (k + 1), by omega, k + 1, _, _, _, rfl, ?_, ?_, ?_, S.cast (by kernel_rfl)⟩
        · clear S; first | omega | (simp [*]; done) | (simp [*]; omega)
        · clear S; first | omega | (simp [*]; done) | (simp [*]; omega)
        · clear S; exact take_eq_step (by omega) (by omega) he (by simp_all)
    · have g11 : ¬ ((k : Int) < ((a).length : Int)) := of_decide_eq_false h4
      refine wp_exit (ex_then (ex_then (ex_hit (nx_then ?_))))
      refine wp_seq ?_
      refine RG.start ?_
      refine S.quiet (k := 1) (keep := [4]) (m := 0) (σ' := ⟨[(4, .v (B true))], []⟩) .nil (by kernel_rfl) ?_
      clear S; intro ac w β S
      refine RG.done rfl (nx_then ?_)
      refine wp_ret ?_
      refine S.ret (vs := [B true]) (by kernel_rfl) ?_
      exact ⟨retB (show true = decide (a = b) by clear S; first | (simp; intro e; subst e; simp_all; done) | (simp; rw [take_all (by omega), take_all (by omega)] at he; exact he) | (simp; exact take_ne (by simp_all))), S.chg⟩

set_option maxRecDepth 100000 in
theorem c_laws_eqBoolS (w0 : World) (a : List Bool) (pa : LP Bool) (ha : GT.rd KK (Lt w0.heap.size) w0 a pa) (b : List Bool) (pb : LP Bool) (hb : GT.rd KK (Lt w0.heap.size) w0 b pb) : Calls Go.Proofs.Try.prog 69 [slv (a).length pa.1, slv (b).length pb.1].toArray w0 (fun e w' => e = .returned (B (decide (a = b))) ∧ Chg NoB w0 w') := by
  refine Calls.walk (args := [slv (a).length pa.1, slv (b).length pb.1]) NoB Go.Proofs.Try.func69 rfl rfl ?_
  intro ac β S
  have hlea : a.length ≤ 4194304 := LRd.le ha
  have hleb : b.length ≤ 4194304 := LRd.le hb
  refine wp_seq ?_
  refine RG.start ?_
  refine S.quiet (k := 1) (keep := [0, 1]) (m := 0) (σ' := ⟨[(0, .v (slv (a).length pa.1)), (1, .v (slv (b).length pb.1))], []⟩) .nil (by kernel_rfl) ?_
  clear S; intro ac w β S
  refine RG.done rfl (nx_then ?_)
  refine wp_seq ?_
  refine wp_seq ?_
  refine RG.start ?_
  refine S.quiet (k := 5) (keep := [0, 1, 10]) (m := 0) (σ' := ⟨[(0, .v (slv (a).length pa.1)), (1, .v (slv (b).length pb.1)), (10, .v (B (((a).length : Int) != ((b).length : Int))))], []⟩) .nil (by kernel_rfl) ?_
  clear S; intro ac w β S
  refine RG.done rfl (nx_then ?_)
  refine S.cond (e := (((a).length : Int) != ((b).length : Int))) (by kernel_rfl) (fun h1 => ?_) (fun h1 => ?_)
  · have g2 : ¬ (((a).length : Int) = ((b).length : Int)) := bne_iff_ne.1 h1
    refine wp_seq ?_
    refine RG.start ?_
    refine S.quiet (k := 1) (keep := [4]) (m := 0) (σ' := ⟨[(4, .v (B false))], []⟩) .nil (by kernel_rfl) ?_
    clear S; intro ac w β S
    refine RG.done rfl (nx_then ?_)
    refine wp_ret (rt_then ?_)
    refine S.ret (vs := [B false]) (by kernel_rfl) ?_
    exact ⟨retB (show false = decide (a = b) by clear S; first | (simp; intro e; subst e; simp_all; done) | (simp; rw [take_all (by omega), take_all (by omega)] at he; exact he) | (simp; exact take_ne (by simp_all))), S.chg⟩
  · have g3 : ((a).length : Int) = ((b).length : Int) := ne_f h1
    refine wp_skip (nx_then ?_)
    refine wp_seq ?_
    refine wp_seq ?_
    refine RG.start ?_
    refine S.quiet (k := 1) (keep := [0, 1, 5]) (m := 0) (σ' := ⟨[(0, .v (slv (a).length pa.1)), (1, .v (slv (b).length pb.1)), (5, .v (I 0))], []⟩) .nil (by kernel_rfl) ?_
    clear S; intro ac w β S
    refine RG.done rfl (nx_then ?_)
    refine wp_block ?_
    replace S := S.prune (keep := [0, 1, 5]) (m := 0) (σ' := ⟨[(0, .v (slv (a).length pa.1)), (1, .v (slv (b).length pb.1)), (5, .v (I 0))], []⟩) (by kernel_rfl)
    refine wp_loop_down (fun mm ac w => ∃ (k : Nat)  (u : World) (N : Bl) (β : Nat → Nat), mm = a.length - k ∧ (k ≤ a.length) ∧ (a.length = b.length) ∧ (a.take k = b.take k) ∧ St Go.Proofs.Try.prog Go.Proofs.Try.f69.ntmps w0 NoB u N β ⟨[(0, .v (slv (a).length pa.1)), (1, .v (slv (b).length pb.1)), (5, .v (I (k : Int)))], []⟩ ac w) _ ⟨0, _, _, _, rfl, (by first | omega | (simp; done) | (simp; omega)), (by first | omega | (simp; done) | (simp; omega)), (by simp), S.cast (by kernel_rfl)⟩ ?_
    clear S
    rintro mm ac w ⟨k, u, N, β, rfl, hk, hab, he, S⟩
    refine wp_seq ?_
    refine wp_seq ?_
    refine RG.start ?_
    refine S.quiet (k := 4) (keep := [0, 1, 5, 14]) (m := 0) (σ' := ⟨[(0, .v (slv (a).length pa.1)), (1, .v (slv (b).length pb.1)), (5, .v (I (k : Int))), (14, .v (B (decide ((k : Int) < ((a).length : Int)))))], []⟩) .nil (by kernel_rfl) ?_
    clear S; intro ac w β S
    refine RG.done rfl (nx_then ?_)
    refine S.cond (e := (decide ((k : Int) < ((a).length : Int)))) (by kernel_rfl) (fun h4 => ?_) (fun h4 => ?_)
    · have g5 : (k : Int) < ((a).length : Int) := of_decide_eq_true h4
      refine wp_skip (nx_then ?_)
      refine wp_seq ?_
      refine wp_block ?_
      refine wp_seq ?_
      refine S.drawn (keep := [0, 1, 5, 25]) (m := 0) (σ' := ⟨[(0, .v (slv (a).length pa.1)), (1, .v (slv (b).length pb.1)), (5, .v (I (k : Int))), (25, .v (B (!((el a k) == (el b k)))))], []⟩) (.cons (Q_idx (S.arg ha) (l := (a).length) (k := k) (i := (k : Int)) rfl rfl (by omega) Go.Proofs.Try.underlying40 (by kernel_rfl)) (.cons (Q_el1 (S.arg ha) (t := 4) (k := k) (by omega) rfl (by kernel_rfl)) (.cons (Q_idx (S.arg hb) (l := (b).length) (k := k) (i := (k : Int)) rfl rfl (by omega) Go.Proofs.Try.underlying40 (by kernel_rfl)) (.cons (Q_el1 (S.arg hb) (t := 4) (k := k) (by omega) rfl (by kernel_rfl)) .nil)))) rfl (by kernel_rfl) (by kernel_rfl) ?_
      clear S; intro ac w S
      refine id (nx_then ?_)
      refine S.cond (e := (!((el a k) == (el b k)))) (by kernel_rfl) (fun h6 => ?_) (fun h6 => ?_)
      · have h7 : ((el a k) == (el b k)) = false := not_t h6
        refine wp_seq ?_
        refine RG.start ?_
        refine S.quiet (k := 1) (keep := [4]) (m := 0) (σ' := ⟨[(4, .v (B false))], []⟩) .nil (by kernel_rfl) ?_
        clear S; intro ac w β S
        refine RG.done rfl (nx_then ?_)
        refine wp_ret (rt_block (rt_then (rt_then (rt_block (rt_then ?_)))))
        refine S.ret (vs := [B false]) (by kernel_rfl) ?_
        exact ⟨retB (show false = decide (a = b) by clear S; first | (simp; intro e; subst e; simp_all; done) | (simp; rw [take_all (by omega), take_all (by omega)] at he; exact he) | (simp; exact take_ne (by simp_all))), S.chg⟩
      · have h8 : ((el a k) == (el b k)) = true := not_f h6
        refine wp_skip (nx_block (nx_then ?_))
        refine RG.start ?_
        refine S.quiet (k := 3) (keep := [0, 1, 5]) (m := 0) (σ' := ⟨[(0, .v (slv (a).length pa.1)), (1, .v (slv (b).length pb.1)), (5, .v (I ((k : Int) + 1)))], []⟩) (.cons (Q_add (x := (k : Int)) (y := 1) ⟨by omega, by omega⟩) .nil) (by kernel_rfl) ?_
        clear S; intro ac w β S
        refine RG.done rfl (nx_then ?_)
        replace S := S.prune (keep := [0, 1, 5]) (m := 0) (σ' := ⟨[(0, .v (slv (a).length pa.1)), (1, .v (slv (b).length pb.1)), (5, .v (I ((k : Int) + 1)))], []⟩) (by kernel_rfl)
        refine ⟨a.length - (k + 1), by omega, k + 1, _, _, _, rfl, ?_, ?_, ?_, S.cast (by kernel_rfl)⟩
        · clear S; first | omega | (simp [*]; done) | (simp [*]; omega)
        · clear S; first | omega | (simp [*]; done) | (simp [*]; omega)
        · clear S; exact take_eq_step (by omega) (by omega) he (by simp_all)
    · have g9 : ¬ ((k : Int) < ((a).length : Int)) := of_decide_eq_false h4
      refine wp_exit (ex_then (ex_then (ex_hit (nx_then ?_))))
      refine wp_seq ?_
      refine RG.start ?_
      refine S.quiet (k := 1) (keep := [4]) (m := 0) (σ' := ⟨[(4, .v (B true))], []⟩) .nil (by kernel_rfl) ?_
      clear S; intro ac w β S
      refine RG.done rfl (nx_then ?_)
      refine wp_ret ?_
      refine S.ret (vs := [B true]) (by kernel_rfl) ?_
      exact ⟨retB (show true = decide (a = b) by clear S; first | (simp; intro e; subst e; simp_all; done) | (simp; rw [take_all (by omega), take_all (by omega)] at he; exact he) | (simp; exact take_ne (by simp_all))), S.chg⟩

set_option maxRecDepth 100000 in
theorem c_laws_eqIns (w0 : World) (a : TIns) (b : TIns) : Calls Go.Proofs.Try.prog 128 [GT.val (α := TIns) a (), GT.val (α := TIns) b ()].toArray w0 (fun e w' => e = .returned (B (decide (a = b))) ∧ Chg NoB w0 w') := by
  refine Calls.walk (args := [GT.val (α := TIns) a (), GT.val (α := TIns) b ()]) NoB Go.Proofs.Try.func128 rfl rfl ?_
  intro ac β S
  refine wp_seq ?_
  refine RG.start ?_
  refine S.quiet (k := 3) (keep := [2, 3]) (m := 2) (σ' := ⟨[(2, .p 0 0), (3, .p 1 0)], [GT.cells (α := TIns) a (), GT.cells (α := TIns) b ()]⟩) .nil (by kernel_rfl) ?_
  clear S; intro ac w β S
  refine RG.done rfl (nx_then ?_)
  refine wp_seq ?_
  refine wp_seq ?_
  refine RG.start ?_
  refine S.quiet (k := 5) (keep := [2, 3, 9]) (m := 2) (σ' := ⟨[(2, .p 0 0), (3, .p 1 0), (9, .v (B (a.opc != b.opc)))], [GT.cells (α := TIns) a (), GT.cells (α := TIns) b ()]⟩) .nil (by kernel_rfl) ?_
  clear S; intro ac w β S
  refine RG.done rfl (nx_then ?_)
  refine S.cond (e := (a.opc != b.opc)) (by kernel_rfl) (fun h1 => ?_) (fun h1 => ?_)
  · have g2 : ¬ (a.opc = b.opc) := bne_iff_ne.1 h1
    refine wp_seq ?_
    refine RG.start ?_
    refine S.quiet (k := 1) (keep := [4]) (m := 0) (σ' := ⟨[(4, .v (B false))], []⟩) .nil (by kernel_rfl) ?_
    clear S; intro ac w β S
    refine RG.done rfl (nx_then ?_)
    refine wp_ret (rt_then ?_)
    refine S.ret (vs := [B false]) (by kernel_rfl) ?_
    exact ⟨retB (show false = decide (a = b) by clear S; first | (simp [TIns.ext_iff, *]; done) | (simp_all [TIns.ext_iff]; done)), S.chg⟩
  · have g3 : a.opc = b.opc := ne_f h1
    refine wp_skip (nx_then ?_)
    refine wp_seq ?_
    refine wp_seq ?_
    refine RG.start ?_
    refine S.quiet (k := 5) (keep := [14]) (m := 0) (σ' := ⟨[(14, .v (B (a.x != b.x)))], []⟩) .nil (by kernel_rfl) ?_
    clear S; intro ac w β S
    refine RG.done rfl (nx_then ?_)
    refine S.cond (e := (a.x != b.x)) (by kernel_rfl) (fun h4 => ?_) (fun h4 => ?_)
    · have g5 : ¬ (a.x = b.x) := bne_iff_ne.1 h4
      refine wp_seq ?_
      refine RG.start ?_
      refine S.quiet (k := 1) (keep := [4]) (m := 0) (σ' := ⟨[(4, .v (B false))], []⟩) .nil (by kernel_rfl) ?_
      clear S; intro ac w β S
      refine RG.done rfl (nx_then ?_)
      refine wp_ret (rt_then ?_)
      refine S.ret (vs := [B false]) (by kernel_rfl) ?_
      exact ⟨retB (show false = decide (a = b) by clear S; first | (simp [TIns.ext_iff, *]; done) | (simp_all [TIns.ext_iff]; done)), S.chg⟩
    · have g6 : a.x = b.x := ne_f h4
      refine wp_skip (nx_then ?_)
      refine wp_seq ?_
      refine RG.start ?_
      refine S.quiet (k := 1) (keep := [4]) (m := 0) (σ' := ⟨[(4, .v (B true))], []⟩) .nil (by kernel_rfl) ?_
      clear S; intro ac w β S
      refine RG.done rfl (nx_then ?_)
      refine wp_ret ?_
      refine S.ret (vs := [B true]) (by kernel_rfl) ?_
      exact ⟨retB (show true = decide (a = b) by clear S; first | (simp [TIns.ext_iff, *]; done) | (simp_all [TIns.ext_iff]; done)), S.chg⟩

set_option maxRecDepth 100000 in
theorem c_laws_eqInsS (w0 : World) (a : List TIns) (pa : LP TIns) (ha : GT.rd KK (Lt w0.heap.size) w0 a pa) (b : List TIns) (pb : LP TIns) (hb : GT.rd KK (Lt w0.heap.size) w0 b pb) : Calls Go.Proofs.Try.prog 115 [slv (a).length pa.1, slv (b).length pb.1].toArray w0 (fun e w' => e = .returned (B (decide (a = b))) ∧ Chg NoB w0 w') := by
  refine Calls.walk (args := [slv (a).length pa.1, slv (b).length pb.1]) NoB Go.Proofs.Try.func115 rfl rfl ?_
  intro ac β S
  have hlea : a.length ≤ 4194304 := LRd.le ha
  have hleb : b.length ≤ 4194304 := LRd.le hb
  refine wp_seq ?_
  refine RG.start ?_
  refine S.quiet (k := 1) (keep := [0, 1]) (m := 0) (σ' := ⟨[(0, .v (slv (a).length pa.1)), (1, .v (slv (b).length pb.1))], []⟩) .nil (by kernel_rfl) ?_
  clear S; intro ac w β S
  refine RG.done rfl (nx_then ?_)
  refine wp_seq ?_
  refine wp_seq ?_
  refine RG.start ?_
  refine S.quiet (k := 5) (keep := [0, 1, 10]) (m := 0) (σ' := ⟨[(0, .v (slv (a).length pa.1)), (1, .v (slv (b).length pb.1)), (10, .v (B (((a).length : Int) != ((b).length : Int))))], []⟩) .nil (by kernel_rfl) ?_
  clear S; intro ac w β S
  refine RG.done rfl (nx_then ?_)
  refine S.cond (e := (((a).length : Int) != ((b).length : Int))) (by kernel_rfl) (fun h1 => ?_) (fun h1 => ?_)
  · have g2 : ¬ (((a).length : Int) = ((b).length : Int)) := bne_iff_ne.1 h1
    refine wp_seq ?_
    refine RG.start ?_
    refine S.quiet (k := 1) (keep := [4]) (m := 0) (σ' := ⟨[(4, .v (B false))], []⟩) .nil (by kernel_rfl) ?_
    clear S; intro ac w β S
    refine RG.done rfl (nx_then ?_)
    refine wp_ret (rt_then ?_)
    refine S.ret (vs := [B false]) (by kernel_rfl) ?_
    exact ⟨retB (show false = decide (a = b) by clear S; first | (simp; intro e; subst e; simp_all; done) | (simp; rw [take_all (by omega), take_all (by omega)] at he; exact he) | (simp; exact take_ne (by simp_all))), S.chg⟩
  · have g3 : ((a).length : Int) = ((b).length : Int) := ne_f h1
    refine wp_skip (nx_then ?_)
    refine wp_seq ?_
    refine wp_seq ?_
    refine RG.start ?_
    refine S.quiet (k := 1) (keep := [0, 1, 5]) (m := 0) (σ' := ⟨[(0, .v (slv (a).length pa.1)), (1, .v (slv (b).length pb.1)), (5, .v (I 0))], []⟩) .nil (by kernel_rfl) ?_
    clear S; intro ac w β S
    refine RG.done rfl (nx_then ?_)
    refine wp_block ?_
    replace S := S.prune (keep := [0, 1, 5]) (m := 0) (σ' := ⟨[(0, .v (slv (a).length pa.1)), (1, .v (slv (b).length pb.1)), (5, .v (I 0))], []⟩) (by kernel_rfl)
    refine wp_loop_down (fun mm ac w => ∃ (k : Nat)  (u : World) (N : Bl) (β : Nat → Nat), mm = a.length - k ∧ (k ≤ a.length) ∧ (a.length = b.length) ∧ (a.take k = b.take k) ∧ St Go.Proofs.Try.prog Go.Proofs.Try.f115.ntmps w0 NoB u N β ⟨[(0, .v (slv (a).length pa.1)), (1, .v (slv (b).length pb.1)), (5, .v (I (k : Int)))], []⟩ ac w) _ ⟨0, _, _, _, rfl, (by first | omega | (simp; done) | (simp; omega)), (by first | omega | (simp; done) | (simp; omega)), (by simp), S.cast (by kernel_rfl)⟩ ?_
    clear S
    rintro mm ac w ⟨k, u, N, β, rfl, hk, hab, he, S⟩
    refine wp_seq ?_
    refine wp_seq ?_
    refine RG.start ?_
    refine S.quiet (k := 4) (keep := [0, 1, 5, 14]) (m := 0) (σ' := ⟨[(0, .v (slv (a).length pa.1)), (1, .v (slv (b).length pb.1)), (5, .v (I (k : Int))), (14, .v (B (decide ((k : Int) < ((a).length : Int)))))], []⟩) .nil (by kernel_rfl) ?_
    clear S; intro ac w β S
    refine RG.done rfl (nx_then ?_)
    refine S.cond (e := (decide ((k : Int) < ((a).length : Int)))) (by kernel_rfl) (fun h4 => ?_) (fun h4 => ?_)
    · have g5 : (k : Int) < ((a).length : Int) := of_decide_eq_true h4
      refine wp_skip (nx_then ?_)
      refine wp_seq ?_
      refine wp_block ?_
      refine wp_seq ?_
      refine S.drawn (keep := [0, 1, 5, 26]) (m := 0) (σ' := ⟨[(0, .v (slv (a).length pa.1)), (1, .v (slv (b).length pb.1)), (5, .v (I (k : Int))), (26, .v (B (!(decide ((el a k) = (el b k))))))], []⟩) (.cons (Q_idx (S.arg ha) (l := (a).length) (k := k) (i := (k : Int)) rfl rfl (by omega) Go.Proofs.Try.underlying82 (by kernel_rfl)) (.cons (Q_el (S.arg ha) (t := 142) (k := k) (by omega) rfl (by kernel_rfl) (by kernel_rfl)) (.cons (Q_idx (S.arg hb) (l := (b).length) (k := k) (i := (k : Int)) rfl rfl (by omega) Go.Proofs.Try.underlying82 (by kernel_rfl)) (.cons (Q_el (S.arg hb) (t := 142) (k := k) (by omega) rfl (by kernel_rfl) (by kernel_rfl)) (.cons (Q_call fun w hw => c_laws_eqIns w (el a k) (el b k)) .nil))))) rfl (by kernel_rfl) (by kernel_rfl) ?_
      clear S; intro ac w S
      refine id (nx_then ?_)
      refine S.cond (e := (!(decide ((el a k) = (el b k))))) (by kernel_rfl) (fun h6 => ?_) (fun h6 => ?_)
      · have h7 : (decide ((el a k) = (el b k))) = false := not_t h6
        have g8 := of_decide_eq_false h7
        refine wp_seq ?_
        refine RG.start ?_
        refine S.quiet (k := 1) (keep := [4]) (m := 0) (σ' := ⟨[(4, .v (B false))], []⟩) .nil (by kernel_rfl) ?_
        clear S; intro ac w β S
        refine RG.done rfl (nx_then ?_)
        refine wp_ret (rt_block (rt_then (rt_then (rt_block (rt_then ?_)))))
        refine S.ret (vs := [B false]) (by kernel_rfl) ?_
        exact ⟨retB (show false = decide (a = b) by clear S; first | (simp; intro e; subst e; simp_all; done) | (simp; rw [take_all (by omega), take_all (by omega)] at he; exact he) | (simp; exact take_ne (by simp_all))), S.chg⟩
      · have h9 : (decide ((el a k) = (el b k))) = true := not_f h6
        have g10 := of_decide_eq_true h9
        refine wp_skip (nx_block (nx_then ?_))
        refine RG.start ?_
        refine S.quiet (k := 3) (keep := [0, 1, 5]) (m := 0) (σ' := ⟨[(0, .v (slv (a).length pa.1)), (1, .v (slv (b).length pb.1)), (5, .v (I ((k : Int) + 1)))], []⟩) (.cons (Q_add (x := (k : Int)) (y := 1) ⟨by omega, by omega⟩) .nil) (by kernel_rfl) ?_
        clear S; intro ac w β S
        refine RG.done rfl (nx_then ?_)
        replace S := S.prune (keep := [0, 1, 5]) (m := 0) (σ' := ⟨[(0, .v (slv (a).length pa.1)), (1, .v (slv (b).length pb.1)), (5, .v (I ((k : Int) + 1)))], []⟩) (by kernel_rfl)
        refine ⟨a.length - (k + 1), by omega, k + 1, _, _, _, rfl, ?_, ?_, ?_, S.cast (by kernel_rfl)⟩
        · clear S; first | omega | (simp [*]; done) | (simp [*]; omega)
        · clear S; first | omega | (simp [*]; done) | (simp [*]; omega)
        · clear S; exact take_eq_step (by omega) (by omega) he (by simp_all)
    · have g11 : ¬ ((k : Int) < ((a).length : Int)) := of_decide_eq_false h4
      refine wp_exit (ex_then (ex_then (ex_hit (nx_then ?_))))
      refine wp_seq ?_
      refine RG.start ?_
      refine S.quiet (k := 1) (keep := [4]) (m := 0) (σ' := ⟨[(4, .v (B true))], []⟩) .nil (by kernel_rfl) ?_
      clear S; intro ac w β S
      refine RG.done rfl (nx_then ?_)
      refine wp_ret ?_
      refine S.ret (vs := [B true]) (by kernel_rfl) ?_
      exact ⟨retB (show true = decide (a = b) by clear S; first | (simp; intro e; subst e; simp_all; done) | (simp; rw [take_all (by omega), take_all (by omega)] at he; exact he) | (simp; exact take_ne (by simp_all))), S.chg⟩

set_option maxRecDepth 100000 in
theorem c_laws_eqCtl (w0 : World) (a : TCtl) (b : TCtl) : Calls Go.Proofs.Try.prog 116 [GT.val (α := TCtl) a (), GT.val (α := TCtl) b ()].toArray w0 (fun e w' => e = .returned (B (decide (a = b))) ∧ Chg NoB w0 w') := by
  refine Calls.walk (args := [GT.val (α := TCtl) a (), GT.val (α := TCtl) b ()]) NoB Go.Proofs.Try.func116 rfl rfl ?_
  intro ac β S
  refine wp_seq ?_
  refine RG.start ?_
  refine S.quiet (k := 3) (keep := [2, 3]) (m := 2) (σ' := ⟨[(2, .p 0 0), (3, .p 1 0)], [GT.cells (α := TCtl) a (), GT.cells (α := TCtl) b ()]⟩) .nil (by kernel_rfl) ?_
  clear S; intro ac w β S
  refine RG.done rfl (nx_then ?_)
  refine wp_seq ?_
  refine wp_seq ?_
  refine RG.start ?_
  refine S.quiet (k := 5) (keep := [2, 3, 9]) (m := 2) (σ' := ⟨[(2, .p 0 0), (3, .p 1 0), (9, .v (B (a.traps != b.traps)))], [GT.cells (α := TCtl) a (), GT.cells (α := TCtl) b ()]⟩) .nil (by kernel_rfl) ?_
  clear S; intro ac w β S
  refine RG.done rfl (nx_then ?_)
  refine S.cond (e := (a.traps != b.traps)) (by kernel_rfl) (fun h1 => ?_) (fun h1 => ?_)
  · have g2 : ¬ (a.traps = b.traps) := bne_iff_ne.1 h1
    refine wp_seq ?_
    refine RG.start ?_
    refine S.quiet (k := 1) (keep := [4]) (m := 0) (σ' := ⟨[(4, .v (B false))], []⟩) .nil (by kernel_rfl) ?_
    clear S; intro ac w β S
    refine RG.done rfl (nx_then ?_)
    refine wp_ret (rt_then ?_)
    refine S.ret (vs := [B false]) (by kernel_rfl) ?_
    exact ⟨retB (show false = decide (a = b) by clear S; first | (simp [TCtl.ext_iff, *]; done) | (simp_all [TCtl.ext_iff]; done)), S.chg⟩
  · have g3 : a.traps = b.traps := ne_f h1
    refine wp_skip (nx_then ?_)
    refine wp_seq ?_
    refine wp_seq ?_
    refine RG.start ?_
    refine S.quiet (k := 5) (keep := [2, 3, 14]) (m := 2) (σ' := ⟨[(2, .p 0 0), (3, .p 1 0), (14, .v (B (a.post != b.post)))], [GT.cells (α := TCtl) a (), GT.cells (α := TCtl) b ()]⟩) .nil (by kernel_rfl) ?_
    clear S; intro ac w β S
    refine RG.done rfl (nx_then ?_)
    refine S.cond (e := (a.post != b.post)) (by kernel_rfl) (fun h4 => ?_) (fun h4 => ?_)
    · have g5 : ¬ (a.post = b.post) := bne_iff_ne.1 h4
      refine wp_seq ?_
      refine RG.start ?_
      refine S.quiet (k := 1) (keep := [4]) (m := 0) (σ' := ⟨[(4, .v (B false))], []⟩) .nil (by kernel_rfl) ?_
      clear S; intro ac w β S
      refine RG.done rfl (nx_then ?_)
      refine wp_ret (rt_then ?_)
      refine S.ret (vs := [B false]) (by kernel_rfl) ?_
      exact ⟨retB (show false = decide (a = b) by clear S; first | (simp [TCtl.ext_iff, *]; done) | (simp_all [TCtl.ext_iff]; done)), S.chg⟩
    · have g6 : a.post = b.post := ne_f h4
      refine wp_skip (nx_then ?_)
      refine wp_seq ?_
      refine wp_seq ?_
      refine RG.start ?_
      refine S.quiet (k := 5) (keep := [19]) (m := 0) (σ' := ⟨[(19, .v (B (!(a.opn == b.opn))))], []⟩) .nil (by kernel_rfl) ?_
      clear S; intro ac w β S
      refine RG.done rfl (nx_then ?_)
      refine S.cond (e := (!(a.opn == b.opn))) (by kernel_rfl) (fun h7 => ?_) (fun h7 => ?_)
      · have h8 : (a.opn == b.opn) = false := not_t h7
        refine wp_seq ?_
        refine RG.start ?_
        refine S.quiet (k := 1) (keep := [4]) (m := 0) (σ' := ⟨[(4, .v (B false))], []⟩) .nil (by kernel_rfl) ?_
        clear S; intro ac w β S
        refine RG.done rfl (nx_then ?_)
        refine wp_ret (rt_then ?_)
        refine S.ret (vs := [B false]) (by kernel_rfl) ?_
        exact ⟨retB (show false = decide (a = b) by clear S; first | (simp [TCtl.ext_iff, *]; done) | (simp_all [TCtl.ext_iff]; done)), S.chg⟩
      · have h9 : (a.opn == b.opn) = true := not_f h7
        refine wp_skip (nx_then ?_)
        refine wp_seq ?_
        refine RG.start ?_
        refine S.quiet (k := 1) (keep := [4]) (m := 0) (σ' := ⟨[(4, .v (B true))], []⟩) .nil (by kernel_rfl) ?_
        clear S; intro ac w β S
        refine RG.done rfl (nx_then ?_)
        refine wp_ret ?_
        refine S.ret (vs := [B true]) (by kernel_rfl) ?_
        exact ⟨retB (show true = decide (a = b) by clear S; first | (simp [TCtl.ext_iff, *]; done) | (simp_all [TCtl.ext_iff]; done)), S.chg⟩

set_option maxRecDepth 100000 in
theorem c_laws_eqExit (w0 : World) (a : TExit) (b : TExit) : Calls Go.Proofs.Try.prog 117 [GT.val (α := TExit) a (), GT.val (α := TExit) b ()].toArray w0 (fun e w' => e = .returned (B (decide (a = b))) ∧ Chg NoB w0 w') := by
  refine Calls.walk (args := [GT.val (α := TExit) a (), GT.val (α := TExit) b ()]) NoB Go.Proofs.Try.func117 rfl rfl ?_
  intro ac β S
  refine wp_seq ?_
  refine RG.start ?_
  refine S.quiet (k := 3) (keep := [2, 3]) (m := 2) (σ' := ⟨[(2, .p 0 0), (3, .p 1 0)], [GT.cells (α := TExit) a (), GT.cells (α := TExit) b ()]⟩) .nil (by kernel_rfl) ?_
  clear S; intro ac w β S
  refine RG.done rfl (nx_then ?_)
  refine wp_seq ?_
  refine wp_seq ?_
  refine RG.start ?_
  refine S.quiet (k := 5) (keep := [2, 3, 9]) (m := 2) (σ' := ⟨[(2, .p 0 0), (3, .p 1 0), (9, .v (B (a.kind != b.kind)))], [GT.cells (α := TExit) a (), GT.cells (α := TExit) b ()]⟩) .nil (by kernel_rfl) ?_
  clear S; intro ac w β S
  refine RG.done rfl (nx_then ?_)
  refine S.cond (e := (a.kind != b.kind)) (by kernel_rfl) (fun h1 => ?_) (fun h1 => ?_)
  · have g2 : ¬ (a.kind = b.kind) := bne_iff_ne.1 h1
    refine wp_seq ?_
    refine RG.start ?_
    refine S.quiet (k := 1) (keep := [4]) (m := 0) (σ' := ⟨[(4, .v (B false))], []⟩) .nil (by kernel_rfl) ?_
    clear S; intro ac w β S
    refine RG.done rfl (nx_then ?_)
    refine wp_ret (rt_then ?_)
    refine S.ret (vs := [B false]) (by kernel_rfl) ?_
    exact ⟨retB (show false = decide (a = b) by clear S; first | (simp [TExit.ext_iff, *]; done) | (simp_all [TExit.ext_iff]; done)), S.chg⟩
  · have g3 : a.kind = b.kind := ne_f h1
    refine wp_skip (nx_then ?_)
    refine wp_seq ?_
    refine wp_seq ?_
    refine RG.start ?_
    refine S.quiet (k := 5) (keep := [2, 3, 14]) (m := 2) (σ' := ⟨[(2, .p 0 0), (3, .p 1 0), (14, .v (B (a.page != b.page)))], [GT.cells (α := TExit) a (), GT.cells (α := TExit) b ()]⟩) .nil (by kernel_rfl) ?_
    clear S; intro ac w β S
    refine RG.done rfl (nx_then ?_)
    refine S.cond (e := (a.page != b.page)) (by kernel_rfl) (fun h4 => ?_) (fun h4 => ?_)
    · have g5 : ¬ (a.page = b.page) := bne_iff_ne.1 h4
      refine wp_seq ?_
      refine RG.start ?_
      refine S.quiet (k := 1) (keep := [4]) (m := 0) (σ' := ⟨[(4, .v (B false))], []⟩) .nil (by kernel_rfl) ?_
      clear S; intro ac w β S
      refine RG.done rfl (nx_then ?_)
      refine wp_ret (rt_then ?_)
      refine S.ret (vs := [B false]) (by kernel_rfl) ?_
      exact ⟨retB (show false = decide (a = b) by clear S; first | (simp [TExit.ext_iff, *]; done) | (simp_all [TExit.ext_iff]; done)), S.chg⟩
    · have g6 : a.page = b.page := ne_f h4
      refine wp_skip (nx_then ?_)
      refine wp_seq ?_
      refine wp_seq ?_
      refine RG.start ?_
      refine S.quiet (k := 5) (keep := [2, 3, 19]) (m := 2) (σ' := ⟨[(2, .p 0 0), (3, .p 1 0), (19, .v (B (!(a.wr == b.wr))))], [GT.cells (α := TExit) a (), GT.cells (α := TExit) b ()]⟩) .nil (by kernel_rfl) ?_
      clear S; intro ac w β S
      refine RG.done rfl (nx_then ?_)
      refine S.cond (e := (!(a.wr == b.wr))) (by kernel_rfl) (fun h7 => ?_) (fun h7 => ?_)
      · have h8 : (a.wr == b.wr) = false := not_t h7
        refine wp_seq ?_
        refine RG.start ?_
        refine S.quiet (k := 1) (keep := [4]) (m := 0) (σ' := ⟨[(4, .v (B false))], []⟩) .nil (by kernel_rfl) ?_
        clear S; intro ac w β S
        refine RG.done rfl (nx_then ?_)
        refine wp_ret (rt_then ?_)
        refine S.ret (vs := [B false]) (by kernel_rfl) ?_
        exact ⟨retB (show false = decide (a = b) by clear S; first | (simp [TExit.ext_iff, *]; done) | (simp_all [TExit.ext_iff]; done)), S.chg⟩
      · have h9 : (a.wr == b.wr) = true := not_f h7
        refine wp_skip (nx_then ?_)
        refine wp_seq ?_
        refine wp_seq ?_
        refine RG.start ?_
        refine S.quiet (k := 5) (keep := [24]) (m := 0) (σ' := ⟨[(24, .v (B (a.n != b.n)))], []⟩) .nil (by kernel_rfl) ?_
        clear S; intro ac w β S
        refine RG.done rfl (nx_then ?_)
        refine S.cond (e := (a.n != b.n)) (by kernel_rfl) (fun h10 => ?_) (fun h10 => ?_)
        · have g11 : ¬ (a.n = b.n) := bne_iff_ne.1 h10
          refine wp_seq ?_
          refine RG.start ?_
          refine S.quiet (k := 1) (keep := [4]) (m := 0) (σ' := ⟨[(4, .v (B false))], []⟩) .nil (by kernel_rfl) ?_
          clear S; intro ac w β S
          refine RG.done rfl (nx_then ?_)
          refine wp_ret (rt_then ?_)
          refine S.ret (vs := [B false]) (by kernel_rfl) ?_
          exact ⟨retB (show false = decide (a = b) by clear S; first | (simp [TExit.ext_iff, *]; done) | (simp_all [TExit.ext_iff]; done)), S.chg⟩
        · have g12 : a.n = b.n := ne_f h10
          refine wp_skip (nx_then ?_)
          refine wp_seq ?_
          refine RG.start ?_
          refine S.quiet (k := 1) (keep := [4]) (m := 0) (σ' := ⟨[(4, .v (B true))], []⟩) .nil (by kernel_rfl) ?_
          clear S; intro ac w β S
          refine RG.done rfl (nx_then ?_)
          refine wp_ret ?_
          refine S.ret (vs := [B true]) (by kernel_rfl) ?_
          exact ⟨retB (show true = decide (a = b) by clear S; first | (simp [TExit.ext_iff, *]; done) | (simp_all [TExit.ext_iff]; done)), S.chg⟩

set_option maxRecDepth 100000 in
theorem c_laws_eqGuest (w0 : World) (a : TGuest) (pa : PGuest) (ha : GT.rd KK (Lt w0.heap.size) w0 a pa) (b : TGuest) (pb : PGuest) (hb : GT.rd KK (Lt w0.heap.size) w0 b pb) : Calls Go.Proofs.Try.prog 96 [GT.val (α := TGuest) a pa, GT.val (α := TGuest) b pb].toArray w0 (fun e w' => e = .returned (B (decide (a = b))) ∧ Chg NoB w0 w') := by
  refine Calls.walk (args := [GT.val (α := TGuest) a pa, GT.val (α := TGuest) b pb]) NoB Go.Proofs.Try.func96 rfl rfl ?_
  intro ac β S
  have hlea_prog : a.prog.length ≤ 4194304 := LRd.le (RGuest.prog (d := a) ha)
  have hlea_written : a.written.length ≤ 4194304 := LRd.le (RGuest.written (d := a) ha)
  have hlea_live : a.live.length ≤ 4194304 := LRd.le (RGuest.live (d := a) ha)
  have hlea_seen : a.seen.length ≤ 4194304 := LRd.le (RGuest.seen (d := a) ha)
  have hleb_prog : b.prog.length ≤ 4194304 := LRd.le (RGuest.prog (d := b) hb)
  have hleb_written : b.written.length ≤ 4194304 := LRd.le (RGuest.written (d := b) hb)
  have hleb_live : b.live.length ≤ 4194304 := LRd.le (RGuest.live (d := b) hb)
  have hleb_seen : b.seen.length ≤ 4194304 := LRd.le (RGuest.seen (d := b) hb)
  refine wp_seq ?_
  refine RG.start ?_
  refine S.quiet (k := 3) (keep := [2, 3]) (m := 2) (σ' := ⟨[(2, .p 0 0), (3, .p 1 0)], [GT.cells (α := TGuest) a pa, GT.cells (α := TGuest) b pb]⟩) .nil (by kernel_rfl) ?_
  clear S; intro ac w β S
  refine RG.done rfl (nx_then ?_)
  refine wp_seq ?_
  refine wp_seq ?_
  refine RG.start ?_
  refine S.quiet (k := 6) (keep := [2, 3, 10]) (m := 2) (σ' := ⟨[(2, .p 0 0), (3, .p 1 0), (10, .v (B (!(decide (a.prog = b.prog)))))], [GT.cells (α := TGuest) a pa, GT.cells (α := TGuest) b pb]⟩) (.cons (Q_call fun w hw => c_laws_eqInsS w a.prog pa.prog (rd_of (RGuest.prog (d := a) (S.arg ha)) hw) b.prog pb.prog (rd_of (RGuest.prog (d := b) (S.arg hb)) hw)) .nil) (by kernel_rfl) ?_
  clear S; intro ac w β S
  refine RG.done rfl (nx_then ?_)
  refine S.cond (e := (!(decide (a.prog = b.prog)))) (by kernel_rfl) (fun h1 => ?_) (fun h1 => ?_)
  · have h2 : (decide (a.prog = b.prog)) = false := not_t h1
    have g3 := of_decide_eq_false h2
    refine wp_seq ?_
    refine RG.start ?_
    refine S.quiet (k := 1) (keep := [4]) (m := 0) (σ' := ⟨[(4, .v (B false))], []⟩) .nil (by kernel_rfl) ?_
    clear S; intro ac w β S
    refine RG.done rfl (nx_then ?_)
    refine wp_ret (rt_then ?_)
    refine S.ret (vs := [B false]) (by kernel_rfl) ?_
    exact ⟨retB (show false = decide (a = b) by clear S; first | (simp [TGuest.ext_iff, *]; done) | (simp_all [TGuest.ext_iff]; done)), S.chg⟩
  · have h4 : (decide (a.prog = b.prog)) = true := not_f h1
    have g5 := of_decide_eq_true h4
    refine wp_skip (nx_then ?_)
    refine wp_seq ?_
    refine wp_seq ?_
    refine RG.start ?_
    refine S.quiet (k := 5) (keep := [2, 3, 15]) (m := 2) (σ' := ⟨[(2, .p 0 0), (3, .p 1 0), (15, .v (B (a.acc != b.acc)))], [GT.cells (α := TGuest) a pa, GT.cells (α := TGuest) b pb]⟩) .nil (by kernel_rfl) ?_
    clear S; intro ac w β S
    refine RG.done rfl (nx_then ?_)
    refine S.cond (e := (a.acc != b.acc)) (by kernel_rfl) (fun h6 => ?_) (fun h6 => ?_)
    · have g7 : ¬ (a.acc = b.acc) := bne_iff_ne.1 h6
      refine wp_seq ?_
      refine RG.start ?_
      refine S.quiet (k := 1) (keep := [4]) (m := 0) (σ' := ⟨[(4, .v (B false))], []⟩) .nil (by kernel_rfl) ?_
      clear S; intro ac w β S
      refine RG.done rfl (nx_then ?_)
      refine wp_ret (rt_then ?_)
      refine S.ret (vs := [B false]) (by kernel_rfl) ?_
      exact ⟨retB (show false = decide (a = b) by clear S; first | (simp [TGuest.ext_iff, *]; done) | (simp_all [TGuest.ext_iff]; done)), S.chg⟩
    · have g8 : a.acc = b.acc := ne_f h6
      refine wp_skip (nx_then ?_)
      refine wp_seq ?_
      refine wp_seq ?_
      refine RG.start ?_
      refine S.quiet (k := 5) (keep := [2, 3, 20]) (m := 2) (σ' := ⟨[(2, .p 0 0), (3, .p 1 0), (20, .v (B (a.pc != b.pc)))], [GT.cells (α := TGuest) a pa, GT.cells (α := TGuest) b pb]⟩) .nil (by kernel_rfl) ?_
      clear S; intro ac w β S
      refine RG.done rfl (nx_then ?_)
      refine S.cond (e := (a.pc != b.pc)) (by kernel_rfl) (fun h9 => ?_) (fun h9 => ?_)
      · have g10 : ¬ (a.pc = b.pc) := bne_iff_ne.1 h9
        refine wp_seq ?_
        refine RG.start ?_
        refine S.quiet (k := 1) (keep := [4]) (m := 0) (σ' := ⟨[(4, .v (B false))], []⟩) .nil (by kernel_rfl) ?_
        clear S; intro ac w β S
        refine RG.done rfl (nx_then ?_)
        refine wp_ret (rt_then ?_)
        refine S.ret (vs := [B false]) (by kernel_rfl) ?_
        exact ⟨retB (show false = decide (a = b) by clear S; first | (simp [TGuest.ext_iff, *]; done) | (simp_all [TGuest.ext_iff]; done)), S.chg⟩
      · have g11 : a.pc = b.pc := ne_f h9
        refine wp_skip (nx_then ?_)
        refine wp_seq ?_
        refine wp_seq ?_
        refine RG.start ?_
        refine S.quiet (k := 6) (keep := [2, 3, 26]) (m := 2) (σ' := ⟨[(2, .p 0 0), (3, .p 1 0), (26, .v (B (!(decide (a.written = b.written)))))], [GT.cells (α := TGuest) a pa, GT.cells (α := TGuest) b pb]⟩) (.cons (Q_call fun w hw => c_laws_eqSlotS w a.written pa.written (rd_of (RGuest.written (d := a) (S.arg ha)) hw) b.written pb.written (rd_of (RGuest.written (d := b) (S.arg hb)) hw)) .nil) (by kernel_rfl) ?_
        clear S; intro ac w β S
        refine RG.done rfl (nx_then ?_)
        refine S.cond (e := (!(decide (a.written = b.written)))) (by kernel_rfl) (fun h12 => ?_) (fun h12 => ?_)
        · have h13 : (decide (a.written = b.written)) = false := not_t h12
          have g14 := of_decide_eq_false h13
          refine wp_seq ?_
          refine RG.start ?_
          refine S.quiet (k := 1) (keep := [4]) (m := 0) (σ' := ⟨[(4, .v (B false))], []⟩) .nil (by kernel_rfl) ?_
          clear S; intro ac w β S
          refine RG.done rfl (nx_then ?_)
          refine wp_ret (rt_then ?_)
          refine S.ret (vs := [B false]) (by kernel_rfl) ?_
          exact ⟨retB (show false = decide (a = b) by clear S; first | (simp [TGuest.ext_iff, *]; done) | (simp_all [TGuest.ext_iff]; done)), S.chg⟩
        · have h15 : (decide (a.written = b.written)) = true := not_f h12
          have g16 := of_decide_eq_true h15
          refine wp_skip (nx_then ?_)
          refine wp_seq ?_
          refine wp_seq ?_
          refine RG.start ?_
          refine S.quiet (k := 6) (keep := [2, 3, 32]) (m := 2) (σ' := ⟨[(2, .p 0 0), (3, .p 1 0), (32, .v (B (!(decide (a.live = b.live)))))], [GT.cells (α := TGuest) a pa, GT.cells (α := TGuest) b pb]⟩) (.cons (Q_call fun w hw => c_laws_eqSlotS w a.live pa.live (rd_of (RGuest.live (d := a) (S.arg ha)) hw) b.live pb.live (rd_of (RGuest.live (d := b) (S.arg hb)) hw)) .nil) (by kernel_rfl) ?_
          clear S; intro ac w β S
          refine RG.done rfl (nx_then ?_)
          refine S.cond (e := (!(decide (a.live = b.live)))) (by kernel_rfl) (fun h17 => ?_) (fun h17 => ?_)
          · have h18 : (decide (a.live = b.live)) = false := not_t h17
            have g19 := of_decide_eq_false h18
            refine wp_seq ?_
            refine RG.start ?_
            refine S.quiet (k := 1) (keep := [4]) (m := 0) (σ' := ⟨[(4, .v (B false))], []⟩) .nil (by kernel_rfl) ?_
            clear S; intro ac w β S
            refine RG.done rfl (nx_then ?_)
            refine wp_ret (rt_then ?_)
            refine S.ret (vs := [B false]) (by kernel_rfl) ?_
            exact ⟨retB (show false = decide (a = b) by clear S; first | (simp [TGuest.ext_iff, *]; done) | (simp_all [TGuest.ext_iff]; done)), S.chg⟩
          · have h20 : (decide (a.live = b.live)) = true := not_f h17
            have g21 := of_decide_eq_true h20
            refine wp_skip (nx_then ?_)
            refine wp_seq ?_
            refine wp_seq ?_
            refine RG.start ?_
            refine S.quiet (k := 6) (keep := [2, 3, 38]) (m := 2) (σ' := ⟨[(2, .p 0 0), (3, .p 1 0), (38, .v (B (!(decide (a.ctl = b.ctl)))))], [GT.cells (α := TGuest) a pa, GT.cells (α := TGuest) b pb]⟩) (.cons (Q_call fun w hw => c_laws_eqCtl w a.ctl b.ctl) .nil) (by kernel_rfl) ?_
            clear S; intro ac w β S
            refine RG.done rfl (nx_then ?_)
            refine S.cond (e := (!(decide (a.ctl = b.ctl)))) (by kernel_rfl) (fun h22 => ?_) (fun h22 => ?_)
            · have h23 : (decide (a.ctl = b.ctl)) = false := not_t h22
              have g24 := of_decide_eq_false h23
              refine wp_seq ?_
              refine RG.start ?_
              refine S.quiet (k := 1) (keep := [4]) (m := 0) (σ' := ⟨[(4, .v (B false))], []⟩) .nil (by kernel_rfl) ?_
              clear S; intro ac w β S
              refine RG.done rfl (nx_then ?_)
              refine wp_ret (rt_then ?_)
              refine S.ret (vs := [B false]) (by kernel_rfl) ?_
              exact ⟨retB (show false = decide (a = b) by clear S; first | (simp [TGuest.ext_iff, *]; done) | (simp_all [TGuest.ext_iff]; done)), S.chg⟩
            · have h25 : (decide (a.ctl = b.ctl)) = true := not_f h22
              have g26 := of_decide_eq_true h25
              refine wp_skip (nx_then ?_)
              refine wp_seq ?_
              refine wp_seq ?_
              refine RG.start ?_
              refine S.quiet (k := 5) (keep := [2, 3, 43]) (m := 2) (σ' := ⟨[(2, .p 0 0), (3, .p 1 0), (43, .v (B (a.pend != b.pend)))], [GT.cells (α := TGuest) a pa, GT.cells (α := TGuest) b pb]⟩) .nil (by kernel_rfl) ?_
              clear S; intro ac w β S
              refine RG.done rfl (nx_then ?_)
              refine S.cond (e := (a.pend != b.pend)) (by kernel_rfl) (fun h27 => ?_) (fun h27 => ?_)
              · have g28 : ¬ (a.pend = b.pend) := bne_iff_ne.1 h27
                refine wp_seq ?_
                refine RG.start ?_
                refine S.quiet (k := 1) (keep := [4]) (m := 0) (σ' := ⟨[(4, .v (B false))], []⟩) .nil (by kernel_rfl) ?_
                clear S; intro ac w β S
                refine RG.done rfl (nx_then ?_)
                refine wp_ret (rt_then ?_)
                refine S.ret (vs := [B false]) (by kernel_rfl) ?_
                exact ⟨retB (show false = decide (a = b) by clear S; first | (simp [TGuest.ext_iff, *]; done) | (simp_all [TGuest.ext_iff]; done)), S.chg⟩
              · have g29 : a.pend = b.pend := ne_f h27
                refine wp_skip (nx_then ?_)
                refine wp_seq ?_
                refine wp_seq ?_
                refine RG.start ?_
                refine S.quiet (k := 6) (keep := [2, 3, 49]) (m := 2) (σ' := ⟨[(2, .p 0 0), (3, .p 1 0), (49, .v (B (!(decide (a.exit = b.exit)))))], [GT.cells (α := TGuest) a pa, GT.cells (α := TGuest) b pb]⟩) (.cons (Q_call fun w hw => c_laws_eqExit w a.exit b.exit) .nil) (by kernel_rfl) ?_
                clear S; intro ac w β S
                refine RG.done rfl (nx_then ?_)
                refine S.cond (e := (!(decide (a.exit = b.exit)))) (by kernel_rfl) (fun h30 => ?_) (fun h30 => ?_)
                · have h31 : (decide (a.exit = b.exit)) = false := not_t h30
                  have g32 := of_decide_eq_false h31
                  refine wp_seq ?_
                  refine RG.start ?_
                  refine S.quiet (k := 1) (keep := [4]) (m := 0) (σ' := ⟨[(4, .v (B false))], []⟩) .nil (by kernel_rfl) ?_
                  clear S; intro ac w β S
                  refine RG.done rfl (nx_then ?_)
                  refine wp_ret (rt_then ?_)
                  refine S.ret (vs := [B false]) (by kernel_rfl) ?_
                  exact ⟨retB (show false = decide (a = b) by clear S; first | (simp [TGuest.ext_iff, *]; done) | (simp_all [TGuest.ext_iff]; done)), S.chg⟩
                · have h33 : (decide (a.exit = b.exit)) = true := not_f h30
                  have g34 := of_decide_eq_true h33
                  refine wp_skip (nx_then ?_)
                  refine wp_seq ?_
                  refine wp_seq ?_
                  refine RG.start ?_
                  refine S.quiet (k := 5) (keep := [2, 3, 54]) (m := 2) (σ' := ⟨[(2, .p 0 0), (3, .p 1 0), (54, .v (B (!(a.halted == b.halted))))], [GT.cells (α := TGuest) a pa, GT.cells (α := TGuest) b pb]⟩) .nil (by kernel_rfl) ?_
                  clear S; intro ac w β S
                  refine RG.done rfl (nx_then ?_)
                  refine S.cond (e := (!(a.halted == b.halted))) (by kernel_rfl) (fun h35 => ?_) (fun h35 => ?_)
                  · have h36 : (a.halted == b.halted) = false := not_t h35
                    refine wp_seq ?_
                    refine RG.start ?_
                    refine S.quiet (k := 1) (keep := [4]) (m := 0) (σ' := ⟨[(4, .v (B false))], []⟩) .nil (by kernel_rfl) ?_
                    clear S; intro ac w β S
                    refine RG.done rfl (nx_then ?_)
                    refine wp_ret (rt_then ?_)
                    refine S.ret (vs := [B false]) (by kernel_rfl) ?_
                    exact ⟨retB (show false = decide (a = b) by clear S; first | (simp [TGuest.ext_iff, *]; done) | (simp_all [TGuest.ext_iff]; done)), S.chg⟩
                  · have h37 : (a.halted == b.halted) = true := not_f h35
                    refine wp_skip (nx_then ?_)
                    refine wp_seq ?_
                    refine wp_seq ?_
                    refine RG.start ?_
                    refine S.quiet (k := 6) (keep := [60]) (m := 0) (σ' := ⟨[(60, .v (B (!(decide (a.seen = b.seen)))))], []⟩) (.cons (Q_call fun w hw => c_laws_eqIntS w a.seen pa.seen (rd_of (RGuest.seen (d := a) (S.arg ha)) hw) b.seen pb.seen (rd_of (RGuest.seen (d := b) (S.arg hb)) hw)) .nil) (by kernel_rfl) ?_
                    clear S; intro ac w β S
                    refine RG.done rfl (nx_then ?_)
                    refine S.cond (e := (!(decide (a.seen = b.seen)))) (by kernel_rfl) (fun h38 => ?_) (fun h38 => ?_)
                    · have h39 : (decide (a.seen = b.seen)) = false := not_t h38
                      have g40 := of_decide_eq_false h39
                      refine wp_seq ?_
                      refine RG.start ?_
                      refine S.quiet (k := 1) (keep := [4]) (m := 0) (σ' := ⟨[(4, .v (B false))], []⟩) .nil (by kernel_rfl) ?_
                      clear S; intro ac w β S
                      refine RG.done rfl (nx_then ?_)
                      refine wp_ret (rt_then ?_)
                      refine S.ret (vs := [B false]) (by kernel_rfl) ?_
                      exact ⟨retB (show false = decide (a = b) by clear S; first | (simp [TGuest.ext_iff, *]; done) | (simp_all [TGuest.ext_iff]; done)), S.chg⟩
                    · have h41 : (decide (a.seen = b.seen)) = true := not_f h38
                      have g42 := of_decide_eq_true h41
                      refine wp_skip (nx_then ?_)
                      refine wp_seq ?_
                      refine RG.start ?_
                      refine S.quiet (k := 1) (keep := [4]) (m := 0) (σ' := ⟨[(4, .v (B true))], []⟩) .nil (by kernel_rfl) ?_
                      clear S; intro ac w β S
                      refine RG.done rfl (nx_then ?_)
                      refine wp_ret ?_
                      refine S.ret (vs := [B true]) (by kernel_rfl) ?_
                      exact ⟨retB (show true = decide (a = b) by clear S; first | (simp [TGuest.ext_iff, *]; done) | (simp_all [TGuest.ext_iff]; done)), S.chg⟩

set_option maxRecDepth 100000 in
theorem c_laws_eqGuestS (w0 : World) (a : List TGuest) (pa : LP TGuest) (ha : GT.rd KK (Lt w0.heap.size) w0 a pa) (b : List TGuest) (pb : LP TGuest) (hb : GT.rd KK (Lt w0.heap.size) w0 b pb) : Calls Go.Proofs.Try.prog 70 [slv (a).length pa.1, slv (b).length pb.1].toArray w0 (fun e w' => e = .returned (B (decide (a = b))) ∧ Chg NoB w0 w') := by
  refine Calls.walk (args := [slv (a).length pa.1, slv (b).length pb.1]) NoB Go.Proofs.Try.func70 rfl rfl ?_
  intro ac β S
  have hlea : a.length ≤ 4194304 := LRd.le ha
  have hleb : b.length ≤ 4194304 := LRd.le hb
  refine wp_seq ?_
  refine RG.start ?_
  refine S.quiet (k := 1) (keep := [0, 1]) (m := 0) (σ' := ⟨[(0, .v (slv (a).length pa.1)), (1, .v (slv (b).length pb.1))], []⟩) .nil (by kernel_rfl) ?_
  clear S; intro ac w β S
  refine RG.done rfl (nx_then ?_)
  refine wp_seq ?_
  refine wp_seq ?_
  refine RG.start ?_
  refine S.quiet (k := 5) (keep := [0, 1, 10]) (m := 0) (σ' := ⟨[(0, .v (slv (a).length pa.1)), (1, .v (slv (b).length pb.1)), (10, .v (B (((a).length : Int) != ((b).length : Int))))], []⟩) .nil (by kernel_rfl) ?_
  clear S; intro ac w β S
  refine RG.done rfl (nx_then ?_)
  refine S.cond (e := (((a).length : Int) != ((b).length : Int))) (by kernel_rfl) (fun h1 => ?_) (fun h1 => ?_)
  · have g2 : ¬ (((a).length : Int) = ((b).length : Int)) := bne_iff_ne.1 h1
    refine wp_seq ?_
    refine RG.start ?_
    refine S.quiet (k := 1) (keep := [4]) (m := 0) (σ' := ⟨[(4, .v (B false))], []⟩) .nil (by kernel_rfl) ?_
    clear S; intro ac w β S
    refine RG.done rfl (nx_then ?_)
    refine wp_ret (rt_then ?_)
    refine S.ret (vs := [B false]) (by kernel_rfl) ?_
    exact ⟨retB (show false = decide (a = b) by clear S; first | (simp; intro e; subst e; simp_all; done) | (simp; rw [take_all (by omega), take_all (by omega)] at he; exact he) | (simp; exact take_ne (by simp_all))), S.chg⟩
  · have g3 : ((a).length : Int) = ((b).length : Int) := ne_f h1
    refine wp_skip (nx_then ?_)
    refine wp_seq ?_
    refine wp_seq ?_
    refine RG.start ?_
    refine S.quiet (k := 1) (keep := [0, 1, 5]) (m := 0) (σ' := ⟨[(0, .v (slv (a).length pa.1)), (1, .v (slv (b).length pb.1)), (5, .v (I 0))], []⟩) .nil (by kernel_rfl) ?_
    clear S; intro ac w β S
    refine RG.done rfl (nx_then ?_)
    refine wp_block ?_
    replace S := S.prune (keep := [0, 1, 5]) (m := 0) (σ' := ⟨[(0, .v (slv (a).length pa.1)), (1, .v (slv (b).length pb.1)), (5, .v (I 0))], []⟩) (by kernel_rfl)
    refine wp_loop_down (fun mm ac w => ∃ (k : Nat)  (u : World) (N : Bl) (β : Nat → Nat), mm = a.length - k ∧ (k ≤ a.length) ∧ (a.length = b.length) ∧ (a.take k = b.take k) ∧ St Go.Proofs.Try.prog Go.Proofs.Try.f70.ntmps w0 NoB u N β ⟨[(0, .v (slv (a).length pa.1)), (1, .v (slv (b).length pb.1)), (5, .v (I (k : Int)))], []⟩ ac w) _ ⟨0, _, _, _, rfl, (by first | omega | (simp; done) | (simp; omega)), (by first | omega | (simp; done) | (simp; omega)), (by simp), S.cast (by kernel_rfl)⟩ ?_
    clear S
    rintro mm ac w ⟨k, u, N, β, rfl, hk, hab, he, S⟩
    refine wp_seq ?_
    refine wp_seq ?_
    refine RG.start ?_
    refine S.quiet (k := 4) (keep := [0, 1, 5, 14]) (m := 0) (σ' := ⟨[(0, .v (slv (a).length pa.1)), (1, .v (slv (b).length pb.1)), (5, .v (I (k : Int))), (14, .v (B (decide ((k : Int) < ((a).length : Int)))))], []⟩) .nil (by kernel_rfl) ?_
    clear S; intro ac w β S
    refine RG.done rfl (nx_then ?_)
    refine S.cond (e := (decide ((k : Int) < ((a).length : Int)))) (by kernel_rfl) (fun h4 => ?_) (fun h4 => ?_)
    · have g5 : (k : Int) < ((a).length : Int) := of_decide_eq_true h4
      refine wp_skip (nx_then ?_)
      refine wp_seq ?_
      refine wp_block ?_
      refine wp_seq ?_
      refine S.drawn (keep := [0, 1, 5, 26]) (m := 0) (σ' := ⟨[(0, .v (slv (a).length pa.1)), (1, .v (slv (b).length pb.1)), (5, .v (I (k : Int))), (26, .v (B (!(decide ((el a k) = (el b k))))))], []⟩) (.cons (Q_idx (S.arg ha) (l := (a).length) (k := k) (i := (k : Int)) rfl rfl (by omega) Go.Proofs.Try.underlying49 (by kernel_rfl)) (.cons (Q_el (S.arg ha) (t := 88) (k := k) (by omega) rfl (by kernel_rfl) (by kernel_rfl)) (.cons (Q_idx (S.arg hb) (l := (b).length) (k := k) (i := (k : Int)) rfl rfl (by omega) Go.Proofs.Try.underlying49 (by kernel_rfl)) (.cons (Q_el (S.arg hb) (t := 88) (k := k) (by omega) rfl (by kernel_rfl) (by kernel_rfl)) (.cons (Q_call fun w hw => c_laws_eqGuest w (el a k) (pa.2 k) (rd_of (LRd.el (S.arg ha) k (by omega)) hw) (el b k) (pb.2 k) (rd_of (LRd.el (S.arg hb) k (by omega)) hw)) .nil))))) rfl (by kernel_rfl) (by kernel_rfl) ?_
      clear S; intro ac w S
      refine id (nx_then ?_)
      refine S.cond (e := (!(decide ((el a k) = (el b k))))) (by kernel_rfl) (fun h6 => ?_) (fun h6 => ?_)
      · have h7 : (decide ((el a k) = (el b k))) = false := not_t h6
        have g8 := of_decide_eq_false h7
        refine wp_seq ?_
        refine RG.start ?_
        refine S.quiet (k := 1) (keep := [4]) (m := 0) (σ' := ⟨[(4, .v (B false))], []⟩) .nil (by kernel_rfl) ?_
        clear S; intro ac w β S
        refine RG.done rfl (nx_then ?_)
        refine wp_ret (rt_block (rt_then (rt_then (rt_block (rt_then ?_)))))
        refine S.ret (vs := [B false]) (by kernel_rfl) ?_
        exact ⟨retB (show false = decide (a = b) by clear S; first | (simp; intro e; subst e; simp_all; done) | (simp; rw [take_all (by omega), take_all (by omega)] at he; exact he) | (simp; exact take_ne (by simp_all))), S.chg⟩
      · have h9 : (decide ((el a k) = (el b k))) = true := not_f h6
        have g10 := of_decide_eq_true h9
        refine wp_skip (nx_block (nx_then ?_))
        refine RG.start ?_
        refine S.quiet (k := 3) (keep := [0, 1, 5]) (m := 0) (σ' := ⟨[(0, .v (slv (a).length pa.1)), (1, .v (slv (b).length pb.1)), (5, .v (I ((k : Int) + 1)))], []⟩) (.cons (Q_add (x := (k : Int)) (y := 1) ⟨by omega, by omega⟩) .nil) (by kernel_rfl) ?_
        clear S; intro ac w β S
        refine RG.done rfl (nx_then ?_)
        replace S := S.prune (keep := [0, 1, 5]) (m := 0) (σ' := ⟨[(0, .v (slv (a).length pa.1)), (1, .v (slv (b).length pb.1)), (5, .v (I ((k : Int) + 1)))], []⟩) (by kernel_rfl)
        refine ⟨a.length - (k + 1), by omega, k + 1, _, _, _, rfl, ?_, ?_, ?_, S.cast (by kernel_rfl)⟩
        · clear S; first | omega | (simp [*]; done) | (simp [*]; omega)
        · clear S; first | omega | (simp [*]; done) | (simp [*]; omega)
        · clear S; exact take_eq_step (by omega) (by omega) he (by simp_all)
    · have g11 : ¬ ((k : Int) < ((a).length : Int)) := of_decide_eq_false h4
      refine wp_exit (ex_then (ex_then (ex_hit (nx_then ?_))))
      refine wp_seq ?_
      refine RG.start ?_
      refine S.quiet (k := 1) (keep := [4]) (m := 0) (σ' := ⟨[(4, .v (B true))], []⟩) .nil (by kernel_rfl) ?_
      clear S; intro ac w β S
      refine RG.done rfl (nx_then ?_)
      refine wp_ret ?_
      refine S.ret (vs := [B true]) (by kernel_rfl) ?_
      exact ⟨retB (show true = decide (a = b) by clear S; first | (simp; intro e; subst e; simp_all; done) | (simp; rw [take_all (by omega), take_all (by omega)] at he; exact he) | (simp; exact take_ne (by simp_all))), S.chg⟩

set_option maxRecDepth 100000 in
theorem c_laws_eqKept (w0 : World) (a : TKept) (pa : PKept) (ha : GT.rd KK (Lt w0.heap.size) w0 a pa) (b : TKept) (pb : PKept) (hb : GT.rd KK (Lt w0.heap.size) w0 b pb) : Calls Go.Proofs.Try.prog 97 [GT.val (α := TKept) a pa, GT.val (α := TKept) b pb].toArray w0 (fun e w' => e = .returned (B (decide (a = b))) ∧ Chg NoB w0 w') := by
  refine Calls.walk (args := [GT.val (α := TKept) a pa, GT.val (α := TKept) b pb]) NoB Go.Proofs.Try.func97 rfl rfl ?_
  intro ac β S
  have hlea_known : a.known.length ≤ 4194304 := LRd.le (RKept.known (d := a) ha)
  have hlea_slots : a.slots.length ≤ 4194304 := LRd.le (RKept.slots (d := a) ha)
  have hleb_known : b.known.length ≤ 4194304 := LRd.le (RKept.known (d := b) hb)
  have hleb_slots : b.slots.length ≤ 4194304 := LRd.le (RKept.slots (d := b) hb)
  refine wp_seq ?_
  refine RG.start ?_
  refine S.quiet (k := 3) (keep := [2, 3]) (m := 2) (σ' := ⟨[(2, .p 0 0), (3, .p 1 0)], [GT.cells (α := TKept) a pa, GT.cells (α := TKept) b pb]⟩) .nil (by kernel_rfl) ?_
  clear S; intro ac w β S
  refine RG.done rfl (nx_then ?_)
  refine wp_seq ?_
  refine wp_seq ?_
  refine RG.start ?_
  refine S.quiet (k := 6) (keep := [2, 3, 10]) (m := 2) (σ' := ⟨[(2, .p 0 0), (3, .p 1 0), (10, .v (B (!(decide (a.known = b.known)))))], [GT.cells (α := TKept) a pa, GT.cells (α := TKept) b pb]⟩) (.cons (Q_call fun w hw => c_laws_eqBoolS w a.known pa.known (rd_of (RKept.known (d := a) (S.arg ha)) hw) b.known pb.known (rd_of (RKept.known (d := b) (S.arg hb)) hw)) .nil) (by kernel_rfl) ?_
  clear S; intro ac w β S
  refine RG.done rfl (nx_then ?_)
  refine S.cond (e := (!(decide (a.known = b.known)))) (by kernel_rfl) (fun h1 => ?_) (fun h1 => ?_)
  · have h2 : (decide (a.known = b.known)) = false := not_t h1
    have g3 := of_decide_eq_false h2
    refine wp_seq ?_
    refine RG.start ?_
    refine S.quiet (k := 1) (keep := [4]) (m := 0) (σ' := ⟨[(4, .v (B false))], []⟩) .nil (by kernel_rfl) ?_
    clear S; intro ac w β S
    refine RG.done rfl (nx_then ?_)
    refine wp_ret (rt_then ?_)
    refine S.ret (vs := [B false]) (by kernel_rfl) ?_
    exact ⟨retB (show false = decide (a = b) by clear S; first | (simp [TKept.ext_iff, *]; done) | (simp_all [TKept.ext_iff]; done)), S.chg⟩
  · have h4 : (decide (a.known = b.known)) = true := not_f h1
    have g5 := of_decide_eq_true h4
    refine wp_skip (nx_then ?_)
    refine wp_seq ?_
    refine wp_seq ?_
    refine RG.start ?_
    refine S.quiet (k := 6) (keep := [16]) (m := 0) (σ' := ⟨[(16, .v (B (!(decide (a.slots = b.slots)))))], []⟩) (.cons (Q_call fun w hw => c_laws_eqSlotS w a.slots pa.slots (rd_of (RKept.slots (d := a) (S.arg ha)) hw) b.slots pb.slots (rd_of (RKept.slots (d := b) (S.arg hb)) hw)) .nil) (by kernel_rfl) ?_
    clear S; intro ac w β S
    refine RG.done rfl (nx_then ?_)
    refine S.cond (e := (!(decide (a.slots = b.slots)))) (by kernel_rfl) (fun h6 => ?_) (fun h6 => ?_)
    · have h7 : (decide (a.slots = b.slots)) = false := not_t h6
      have g8 := of_decide_eq_false h7
      refine wp_seq ?_
      refine RG.start ?_
      refine S.quiet (k := 1) (keep := [4]) (m := 0) (σ' := ⟨[(4, .v (B false))], []⟩) .nil (by kernel_rfl) ?_
      clear S; intro ac w β S
      refine RG.done rfl (nx_then ?_)
      refine wp_ret (rt_then ?_)
      refine S.ret (vs := [B false]) (by kernel_rfl) ?_
      exact ⟨retB (show false = decide (a = b) by clear S; first | (simp [TKept.ext_iff, *]; done) | (simp_all [TKept.ext_iff]; done)), S.chg⟩
    · have h9 : (decide (a.slots = b.slots)) = true := not_f h6
      have g10 := of_decide_eq_true h9
      refine wp_skip (nx_then ?_)
      refine wp_seq ?_
      refine RG.start ?_
      refine S.quiet (k := 1) (keep := [4]) (m := 0) (σ' := ⟨[(4, .v (B true))], []⟩) .nil (by kernel_rfl) ?_
      clear S; intro ac w β S
      refine RG.done rfl (nx_then ?_)
      refine wp_ret ?_
      refine S.ret (vs := [B true]) (by kernel_rfl) ?_
      exact ⟨retB (show true = decide (a = b) by clear S; first | (simp [TKept.ext_iff, *]; done) | (simp_all [TKept.ext_iff]; done)), S.chg⟩

end Go.Proofs.Ytollkfjcmiloiaa
