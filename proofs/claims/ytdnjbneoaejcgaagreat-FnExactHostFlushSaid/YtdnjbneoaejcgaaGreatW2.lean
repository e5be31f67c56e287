/- The walks: what each function that the laws reach computes (part 2). -/
import Derived.Test.YtdnjbneoaejcgaaGreatW1
import Derived.Test.YtdnjbneoaejcgaaGreatProg
import Derived.KernelRfl
namespace Go.Proofs.YtdnjbneoaejcgaaGreat
open Go
set_option linter.unusedVariables false
set_option linter.unusedSimpArgs false

set_option maxRecDepth 100000 in
theorem c_spec_CtlFaults (w0 : World) (c : TCtl) : Calls Tryz.prog 157 [GT.val c ()].toArray w0 (Ret1 NoB w0 (f_ctlFaults c : List Int)) := by
 refine Calls.walk (args := [GT.val c ()]) NoB Tryz.func157 rfl rfl ?_
 intro ac β S
 refine ws (rg ?_)
 refine S.qem 2 [] [(1, .p 0 0)] 1 [(0, GT.cells c ())] ?_; clear S; intro ac w β S
 refine (nt (ws (rg ?_)))
 refine RG.op rfl (S.bs0 (α := Int) (d := 4) (by kernel_rfl) ?_)
 clear S; intro ac w N q1 F2 S up o3 d4
 clear up d4
 refine S.qe 1 [] [(3, .v (slv 0 q1.1))] ?_; clear S; intro ac w β S
 refine (nt (ws (ws (rg ?_))))
 refine S.qg 4 [] [(8, .v (B (!(f_within c.traps 0 3))))] (.cons (Q_call fun w hw => c_spec_l01In w c.traps 0 3) .nil) ?_; clear S; intro ac w β S
 refine (nt ?_)
 refine wp_region_cut (fun ac w => ∃ (acc1 : List Int) (q5 : GT.Ptr (List Int)) (F6 : Bl) (u : World) (N : Bl) (β : Nat → Nat), (acc1 = (if f_within c.traps 0 3 then [] else [1])) ∧ St Tryz.prog Tryz.f157.ntmps w0 NoB u N β ⟨[(1, .p 0 0), (3, .v (slv (acc1).length q5.1))], [GT.cells c ()]⟩ ac w ∧ Ow w0 NoB u N F6 acc1 q5) ?_ ?_
 ·refine S.c (!(f_within c.traps 0 3)) (fun h8 => ?_) (fun h8 => ?_)
  ·have h9 := not_t h8
   have g10 := within_f h9
   refine rg ?_
   refine S.qa 1 [] [(9, .v (slv 0 q1.1))] ?_; clear S; intro ac w β S
   refine RG.op rfl (S.bs1 (α := Int) (x := 1) (p := ()) (F := NoB) (show In64 1 from ⟨by decide, by decide⟩) (fun b h => False.elim h) (fun b h => False.elim h) (d := 10) (by kernel_rfl) ?_)
   clear S; intro ac w N q11 F12 S up o13 d14
   have d15 : Disj F2 F12 := d14 _ (fun b _ h => False.elim h) o3.sub
   replace o3 := o3.up up
   clear up d14
   refine RG.op rfl (S.appFlat (α := Int) o3 (o13.rn) (fun _ _ h => h) (by' := 8) (d := 11) (lx := 0) (ly := 1) rfl rfl (by kernel_rfl) (show _ ≤ 4194304 by simp only [List.length_append, List.length_cons, List.length_nil]; omega) ?_)
   clear S; intro ac w N q16 F17 S up o18 d19
   have d20 : Disj F12 F17 := d19 _ (Disj.symm d15) o13.sub
   replace o13 := o13.upF (Disj.symm d15) up
   clear up d19
   refine S.qe 1 [] [(3, .v (slv ((([] : List Int) ++ [1])).length q16.1))] ?_; clear S; intro ac w β S
   exact ⟨rfl, (([] : List Int) ++ [1]), q16, F17, _, _, _, (by clear S; (first | (rw [if_pos (by assumption)]; simp [*]; done) | (rw [if_neg (by simp [*])]; simp [*]; done) | ((repeat' split) <;> first | rfl | (simp; done) | (exfalso; simp_all; done) | (simp_all; done)))), S.z, o18⟩
  ·have h21 := not_f h8
   have g22 := within_t h21
   refine wk ?_
   exact ⟨rfl, ([] : List Int), q1, F2, _, _, _, (by clear S; (first | (rw [if_pos (by assumption)]; simp [*]; done) | (rw [if_neg (by simp [*])]; simp [*]; done) | ((repeat' split) <;> first | rfl | (simp; done) | (exfalso; simp_all; done) | (simp_all; done)))), S.z, o3⟩
 clear S o3
 rintro ac w ⟨acc1, q5, F6, u, N, β, ha1, S, o7⟩
 have hl1 : acc1.length ≤ 1 := by rw [ha1]; (repeat' split) <;> simp
 refine id (nt (ws (ws (rg ?_))))
 refine S.qg 4 [] [(15, .v (B (!(f_within c.post 0 255))))] (.cons (Q_call fun w hw => c_spec_l01In w c.post 0 255) .nil) ?_; clear S; intro ac w β S
 refine (nt ?_)
 refine wp_region_cut (fun ac w => ∃ (acc2 : List Int) (q23 : GT.Ptr (List Int)) (F24 : Bl) (u : World) (N : Bl) (β : Nat → Nat), (acc2 = (if f_within c.traps 0 3 then [] else [1]) ++ (if f_within c.post 0 255 then [] else [2])) ∧ St Tryz.prog Tryz.f157.ntmps w0 NoB u N β ⟨[(1, .p 0 0), (3, .v (slv (acc2).length q23.1))], [GT.cells c ()]⟩ ac w ∧ Ow w0 NoB u N F24 acc2 q23) ?_ ?_
 ·refine S.c (!(f_within c.post 0 255)) (fun h26 => ?_) (fun h26 => ?_)
  ·have h27 := not_t h26
   have g28 := within_f h27
   refine rg ?_
   refine S.qa 1 [] [(16, .v (slv (acc1).length q5.1))] ?_; clear S; intro ac w β S
   refine RG.op rfl (S.bs1 (α := Int) (x := 2) (p := ()) (F := NoB) (show In64 2 from ⟨by decide, by decide⟩) (fun b h => False.elim h) (fun b h => False.elim h) (d := 17) (by kernel_rfl) ?_)
   clear S; intro ac w N q29 F30 S up o31 d32
   have d33 : Disj F6 F30 := d32 _ (fun b _ h => False.elim h) o7.sub
   replace o7 := o7.up up
   clear up d32
   refine RG.op rfl (S.appFlat (α := Int) o7 (o31.rn) (fun _ _ h => h) (by' := 8) (d := 18) (lx := (acc1).length) (ly := 1) rfl rfl (by kernel_rfl) (show _ ≤ 4194304 by simp only [List.length_append, List.length_cons, List.length_nil]; omega) ?_)
   clear S; intro ac w N q34 F35 S up o36 d37
   have d38 : Disj F30 F35 := d37 _ (Disj.symm d33) o31.sub
   replace o31 := o31.upF (Disj.symm d33) up
   clear up d37
   refine S.qe 1 [] [(3, .v (slv ((acc1 ++ [2])).length q34.1))] ?_; clear S; intro ac w β S
   exact ⟨rfl, (acc1 ++ [2]), q34, F35, _, _, _, (by clear S; (first | (rw [if_pos (by assumption)]; simp [*]; done) | (rw [if_neg (by simp [*])]; simp [*]; done) | (rw [ha1]; (repeat' split) <;> first | rfl | (simp; done) | (exfalso; simp_all; done) | (simp_all; done)))), S.z, o36⟩
  ·have h39 := not_f h26
   have g40 := within_t h39
   refine wk ?_
   exact ⟨rfl, acc1, q5, F6, _, _, _, (by clear S; (first | (rw [if_pos (by assumption)]; simp [*]; done) | (rw [if_neg (by simp [*])]; simp [*]; done) | (rw [ha1]; (repeat' split) <;> first | rfl | (simp; done) | (exfalso; simp_all; done) | (simp_all; done)))), S.z, o7⟩
 clear S o7
 rintro ac w ⟨acc2, q23, F24, u, N, β, ha2, S, o25⟩
 have hl2 : acc2.length ≤ 2 := by rw [ha2]; (repeat' split) <;> simp
 refine id (nt (ws (ws (rg ?_))))
 refine S.qa 4 [] [(22, .v (B (c.post != 0)))] ?_; clear S; intro ac w β S
 rcases Bool.eq_false_or_eq_true (c.post != 0) with h41 | h41 <;> rw [h41] at S
 ·have g42 : ¬ (c.post = 0) := bne_iff_ne.1 h41
  refine S.qe 4 [22] [(26, .v (B (!c.opn)))] ?_; clear S; intro ac w β S
  refine (nt ?_)
  refine wp_region_cut (fun ac w => ∃ (acc3 : List Int) (q43 : GT.Ptr (List Int)) (F44 : Bl) (u : World) (N : Bl) (β : Nat → Nat), (acc3 = (if f_within c.traps 0 3 then [] else [1]) ++ (if f_within c.post 0 255 then [] else [2]) ++ (if c.post ≠ 0 ∧ c.opn = false then [3] else [])) ∧ St Tryz.prog Tryz.f157.ntmps w0 NoB u N β ⟨[(1, .p 0 0), (3, .v (slv (acc3).length q43.1))], [GT.cells c ()]⟩ ac w ∧ Ow w0 NoB u N F44 acc3 q43) ?_ ?_
  ·refine S.c (!c.opn) (fun h46 => ?_) (fun h46 => ?_)
   ·have h47 := not_t h46
    refine rg ?_
    refine S.qa 1 [] [(27, .v (slv (acc2).length q23.1))] ?_; clear S; intro ac w β S
    refine RG.op rfl (S.bs1 (α := Int) (x := 3) (p := ()) (F := NoB) (show In64 3 from ⟨by decide, by decide⟩) (fun b h => False.elim h) (fun b h => False.elim h) (d := 28) (by kernel_rfl) ?_)
    clear S; intro ac w N q48 F49 S up o50 d51
    have d52 : Disj F24 F49 := d51 _ (fun b _ h => False.elim h) o25.sub
    replace o25 := o25.up up
    clear up d51
    refine RG.op rfl (S.appFlat (α := Int) o25 (o50.rn) (fun _ _ h => h) (by' := 8) (d := 29) (lx := (acc2).length) (ly := 1) rfl rfl (by kernel_rfl) (show _ ≤ 4194304 by simp only [List.length_append, List.length_cons, List.length_nil]; omega) ?_)
    clear S; intro ac w N q53 F54 S up o55 d56
    have d57 : Disj F49 F54 := d56 _ (Disj.symm d52) o50.sub
    replace o50 := o50.upF (Disj.symm d52) up
    clear up d56
    refine S.qe 1 [] [(3, .v (slv ((acc2 ++ [3])).length q53.1))] ?_; clear S; intro ac w β S
    exact ⟨rfl, (acc2 ++ [3]), q53, F54, _, _, _, (by clear S; (first | (rw [if_pos (by assumption)]; simp [*]; done) | (rw [if_neg (by simp [*])]; simp [*]; done) | (rw [ha2]; (repeat' split) <;> first | rfl | (simp; done) | (exfalso; simp_all; done) | (simp_all; done)))), S.z, o55⟩
   ·have h58 := not_f h46
    refine wk ?_
    exact ⟨rfl, acc2, q23, F24, _, _, _, (by clear S; (first | (rw [if_pos (by assumption)]; simp [*]; done) | (rw [if_neg (by simp [*])]; simp [*]; done) | (rw [ha2]; (repeat' split) <;> first | rfl | (simp; done) | (exfalso; simp_all; done) | (simp_all; done)))), S.z, o25⟩
  clear S o25
  rintro ac w ⟨acc3, q43, F44, u, N, β, ha3, S, o45⟩
  have hl3 : acc3.length ≤ 3 := by rw [ha3]; (repeat' split) <;> simp
  refine id (nt (ws (ws (rg ?_))))
  refine S.qa 4 [] [(33, .v (B (c.traps == 2)))] ?_; clear S; intro ac w β S
  rcases Bool.eq_false_or_eq_true (c.traps == 2) with h59 | h59 <;> rw [h59] at S
  ·have g60 : c.traps = 2 := eq_of_beq h59
   refine S.qem 4 [33] [(37, .v (B (c.post != 0)))] 0 [] ?_; clear S; intro ac w β S
   refine (nt ?_)
   refine wp_region_cut (fun ac w => ∃ (acc4 : List Int) (q61 : GT.Ptr (List Int)) (F62 : Bl) (u : World) (N : Bl) (β : Nat → Nat), (acc4 = (if f_within c.traps 0 3 then [] else [1]) ++ (if f_within c.post 0 255 then [] else [2]) ++ (if c.post ≠ 0 ∧ c.opn = false then [3] else []) ++ (if c.traps = 2 ∧ c.post ≠ 0 then [4] else [])) ∧ St Tryz.prog Tryz.f157.ntmps w0 NoB u N β ⟨[(3, .v (slv (acc4).length q61.1))], []⟩ ac w ∧ Ow w0 NoB u N F62 acc4 q61) ?_ ?_
   ·refine S.c (c.post != 0) (fun h64 => ?_) (fun h64 => ?_)
    ·have g65 : ¬ (c.post = 0) := bne_iff_ne.1 h64
     refine rg ?_
     refine S.qa 1 [] [(38, .v (slv (acc3).length q43.1))] ?_; clear S; intro ac w β S
     refine RG.op rfl (S.bs1 (α := Int) (x := 4) (p := ()) (F := NoB) (show In64 4 from ⟨by decide, by decide⟩) (fun b h => False.elim h) (fun b h => False.elim h) (d := 39) (by kernel_rfl) ?_)
     clear S; intro ac w N q66 F67 S up o68 d69
     have d70 : Disj F44 F67 := d69 _ (fun b _ h => False.elim h) o45.sub
     replace o45 := o45.up up
     clear up d69
     refine RG.op rfl (S.appFlat (α := Int) o45 (o68.rn) (fun _ _ h => h) (by' := 8) (d := 40) (lx := (acc3).length) (ly := 1) rfl rfl (by kernel_rfl) (show _ ≤ 4194304 by simp only [List.length_append, List.length_cons, List.length_nil]; omega) ?_)
     clear S; intro ac w N q71 F72 S up o73 d74
     have d75 : Disj F67 F72 := d74 _ (Disj.symm d70) o68.sub
     replace o68 := o68.upF (Disj.symm d70) up
     clear up d74
     refine S.qe 1 [] [(3, .v (slv ((acc3 ++ [4])).length q71.1))] ?_; clear S; intro ac w β S
     exact ⟨rfl, (acc3 ++ [4]), q71, F72, _, _, _, (by clear S; (first | (rw [if_pos (by assumption)]; simp [*]; done) | (rw [if_neg (by simp [*])]; simp [*]; done) | (rw [ha3]; (repeat' split) <;> first | rfl | (simp; done) | (exfalso; simp_all; done) | (simp_all; done)))), S.z, o73⟩
    ·have g76 : c.post = 0 := ne_f h64
     refine wk ?_
     exact ⟨rfl, acc3, q43, F44, _, _, _, (by clear S; (first | (rw [if_pos (by assumption)]; simp [*]; done) | (rw [if_neg (by simp [*])]; simp [*]; done) | (rw [ha3]; (repeat' split) <;> first | rfl | (simp; done) | (exfalso; simp_all; done) | (simp_all; done)))), S.z, o45⟩
   clear S o45
   rintro ac w ⟨acc4, q61, F62, u, N, β, ha4, S, o63⟩
   have hl4 : acc4.length ≤ 4 := by rw [ha4]; (repeat' split) <;> simp
   refine id (nt (ws (rg ?_)))
   refine S.qe 2 [] [(2, .v (slv (acc4).length q61.1))] ?_; clear S; intro ac w β S
   exact (nt (wr (S.r [slv (acc4).length q61.1] (ret1_of S (show f_ctlFaults c = acc4 by clear S; (rw [ha4]; rfl)) rfl o63))))
  ·have g77 : ¬ (c.traps = 2) := ne_of_beq_false h59
   refine S.qem 4 [33] [(37, .v (B false))] 0 [] ?_; clear S; intro ac w β S
   refine (nt ?_)
   refine wp_region_cut (fun ac w => ∃ (acc4 : List Int) (q78 : GT.Ptr (List Int)) (F79 : Bl) (u : World) (N : Bl) (β : Nat → Nat), (acc4 = (if f_within c.traps 0 3 then [] else [1]) ++ (if f_within c.post 0 255 then [] else [2]) ++ (if c.post ≠ 0 ∧ c.opn = false then [3] else []) ++ (if c.traps = 2 ∧ c.post ≠ 0 then [4] else [])) ∧ St Tryz.prog Tryz.f157.ntmps w0 NoB u N β ⟨[(3, .v (slv (acc4).length q78.1))], []⟩ ac w ∧ Ow w0 NoB u N F79 acc4 q78) ?_ ?_
   ·refine S.c false (fun hx => by cases hx) (fun _ => ?_)
    refine wk ?_
    exact ⟨rfl, acc3, q43, F44, _, _, _, (by clear S; (first | (rw [if_pos (by assumption)]; simp [*]; done) | (rw [if_neg (by simp [*])]; simp [*]; done) | (rw [ha3]; (repeat' split) <;> first | rfl | (simp; done) | (exfalso; simp_all; done) | (simp_all; done)))), S.z, o45⟩
   clear S o45
   rintro ac w ⟨acc4, q78, F79, u, N, β, ha4, S, o80⟩
   have hl4 : acc4.length ≤ 4 := by rw [ha4]; (repeat' split) <;> simp
   refine id (nt (ws (rg ?_)))
   refine S.qe 2 [] [(2, .v (slv (acc4).length q78.1))] ?_; clear S; intro ac w β S
   exact (nt (wr (S.r [slv (acc4).length q78.1] (ret1_of S (show f_ctlFaults c = acc4 by clear S; (rw [ha4]; rfl)) rfl o80))))
 ·have g81 : c.post = 0 := ne_f h41
  refine S.qe 4 [22] [(26, .v (B false))] ?_; clear S; intro ac w β S
  refine (nt ?_)
  refine wp_region_cut (fun ac w => ∃ (acc3 : List Int) (q82 : GT.Ptr (List Int)) (F83 : Bl) (u : World) (N : Bl) (β : Nat → Nat), (acc3 = (if f_within c.traps 0 3 then [] else [1]) ++ (if f_within c.post 0 255 then [] else [2]) ++ (if c.post ≠ 0 ∧ c.opn = false then [3] else [])) ∧ St Tryz.prog Tryz.f157.ntmps w0 NoB u N β ⟨[(1, .p 0 0), (3, .v (slv (acc3).length q82.1))], [GT.cells c ()]⟩ ac w ∧ Ow w0 NoB u N F83 acc3 q82) ?_ ?_
  ·refine S.c false (fun hx => by cases hx) (fun _ => ?_)
   refine wk ?_
   exact ⟨rfl, acc2, q23, F24, _, _, _, (by clear S; (first | (rw [if_pos (by assumption)]; simp [*]; done) | (rw [if_neg (by simp [*])]; simp [*]; done) | (rw [ha2]; (repeat' split) <;> first | rfl | (simp; done) | (exfalso; simp_all; done) | (simp_all; done)))), S.z, o25⟩
  clear S o25
  rintro ac w ⟨acc3, q82, F83, u, N, β, ha3, S, o84⟩
  have hl3 : acc3.length ≤ 3 := by rw [ha3]; (repeat' split) <;> simp
  refine id (nt (ws (ws (rg ?_))))
  refine S.qa 4 [] [(33, .v (B (c.traps == 2)))] ?_; clear S; intro ac w β S
  rcases Bool.eq_false_or_eq_true (c.traps == 2) with h85 | h85 <;> rw [h85] at S
  ·have g86 : c.traps = 2 := eq_of_beq h85
   refine S.qem 4 [33] [(37, .v (B (c.post != 0)))] 0 [] ?_; clear S; intro ac w β S
   refine (nt ?_)
   refine wp_region_cut (fun ac w => ∃ (acc4 : List Int) (q87 : GT.Ptr (List Int)) (F88 : Bl) (u : World) (N : Bl) (β : Nat → Nat), (acc4 = (if f_within c.traps 0 3 then [] else [1]) ++ (if f_within c.post 0 255 then [] else [2]) ++ (if c.post ≠ 0 ∧ c.opn = false then [3] else []) ++ (if c.traps = 2 ∧ c.post ≠ 0 then [4] else [])) ∧ St Tryz.prog Tryz.f157.ntmps w0 NoB u N β ⟨[(3, .v (slv (acc4).length q87.1))], []⟩ ac w ∧ Ow w0 NoB u N F88 acc4 q87) ?_ ?_
   ·refine S.c (c.post != 0) (fun h90 => ?_) (fun h90 => ?_)
    ·have g91 : ¬ (c.post = 0) := bne_iff_ne.1 h90
     refine rg ?_
     refine S.qa 1 [] [(38, .v (slv (acc3).length q82.1))] ?_; clear S; intro ac w β S
     refine RG.op rfl (S.bs1 (α := Int) (x := 4) (p := ()) (F := NoB) (show In64 4 from ⟨by decide, by decide⟩) (fun b h => False.elim h) (fun b h => False.elim h) (d := 39) (by kernel_rfl) ?_)
     clear S; intro ac w N q92 F93 S up o94 d95
     have d96 : Disj F83 F93 := d95 _ (fun b _ h => False.elim h) o84.sub
     replace o84 := o84.up up
     clear up d95
     refine RG.op rfl (S.appFlat (α := Int) o84 (o94.rn) (fun _ _ h => h) (by' := 8) (d := 40) (lx := (acc3).length) (ly := 1) rfl rfl (by kernel_rfl) (show _ ≤ 4194304 by simp only [List.length_append, List.length_cons, List.length_nil]; omega) ?_)
     clear S; intro ac w N q97 F98 S up o99 d100
     have d101 : Disj F93 F98 := d100 _ (Disj.symm d96) o94.sub
     replace o94 := o94.upF (Disj.symm d96) up
     clear up d100
     refine S.qe 1 [] [(3, .v (slv ((acc3 ++ [4])).length q97.1))] ?_; clear S; intro ac w β S
     exact ⟨rfl, (acc3 ++ [4]), q97, F98, _, _, _, (by clear S; (first | (rw [if_pos (by assumption)]; simp [*]; done) | (rw [if_neg (by simp [*])]; simp [*]; done) | (rw [ha3]; (repeat' split) <;> first | rfl | (simp; done) | (exfalso; simp_all; done) | (simp_all; done)))), S.z, o99⟩
    ·have g102 : c.post = 0 := ne_f h90
     refine wk ?_
     exact ⟨rfl, acc3, q82, F83, _, _, _, (by clear S; (first | (rw [if_pos (by assumption)]; simp [*]; done) | (rw [if_neg (by simp [*])]; simp [*]; done) | (rw [ha3]; (repeat' split) <;> first | rfl | (simp; done) | (exfalso; simp_all; done) | (simp_all; done)))), S.z, o84⟩
   clear S o84
   rintro ac w ⟨acc4, q87, F88, u, N, β, ha4, S, o89⟩
   have hl4 : acc4.length ≤ 4 := by rw [ha4]; (repeat' split) <;> simp
   refine id (nt (ws (rg ?_)))
   refine S.qe 2 [] [(2, .v (slv (acc4).length q87.1))] ?_; clear S; intro ac w β S
   exact (nt (wr (S.r [slv (acc4).length q87.1] (ret1_of S (show f_ctlFaults c = acc4 by clear S; (rw [ha4]; rfl)) rfl o89))))
  ·have g103 : ¬ (c.traps = 2) := ne_of_beq_false h85
   refine S.qem 4 [33] [(37, .v (B false))] 0 [] ?_; clear S; intro ac w β S
   refine (nt ?_)
   refine wp_region_cut (fun ac w => ∃ (acc4 : List Int) (q104 : GT.Ptr (List Int)) (F105 : Bl) (u : World) (N : Bl) (β : Nat → Nat), (acc4 = (if f_within c.traps 0 3 then [] else [1]) ++ (if f_within c.post 0 255 then [] else [2]) ++ (if c.post ≠ 0 ∧ c.opn = false then [3] else []) ++ (if c.traps = 2 ∧ c.post ≠ 0 then [4] else [])) ∧ St Tryz.prog Tryz.f157.ntmps w0 NoB u N β ⟨[(3, .v (slv (acc4).length q104.1))], []⟩ ac w ∧ Ow w0 NoB u N F105 acc4 q104) ?_ ?_
   ·refine S.c false (fun hx => by cases hx) (fun _ => ?_)
    refine wk ?_
    exact ⟨rfl, acc3, q82, F83, _, _, _, (by clear S; (first | (rw [if_pos (by assumption)]; simp [*]; done) | (rw [if_neg (by simp [*])]; simp [*]; done) | (rw [ha3]; (repeat' split) <;> first | rfl | (simp; done) | (exfalso; simp_all; done) | (simp_all; done)))), S.z, o84⟩
   clear S o84
   rintro ac w ⟨acc4, q104, F105, u, N, β, ha4, S, o106⟩
   have hl4 : acc4.length ≤ 4 := by rw [ha4]; (repeat' split) <;> simp
   refine id (nt (ws (rg ?_)))
   refine S.qe 2 [] [(2, .v (slv (acc4).length q104.1))] ?_; clear S; intro ac w β S
   exact (nt (wr (S.r [slv (acc4).length q104.1] (ret1_of S (show f_ctlFaults c = acc4 by clear S; (rw [ha4]; rfl)) rfl o106))))

set_option maxRecDepth 100000 in
theorem c_spec_CtlOk (w0 : World) (c : TCtl) : Calls Tryz.prog 142 [GT.val c ()].toArray w0 (fun e w' => e = .returned (B (f_ctlOk c)) ∧ Chg NoB w0 w') := by
 refine Calls.walk (args := [GT.val c ()]) NoB Tryz.func142 rfl rfl ?_
 intro ac β S
 refine ws (rg ?_)
 refine S.qem 2 [] [(1, .p 0 0)] 1 [(0, GT.cells c ())] ?_; clear S; intro ac w β S
 refine (nt (ws (rg ?_)))
 refine S.qam 1 [] [(3, .v (GT.val c ()))] 0 [] ?_; clear S; intro ac w β S
 refine RG.op rfl (S.call1 (r := f_ctlFaults c) (d := 4) (c_spec_CtlFaults w c) (by kernel_rfl) rfl ?_)
 clear S; intro ac w N q1 F2 S up o3 d4
 clear up d4
 refine S.qe 3 [] [(2, .v (B ((((f_ctlFaults c)).length : Int) == 0)))] ?_; clear S; intro ac w β S
 exact (nt (wr (S.r [B ((((f_ctlFaults c)).length : Int) == 0)] ⟨retB (by clear S; first | rfl | (simp [f_ctlOk, *]; done) | (simp [f_ctlOk, *]; omega) | (simp_all [f_ctlOk]; done) | (simp_all [f_ctlOk]; omega)), S.chg⟩)))

set_option maxRecDepth 100000 in
theorem c_spec_PendOk (w0 : World) (p : Int) : Calls Tryz.prog 124 [I p].toArray w0 (fun e w' => e = .returned (B (f_within p 0 255)) ∧ Chg NoB w0 w') := by
 refine Calls.walk (args := [I p]) NoB Tryz.func124 rfl rfl ?_
 intro ac β S
 refine ws (rg ?_)
 refine S.qe 1 [] [] ?_; clear S; intro ac w β S
 refine (nt (ws (rg ?_)))
 refine S.qg 3 [] [(2, .v (B (f_within p 0 255)))] (.cons (Q_call fun w hw => c_spec_l01In w p 0 255) .nil) ?_; clear S; intro ac w β S
 exact (nt (wr (S.r [B (f_within p 0 255)] ⟨retB (by clear S; first | rfl | (simp [f_within, *]; done) | (simp [f_within, *]; omega) | (simp_all [f_within]; done) | (simp_all [f_within]; omega)), S.chg⟩)))

theorem k0_spec_ExitOk {p : Prop} (h : p := by clear S; (unfold f_exitOk; (repeat' split) <;> first | rfl | (exfalso; simp_all; done) | (exfalso; omega) | (rw [Bool.eq_iff_iff]; simp [TExit.ext_iff, *]; done) | (rw [Bool.eq_iff_iff]; simp_all [TExit.ext_iff, and_assoc]; done) | (rw [Bool.eq_iff_iff]; simp_all [TExit.ext_iff, and_assoc]; omega))) : p := h
set_option maxRecDepth 100000 in
theorem c_spec_ExitOk (w0 : World) (x : TExit) : Calls Tryz.prog 143 [GT.val x ()].toArray w0 (fun e w' => e = .returned (B (f_exitOk x)) ∧ Chg NoB w0 w') := by
 refine Calls.walk (args := [GT.val x ()]) NoB Tryz.func143 rfl rfl ?_
 intro ac β S
 refine ws (rg ?_)
 refine S.qem 2 [] [(1, .p 0 0)] 1 [(0, GT.cells x ())] ?_; clear S; intro ac w β S
 refine (nt (ws (ws (rg ?_))))
 refine S.qe 2 [] [(4, .v (I x.kind))] ?_; clear S; intro ac w β S
 refine (nt (wp_block (ws (ws (rg ?_)))))
 refine S.qe 2 [] [(5, .v (B (x.kind == 0)))] ?_; clear S; intro ac w β S
 refine (nt (S.c (x.kind == 0) (fun h1 => ?_) (fun h1 => ?_)))
 ·rw [h1] at S
  have g2 : x.kind = 0 := eq_of_beq h1
  refine wk (nt (S.c true (fun _ => ?_) (fun hx => by cases hx)))
  refine ws (rg ?_)
  refine S.qg 6 [5] [(2, .v (B (decide (x = (⟨x.kind, 0, false, 0⟩ : TExit)))))] (.cons (Q_sem (s := Instr.build 88 [(0, I x.kind)].toArray) (v := .agg [I x.kind, I 0, B false, I 0].toArray) (fun w => by kernel_rfl)) (.cons (Eq_eq_Exit (t := 88) x (⟨x.kind, 0, false, 0⟩ : TExit) (by kernel_rfl)) .nil)) ?_; clear S; intro ac w β S
  exact (nt (wr (rb (rt (S.r [B (decide (x = (⟨x.kind, 0, false, 0⟩ : TExit)))] ⟨retB k0_spec_ExitOk, S.chg⟩)))))
 ·have g3 : ¬ (x.kind = 0) := ne_of_beq_false h1
  refine rg ?_
  refine S.qe 2 [] [(5, .v (B (x.kind == 4)))] ?_; clear S; intro ac w β S
  refine (nt (S.c (x.kind == 4) (fun h4 => ?_) (fun h4 => ?_)))
  ·have g5 : x.kind = 4 := eq_of_beq h4
   refine ws (rg ?_)
   refine S.qg 6 [] [(2, .v (B (decide (x = (⟨x.kind, 0, false, 0⟩ : TExit)))))] (.cons (Q_sem (s := Instr.build 88 [(0, I x.kind)].toArray) (v := .agg [I x.kind, I 0, B false, I 0].toArray) (fun w => by kernel_rfl)) (.cons (Eq_eq_Exit (t := 88) x (⟨x.kind, 0, false, 0⟩ : TExit) (by kernel_rfl)) .nil)) ?_; clear S; intro ac w β S
   exact (nt (wr (rb (rt (S.r [B (decide (x = (⟨x.kind, 0, false, 0⟩ : TExit)))] ⟨retB k0_spec_ExitOk, S.chg⟩)))))
  ·have g6 : ¬ (x.kind = 4) := ne_of_beq_false h4
   refine ws (rg ?_)
   refine S.qe 2 [] [(13, .v (B (x.kind == 1)))] ?_; clear S; intro ac w β S
   refine (nt (S.c (x.kind == 1) (fun h7 => ?_) (fun h7 => ?_)))
   ·have g8 : x.kind = 1 := eq_of_beq h7
    refine ws (rg ?_)
    refine S.qb 4 [] [(18, .v (B (f_within x.page 0 3)))] (.cons (Q_call fun w hw => c_spec_l01In w x.page 0 3) .nil) ?_; clear S; intro ac w β S
    rcases Bool.eq_false_or_eq_true (f_within x.page 0 3) with h9 | h9 <;> rw [h9] at S
    ·have g10 := within_t h9
     refine S.qe 5 [18] [(2, .v (B (x.n == 0)))] ?_; clear S; intro ac w β S
     exact (nt (wr (rb (rt (S.r [B (x.n == 0)] ⟨retB k0_spec_ExitOk, S.chg⟩)))))
    ·have g11 := within_f h9
     refine S.qe 5 [18] [(2, .v (B false))] ?_; clear S; intro ac w β S
     exact (nt (wr (rb (rt (S.r [B false] ⟨retB k0_spec_ExitOk, S.chg⟩)))))
   ·have g12 : ¬ (x.kind = 1) := ne_of_beq_false h7
    refine ws (ws (rg ?_))
    refine S.qe 2 [] [(23, .v (B (x.kind == 2)))] ?_; clear S; intro ac w β S
    refine (nt (S.c (x.kind == 2) (fun h13 => ?_) (fun h13 => ?_)))
    ·rw [h13] at S
     have g14 : x.kind = 2 := eq_of_beq h13
     refine wk (nt (S.c true (fun _ => ?_) (fun hx => by cases hx)))
     refine ws (rg ?_)
     refine S.qb 4 [23] [(29, .v (B (f_within x.n 0 99)))] (.cons (Q_call fun w hw => c_spec_l01In w x.n 0 99) .nil) ?_; clear S; intro ac w β S
     rcases Bool.eq_false_or_eq_true (f_within x.n 0 99) with h15 | h15 <;> rw [h15] at S
     ·have g16 := within_t h15
      refine S.qa 5 [29] [(34, .v (B (x.page == 0)))] ?_; clear S; intro ac w β S
      rcases Bool.eq_false_or_eq_true (x.page == 0) with h17 | h17 <;> rw [h17] at S
      ·have g18 : x.page = 0 := eq_of_beq h17
       refine S.qe 5 [34] [(2, .v (B (!x.wr)))] ?_; clear S; intro ac w β S
       exact (nt (wr (rb (rt (S.r [B (!x.wr)] ⟨retB k0_spec_ExitOk, S.chg⟩)))))
      ·have g19 : ¬ (x.page = 0) := ne_of_beq_false h17
       refine S.qe 5 [34] [(2, .v (B false))] ?_; clear S; intro ac w β S
       exact (nt (wr (rb (rt (S.r [B false] ⟨retB k0_spec_ExitOk, S.chg⟩)))))
     ·have g20 := within_f h15
      refine S.qe 10 [29] [(2, .v (B false))] ?_; clear S; intro ac w β S
      exact (nt (wr (rb (rt (S.r [B false] ⟨retB k0_spec_ExitOk, S.chg⟩)))))
    ·have g21 : ¬ (x.kind = 2) := ne_of_beq_false h13
     refine rg ?_
     refine S.qe 2 [] [(23, .v (B (x.kind == 3)))] ?_; clear S; intro ac w β S
     refine (nt (S.c (x.kind == 3) (fun h22 => ?_) (fun h22 => ?_)))
     ·have g23 : x.kind = 3 := eq_of_beq h22
      refine ws (rg ?_)
      refine S.qb 4 [] [(29, .v (B (f_within x.n 0 99)))] (.cons (Q_call fun w hw => c_spec_l01In w x.n 0 99) .nil) ?_; clear S; intro ac w β S
      rcases Bool.eq_false_or_eq_true (f_within x.n 0 99) with h24 | h24 <;> rw [h24] at S
      ·have g25 := within_t h24
       refine S.qa 5 [29] [(34, .v (B (x.page == 0)))] ?_; clear S; intro ac w β S
       rcases Bool.eq_false_or_eq_true (x.page == 0) with h26 | h26 <;> rw [h26] at S
       ·have g27 : x.page = 0 := eq_of_beq h26
        refine S.qe 5 [34] [(2, .v (B (!x.wr)))] ?_; clear S; intro ac w β S
        exact (nt (wr (rb (rt (S.r [B (!x.wr)] ⟨retB k0_spec_ExitOk, S.chg⟩)))))
       ·have g28 : ¬ (x.page = 0) := ne_of_beq_false h26
        refine S.qe 5 [34] [(2, .v (B false))] ?_; clear S; intro ac w β S
        exact (nt (wr (rb (rt (S.r [B false] ⟨retB k0_spec_ExitOk, S.chg⟩)))))
      ·have g29 := within_f h24
       refine S.qe 10 [29] [(2, .v (B false))] ?_; clear S; intro ac w β S
       exact (nt (wr (rb (rt (S.r [B false] ⟨retB k0_spec_ExitOk, S.chg⟩)))))
     ·have g30 : ¬ (x.kind = 3) := ne_of_beq_false h22
      refine wk (nb (nt (ws (rg ?_))))
      refine S.qe 1 [] [(2, .v (B false))] ?_; clear S; intro ac w β S
      exact (nt (wr (S.r [B false] ⟨retB k0_spec_ExitOk, S.chg⟩)))

theorem k0_spec_GuestOk {p : Prop} (h : p := by clear S; first | rfl | (simp [f_guestOk, *]; done) | (simp [f_guestOk, *]; omega) | (simp_all [f_guestOk]; done) | (simp_all [f_guestOk]; omega)) : p := h
set_option maxRecDepth 100000 in
theorem c_spec_GuestOk (w0 : World) (g : TGuest) (pg : PGuest) (hg : GT.rd KK (Lt w0.heap.size) w0 g pg) : Calls Tryz.prog 122 [GT.val g pg].toArray w0 (fun e w' => e = .returned (B (f_guestOk g)) ∧ Chg NoB w0 w') := by
 refine Calls.walk (args := [GT.val g pg]) NoB Tryz.func122 rfl rfl ?_
 intro ac β S
 have hleg_prog : g.prog.length ≤ 4194304 := LRd.le (RGuest.prog (d := g) hg)
 have hleg_written : g.written.length ≤ 4194304 := LRd.le (RGuest.written (d := g) hg)
 have hleg_live : g.live.length ≤ 4194304 := LRd.le (RGuest.live (d := g) hg)
 have hleg_seen : g.seen.length ≤ 4194304 := LRd.le (RGuest.seen (d := g) hg)
 refine ws (rg ?_)
 refine S.qem 2 [] [(1, .p 0 0)] 1 [(0, GT.cells g pg)] ?_; clear S; intro ac w β S
 refine (nt (ws (rg ?_)))
 refine S.qb 4 [] [(6, .v (B (f_progOk g.prog)))] (.cons (Q_call fun w hw => c_spec_ProgOk w g.prog pg.prog (rd_of (RGuest.prog (d := g) (S.arg hg)) hw)) .nil) ?_; clear S; intro ac w β S
 rcases Bool.eq_false_or_eq_true (f_progOk g.prog) with h1 | h1 <;> rw [h1] at S
 ·refine S.qb 5 [6] [(11, .v (B (f_within g.acc 0 99)))] (.cons (Q_call fun w hw => c_spec_l01In w g.acc 0 99) .nil) ?_; clear S; intro ac w β S
  rcases Bool.eq_false_or_eq_true (f_within g.acc 0 99) with h2 | h2 <;> rw [h2] at S
  ·have g3 := within_t h2
   refine S.qb 5 [11] [(16, .v (B (f_within g.pc 0 12)))] (.cons (Q_call fun w hw => c_spec_l01In w g.pc 0 12) .nil) ?_; clear S; intro ac w β S
   rcases Bool.eq_false_or_eq_true (f_within g.pc 0 12) with h4 | h4 <;> rw [h4] at S
   ·have g5 := within_t h4
    refine S.qb 5 [16] [(21, .v (B (f_tableOk g.written 4 8)))] (.cons (Q_call fun w hw => c_spec_TableOk w g.written pg.written (rd_of (RGuest.written (d := g) (S.arg hg)) hw) 4 8 (by omega) (by omega)) .nil) ?_; clear S; intro ac w β S
    rcases Bool.eq_false_or_eq_true (f_tableOk g.written 4 8) with h6 | h6 <;> rw [h6] at S
    ·have g7 := tableOk_t h6
     refine S.qb 5 [21] [(26, .v (B (f_tableOk g.live 4 8)))] (.cons (Q_call fun w hw => c_spec_TableOk w g.live pg.live (rd_of (RGuest.live (d := g) (S.arg hg)) hw) 4 8 (by omega) (by omega)) .nil) ?_; clear S; intro ac w β S
     rcases Bool.eq_false_or_eq_true (f_tableOk g.live 4 8) with h8 | h8 <;> rw [h8] at S
     ·have g9 := tableOk_t h8
      refine S.qb 5 [26] [(31, .v (B (f_ctlOk g.ctl)))] (.cons (Q_call fun w hw => c_spec_CtlOk w g.ctl) .nil) ?_; clear S; intro ac w β S
      rcases Bool.eq_false_or_eq_true (f_ctlOk g.ctl) with h10 | h10 <;> rw [h10] at S
      ·refine S.qb 5 [31] [(36, .v (B (f_within g.pend 0 255)))] (.cons (Q_call fun w hw => c_spec_PendOk w g.pend) .nil) ?_; clear S; intro ac w β S
       rcases Bool.eq_false_or_eq_true (f_within g.pend 0 255) with h11 | h11 <;> rw [h11] at S
       ·have g12 := within_t h11
        refine S.qb 5 [36] [(41, .v (B (f_exitOk g.exit)))] (.cons (Q_call fun w hw => c_spec_ExitOk w g.exit) .nil) ?_; clear S; intro ac w β S
        rcases Bool.eq_false_or_eq_true (f_exitOk g.exit) with h13 | h13 <;> rw [h13] at S
        ·refine S.qe 6 [41] [(2, .v (B (decide (((g.seen).length : Int) ≤ 40))))] ?_; clear S; intro ac w β S
         exact (nt (wr (S.r [B (decide (((g.seen).length : Int) ≤ 40))] ⟨retB k0_spec_GuestOk, S.chg⟩)))
        ·refine S.qe 6 [41] [(2, .v (B false))] ?_; clear S; intro ac w β S
         exact (nt (wr (S.r [B false] ⟨retB k0_spec_GuestOk, S.chg⟩)))
       ·have g14 := within_f h11
        refine S.qe 11 [36] [(2, .v (B false))] ?_; clear S; intro ac w β S
        exact (nt (wr (S.r [B false] ⟨retB k0_spec_GuestOk, S.chg⟩)))
      ·refine S.qe 16 [31] [(2, .v (B false))] ?_; clear S; intro ac w β S
       exact (nt (wr (S.r [B false] ⟨retB k0_spec_GuestOk, S.chg⟩)))
     ·refine S.qe 21 [26] [(2, .v (B false))] ?_; clear S; intro ac w β S
      exact (nt (wr (S.r [B false] ⟨retB k0_spec_GuestOk, S.chg⟩)))
    ·refine S.qe 26 [21] [(2, .v (B false))] ?_; clear S; intro ac w β S
     exact (nt (wr (S.r [B false] ⟨retB k0_spec_GuestOk, S.chg⟩)))
   ·have g15 := within_f h4
    refine S.qe 31 [16] [(2, .v (B false))] ?_; clear S; intro ac w β S
    exact (nt (wr (S.r [B false] ⟨retB k0_spec_GuestOk, S.chg⟩)))
  ·have g16 := within_f h2
   refine S.qe 36 [11] [(2, .v (B false))] ?_; clear S; intro ac w β S
   exact (nt (wr (S.r [B false] ⟨retB k0_spec_GuestOk, S.chg⟩)))
 ·refine S.qe 41 [6] [(2, .v (B false))] ?_; clear S; intro ac w β S
  exact (nt (wr (S.r [B false] ⟨retB k0_spec_GuestOk, S.chg⟩)))

set_option maxRecDepth 100000 in
theorem c_spec_RightsOk (w0 : World) (r : Int) : Calls Tryz.prog 144 [I r].toArray w0 (fun e w' => e = .returned (B (f_within r 0 3)) ∧ Chg NoB w0 w') := by
 refine Calls.walk (args := [I r]) NoB Tryz.func144 rfl rfl ?_
 intro ac β S
 refine ws (rg ?_)
 refine S.qe 1 [] [] ?_; clear S; intro ac w β S
 refine (nt (ws (rg ?_)))
 refine S.qg 3 [] [(2, .v (B (f_within r 0 3)))] (.cons (Q_call fun w hw => c_spec_l01In w r 0 3) .nil) ?_; clear S; intro ac w β S
 exact (nt (wr (S.r [B (f_within r 0 3)] ⟨retB (by clear S; first | rfl | (simp [f_within, *]; done) | (simp [f_within, *]; omega) | (simp_all [f_within]; done) | (simp_all [f_within]; omega)), S.chg⟩)))

theorem k0_spec_Enough {p : Prop} (h : p := by clear S; first | rfl | (simp [f_enough, *]; done) | (simp [f_enough, *]; omega) | (simp_all [f_enough]; done) | (simp_all [f_enough]; omega)) : p := h
set_option maxRecDepth 100000 in
theorem c_spec_Enough (w0 : World) (rights : Int) (need : Int) : Calls Tryz.prog 123 [I rights, I need].toArray w0 (fun e w' => e = .returned (B (f_enough rights need)) ∧ Chg NoB w0 w') := by
 refine Calls.walk (args := [I rights, I need]) NoB Tryz.func123 rfl rfl ?_
 intro ac β S
 refine ws (rg ?_)
 refine S.qe 1 [] [] ?_; clear S; intro ac w β S
 refine (nt (ws (rg ?_)))
 refine S.qb 3 [] [(7, .v (B (f_within rights 0 3)))] (.cons (Q_call fun w hw => c_spec_RightsOk w rights) .nil) ?_; clear S; intro ac w β S
 rcases Bool.eq_false_or_eq_true (f_within rights 0 3) with h1 | h1 <;> rw [h1] at S
 ·have g2 := within_t h1
  refine S.qb 4 [7] [(11, .v (B (f_within need 0 3)))] (.cons (Q_call fun w hw => c_spec_RightsOk w need) .nil) ?_; clear S; intro ac w β S
  rcases Bool.eq_false_or_eq_true (f_within need 0 3) with h3 | h3 <;> rw [h3] at S
  ·have g4 := within_t h3
   refine S.qg 7 [11] [(4, .v (B ((land64 rights need) == need)))] (.cons (Q_land64 (x := rights) (y := need)) .nil) ?_; clear S; intro ac w β S
   exact (nt (wr (S.r [B ((land64 rights need) == need)] ⟨retB k0_spec_Enough, S.chg⟩)))
  ·have g5 := within_f h3
   refine S.qe 7 [11] [(4, .v (B false))] ?_; clear S; intro ac w β S
   exact (nt (wr (S.r [B false] ⟨retB k0_spec_Enough, S.chg⟩)))
 ·have g6 := within_f h1
  refine S.qe 11 [7] [(4, .v (B false))] ?_; clear S; intro ac w β S
  exact (nt (wr (S.r [B false] ⟨retB k0_spec_Enough, S.chg⟩)))

theorem k1_spec_MonOk {p : Prop} (h : p := by clear S; (symm; rw [← Bool.not_eq_true]; intro hc; simp only [f_monOk, f_monHead, f_monTail, Bool.and_eq_true, decide_eq_true_eq, beq_iff_eq] at hc; first | omega | (simp_all; done) | (simp_all; omega) | (have hx := all_el (k := k) hc.1.2 (by omega); simp_all; done) | (have hx := rng_el (k := j) hc.2 (by omega); unfold f_pageSlot at hx; split at hx <;> first | (simp_all; done) | (simp_all; omega)))) : p := h
set_option maxRecDepth 100000 in
theorem c_spec_MonOk (w0 : World) (m : TMon) (pm : PMon) (hm : GT.rd KK (Lt w0.heap.size) w0 m pm) : Calls Tryz.prog 90 [GT.val m pm].toArray w0 (fun e w' => e = .returned (B (f_monOk m)) ∧ Chg NoB w0 w') := by
 refine Calls.walk (args := [GT.val m pm]) NoB Tryz.func90 rfl rfl ?_
 intro ac β S
 have hlem_outer : m.outer.length ≤ 4194304 := LRd.le (RMon.outer (d := m) hm)
 have hlem_out : m.out.length ≤ 4194304 := LRd.le (RMon.out (d := m) hm)
 have hlem_dirty : m.dirty.length ≤ 4194304 := LRd.le (RMon.dirty (d := m) hm)
 have hlem_guests : m.guests.length ≤ 4194304 := LRd.le (RMon.guests (d := m) hm)
 have hlem_outs : m.outs.length ≤ 4194304 := LRd.le (RMon.outs (d := m) hm)
 have hlem_tables : m.tables.length ≤ 4194304 := LRd.le (RMon.tables (d := m) hm)
 refine ws (rg ?_)
 refine S.qem 2 [] [(1, .p 0 0)] 1 [(0, GT.cells m pm)] ?_; clear S; intro ac w β S
 refine (nt (ws (ws (rg ?_))))
 refine S.qb 6 [] [(11, .v (B (!(f_within ((m.guests).length : Int) 1 2))))] (.cons (Q_call fun w hw => c_spec_l01In w ((m.guests).length : Int) 1 2) .nil) ?_; clear S; intro ac w β S
 rcases Bool.eq_false_or_eq_true (!(f_within ((m.guests).length : Int) 1 2)) with h1 | h1 <;> rw [h1] at S
 ·have h2 := not_t h1
  have g3 := within_f h2
  refine S.qe 26 [11] [(37, .v (B true))] ?_; clear S; intro ac w β S
  refine (nt (S.c true (fun _ => ?_) (fun hx => by cases hx)))
  refine ws (rg ?_)
  refine S.qe 1 [] [(2, .v (B false))] ?_; clear S; intro ac w β S
  exact (nt (wr (rt (S.r [B false] ⟨retB k1_spec_MonOk, S.chg⟩))))
 ·have h4 := not_f h1
  have g5 := within_t h4
  refine S.qa 9 [11] [(20, .v (B (((m.tables).length : Int) != ((m.guests).length : Int))))] ?_; clear S; intro ac w β S
  rcases Bool.eq_false_or_eq_true (((m.tables).length : Int) != ((m.guests).length : Int)) with h6 | h6 <;> rw [h6] at S
  ·have g7 : ¬ (((m.tables).length : Int) = ((m.guests).length : Int)) := bne_iff_ne.1 h6
   refine S.qe 17 [20] [(37, .v (B true))] ?_; clear S; intro ac w β S
   refine (nt (S.c true (fun _ => ?_) (fun hx => by cases hx)))
   refine ws (rg ?_)
   refine S.qe 1 [] [(2, .v (B false))] ?_; clear S; intro ac w β S
   exact (nt (wr (rt (S.r [B false] ⟨retB k1_spec_MonOk, S.chg⟩))))
  ·have g8 : ((m.tables).length : Int) = ((m.guests).length : Int) := ne_f h6
   refine S.qb 6 [20] [(26, .v (B (!(f_tableOk m.outer 8 12))))] (.cons (Q_call fun w hw => c_spec_TableOk w m.outer pm.outer (rd_of (RMon.outer (d := m) (S.arg hm)) hw) 8 12 (by omega) (by omega)) .nil) ?_; clear S; intro ac w β S
   rcases Bool.eq_false_or_eq_true (!(f_tableOk m.outer 8 12)) with h9 | h9 <;> rw [h9] at S
   ·have h10 := not_t h9
    refine S.qe 11 [26] [(37, .v (B true))] ?_; clear S; intro ac w β S
    refine (nt (S.c true (fun _ => ?_) (fun hx => by cases hx)))
    refine ws (rg ?_)
    refine S.qe 1 [] [(2, .v (B false))] ?_; clear S; intro ac w β S
    exact (nt (wr (rt (S.r [B false] ⟨retB k1_spec_MonOk, S.chg⟩))))
   ·have h11 := not_f h9
    have g12 := tableOk_t h11
    refine S.qa 6 [26] [(32, .v (B (((m.out).length : Int) != 8)))] ?_; clear S; intro ac w β S
    rcases Bool.eq_false_or_eq_true (((m.out).length : Int) != 8) with h13 | h13 <;> rw [h13] at S
    ·have g14 : ¬ (((m.out).length : Int) = 8) := bne_iff_ne.1 h13
     refine S.qe 5 [32] [(37, .v (B true))] ?_; clear S; intro ac w β S
     refine (nt (S.c true (fun _ => ?_) (fun hx => by cases hx)))
     refine ws (rg ?_)
     refine S.qe 1 [] [(2, .v (B false))] ?_; clear S; intro ac w β S
     exact (nt (wr (rt (S.r [B false] ⟨retB k1_spec_MonOk, S.chg⟩))))
    ·have g15 : ((m.out).length : Int) = 8 := ne_f h13
     refine S.qe 5 [32] [(37, .v (B (((m.dirty).length : Int) != 8)))] ?_; clear S; intro ac w β S
     refine (nt (S.c (((m.dirty).length : Int) != 8) (fun h16 => ?_) (fun h16 => ?_)))
     ·have g17 : ¬ (((m.dirty).length : Int) = 8) := bne_iff_ne.1 h16
      refine ws (rg ?_)
      refine S.qe 1 [] [(2, .v (B false))] ?_; clear S; intro ac w β S
      exact (nt (wr (rt (S.r [B false] ⟨retB k1_spec_MonOk, S.chg⟩))))
     ·have g18 : ((m.dirty).length : Int) = 8 := ne_f h16
      refine wk (nt (ws (ws (rg ?_))))
      refine S.qe 1 [] [(3, .v (I 0))] ?_; clear S; intro ac w β S
      refine (nt (wp_block ?_))
      refine wp_loop_down (fun mm ac w => ∃ (k : Nat)  (u : World) (N : Bl) (β : Nat → Nat), mm = (m.guests).length - k ∧ (k ≤ (m.guests).length) ∧ (((m.guests).take k).all f_guestOk = true) ∧ St Tryz.prog Tryz.f90.ntmps w0 NoB u N β ⟨[(1, .p 0 0), (3, .v (I (k : Int)))], [GT.cells m pm]⟩ ac w) _ ⟨0, _, _, _, rfl, (by first | omega | (simp; done) | (simp; omega)), (by simp), S.z⟩ ?_
      clear S
      rintro mm ac w ⟨k, u, N, β, rfl, hk, he, S⟩
      refine ws (ws (rg ?_))
      refine S.qe 5 [] [(42, .v (B (decide ((k : Int) < ((m.guests).length : Int)))))] ?_; clear S; intro ac w β S
      refine (nt (S.c (decide ((k : Int) < ((m.guests).length : Int))) (fun h19 => ?_) (fun h19 => ?_)))
      ·have g20 := of_decide_eq_true h19
       refine wk (nt (ws (wp_block (ws (rg ?_)))))
       refine S.qg 7 [] [(51, .v (B (!(f_guestOk (el m.guests k)))))] (.cons (Q_idx (RMon.guests (d := m) (S.arg hm)) (l := (m.guests).length) (k := k) (i := (k : Int)) rfl rfl (by omega) Tryz.underlying43 (by kernel_rfl)) (.cons (Q_el (RMon.guests (d := m) (S.arg hm)) (t := 90) (k := k) (by omega) rfl (by kernel_rfl) (by kernel_rfl)) (.cons (Q_call fun w hw => c_spec_GuestOk w (el m.guests k) (pm.guests.2 k) (rd_of (LRd.el (RMon.guests (d := m) (S.arg hm)) k (by omega)) hw)) .nil))) ?_; clear S; intro ac w β S
       refine (nt (S.c (!(f_guestOk (el m.guests k))) (fun h21 => ?_) (fun h21 => ?_)))
       ·have h22 := not_t h21
        refine ws (rg ?_)
        refine S.qe 1 [] [(2, .v (B false))] ?_; clear S; intro ac w β S
        exact (nt (wr (rb (rt (rt (rb (rt (S.r [B false] ⟨retB k1_spec_MonOk, S.chg⟩))))))))
       ·have h23 := not_f h21
        refine wk (nb (nt (rg ?_)))
        refine S.qg 3 [] [(3, .v (I ((k : Int) + 1)))] (.cons (Q_add (x := (k : Int)) (y := 1) ⟨by omega, by omega⟩) .nil) ?_; clear S; intro ac w β S
        refine (nt ?_)
        refine ⟨(m.guests).length - (k + 1), by omega, k + 1, _, _, _, rfl, ?_, ?_, S.z⟩
        ·clear S; first | omega | (simp [*]; done) | (simp [*]; omega)
        ·clear S; exact all_step (by omega) he (by first | assumption | (simp only [f_slotOk, f_within] at *; simp_all; done) | (simp_all; done) | (simp_all; omega))
      ·have g24 := of_decide_eq_false h19
       refine wp_exit (ex_then (ex_then (ex_hit (nt (ws (ws (rg ?_)))))))
       refine S.qe 1 [] [(4, .v (I 0))] ?_; clear S; intro ac w β S
       refine (nt (wp_block ?_))
       refine wp_loop_down (fun mm ac w => ∃ (j : Nat)  (u : World) (N : Bl) (β : Nat → Nat), mm = 8 - j ∧ (j ≤ 8) ∧ ((List.range j).all (f_pageSlot m) = true) ∧ St Tryz.prog Tryz.f90.ntmps w0 NoB u N β ⟨[(1, .p 0 0), (4, .v (I (j : Int)))], [GT.cells m pm]⟩ ac w) _ ⟨0, _, _, _, rfl, (by first | omega | (simp; done) | (simp; omega)), (by rfl), S.z⟩ ?_
       clear S
       rintro mm ac w ⟨j, u, N, β, rfl, hj, hp, S⟩
       have hlo : m.outer.length = 8 := by omega
       have hlu : m.out.length = 8 := by omega
       refine ws (ws (rg ?_))
       refine S.qe 2 [] [(53, .v (B (decide ((j : Int) < 8))))] ?_; clear S; intro ac w β S
       refine (nt (S.c (decide ((j : Int) < 8)) (fun h25 => ?_) (fun h25 => ?_)))
       ·have g26 := of_decide_eq_true h25
        refine wk (nt (ws (wp_block (ws ?_))))
        refine S.drawn (keep := [1, 4, 5]) (m := 1) (σ' := ⟨[(1, .p 0 0), (4, .v (I (j : Int))), (5, .v (B (!decide ((el m.outer j) = ((⟨-1, 0⟩ : TSlot))))))], [GT.cells m pm]⟩) (.cons (Q_idx (RMon.outer (d := m) (S.arg hm)) (l := (m.outer).length) (k := j) (i := (j : Int)) rfl rfl (by omega) Tryz.underlying50 (by kernel_rfl)) (.cons (Q_el (RMon.outer (d := m) (S.arg hm)) (t := 92) (k := j) (by omega) rfl (by kernel_rfl) (by kernel_rfl)) (.cons (Q_call fun w hw => c_spec_NoSlot w ) (.cons (Eq_ne_Slot (t := 92) (el m.outer j) ((⟨-1, 0⟩ : TSlot)) (by kernel_rfl)) .nil)))) rfl (by kernel_rfl) (by kernel_rfl) ?_
        clear S; intro ac w S
        refine id (nt (ws (rg ?_)))
        refine S.qa 2 [] [(64, .v (B (!decide ((el m.outer j) = ((⟨-1, 0⟩ : TSlot))))))] ?_; clear S; intro ac w β S
        rcases Bool.eq_false_or_eq_true (!decide ((el m.outer j) = ((⟨-1, 0⟩ : TSlot)))) with h27 | h27 <;> rw [h27] at S
        ·have b28 : ((el m.out j)).length ≤ 4194304 := LRd.le (LRd.el (RMon.out (d := m) (S.arg hm)) j (by omega))
         refine S.qb 8 [] [(5, .v (B true)), (64, .v (B true)), (72, .v (B (decide ((((el m.out j)).length : Int) > 0))))] (.cons (Q_idx (RMon.out (d := m) (S.arg hm)) (l := (m.out).length) (k := j) (i := (j : Int)) rfl rfl (by omega) Tryz.underlying22 (by kernel_rfl)) (.cons (Q_el1 (RMon.out (d := m) (S.arg hm)) (t := 44) (k := j) (by omega) rfl (by kernel_rfl)) .nil)) ?_; clear S; intro ac w β S
         rcases Bool.eq_false_or_eq_true (decide ((((el m.out j)).length : Int) > 0)) with h29 | h29 <;> rw [h29] at S
         ·have g30 := of_decide_eq_true h29
          refine S.qe 23 [72] [(95, .v (B true))] ?_; clear S; intro ac w β S
          refine (nt (S.c true (fun _ => ?_) (fun hx => by cases hx)))
          refine ws (rg ?_)
          refine S.qe 1 [] [(2, .v (B false))] ?_; clear S; intro ac w β S
          exact (nt (wr (rb (rt (rt (rb (rt (S.r [B false] ⟨retB k1_spec_MonOk, S.chg⟩))))))))
         ·have g31 := of_decide_eq_false h29
          refine S.qb 11 [72] [(83, .v (B (!(f_enough ((el m.outer j).rights) 1))))] (.cons (Q_idx (RMon.outer (d := m) (S.arg hm)) (l := (m.outer).length) (k := j) (i := (j : Int)) rfl rfl (by omega) Tryz.underlying50 (by kernel_rfl)) (.cons (Q_cell (RMon.outer (d := m) (S.arg hm)) (t := 3) (k := j) (j := 1) (v := I ((el m.outer j).rights)) (by omega) (by kernel_rfl) (by kernel_rfl)) (.cons (Q_call fun w hw => c_spec_Enough w ((el m.outer j).rights) 1) .nil))) ?_; clear S; intro ac w β S
          rcases Bool.eq_false_or_eq_true (!(f_enough ((el m.outer j).rights) 1)) with h32 | h32 <;> rw [h32] at S
          ·have h33 := not_t h32
           refine S.qe 12 [83] [(95, .v (B true))] ?_; clear S; intro ac w β S
           refine (nt (S.c true (fun _ => ?_) (fun hx => by cases hx)))
           refine ws (rg ?_)
           refine S.qe 1 [] [(2, .v (B false))] ?_; clear S; intro ac w β S
           exact (nt (wr (rb (rt (rt (rb (rt (S.r [B false] ⟨retB k1_spec_MonOk, S.chg⟩))))))))
          ·have h34 := not_f h32
           have g35 := enough_t h34
           refine S.qe 12 [83] [(95, .v (B false))] ?_; clear S; intro ac w β S
           refine (nt (S.c false (fun hx => by cases hx) (fun _ => ?_)))
           refine wk (nb (nt (rg ?_)))
           refine S.qg 3 [] [(4, .v (I ((j : Int) + 1)))] (.cons (Q_add (x := (j : Int)) (y := 1) ⟨by omega, by omega⟩) .nil) ?_; clear S; intro ac w β S
           refine (nt ?_)
           refine ⟨8 - (j + 1), by omega, j + 1, _, _, _, rfl, ?_, ?_, S.z⟩
           ·clear S; first | omega | (simp [*]; done) | (simp [*]; omega)
           ·clear S; (refine rng_step hp ?_; unfold f_pageSlot; (repeat' split) <;> first | (exfalso; simp_all; done) | (simp_all; done) | (simp_all; omega))
        ·refine S.qg 31 [5, 64] [(95, .v (B (!(f_pageOk (el m.out j)))))] (.cons (Q_idx (RMon.out (d := m) (S.arg hm)) (l := (m.out).length) (k := j) (i := (j : Int)) rfl rfl (by omega) Tryz.underlying22 (by kernel_rfl)) (.cons (Q_el1 (RMon.out (d := m) (S.arg hm)) (t := 44) (k := j) (by omega) rfl (by kernel_rfl)) (.cons (Q_call fun w hw => c_spec_PageOk w (el m.out j) (pm.out.2 j) (rd_of (LRd.el (RMon.out (d := m) (S.arg hm)) j (by omega)) hw)) .nil))) ?_; clear S; intro ac w β S
         refine (nt (S.c (!(f_pageOk (el m.out j))) (fun h36 => ?_) (fun h36 => ?_)))
         ·have h37 := not_t h36
          refine ws (rg ?_)
          refine S.qe 1 [] [(2, .v (B false))] ?_; clear S; intro ac w β S
          exact (nt (wr (rb (rt (rt (rb (rt (S.r [B false] ⟨retB k1_spec_MonOk, S.chg⟩))))))))
         ·have h38 := not_f h36
          refine wk (nb (nt (rg ?_)))
          refine S.qg 3 [] [(4, .v (I ((j : Int) + 1)))] (.cons (Q_add (x := (j : Int)) (y := 1) ⟨by omega, by omega⟩) .nil) ?_; clear S; intro ac w β S
          refine (nt ?_)
          refine ⟨8 - (j + 1), by omega, j + 1, _, _, _, rfl, ?_, ?_, S.z⟩
          ·clear S; first | omega | (simp [*]; done) | (simp [*]; omega)
          ·clear S; (refine rng_step hp ?_; unfold f_pageSlot; (repeat' split) <;> first | (exfalso; simp_all; done) | (simp_all; done) | (simp_all; omega))
       ·have g39 := of_decide_eq_false h25
        refine wp_exit (ex_then (ex_then (ex_hit (nt (ws (rg ?_))))))
        refine S.qa 5 [] [(100, .v (B (decide (((m.outs).length : Int) ≤ 40))))] ?_; clear S; intro ac w β S
        rcases Bool.eq_false_or_eq_true (decide (((m.outs).length : Int) ≤ 40)) with h40 | h40 <;> rw [h40] at S
        ·have g41 := of_decide_eq_true h40
         refine S.qb 5 [100] [(105, .v (B (f_within m.pend 0 255)))] (.cons (Q_call fun w hw => c_spec_PendOk w m.pend) .nil) ?_; clear S; intro ac w β S
         rcases Bool.eq_false_or_eq_true (f_within m.pend 0 255) with h42 | h42 <;> rw [h42] at S
         ·have g43 := within_t h42
          refine S.qb 5 [105] [(110, .v (B (f_within m.traps 0 3)))] (.cons (Q_call fun w hw => c_spec_l01In w m.traps 0 3) .nil) ?_; clear S; intro ac w β S
          rcases Bool.eq_false_or_eq_true (f_within m.traps 0 3) with h44 | h44 <;> rw [h44] at S
          ·have g45 := within_t h44
           refine S.qg 5 [110] [(2, .v (B (f_within m.owned 0 1000000000)))] (.cons (Q_call fun w hw => c_spec_l01In w m.owned 0 1000000000) .nil) ?_; clear S; intro ac w β S
           exact (nt (wr (S.r [B (f_within m.owned 0 1000000000)] ⟨retB (by clear S; (first | rfl | (symm; rw [← Bool.not_eq_true]; intro hc; simp only [f_monOk, f_monHead, f_monTail, Bool.and_eq_true, decide_eq_true_eq, beq_iff_eq] at hc; first | omega | (simp_all; done) | (simp_all; omega) | (have hx := all_el (k := k) hc.1.2 (by omega); simp_all; done) | (have hx := rng_el (k := j) hc.2 (by omega); unfold f_pageSlot at hx; split at hx <;> first | (simp_all; done) | (simp_all; omega))) | (symm; simp only [f_monOk, f_monHead, f_monTail, Bool.and_eq_true, decide_eq_true_eq, beq_iff_eq]; (repeat' apply And.intro); all_goals first | assumption | omega | (simp_all; done) | (simp_all; omega) | (exact all_end (by omega) he) | ((have e8 : j = 8 := (by omega)); subst e8; exact hp)) | (rw [Bool.eq_iff_iff]; simp only [f_monOk, f_monHead, f_monTail, Bool.and_eq_true, decide_eq_true_eq, beq_iff_eq]; refine ⟨fun hr => ?_, fun hc => ?_⟩ <;> ((repeat' apply And.intro); all_goals first | assumption | omega | (simp_all; done) | (simp_all; omega) | (exact all_end (by omega) he) | ((have e8 : j = 8 := (by omega)); subst e8; exact hp))))), S.chg⟩)))
          ·have g46 := within_f h44
           refine S.qe 5 [110] [(2, .v (B false))] ?_; clear S; intro ac w β S
           exact (nt (wr (S.r [B false] ⟨retB k1_spec_MonOk, S.chg⟩)))
         ·have g47 := within_f h42
          refine S.qe 10 [105] [(2, .v (B false))] ?_; clear S; intro ac w β S
          exact (nt (wr (S.r [B false] ⟨retB k1_spec_MonOk, S.chg⟩)))
        ·have g48 := of_decide_eq_false h40
         refine S.qe 15 [100] [(2, .v (B false))] ?_; clear S; intro ac w β S
         exact (nt (wr (S.r [B false] ⟨retB k1_spec_MonOk, S.chg⟩)))

theorem k0_spec_HostOk {p : Prop} (h : p := by clear S; (first | (symm; rw [← Bool.not_eq_true]; intro hc; simp only [f_hostOk, f_hostHead, Bool.and_eq_true] at hc; (first | (simp_all; done) | (simp_all; omega))) | (rw [hostOk_dead (fold_dead (k := i) (by omega) stepMon_none hu (stepMon_bad (by assumption)))]) | (rw [hostOk_dead (fold_dead (k := i) (by omega) stepMon_none hu ((stepMon_ok hmok).trans (fold_dead (k := k) (by omega) stepSlot_none hu2 (stepSlot_hit (by omega) (by assumption)))))]) | (unfold f_hostOk f_hostUsed f_hostHead; rw [take_all (by omega)] at hu; rw [hu]; simp_all; done))) : p := h
set_option maxRecDepth 100000 in
theorem c_spec_HostOk (w0 : World) (h : THost) (ph : PHost) (hh : GT.rd KK (Lt w0.heap.size) w0 h ph) : Calls Tryz.prog 44 [GT.val h ph].toArray w0 (fun e w' => e = .returned (B (f_hostOk h)) ∧ Chg NoB w0 w') := by
 refine Calls.walk (args := [GT.val h ph]) NoB Tryz.func44 rfl rfl ?_
 intro ac β S
 have hleh_mem : h.mem.length ≤ 4194304 := LRd.le (RHost.mem (d := h) hh)
 have hleh_mons : h.mons.length ≤ 4194304 := LRd.le (RHost.mons (d := h) hh)
 have hleh_buf : h.buf.length ≤ 4194304 := LRd.le (RHost.buf (d := h) hh)
 have hleh_iobuf : h.iobuf.length ≤ 4194304 := LRd.le (RHost.iobuf (d := h) hh)
 refine ws (rg ?_)
 refine S.qem 2 [] [(1, .p 0 0)] 1 [(0, GT.cells h ph)] ?_; clear S; intro ac w β S
 refine (nt (ws (ws (rg ?_))))
 refine S.qb 5 [] [(11, .v (B (!(f_memOk h.mem 12))))] (.cons (Q_call fun w hw => c_spec_MemOk w h.mem ph.mem (rd_of (RHost.mem (d := h) (S.arg hh)) hw) 12) .nil) ?_; clear S; intro ac w β S
 rcases Bool.eq_false_or_eq_true (!(f_memOk h.mem 12)) with h1 | h1 <;> rw [h1] at S
 ·have h2 := not_t h1
  refine S.qe 18 [11] [(29, .v (B true))] ?_; clear S; intro ac w β S
  refine (nt (S.c true (fun _ => ?_) (fun hx => by cases hx)))
  refine ws (rg ?_)
  refine S.qe 1 [] [(2, .v (B false))] ?_; clear S; intro ac w β S
  exact (nt (wr (rt (S.r [B false] ⟨retB k0_spec_HostOk, S.chg⟩))))
 ·have h3 := not_f h1
  refine S.qb 7 [11] [(18, .v (B (!(f_within ((h.mons).length : Int) 1 3))))] (.cons (Q_call fun w hw => c_spec_l01In w ((h.mons).length : Int) 1 3) .nil) ?_; clear S; intro ac w β S
  rcases Bool.eq_false_or_eq_true (!(f_within ((h.mons).length : Int) 1 3)) with h4 | h4 <;> rw [h4] at S
  ·have h5 := not_t h4
   have g6 := within_f h5
   refine S.qe 11 [18] [(29, .v (B true))] ?_; clear S; intro ac w β S
   refine (nt (S.c true (fun _ => ?_) (fun hx => by cases hx)))
   refine ws (rg ?_)
   refine S.qe 1 [] [(2, .v (B false))] ?_; clear S; intro ac w β S
   exact (nt (wr (rt (S.r [B false] ⟨retB k0_spec_HostOk, S.chg⟩))))
  ·have h7 := not_f h4
   have g8 := within_t h7
   refine S.qb 6 [18] [(24, .v (B (!(f_bufferOk h.buf))))] (.cons (Q_call fun w hw => c_spec_BufferOk w h.buf ph.buf (rd_of (RHost.buf (d := h) (S.arg hh)) hw)) .nil) ?_; clear S; intro ac w β S
   rcases Bool.eq_false_or_eq_true (!(f_bufferOk h.buf)) with h9 | h9 <;> rw [h9] at S
   ·have h10 := not_t h9
    refine S.qe 5 [24] [(29, .v (B true))] ?_; clear S; intro ac w β S
    refine (nt (S.c true (fun _ => ?_) (fun hx => by cases hx)))
    refine ws (rg ?_)
    refine S.qe 1 [] [(2, .v (B false))] ?_; clear S; intro ac w β S
    exact (nt (wr (rt (S.r [B false] ⟨retB k0_spec_HostOk, S.chg⟩))))
   ·have h11 := not_f h9
    refine S.qg 5 [24] [(29, .v (B (!(f_bufferOk h.iobuf))))] (.cons (Q_call fun w hw => c_spec_BufferOk w h.iobuf ph.iobuf (rd_of (RHost.iobuf (d := h) (S.arg hh)) hw)) .nil) ?_; clear S; intro ac w β S
    refine (nt (S.c (!(f_bufferOk h.iobuf)) (fun h12 => ?_) (fun h12 => ?_)))
    ·have h13 := not_t h12
     refine ws (rg ?_)
     refine S.qe 1 [] [(2, .v (B false))] ?_; clear S; intro ac w β S
     exact (nt (wr (rt (S.r [B false] ⟨retB k0_spec_HostOk, S.chg⟩))))
    ·have h14 := not_f h12
     refine wk (nt (ws (rg ?_)))
     refine RG.op rfl (S.make (α := Bool) (m := 12) (by' := 1) (d := 30) (by kernel_rfl) (by omega) (show 12 ≤ 4194304 by omega) ?_)
     clear S; intro ac w N q15 F16 S up o17 d18
     clear up d18
     refine S.qe 1 [] [(3, .v (slv 12 q15.1))] ?_; clear S; intro ac w β S
     refine (nt (ws (ws (rg ?_))))
     refine S.qe 1 [] [(4, .v (I 0))] ?_; clear S; intro ac w β S
     refine (nt (wp_block ?_))
     refine wp_loop_down (fun mm ac w => ∃ (i : Nat) (us : List Bool) (q19 : GT.Ptr (List Bool)) (F20 : Bl) (u : World) (N : Bl) (β : Nat → Nat), mm = h.mons.length - i ∧ (i ≤ h.mons.length) ∧ ((h.mons.take i).foldl stepMon (some (List.replicate 12 false)) = some us) ∧ (us.length = 12) ∧ St Tryz.prog Tryz.f44.ntmps w0 NoB u N β ⟨[(1, .p 0 0), (3, .v (slv 12 q19.1)), (4, .v (I (i : Int)))], [GT.cells h ph]⟩ ac w ∧ Ow w0 NoB u N F20 us q19) _ ⟨0, (List.replicate 12 (GT.dflt : Bool)), q15, F16, _, _, _, rfl, (by first | omega | (simp; done) | (simp; omega)), (by rfl), (by rfl), S.z, o17⟩ ?_
     clear S o17
     rintro mm ac w ⟨i, us, q19, F20, u, N, β, rfl, hi, hu, hul, S, o21⟩
     refine ws (ws (rg ?_))
     refine S.qe 5 [] [(35, .v (B (decide ((i : Int) < ((h.mons).length : Int)))))] ?_; clear S; intro ac w β S
     refine (nt (S.c (decide ((i : Int) < ((h.mons).length : Int))) (fun h22 => ?_) (fun h22 => ?_)))
     ·have g23 := of_decide_eq_true h22
      refine wk (nt (ws (wp_block (ws (ws (rg ?_))))))
      refine S.qg 7 [] [(44, .v (B (!(f_monOk (el h.mons i)))))] (.cons (Q_idx (RHost.mons (d := h) (S.arg hh)) (l := (h.mons).length) (k := i) (i := (i : Int)) rfl rfl (by omega) Tryz.underlying28 (by kernel_rfl)) (.cons (Q_el (RHost.mons (d := h) (S.arg hh)) (t := 54) (k := i) (by omega) rfl (by kernel_rfl) (by kernel_rfl)) (.cons (Q_call fun w hw => c_spec_MonOk w (el h.mons i) (ph.mons.2 i) (rd_of (LRd.el (RHost.mons (d := h) (S.arg hh)) i (by omega)) hw)) .nil))) ?_; clear S; intro ac w β S
      refine (nt (S.c (!(f_monOk (el h.mons i))) (fun h24 => ?_) (fun h24 => ?_)))
      ·have h25 := not_t h24
       refine ws (rg ?_)
       refine S.qe 1 [] [(2, .v (B false))] ?_; clear S; intro ac w β S
       exact (nt (wr (rt (rb (rt (rt (rb (rt (S.r [B false] ⟨retB k0_spec_HostOk, S.chg⟩)))))))))
      ·have h26 := not_f h24
       have g27 := monOk_t h26
       refine wk (nt (ws (rg ?_)))
       refine S.qe 1 [] [(5, .v (I 0))] ?_; clear S; intro ac w β S
       refine (nt (wp_block ?_))
       refine wp_loop_down (fun mm ac w => ∃ (k : Nat) (us2 : List Bool) (q28 : GT.Ptr (List Bool)) (F29 : Bl) (u : World) (N : Bl) (β : Nat → Nat), mm = 8 - k ∧ (k ≤ 8) ∧ (((el h.mons i).outer.take k).foldl stepSlot (some us) = some us2) ∧ (us2.length = 12) ∧ St Tryz.prog Tryz.f44.ntmps w0 NoB u N β ⟨[(1, .p 0 0), (3, .v (slv 12 q28.1)), (4, .v (I (i : Int))), (5, .v (I (k : Int)))], [GT.cells h ph]⟩ ac w ∧ Ow w0 NoB u N F29 us2 q28) _ ⟨0, us, q19, F20, _, _, _, rfl, (by first | omega | (simp; done) | (simp; omega)), (by rfl), (by omega), S.z, o21⟩ ?_
       clear S o21
       rintro mm ac w ⟨k, us2, q28, F29, u, N, β, rfl, hk, hu2, hul2, S, o30⟩
       have hmok : f_monOk (el h.mons i) = true := by assumption
       have hpg := page_lt hmok k
       have hol := (monOk_t hmok).1
       refine ws (ws (rg ?_))
       refine S.qe 2 [] [(46, .v (B (decide ((k : Int) < 8))))] ?_; clear S; intro ac w β S
       refine (nt (S.c (decide ((k : Int) < 8)) (fun h31 => ?_) (fun h31 => ?_)))
       ·have g32 := of_decide_eq_true h31
        refine wk (nt (ws (wp_block (ws (rg ?_)))))
        refine S.qg 11 [] [(6, .v (I ((el ((el h.mons i).outer) k).page)))] (.cons (Q_idx (RHost.mons (d := h) (S.arg hh)) (l := (h.mons).length) (k := i) (i := (i : Int)) rfl rfl (by omega) Tryz.underlying28 (by kernel_rfl)) (.cons (Q_cell (RHost.mons (d := h) (S.arg hh)) (t := 50) (k := i) (j := 0) (v := slv ((el h.mons i).outer).length ((ph.mons.2 i).outer).1) (by omega) (by kernel_rfl) (by kernel_rfl)) (.cons (Q_idx (RMon.outer (d := (el h.mons i)) (LRd.el (RHost.mons (d := h) (S.arg hh)) i (by omega))) (l := ((el h.mons i).outer).length) (k := k) (i := (k : Int)) rfl rfl (by omega) Tryz.underlying50 (by kernel_rfl)) (.cons (Q_cell (RMon.outer (d := (el h.mons i)) (LRd.el (RHost.mons (d := h) (S.arg hh)) i (by omega))) (t := 3) (k := k) (j := 0) (v := I ((el ((el h.mons i).outer) k).page)) (by omega) (by kernel_rfl) (by kernel_rfl)) .nil)))) ?_; clear S; intro ac w β S
        refine (nt (ws (ws (rg ?_))))
        refine S.qa 3 [] [(61, .v (B (decide ((el ((el h.mons i).outer) k).page ≥ 0))))] ?_; clear S; intro ac w β S
        rcases Bool.eq_false_or_eq_true (decide ((el ((el h.mons i).outer) k).page ≥ 0)) with h33 | h33 <;> rw [h33] at S
        ·have g34 := of_decide_eq_true h33
         refine S.qg 5 [61] [(66, .v (B (el us2 (((el ((el h.mons i).outer) k).page).toNat))))] (.cons (Q_idx o30.rn (l := 12) (k := ((el ((el h.mons i).outer) k).page).toNat) (i := (el ((el h.mons i).outer) k).page) (by omega) (by omega) (by omega) Tryz.underlying51 (by kernel_rfl)) (.cons (Q_el1 o30.rn (t := 4) (k := ((el ((el h.mons i).outer) k).page).toNat) (by omega) rfl (by kernel_rfl)) .nil)) ?_; clear S; intro ac w β S
         refine (nt (S.c (el us2 (((el ((el h.mons i).outer) k).page).toNat)) (fun h35 => ?_) (fun h35 => ?_)))
         ·refine ws (rg ?_)
          refine S.qe 1 [] [(2, .v (B false))] ?_; clear S; intro ac w β S
          exact (nt (wr (rt (rb (rt (rt (rb (rb (rt (rt (rb (rt (S.r [B false] ⟨retB k0_spec_HostOk, S.chg⟩)))))))))))))
         ·refine wk (nt (ws (rg ?_)))
          refine S.qe 2 [] [(68, .v (B (decide ((el ((el h.mons i).outer) k).page ≥ 0))))] ?_; clear S; intro ac w β S
          refine (nt (S.c (decide ((el ((el h.mons i).outer) k).page ≥ 0)) (fun h36 => ?_) (fun h36 => ?_)))
          ·have g37 := of_decide_eq_true h36
           refine rg ?_
           refine S.qb 3 [] [(71, .v (pt q28.1.b (q28.1.off + (((el ((el h.mons i).outer) k).page).toNat) * 1)))] (.cons (Q_idx o30.rn (l := 12) (k := ((el ((el h.mons i).outer) k).page).toNat) (i := (el ((el h.mons i).outer) k).page) (by omega) (by omega) (by omega) Tryz.underlying51 (by kernel_rfl)) .nil) ?_; clear S; intro ac w β S
           refine RG.op rfl (S.setEl (α := Bool) o30 (t := 4) (v := B true) (k := ((el ((el h.mons i).outer) k).page).toNat) (j := 0) (off := q28.1.off + (((el ((el h.mons i).outer) k).page).toNat) * 1) (y := true) (q := ()) (Fy := NoB) (by kernel_rfl) (by kernel_rfl) (by omega) (by kernel_rfl) (by kernel_rfl) (Nat.le_of_ble_eq_true (by kernel_rfl)) (by kernel_rfl) (fun _ _ _ => ⟨NoB, trivial, fun _ h => False.elim h⟩) (fun b _ h => False.elim h) (fun b h => False.elim h) (fun b h => False.elim h) ?_)
           clear S; intro w N F39 q40 S up o38 d41 s42 n43
           clear up d41 o30 n43
           have l44 : (us2.set (((el ((el h.mons i).outer) k).page).toNat) true).length = (us2).length := List.length_set
           refine rd (nb (nt (rg ?_)))
           refine S.qg 3 [] [(5, .v (I ((k : Int) + 1)))] (.cons (Q_add (x := (k : Int)) (y := 1) ⟨by omega, by omega⟩) .nil) ?_; clear S; intro ac w β S
           refine (nt ?_)
           refine ⟨8 - (k + 1), by omega, k + 1, (us2.set (((el ((el h.mons i).outer) k).page).toNat) true), (q28.1, q40), F39, _, _, _, rfl, ?_, ?_, ?_, S.z, o38⟩
           ·clear S; first | omega | (simp [*]; done) | (simp [*]; omega)
           ·clear S; (rw [fold_step (by omega), hu2]; first | exact stepSlot_neg (by omega) | exact stepSlot_new (by omega) (by assumption) | exact stepSlot_new (by omega) (by simp_all))
           ·clear S; (first | omega | (simp; omega))
          ·have g45 := of_decide_eq_false h36
           refine wk (nb (nt (rg ?_)))
           refine S.qg 3 [] [(5, .v (I ((k : Int) + 1)))] (.cons (Q_add (x := (k : Int)) (y := 1) ⟨by omega, by omega⟩) .nil) ?_; clear S; intro ac w β S
           refine (nt ?_)
           refine ⟨8 - (k + 1), by omega, k + 1, us2, q28, F29, _, _, _, rfl, ?_, ?_, ?_, S.z, o30⟩
           ·clear S; first | omega | (simp [*]; done) | (simp [*]; omega)
           ·clear S; (rw [fold_step (by omega), hu2]; first | exact stepSlot_neg (by omega) | exact stepSlot_new (by omega) (by assumption) | exact stepSlot_new (by omega) (by simp_all))
           ·clear S; (first | omega | (simp; omega))
        ·have g46 := of_decide_eq_false h33
         refine S.qe 5 [61] [(66, .v (B false))] ?_; clear S; intro ac w β S
         refine (nt (S.c false (fun hx => by cases hx) (fun _ => ?_)))
         refine wk (nt (ws (rg ?_)))
         refine S.qe 2 [] [(68, .v (B (decide ((el ((el h.mons i).outer) k).page ≥ 0))))] ?_; clear S; intro ac w β S
         refine (nt (S.c (decide ((el ((el h.mons i).outer) k).page ≥ 0)) (fun h47 => ?_) (fun h47 => ?_)))
         ·have g48 := of_decide_eq_true h47
          refine rg ?_
          refine S.qb 3 [] [(71, .v (pt q28.1.b (q28.1.off + (((el ((el h.mons i).outer) k).page).toNat) * 1)))] (.cons (Q_idx o30.rn (l := 12) (k := ((el ((el h.mons i).outer) k).page).toNat) (i := (el ((el h.mons i).outer) k).page) (by omega) (by omega) (by omega) Tryz.underlying51 (by kernel_rfl)) .nil) ?_; clear S; intro ac w β S
          refine RG.op rfl (S.setEl (α := Bool) o30 (t := 4) (v := B true) (k := ((el ((el h.mons i).outer) k).page).toNat) (j := 0) (off := q28.1.off + (((el ((el h.mons i).outer) k).page).toNat) * 1) (y := true) (q := ()) (Fy := NoB) (by kernel_rfl) (by kernel_rfl) (by omega) (by kernel_rfl) (by kernel_rfl) (Nat.le_of_ble_eq_true (by kernel_rfl)) (by kernel_rfl) (fun _ _ _ => ⟨NoB, trivial, fun _ h => False.elim h⟩) (fun b _ h => False.elim h) (fun b h => False.elim h) (fun b h => False.elim h) ?_)
          clear S; intro w N F50 q51 S up o49 d52 s53 n54
          clear up d52 o30 n54
          have l55 : (us2.set (((el ((el h.mons i).outer) k).page).toNat) true).length = (us2).length := List.length_set
          refine rd (nb (nt (rg ?_)))
          refine S.qg 3 [] [(5, .v (I ((k : Int) + 1)))] (.cons (Q_add (x := (k : Int)) (y := 1) ⟨by omega, by omega⟩) .nil) ?_; clear S; intro ac w β S
          refine (nt ?_)
          refine ⟨8 - (k + 1), by omega, k + 1, (us2.set (((el ((el h.mons i).outer) k).page).toNat) true), (q28.1, q51), F50, _, _, _, rfl, ?_, ?_, ?_, S.z, o49⟩
          ·clear S; first | omega | (simp [*]; done) | (simp [*]; omega)
          ·clear S; (rw [fold_step (by omega), hu2]; first | exact stepSlot_neg (by omega) | exact stepSlot_new (by omega) (by assumption) | exact stepSlot_new (by omega) (by simp_all))
          ·clear S; (first | omega | (simp; omega))
         ·have g56 := of_decide_eq_false h47
          refine wk (nb (nt (rg ?_)))
          refine S.qg 3 [] [(5, .v (I ((k : Int) + 1)))] (.cons (Q_add (x := (k : Int)) (y := 1) ⟨by omega, by omega⟩) .nil) ?_; clear S; intro ac w β S
          refine (nt ?_)
          refine ⟨8 - (k + 1), by omega, k + 1, us2, q28, F29, _, _, _, rfl, ?_, ?_, ?_, S.z, o30⟩
          ·clear S; first | omega | (simp [*]; done) | (simp [*]; omega)
          ·clear S; (rw [fold_step (by omega), hu2]; first | exact stepSlot_neg (by omega) | exact stepSlot_new (by omega) (by assumption) | exact stepSlot_new (by omega) (by simp_all))
          ·clear S; (first | omega | (simp; omega))
       ·have g57 := of_decide_eq_false h31
        refine wp_exit (ex_then (ex_then (ex_hit (nb (nt (rg ?_))))))
        refine S.qg 3 [] [(4, .v (I ((i : Int) + 1)))] (.cons (Q_add (x := (i : Int)) (y := 1) ⟨by omega, by omega⟩) .nil) ?_; clear S; intro ac w β S
        refine (nt ?_)
        refine ⟨h.mons.length - (i + 1), by omega, i + 1, us2, q28, F29, _, _, _, rfl, ?_, ?_, ?_, S.z, o30⟩
        ·clear S; first | omega | (simp [*]; done) | (simp [*]; omega)
        ·clear S; (rw [fold_step (by omega), hu, stepMon_ok (by assumption)]; rw [take_all (by omega)] at hu2; exact hu2)
        ·clear S; omega
     ·have g58 := of_decide_eq_false h22
      refine wp_exit (ex_then (ex_then (ex_hit (nt (ws (rg ?_))))))
      refine S.qe 1 [] [(2, .v (B true))] ?_; clear S; intro ac w β S
      exact (nt (wr (S.r [B true] ⟨retB k0_spec_HostOk, S.chg⟩)))

theorem k0_spec_l25Mon {p : Prop} (h : p := by clear S; first | rfl | (simp [f_l25Mon, *]; done) | (simp [f_l25Mon, *]; omega) | (simp_all [f_l25Mon]; done) | (simp_all [f_l25Mon]; omega)) : p := h
set_option maxRecDepth 100000 in
theorem c_spec_l25Mon (w0 : World) (h : THost) (ph : PHost) (hh : GT.rd KK (Lt w0.heap.size) w0 h ph) (m : Int) : Calls Tryz.prog 15 [GT.val h ph, I m].toArray w0 (fun e w' => e = .returned (B (f_l25Mon h m)) ∧ Chg NoB w0 w') := by
 refine Calls.walk (args := [GT.val h ph, I m]) NoB Tryz.func15 rfl rfl ?_
 intro ac β S
 have hleh_mem : h.mem.length ≤ 4194304 := LRd.le (RHost.mem (d := h) hh)
 have hleh_mons : h.mons.length ≤ 4194304 := LRd.le (RHost.mons (d := h) hh)
 have hleh_buf : h.buf.length ≤ 4194304 := LRd.le (RHost.buf (d := h) hh)
 have hleh_iobuf : h.iobuf.length ≤ 4194304 := LRd.le (RHost.iobuf (d := h) hh)
 refine ws (rg ?_)
 refine S.qem 2 [] [(2, .p 0 0)] 1 [(0, GT.cells h ph)] ?_; clear S; intro ac w β S
 refine (nt (ws (rg ?_)))
 refine S.qb 3 [] [(7, .v (B (f_hostOk h)))] (.cons (Q_call fun w hw => c_spec_HostOk w h ph (rd_of (S.arg hh) hw)) .nil) ?_; clear S; intro ac w β S
 rcases Bool.eq_false_or_eq_true (f_hostOk h) with h1 | h1 <;> rw [h1] at S
 ·have g2 := hostOk_t h1
  refine S.qg 8 [7] [(4, .v (B (f_within m 0 (((h.mons).length : Int) - 1))))] (.cons (Q_sub (x := ((h.mons).length : Int)) (y := 1) ⟨by omega, by omega⟩) (.cons (Q_call fun w hw => c_spec_l01In w m 0 (((h.mons).length : Int) - 1)) .nil)) ?_; clear S; intro ac w β S
  exact (nt (wr (S.r [B (f_within m 0 (((h.mons).length : Int) - 1))] ⟨retB k0_spec_l25Mon, S.chg⟩)))
 ·refine S.qe 8 [7] [(4, .v (B false))] ?_; clear S; intro ac w β S
  exact (nt (wr (S.r [B false] ⟨retB k0_spec_l25Mon, S.chg⟩)))

theorem k0_spec_Brought {p : Prop} (h : p := by clear S; (unfold f_brought; (repeat' split) <;> first | rfl | omega | (exfalso; simp_all; omega))) : p := h
set_option maxRecDepth 100000 in
theorem c_spec_Brought (w0 : World) (n : Int) (a : Int) (b : Int) : Calls Tryz.prog 92 [I n, I a, I b].toArray w0 (fun e w' => e = .returned (I (f_brought n a b)) ∧ Chg NoB w0 w') := by
 refine Calls.walk (args := [I n, I a, I b]) NoB Tryz.func92 rfl rfl ?_
 intro ac β S
 refine ws (rg ?_)
 refine S.qe 1 [] [] ?_; clear S; intro ac w β S
 refine (nt (ws (ws (rg ?_))))
 refine S.qa 4 [] [(10, .v (B (decide (b < a))))] ?_; clear S; intro ac w β S
 rcases Bool.eq_false_or_eq_true (decide (b < a)) with h1 | h1 <;> rw [h1] at S
 ·have g2 := of_decide_eq_true h1
  refine S.qe 4 [10] [(14, .v (B true))] ?_; clear S; intro ac w β S
  refine (nt (S.c true (fun _ => ?_) (fun hx => by cases hx)))
  refine ws (rg ?_)
  refine S.qe 2 [] [(6, .v (I a))] ?_; clear S; intro ac w β S
  exact (nt (wr (rt (S.r [I a] ⟨retI k0_spec_Brought, S.chg⟩))))
 ·have g3 := of_decide_eq_false h1
  refine S.qe 4 [10] [(14, .v (B (decide (n < a))))] ?_; clear S; intro ac w β S
  refine (nt (S.c (decide (n < a)) (fun h4 => ?_) (fun h4 => ?_)))
  ·have g5 := of_decide_eq_true h4
   refine ws (rg ?_)
   refine S.qe 2 [] [(6, .v (I a))] ?_; clear S; intro ac w β S
   exact (nt (wr (rt (S.r [I a] ⟨retI k0_spec_Brought, S.chg⟩))))
  ·have g6 := of_decide_eq_false h4
   refine wk (nt (ws (ws (rg ?_))))
   refine S.qe 3 [] [(18, .v (B (decide (n > b))))] ?_; clear S; intro ac w β S
   refine (nt (S.c (decide (n > b)) (fun h7 => ?_) (fun h7 => ?_)))
   ·have g8 := of_decide_eq_true h7
    refine ws (rg ?_)
    refine S.qe 2 [] [(6, .v (I b))] ?_; clear S; intro ac w β S
    exact (nt (wr (rt (S.r [I b] ⟨retI k0_spec_Brought, S.chg⟩))))
   ·have g9 := of_decide_eq_false h7
    refine wk (nt (ws (rg ?_)))
    refine S.qe 2 [] [(6, .v (I n))] ?_; clear S; intro ac w β S
    exact (nt (wr (S.r [I n] ⟨retI k0_spec_Brought, S.chg⟩)))

set_option maxRecDepth 100000 in
theorem c_spec_MemNew (w0 : World) (n : Int) : Calls Tryz.prog 50 [I n].toArray w0 (Ret1 NoB w0 ((List.replicate (f_brought n 0 24).toNat (List.replicate 4 (0 : Int))) : List (List Int))) := by
 refine Calls.walk (args := [I n]) NoB Tryz.func50 rfl rfl ?_
 intro ac β S
 refine ws (rg ?_)
 refine S.qe 1 [] [] ?_; clear S; intro ac w β S
 refine (nt (ws (rg ?_)))
 refine RG.op rfl (S.bs0 (α := List Int) (d := 5) (by kernel_rfl) ?_)
 clear S; intro ac w N q1 F2 S up o3 d4
 clear up d4
 refine S.qe 1 [] [(3, .v (slv 0 q1.1))] ?_; clear S; intro ac w β S
 refine (nt (ws (ws (rg ?_))))
 refine S.qg 3 [] [(4, .v (I (f_brought n 0 24)))] (.cons (Q_call fun w hw => c_spec_Brought w n 0 24) .nil) ?_; clear S; intro ac w β S
 refine (nt (wp_block ?_))
 refine wp_loop_down (fun mm ac w => ∃ (i : Int) (acc : List (List Int)) (q5 : GT.Ptr (List (List Int))) (F6 : Bl) (u : World) (N : Bl) (β : Nat → Nat), mm = i.toNat ∧ (0 ≤ i ∧ i ≤ f_brought n 0 24) ∧ (acc = List.replicate (f_brought n 0 24 - i).toNat (List.replicate 4 0)) ∧ St Tryz.prog Tryz.f50.ntmps w0 NoB u N β ⟨[(3, .v (slv (acc).length q5.1)), (4, .v (I i))], []⟩ ac w ∧ Ow w0 NoB u N F6 acc q5) _ ⟨(f_brought n 0 24), ([] : List (List Int)), q1, F2, _, _, _, rfl, (by (have hb := brought_bd n); omega), (by (rw [show (f_brought n 0 24 - f_brought n 0 24).toNat = 0 by omega]; rfl)), S.z, o3⟩ ?_
 clear S o3
 rintro mm ac w ⟨i, acc, q5, F6, u, N, β, rfl, hi, hacc, S, o7⟩
 have hb := brought_bd n
 have hlacc : acc.length ≤ 24 := by rw [hacc, List.length_replicate]; omega
 refine ws (ws (rg ?_))
 refine S.qe 2 [] [(9, .v (B (decide (i > 0))))] ?_; clear S; intro ac w β S
 refine (nt (S.c (decide (i > 0)) (fun h8 => ?_) (fun h8 => ?_)))
 ·have g9 := of_decide_eq_true h8
  refine wk (nt (ws (wp_block (rg ?_))))
  refine S.qa 1 [] [(12, .v (slv (acc).length q5.1))] ?_; clear S; intro ac w β S
  refine RG.op rfl (S.make (α := Int) (m := 4) (by' := 8) (d := 13) (by kernel_rfl) (by omega) (show 4 ≤ 4194304 by omega) ?_)
  clear S; intro ac w N q10 F11 S up o12 d13
  have d14 : Disj F6 F11 := fun b x y => d13 b (o7.sub b x) y
  replace o7 := o7.up up
  clear up d13
  refine RG.op rfl (S.bs1 (α := List Int) (x := (List.replicate 4 (GT.dflt : Int))) (p := q10) o12.own o12.sub o12.young (d := 14) (by kernel_rfl) ?_)
  clear S; intro ac w N q15 F16 S up o17 d18
  have d19 : Disj F6 F16 := d18 _ d14 o7.sub
  replace o7 := o7.up up
  clear up d18
  refine RG.op rfl (S.appOwn (α := List Int) o7 o17 d19 (by' := 24) (d := 15) (lx := (acc).length) (ly := 1) rfl rfl (by kernel_rfl) (show _ ≤ 4194304 by simp only [List.length_append, List.length_cons, List.length_nil]; omega) ?_)
  clear S; intro ac w N q20 F21 S up o22 d23
  clear up d23
  refine S.qe 1 [] [(3, .v (slv ((acc ++ [(List.replicate 4 (GT.dflt : Int))])).length q20.1))] ?_; clear S; intro ac w β S
  refine (nb (nt (rg ?_)))
  refine S.qg 3 [] [(4, .v (I (i - 1)))] (.cons (Q_sub (x := i) (y := 1) ⟨by omega, by omega⟩) .nil) ?_; clear S; intro ac w β S
  refine (nt ?_)
  refine ⟨(i - 1).toNat, by omega, (i - 1), (acc ++ [(List.replicate 4 (GT.dflt : Int))]), q20, F21, _, _, _, rfl, ?_, ?_, S.z, o22⟩
  ·clear S; omega
  ·clear S; (rw [hacc]; exact (repl_next (by omega)).symm)
 ·have g24 := of_decide_eq_false h8
  refine wp_exit (ex_then (ex_then (ex_hit (nt (ws (rg ?_))))))
  refine S.qe 2 [] [(2, .v (slv (acc).length q5.1))] ?_; clear S; intro ac w β S
  exact (nt (wr (S.r [slv (acc).length q5.1] (ret1_of S (show (List.replicate (f_brought n 0 24).toNat (List.replicate 4 (0 : Int))) = acc by clear S; (rw [hacc, show i = 0 by omega, Int.sub_zero])) rfl o7))))

set_option maxRecDepth 100000 in
theorem c_spec_l25View (w0 : World) (x : TMon) (px : PMon) (hx : GT.rd KK (Lt w0.heap.size) w0 x px) : Calls Tryz.prog 17 [GT.val x px].toArray w0 (Ret1 NoB w0 (f_view x : TBare)) := by
 refine Calls.walk (args := [GT.val x px]) NoB Tryz.func17 rfl rfl ?_
 intro ac β S
 have hlex_outer : x.outer.length ≤ 4194304 := LRd.le (RMon.outer (d := x) hx)
 have hlex_out : x.out.length ≤ 4194304 := LRd.le (RMon.out (d := x) hx)
 have hlex_dirty : x.dirty.length ≤ 4194304 := LRd.le (RMon.dirty (d := x) hx)
 have hlex_guests : x.guests.length ≤ 4194304 := LRd.le (RMon.guests (d := x) hx)
 have hlex_outs : x.outs.length ≤ 4194304 := LRd.le (RMon.outs (d := x) hx)
 have hlex_tables : x.tables.length ≤ 4194304 := LRd.le (RMon.tables (d := x) hx)
 refine ws (rg ?_)
 refine S.qem 2 [] [(1, .p 0 0), (2, .p 1 0)] 2 [(0, GT.cells x px), (1, Zc TBare)] ?_; clear S; intro ac w β S
 refine (nt (ws ?_))
 let σ1 : Sy := ⟨[(1, .p 0 0), (2, .p 1 0)], [GT.cells x px, Zc TBare]⟩
 obtain ⟨u0, N0, β0, S⟩ : ∃ u0 N0 β0, St Tryz.prog Tryz.f17.ntmps w0 NoB u0 N0 β0 σ1 ac w := ⟨_, _, _, S.z⟩
 refine wp_region_cut (fun ac w => ∃ q77 F78 q74 F75 q80 F81 u N β, St Tryz.prog Tryz.f17.ntmps w0 NoB u N β (σ1.dl [1] [] 2 [(1, [slv ((List.replicate (f_brought 8 0 24).toNat (List.replicate 4 (0 : Int)))).length q74.1, slv (x.guests).length q77.1, slv ((([] : List Int) ++ x.outs)).length q80.1, I x.pend])]) ac w ∧ Ow w0 NoB u N F78 x.guests q77 ∧ Ow w0 NoB u N F75 (List.replicate (f_brought 8 0 24).toNat (List.replicate 4 (0 : Int))) q74 ∧ Ow w0 NoB u N F81 (([] : List Int) ++ x.outs) q80 ∧ Disj F78 F75 ∧ Disj F78 F81 ∧ Disj F75 F81) ?_ ?_
 ·refine S.draw0 (f := 12) 11 rfl rfl ?_
  clear S; intro w S
  refine S.hq 1 [1] [] [(4, .p 0 3)] .nil ?_
  clear S; intro ac S
  refine S.hq 2 [2] [] [(5, .v (slv (x.guests).length px.guests.1))] .nil ?_
  clear S; intro ac S
  refine S.hq 5 [5] [] [(8, .p 0 4)] .nil ?_
  clear S; intro ac S
  refine S.hq 6 [6] [] [(9, .v (slv (x.outs).length px.outs.1))] .nil ?_
  clear S; intro ac S
  refine S.hq 8 [8] [] [(11, .p 0 5)] .nil ?_
  clear S; intro ac S
  refine S.hq 9 [9] [] [(12, .v (I x.pend))] .nil ?_
  clear S; intro ac S
  refine WD.nameW fun W hW => ?_
  refine WD.castW (l' := mkL 12 [1, 2, 5, 6, 8, 9]) (by kernel_rfl) ?_
  have hK82 ac w q77 F78 q74 F75 q80 F81 u N β (S : St Tryz.prog Tryz.f17.ntmps w0 NoB u N β (σ1.dl [1] [] 2 [(1, [slv ((List.replicate (f_brought 8 0 24).toNat (List.replicate 4 (0 : Int)))).length q74.1, slv (x.guests).length q77.1, slv ((([] : List Int) ++ x.outs)).length q80.1, I x.pend])]) ac w) (o76 : Ow w0 NoB u N F78 x.guests q77) (o73 : Ow w0 NoB u N F75 (List.replicate (f_brought 8 0 24).toNat (List.replicate 4 (0 : Int))) q74) (o79 : Ow w0 NoB u N F81 (([] : List Int) ++ x.outs) q80) (d83 : Disj F78 F75) (d84 : Disj F78 F81) (d85 : Disj F75 F81) : W 0 (mkL 12 [0, 1, 2, 3, 4, 5, 6, 7, 8, 9, 10, 11]) ac w := by
   exact od hW ⟨rfl, q77, F78, q74, F75, q80, F81, _, _, _, S.z, o76, o73, o79, d83, d84, d85⟩
  have hK86 ac w q68 F69 q65 F66 q71 F72 u N β (S : St Tryz.prog Tryz.f17.ntmps w0 NoB u N β (σ1.dl [1] [(13, .v (GT.val (⟨(List.replicate (f_brought 8 0 24).toNat (List.replicate 4 (0 : Int))), x.guests, (([] : List Int) ++ x.outs), x.pend⟩ : TBare) (⟨q65, q68, q71⟩ : PBare)))] 2 []) ac w) (o67 : Ow w0 NoB u N F69 x.guests q68) (o64 : Ow w0 NoB u N F66 (List.replicate (f_brought 8 0 24).toNat (List.replicate 4 (0 : Int))) q65) (o70 : Ow w0 NoB u N F72 (([] : List Int) ++ x.outs) q71) (d87 : Disj F69 F66) (d88 : Disj F69 F72) (d89 : Disj F66 F72) (hNN : NN N0 u0 N u) (hBB : BB σ1.bx.length β0 β) : W 1 (mkL 12 [0, 1, 2, 3, 4, 5, 6, 7, 8, 9, 10]) ac w := by
   exact o1 hW 11 (S.wl hW [] .nil fun _ _ _ S => hK82 _ _ q68 F69 q65 F66 q71 F72 _ _ _ S o67 o64 o70 d87 d88 d89)
  have hK90 ac w q62 F63 q8 F9 q25 F26 u N β (S : St Tryz.prog Tryz.f17.ntmps w0 NoB u N β (σ1.dl [1] [(3, .v (slv ((List.replicate (f_brought 8 0 24).toNat (List.replicate 4 (0 : Int)))).length q8.1)), (6, .v (slv (x.guests).length q25.1)), (10, .v (slv ((([] : List Int) ++ x.outs)).length q62.1)), (12, .v (I x.pend))] 2 []) ac w) (o61 : Ow w0 NoB u N F63 (([] : List Int) ++ x.outs) q62) (o7 : Ow w0 NoB u N F9 (List.replicate (f_brought 8 0 24).toNat (List.replicate 4 (0 : Int))) q8) (o24 : Ow w0 NoB u N F26 x.guests q25) (d91 : Disj F63 F9) (d92 : Disj F63 F26) (d93 : Disj F9 F26) (hNN : NN N0 u0 N u) (hBB : BB σ1.bx.length β0 β) : W 2 (mkL 12 [0, 1, 2, 3, 4, 5, 6, 7, 8, 9]) ac w := by
   exact o1 hW 10 (S.wq hW hNN hBB [] (.cons (Q_sem (s := Instr.build 46 [(0, slv ((List.replicate (f_brought 8 0 24).toNat (List.replicate 4 (0 : Int)))).length q8.1), (1, slv (x.guests).length q25.1), (2, slv ((([] : List Int) ++ x.outs)).length q62.1), (3, I x.pend)].toArray) (v := .agg [slv ((List.replicate (f_brought 8 0 24).toNat (List.replicate 4 (0 : Int)))).length q8.1, slv (x.guests).length q25.1, slv ((([] : List Int) ++ x.outs)).length q62.1, I x.pend].toArray) (fun w => by kernel_rfl)) .nil) fun _ _ _ S hB => hK86 _ _ q25 F26 q8 F9 q62 F63 _ _ _ S o24 o7 o61 (Disj.symm d93) (Disj.symm d92) (Disj.symm d91) hNN hB)
  have hK94 ac w q8 F9 q25 F26 q16 F17 u N β (S : St Tryz.prog Tryz.f17.ntmps w0 NoB u N β (σ1.dl [1] [(3, .v (slv ((List.replicate (f_brought 8 0 24).toNat (List.replicate 4 (0 : Int)))).length q8.1)), (6, .v (slv (x.guests).length q25.1)), (7, .v (slv 0 q16.1)), (9, .v (slv (x.outs).length px.outs.1)), (12, .v (I x.pend))] 2 []) ac w) (o7 : Ow w0 NoB u N F9 (List.replicate (f_brought 8 0 24).toNat (List.replicate 4 (0 : Int))) q8) (o24 : Ow w0 NoB u N F26 x.guests q25) (o15 : Ow w0 NoB u N F17 ([] : List Int) q16) (d95 : Disj F9 F26) (d96 : Disj F9 F17) (d97 : Disj F26 F17) (hNN : ∀ b, N0 b → N b ∧ u.heap[b]? = u0.heap[b]? ∧ ¬ F17 b) (hBB : BB σ1.bx.length β0 β) : W 3 (mkL 12 [0, 1, 2, 3, 4, 5, 6, 8, 9]) ac w := by
   refine o1 hW 7 ?_
   have b102 : (x.outs).length ≤ 4194304 := LRd.le (RMon.outs (d := x) (S.arg hx))
   refine id (S.appFlat (α := Int) o15 ((RMon.outs (d := x) (S.arg hx))) (fun _ _ h => h) (by' := 8) (d := 10) (lx := 0) (ly := (x.outs).length) rfl rfl (by kernel_rfl) (show _ ≤ 4194304 by simp only [List.length_append, List.length_cons, List.length_nil]; omega) ?_)
   clear S; intro ac w N q98 F99 S up o100 d101
   have hb103 := fun b h => (⟨(up b (hNN b h).1 (hNN b h).2.2).1, (up b (hNN b h).1 (hNN b h).2.2).2.trans (hNN b h).2.1⟩ : _ ∧ _)
   refine WD.sc S hb103 hBB fun hC => ?_
   have d104 : Disj F9 F99 := d101 _ d96 o7.sub
   have d105 : Disj F26 F99 := d101 _ d97 o24.sub
   replace o7 := o7.upF d96 up
   replace o24 := o24.upF d97 up
   clear up d101
   exact S.wh hW [] hC fun _ S => hK90 _ _ q98 F99 q8 F9 q25 F26 _ _ _ S o100 o7 o24 (Disj.symm d104) (Disj.symm d105) d95 hb103 hBB
  have hK106 ac w q8 F9 q25 F26 u N β (S : St Tryz.prog Tryz.f17.ntmps w0 NoB u N β (σ1.dl [1] [(3, .v (slv ((List.replicate (f_brought 8 0 24).toNat (List.replicate 4 (0 : Int)))).length q8.1)), (6, .v (slv (x.guests).length q25.1)), (9, .v (slv (x.outs).length px.outs.1)), (12, .v (I x.pend))] 2 []) ac w) (o7 : Ow w0 NoB u N F9 (List.replicate (f_brought 8 0 24).toNat (List.replicate 4 (0 : Int))) q8) (o24 : Ow w0 NoB u N F26 x.guests q25) (d107 : Disj F9 F26) (hNN : NN N0 u0 N u) (hBB : BB σ1.bx.length β0 β) : W 4 (mkL 12 [0, 1, 2, 3, 5, 6, 8, 9]) ac w := by
   refine o1 hW 4 ?_
   refine id (S.bs0 (α := Int) (d := 7) (by kernel_rfl) ?_)
   clear S; intro ac w N q108 F109 S up o110 d111
   have hb112 := fun b h => (⟨(up b (hNN b h).1).1, (up b (hNN b h).1).2.trans (hNN b h).2, d111 b (hNN b h).1⟩ : _ ∧ _ ∧ _)
   refine WD.sc S (fun b h => ⟨(hb112 b h).1, (hb112 b h).2.1⟩) hBB fun hC => ?_
   have d113 : Disj F9 F109 := fun b x y => d111 b (o7.sub b x) y
   have d114 : Disj F26 F109 := fun b x y => d111 b (o24.sub b x) y
   replace o7 := o7.up up
   replace o24 := o24.up up
   clear up d111
   exact S.wh hW [] hC fun _ S => hK94 _ _ q8 F9 q25 F26 q108 F109 _ _ _ S o7 o24 o110 d107 d113 d114 hb112 hBB
  have hK115 ac w q8 F9 q16 F17 u N β (S : St Tryz.prog Tryz.f17.ntmps w0 NoB u N β (σ1.dl [1] [(3, .v (slv ((List.replicate (f_brought 8 0 24).toNat (List.replicate 4 (0 : Int)))).length q8.1)), (5, .v (slv (x.guests).length px.guests.1)), (7, .v (slv 0 q16.1)), (9, .v (slv (x.outs).length px.outs.1)), (12, .v (I x.pend))] 2 []) ac w) (o7 : Ow w0 NoB u N F9 (List.replicate (f_brought 8 0 24).toNat (List.replicate 4 (0 : Int))) q8) (o15 : Ow w0 NoB u N F17 ([] : List Int) q16) (d116 : Disj F9 F17) (hNN : ∀ b, N0 b → N b ∧ u.heap[b]? = u0.heap[b]? ∧ ¬ F17 b) (hBB : BB σ1.bx.length β0 β) : W 4 (mkL 12 [0, 1, 2, 4, 5, 6, 8, 9]) ac w := by
   refine o1 hW 3 ?_
   refine id (S.call1 (r := x.guests) (d := 6) (c_spec_l17Guests w x.guests px.guests (S.rd (RMon.guests (d := x) (S.arg hx)))) (by kernel_rfl) rfl ?_)
   clear S; intro ac w N q117 F118 S up o119 d120
   have hb121 := fun b h => (⟨(up b (hNN b h).1).1, (up b (hNN b h).1).2.trans (hNN b h).2.1, (hNN b h).2.2⟩ : _ ∧ _ ∧ _)
   refine WD.sc S (fun b h => ⟨(hb121 b h).1, (hb121 b h).2.1⟩) hBB fun hC => ?_
   have d122 : Disj F9 F118 := fun b x y => d120 b (o7.sub b x) y
   have d123 : Disj F17 F118 := fun b x y => d120 b (o15.sub b x) y
   replace o7 := o7.up up
   replace o15 := o15.up up
   clear up d120
   exact S.wh hW [] hC fun _ S => hK94 _ _ q8 F9 q117 F118 q16 F17 _ _ _ S o7 o119 o15 d122 d116 (Disj.symm d123) hb121 hBB
  have hK124 ac w q8 F9 u N β (S : St Tryz.prog Tryz.f17.ntmps w0 NoB u N β (σ1.dl [1] [(3, .v (slv ((List.replicate (f_brought 8 0 24).toNat (List.replicate 4 (0 : Int)))).length q8.1)), (5, .v (slv (x.guests).length px.guests.1)), (9, .v (slv (x.outs).length px.outs.1)), (12, .v (I x.pend))] 2 []) ac w) (o7 : Ow w0 NoB u N F9 (List.replicate (f_brought 8 0 24).toNat (List.replicate 4 (0 : Int))) q8) (hNN : NN N0 u0 N u) (hBB : BB σ1.bx.length β0 β) : W 5 (mkL 12 [0, 1, 2, 5, 6, 8, 9]) ac w := by
   refine o2 hW 3 4 ?_ ?_
   ·refine id (S.call1 (r := x.guests) (d := 6) (c_spec_l17Guests w x.guests px.guests (S.rd (RMon.guests (d := x) (S.arg hx)))) (by kernel_rfl) rfl ?_)
    clear S; intro ac w N q125 F126 S up o127 d128
    have hb129 := fun b h => (⟨(up b (hNN b h).1).1, (up b (hNN b h).1).2.trans (hNN b h).2⟩ : _ ∧ _)
    refine WD.sc S hb129 hBB fun hC => ?_
    have d130 : Disj F9 F126 := fun b x y => d128 b (o7.sub b x) y
    replace o7 := o7.up up
    clear up d128
    exact S.wh hW [] hC fun _ S => hK106 _ _ q8 F9 q125 F126 _ _ _ S o7 o127 d130 hb129 hBB
   ·refine id (S.bs0 (α := Int) (d := 7) (by kernel_rfl) ?_)
    clear S; intro ac w N q131 F132 S up o133 d134
    have hb135 := fun b h => (⟨(up b (hNN b h).1).1, (up b (hNN b h).1).2.trans (hNN b h).2, d134 b (hNN b h).1⟩ : _ ∧ _ ∧ _)
    refine WD.sc S (fun b h => ⟨(hb135 b h).1, (hb135 b h).2.1⟩) hBB fun hC => ?_
    have d136 : Disj F9 F132 := fun b x y => d134 b (o7.sub b x) y
    replace o7 := o7.up up
    clear up d134
    exact S.wh hW [] hC fun _ S => hK115 _ _ q8 F9 q131 F132 _ _ _ S o7 o133 d136 hb135 hBB
  have hK137 ac w q16 F17 u N β (S : St Tryz.prog Tryz.f17.ntmps w0 NoB u N β (σ1.dl [1] [(5, .v (slv (x.guests).length px.guests.1)), (7, .v (slv 0 q16.1)), (9, .v (slv (x.outs).length px.outs.1)), (12, .v (I x.pend))] 2 []) ac w) (o15 : Ow w0 NoB u N F17 ([] : List Int) q16) (hNN : ∀ b, N0 b → N b ∧ u.heap[b]? = u0.heap[b]? ∧ ¬ F17 b) (hBB : BB σ1.bx.length β0 β) : W 5 (mkL 12 [1, 2, 4, 5, 6, 8, 9]) ac w := by
   refine o1 hW 0 ?_
   refine id (S.call1 (r := (List.replicate (f_brought 8 0 24).toNat (List.replicate 4 (0 : Int)))) (d := 3) (c_spec_MemNew w 8) (by kernel_rfl) rfl ?_)
   clear S; intro ac w N q138 F139 S up o140 d141
   have hb142 := fun b h => (⟨(up b (hNN b h).1).1, (up b (hNN b h).1).2.trans (hNN b h).2.1, (hNN b h).2.2⟩ : _ ∧ _ ∧ _)
   refine WD.sc S (fun b h => ⟨(hb142 b h).1, (hb142 b h).2.1⟩) hBB fun hC => ?_
   have d143 : Disj F17 F139 := fun b x y => d141 b (o15.sub b x) y
   replace o15 := o15.up up
   clear up d141
   exact S.wh hW [] hC fun _ S => hK115 _ _ q138 F139 q16 F17 _ _ _ S o140 o15 (Disj.symm d143) hb142 hBB
  have hNN : NN N0 u0 N0 u0 := fun b h => ⟨h, rfl⟩
  have hBB : BB σ1.bx.length β0 β0 := fun _ _ => rfl
  refine o2 hW 0 4 ?_ ?_
  ·refine id (S.call1 (r := (List.replicate (f_brought 8 0 24).toNat (List.replicate 4 (0 : Int)))) (d := 3) (c_spec_MemNew w 8) (by kernel_rfl) rfl ?_)
   clear S; intro ac w N q144 F145 S up o146 d147
   have hb148 := fun b h => (⟨(up b (hNN b h).1).1, (up b (hNN b h).1).2.trans (hNN b h).2⟩ : _ ∧ _)
   refine WD.sc S hb148 hBB fun hC => ?_
   clear up d147
   exact S.wh hW [] hC fun _ S => hK124 _ _ q144 F145 _ _ _ S o146 hb148 hBB
  ·refine id (S.bs0 (α := Int) (d := 7) (by kernel_rfl) ?_)
   clear S; intro ac w N q149 F150 S up o151 d152
   have hb153 := fun b h => (⟨(up b (hNN b h).1).1, (up b (hNN b h).1).2.trans (hNN b h).2, d152 b (hNN b h).1⟩ : _ ∧ _ ∧ _)
   refine WD.sc S (fun b h => ⟨(hb153 b h).1, (hb153 b h).2.1⟩) hBB fun hC => ?_
   clear up d152
   exact S.wh hW [] hC fun _ S => hK137 _ _ q149 F150 _ _ _ S o151 hb153 hBB
 clear S
 rintro ac w ⟨q77, F78, q74, F75, q80, F81, u, N, β, S, o76, o73, o79, d154, d155, d156⟩
 refine id (nt (wr (S.r [GT.val (⟨(List.replicate (f_brought 8 0 24).toNat (List.replicate 4 (0 : Int))), x.guests, (([] : List Int) ++ x.outs), x.pend⟩ : TBare) (⟨q74, q77, q80⟩ : PBare)] ?_)))
 have o157 := ow_Bare (x := (⟨(List.replicate (f_brought 8 0 24).toNat (List.replicate 4 (0 : Int))), x.guests, (([] : List Int) ++ x.outs), x.pend⟩ : TBare)) (p := (⟨q74, q77, q80⟩ : PBare)) o73 o76 o79 (Disj.symm d154) d156 d155 (RMon.pend (d := x) (S.arg hx))
 exact ret1_of S (show f_view x = (⟨(List.replicate (f_brought 8 0 24).toNat (List.replicate 4 (0 : Int))), x.guests, (([] : List Int) ++ x.outs), x.pend⟩ : TBare) by clear S; (first | rfl | (simp [f_view]; rfl))) rfl o157

set_option maxRecDepth 100000 in
theorem c_spec_l17Copy (w0 : World) (b : TBare) (pb : PBare) (hb : GT.rd KK (Lt w0.heap.size) w0 b pb) : Calls Tryz.prog 46 [GT.val b pb].toArray w0 (Ret1 NoB w0 (b : TBare)) := by
 refine Calls.walk (args := [GT.val b pb]) NoB Tryz.func46 rfl rfl ?_
 intro ac β S
 have hleb_mem : b.mem.length ≤ 4194304 := LRd.le (RBare.mem (d := b) hb)
 have hleb_guests : b.guests.length ≤ 4194304 := LRd.le (RBare.guests (d := b) hb)
 have hleb_outs : b.outs.length ≤ 4194304 := LRd.le (RBare.outs (d := b) hb)
 refine ws (rg ?_)
 refine S.qem 2 [] [(1, .p 0 0), (2, .p 1 0)] 2 [(0, GT.cells b pb), (1, Zc TBare)] ?_; clear S; intro ac w β S
 refine (nt (ws ?_))
 let σ1 : Sy := ⟨[(1, .p 0 0), (2, .p 1 0)], [GT.cells b pb, Zc TBare]⟩
 obtain ⟨u0, N0, β0, S⟩ : ∃ u0 N0 β0, St Tryz.prog Tryz.f46.ntmps w0 NoB u0 N0 β0 σ1 ac w := ⟨_, _, _, S.z⟩
 refine wp_region_cut (fun ac w => ∃ q77 F78 q74 F75 q80 F81 u N β, St Tryz.prog Tryz.f46.ntmps w0 NoB u N β (σ1.dl [1] [] 2 [(1, [slv (b.mem).length q74.1, slv (b.guests).length q77.1, slv ((([] : List Int) ++ b.outs)).length q80.1, I b.pend])]) ac w ∧ Ow w0 NoB u N F78 b.guests q77 ∧ Ow w0 NoB u N F75 b.mem q74 ∧ Ow w0 NoB u N F81 (([] : List Int) ++ b.outs) q80 ∧ Disj F78 F75 ∧ Disj F78 F81 ∧ Disj F75 F81) ?_ ?_
 ·refine S.draw0 (f := 14) 13 rfl rfl ?_
  clear S; intro w S
  refine S.hq 0 [0] [] [(3, .p 0 0)] .nil ?_
  clear S; intro ac S
  refine S.hq 1 [1] [] [(4, .v (slv (b.mem).length pb.mem.1))] .nil ?_
  clear S; intro ac S
  refine S.hq 3 [3] [] [(6, .p 0 1)] .nil ?_
  clear S; intro ac S
  refine S.hq 4 [4] [] [(7, .v (slv (b.guests).length pb.guests.1))] .nil ?_
  clear S; intro ac S
  refine S.hq 7 [7] [] [(10, .p 0 2)] .nil ?_
  clear S; intro ac S
  refine S.hq 8 [8] [] [(11, .v (slv (b.outs).length pb.outs.1))] .nil ?_
  clear S; intro ac S
  refine S.hq 10 [10] [] [(13, .p 0 3)] .nil ?_
  clear S; intro ac S
  refine S.hq 11 [11] [] [(14, .v (I b.pend))] .nil ?_
  clear S; intro ac S
  refine WD.nameW fun W hW => ?_
  refine WD.castW (l' := mkL 14 [0, 1, 3, 4, 7, 8, 10, 11]) (by kernel_rfl) ?_
  have hK82 ac w q77 F78 q74 F75 q80 F81 u N β (S : St Tryz.prog Tryz.f46.ntmps w0 NoB u N β (σ1.dl [1] [] 2 [(1, [slv (b.mem).length q74.1, slv (b.guests).length q77.1, slv ((([] : List Int) ++ b.outs)).length q80.1, I b.pend])]) ac w) (o76 : Ow w0 NoB u N F78 b.guests q77) (o73 : Ow w0 NoB u N F75 b.mem q74) (o79 : Ow w0 NoB u N F81 (([] : List Int) ++ b.outs) q80) (d83 : Disj F78 F75) (d84 : Disj F78 F81) (d85 : Disj F75 F81) : W 0 (mkL 14 [0, 1, 2, 3, 4, 5, 6, 7, 8, 9, 10, 11, 12, 13]) ac w := by
   exact od hW ⟨rfl, q77, F78, q74, F75, q80, F81, _, _, _, S.z, o76, o73, o79, d83, d84, d85⟩
  have hK86 ac w q68 F69 q65 F66 q71 F72 u N β (S : St Tryz.prog Tryz.f46.ntmps w0 NoB u N β (σ1.dl [1] [(15, .v (GT.val (⟨b.mem, b.guests, (([] : List Int) ++ b.outs), b.pend⟩ : TBare) (⟨q65, q68, q71⟩ : PBare)))] 2 []) ac w) (o67 : Ow w0 NoB u N F69 b.guests q68) (o64 : Ow w0 NoB u N F66 b.mem q65) (o70 : Ow w0 NoB u N F72 (([] : List Int) ++ b.outs) q71) (d87 : Disj F69 F66) (d88 : Disj F69 F72) (d89 : Disj F66 F72) (hNN : NN N0 u0 N u) (hBB : BB σ1.bx.length β0 β) : W 1 (mkL 14 [0, 1, 2, 3, 4, 5, 6, 7, 8, 9, 10, 11, 12]) ac w := by
   exact o1 hW 13 (S.wl hW [] .nil fun _ _ _ S => hK82 _ _ q68 F69 q65 F66 q71 F72 _ _ _ S o67 o64 o70 d87 d88 d89)
  have hK90 ac w q62 F63 q8 F9 q25 F26 u N β (S : St Tryz.prog Tryz.f46.ntmps w0 NoB u N β (σ1.dl [1] [(5, .v (slv (b.mem).length q8.1)), (8, .v (slv (b.guests).length q25.1)), (12, .v (slv ((([] : List Int) ++ b.outs)).length q62.1)), (14, .v (I b.pend))] 2 []) ac w) (o61 : Ow w0 NoB u N F63 (([] : List Int) ++ b.outs) q62) (o7 : Ow w0 NoB u N F9 b.mem q8) (o24 : Ow w0 NoB u N F26 b.guests q25) (d91 : Disj F63 F9) (d92 : Disj F63 F26) (d93 : Disj F9 F26) (hNN : NN N0 u0 N u) (hBB : BB σ1.bx.length β0 β) : W 2 (mkL 14 [0, 1, 2, 3, 4, 5, 6, 7, 8, 9, 10, 11]) ac w := by
   exact o1 hW 12 (S.wq hW hNN hBB [] (.cons (Q_sem (s := Instr.build 46 [(0, slv (b.mem).length q8.1), (1, slv (b.guests).length q25.1), (2, slv ((([] : List Int) ++ b.outs)).length q62.1), (3, I b.pend)].toArray) (v := .agg [slv (b.mem).length q8.1, slv (b.guests).length q25.1, slv ((([] : List Int) ++ b.outs)).length q62.1, I b.pend].toArray) (fun w => by kernel_rfl)) .nil) fun _ _ _ S hB => hK86 _ _ q25 F26 q8 F9 q62 F63 _ _ _ S o24 o7 o61 (Disj.symm d93) (Disj.symm d92) (Disj.symm d91) hNN hB)
  have hK94 ac w q8 F9 q25 F26 q16 F17 u N β (S : St Tryz.prog Tryz.f46.ntmps w0 NoB u N β (σ1.dl [1] [(5, .v (slv (b.mem).length q8.1)), (8, .v (slv (b.guests).length q25.1)), (9, .v (slv 0 q16.1)), (11, .v (slv (b.outs).length pb.outs.1)), (14, .v (I b.pend))] 2 []) ac w) (o7 : Ow w0 NoB u N F9 b.mem q8) (o24 : Ow w0 NoB u N F26 b.guests q25) (o15 : Ow w0 NoB u N F17 ([] : List Int) q16) (d95 : Disj F9 F26) (d96 : Disj F9 F17) (d97 : Disj F26 F17) (hNN : ∀ b, N0 b → N b ∧ u.heap[b]? = u0.heap[b]? ∧ ¬ F17 b) (hBB : BB σ1.bx.length β0 β) : W 3 (mkL 14 [0, 1, 2, 3, 4, 5, 6, 7, 8, 10, 11]) ac w := by
   refine o1 hW 9 ?_
   have b102 : (b.outs).length ≤ 4194304 := LRd.le (RBare.outs (d := b) (S.arg hb))
   refine id (S.appFlat (α := Int) o15 ((RBare.outs (d := b) (S.arg hb))) (fun _ _ h => h) (by' := 8) (d := 12) (lx := 0) (ly := (b.outs).length) rfl rfl (by kernel_rfl) (show _ ≤ 4194304 by simp only [List.length_append, List.length_cons, List.length_nil]; omega) ?_)
   clear S; intro ac w N q98 F99 S up o100 d101
   have hb103 := fun b h => (⟨(up b (hNN b h).1 (hNN b h).2.2).1, (up b (hNN b h).1 (hNN b h).2.2).2.trans (hNN b h).2.1⟩ : _ ∧ _)
   refine WD.sc S hb103 hBB fun hC => ?_
   have d104 : Disj F9 F99 := d101 _ d96 o7.sub
   have d105 : Disj F26 F99 := d101 _ d97 o24.sub
   replace o7 := o7.upF d96 up
   replace o24 := o24.upF d97 up
   clear up d101
   exact S.wh hW [] hC fun _ S => hK90 _ _ q98 F99 q8 F9 q25 F26 _ _ _ S o100 o7 o24 (Disj.symm d104) (Disj.symm d105) d95 hb103 hBB
  have hK106 ac w q8 F9 q25 F26 u N β (S : St Tryz.prog Tryz.f46.ntmps w0 NoB u N β (σ1.dl [1] [(5, .v (slv (b.mem).length q8.1)), (8, .v (slv (b.guests).length q25.1)), (11, .v (slv (b.outs).length pb.outs.1)), (14, .v (I b.pend))] 2 []) ac w) (o7 : Ow w0 NoB u N F9 b.mem q8) (o24 : Ow w0 NoB u N F26 b.guests q25) (d107 : Disj F9 F26) (hNN : NN N0 u0 N u) (hBB : BB σ1.bx.length β0 β) : W 4 (mkL 14 [0, 1, 2, 3, 4, 5, 7, 8, 10, 11]) ac w := by
   refine o1 hW 6 ?_
   refine id (S.bs0 (α := Int) (d := 9) (by kernel_rfl) ?_)
   clear S; intro ac w N q108 F109 S up o110 d111
   have hb112 := fun b h => (⟨(up b (hNN b h).1).1, (up b (hNN b h).1).2.trans (hNN b h).2, d111 b (hNN b h).1⟩ : _ ∧ _ ∧ _)
   refine WD.sc S (fun b h => ⟨(hb112 b h).1, (hb112 b h).2.1⟩) hBB fun hC => ?_
   have d113 : Disj F9 F109 := fun b x y => d111 b (o7.sub b x) y
   have d114 : Disj F26 F109 := fun b x y => d111 b (o24.sub b x) y
   replace o7 := o7.up up
   replace o24 := o24.up up
   clear up d111
   exact S.wh hW [] hC fun _ S => hK94 _ _ q8 F9 q25 F26 q108 F109 _ _ _ S o7 o24 o110 d107 d113 d114 hb112 hBB
  have hK115 ac w q8 F9 q16 F17 u N β (S : St Tryz.prog Tryz.f46.ntmps w0 NoB u N β (σ1.dl [1] [(5, .v (slv (b.mem).length q8.1)), (7, .v (slv (b.guests).length pb.guests.1)), (9, .v (slv 0 q16.1)), (11, .v (slv (b.outs).length pb.outs.1)), (14, .v (I b.pend))] 2 []) ac w) (o7 : Ow w0 NoB u N F9 b.mem q8) (o15 : Ow w0 NoB u N F17 ([] : List Int) q16) (d116 : Disj F9 F17) (hNN : ∀ b, N0 b → N b ∧ u.heap[b]? = u0.heap[b]? ∧ ¬ F17 b) (hBB : BB σ1.bx.length β0 β) : W 4 (mkL 14 [0, 1, 2, 3, 4, 6, 7, 8, 10, 11]) ac w := by
   refine o1 hW 5 ?_
   refine id (S.call1 (r := b.guests) (d := 8) (c_spec_l17Guests w b.guests pb.guests (S.rd (RBare.guests (d := b) (S.arg hb)))) (by kernel_rfl) rfl ?_)
   clear S; intro ac w N q117 F118 S up o119 d120
   have hb121 := fun b h => (⟨(up b (hNN b h).1).1, (up b (hNN b h).1).2.trans (hNN b h).2.1, (hNN b h).2.2⟩ : _ ∧ _ ∧ _)
   refine WD.sc S (fun b h => ⟨(hb121 b h).1, (hb121 b h).2.1⟩) hBB fun hC => ?_
   have d122 : Disj F9 F118 := fun b x y => d120 b (o7.sub b x) y
   have d123 : Disj F17 F118 := fun b x y => d120 b (o15.sub b x) y
   replace o7 := o7.up up
   replace o15 := o15.up up
   clear up d120
   exact S.wh hW [] hC fun _ S => hK94 _ _ q8 F9 q117 F118 q16 F17 _ _ _ S o7 o119 o15 d122 d116 (Disj.symm d123) hb121 hBB
  have hK124 ac w q8 F9 u N β (S : St Tryz.prog Tryz.f46.ntmps w0 NoB u N β (σ1.dl [1] [(5, .v (slv (b.mem).length q8.1)), (7, .v (slv (b.guests).length pb.guests.1)), (11, .v (slv (b.outs).length pb.outs.1)), (14, .v (I b.pend))] 2 []) ac w) (o7 : Ow w0 NoB u N F9 b.mem q8) (hNN : NN N0 u0 N u) (hBB : BB σ1.bx.length β0 β) : W 5 (mkL 14 [0, 1, 2, 3, 4, 7, 8, 10, 11]) ac w := by
   refine o2 hW 5 6 ?_ ?_
   ·refine id (S.call1 (r := b.guests) (d := 8) (c_spec_l17Guests w b.guests pb.guests (S.rd (RBare.guests (d := b) (S.arg hb)))) (by kernel_rfl) rfl ?_)
    clear S; intro ac w N q125 F126 S up o127 d128
    have hb129 := fun b h => (⟨(up b (hNN b h).1).1, (up b (hNN b h).1).2.trans (hNN b h).2⟩ : _ ∧ _)
    refine WD.sc S hb129 hBB fun hC => ?_
    have d130 : Disj F9 F126 := fun b x y => d128 b (o7.sub b x) y
    replace o7 := o7.up up
    clear up d128
    exact S.wh hW [] hC fun _ S => hK106 _ _ q8 F9 q125 F126 _ _ _ S o7 o127 d130 hb129 hBB
   ·refine id (S.bs0 (α := Int) (d := 9) (by kernel_rfl) ?_)
    clear S; intro ac w N q131 F132 S up o133 d134
    have hb135 := fun b h => (⟨(up b (hNN b h).1).1, (up b (hNN b h).1).2.trans (hNN b h).2, d134 b (hNN b h).1⟩ : _ ∧ _ ∧ _)
    refine WD.sc S (fun b h => ⟨(hb135 b h).1, (hb135 b h).2.1⟩) hBB fun hC => ?_
    have d136 : Disj F9 F132 := fun b x y => d134 b (o7.sub b x) y
    replace o7 := o7.up up
    clear up d134
    exact S.wh hW [] hC fun _ S => hK115 _ _ q8 F9 q131 F132 _ _ _ S o7 o133 d136 hb135 hBB
  have hK137 ac w q16 F17 u N β (S : St Tryz.prog Tryz.f46.ntmps w0 NoB u N β (σ1.dl [1] [(4, .v (slv (b.mem).length pb.mem.1)), (7, .v (slv (b.guests).length pb.guests.1)), (9, .v (slv 0 q16.1)), (11, .v (slv (b.outs).length pb.outs.1)), (14, .v (I b.pend))] 2 []) ac w) (o15 : Ow w0 NoB u N F17 ([] : List Int) q16) (hNN : ∀ b, N0 b → N b ∧ u.heap[b]? = u0.heap[b]? ∧ ¬ F17 b) (hBB : BB σ1.bx.length β0 β) : W 5 (mkL 14 [0, 1, 3, 4, 6, 7, 8, 10, 11]) ac w := by
   refine o1 hW 2 ?_
   refine id (S.call1 (r := b.mem) (d := 5) (c_spec_l04Copy w b.mem pb.mem (S.rd (RBare.mem (d := b) (S.arg hb)))) (by kernel_rfl) rfl ?_)
   clear S; intro ac w N q138 F139 S up o140 d141
   have hb142 := fun b h => (⟨(up b (hNN b h).1).1, (up b (hNN b h).1).2.trans (hNN b h).2.1, (hNN b h).2.2⟩ : _ ∧ _ ∧ _)
   refine WD.sc S (fun b h => ⟨(hb142 b h).1, (hb142 b h).2.1⟩) hBB fun hC => ?_
   have d143 : Disj F17 F139 := fun b x y => d141 b (o15.sub b x) y
   replace o15 := o15.up up
   clear up d141
   exact S.wh hW [] hC fun _ S => hK115 _ _ q138 F139 q16 F17 _ _ _ S o140 o15 (Disj.symm d143) hb142 hBB
  have hNN : NN N0 u0 N0 u0 := fun b h => ⟨h, rfl⟩
  have hBB : BB σ1.bx.length β0 β0 := fun _ _ => rfl
  refine o2 hW 2 6 ?_ ?_
  ·refine id (S.call1 (r := b.mem) (d := 5) (c_spec_l04Copy w b.mem pb.mem (S.rd (RBare.mem (d := b) (S.arg hb)))) (by kernel_rfl) rfl ?_)
   clear S; intro ac w N q144 F145 S up o146 d147
   have hb148 := fun b h => (⟨(up b (hNN b h).1).1, (up b (hNN b h).1).2.trans (hNN b h).2⟩ : _ ∧ _)
   refine WD.sc S hb148 hBB fun hC => ?_
   clear up d147
   exact S.wh hW [] hC fun _ S => hK124 _ _ q144 F145 _ _ _ S o146 hb148 hBB
  ·refine id (S.bs0 (α := Int) (d := 9) (by kernel_rfl) ?_)
   clear S; intro ac w N q149 F150 S up o151 d152
   have hb153 := fun b h => (⟨(up b (hNN b h).1).1, (up b (hNN b h).1).2.trans (hNN b h).2, d152 b (hNN b h).1⟩ : _ ∧ _ ∧ _)
   refine WD.sc S (fun b h => ⟨(hb153 b h).1, (hb153 b h).2.1⟩) hBB fun hC => ?_
   clear up d152
   exact S.wh hW [] hC fun _ S => hK137 _ _ q149 F150 _ _ _ S o151 hb153 hBB
 clear S
 rintro ac w ⟨q77, F78, q74, F75, q80, F81, u, N, β, S, o76, o73, o79, d154, d155, d156⟩
 refine id (nt (wr (S.r [GT.val (⟨b.mem, b.guests, (([] : List Int) ++ b.outs), b.pend⟩ : TBare) (⟨q74, q77, q80⟩ : PBare)] ?_)))
 have o157 := ow_Bare (x := (⟨b.mem, b.guests, (([] : List Int) ++ b.outs), b.pend⟩ : TBare)) (p := (⟨q74, q77, q80⟩ : PBare)) o73 o76 o79 (Disj.symm d154) d156 d155 (RBare.pend (d := b) (S.arg hb))
 exact ret1_of S (show b = (⟨b.mem, b.guests, (([] : List Int) ++ b.outs), b.pend⟩ : TBare) by clear S; (first | rfl | simp)) rfl o157

theorem k1_spec_BareOk {p : Prop} (h : p := by clear S; (symm; rw [← Bool.not_eq_true]; intro hc; simp only [f_bareOk, Bool.and_eq_true, decide_eq_true_eq, beq_iff_eq] at hc; first | omega | (simp_all; done) | (simp_all; omega) | (have hx := all_el (k := k) hc.1.1.1.1 (by omega); simp_all; done))) : p := h
set_option maxRecDepth 100000 in
theorem c_spec_BareOk (w0 : World) (b : TBare) (pb : PBare) (hb : GT.rd KK (Lt w0.heap.size) w0 b pb) : Calls Tryz.prog 91 [GT.val b pb].toArray w0 (fun e w' => e = .returned (B (f_bareOk b)) ∧ Chg NoB w0 w') := by
 refine Calls.walk (args := [GT.val b pb]) NoB Tryz.func91 rfl rfl ?_
 intro ac β S
 have hleb_mem : b.mem.length ≤ 4194304 := LRd.le (RBare.mem (d := b) hb)
 have hleb_guests : b.guests.length ≤ 4194304 := LRd.le (RBare.guests (d := b) hb)
 have hleb_outs : b.outs.length ≤ 4194304 := LRd.le (RBare.outs (d := b) hb)
 refine ws (rg ?_)
 refine S.qem 2 [] [(1, .p 0 0)] 1 [(0, GT.cells b pb)] ?_; clear S; intro ac w β S
 refine (nt (ws (ws (rg ?_))))
 refine S.qe 1 [] [(3, .v (I 0))] ?_; clear S; intro ac w β S
 refine (nt (wp_block ?_))
 refine wp_loop_down (fun mm ac w => ∃ (k : Nat)  (u : World) (N : Bl) (β : Nat → Nat), mm = b.guests.length - k ∧ (k ≤ b.guests.length) ∧ ((b.guests.take k).all f_guestOk = true) ∧ St Tryz.prog Tryz.f91.ntmps w0 NoB u N β ⟨[(1, .p 0 0), (3, .v (I (k : Int)))], [GT.cells b pb]⟩ ac w) _ ⟨0, _, _, _, rfl, (by first | omega | (simp; done) | (simp; omega)), (by simp), S.z⟩ ?_
 clear S
 rintro mm ac w ⟨k, u, N, β, rfl, hk, he, S⟩
 refine ws (ws (rg ?_))
 refine S.qe 5 [] [(8, .v (B (decide ((k : Int) < ((b.guests).length : Int)))))] ?_; clear S; intro ac w β S
 refine (nt (S.c (decide ((k : Int) < ((b.guests).length : Int))) (fun h1 => ?_) (fun h1 => ?_)))
 ·have g2 := of_decide_eq_true h1
  refine wk (nt (ws (wp_block (ws (rg ?_)))))
  refine S.qg 7 [] [(17, .v (B (!(f_guestOk (el b.guests k)))))] (.cons (Q_idx (RBare.guests (d := b) (S.arg hb)) (l := (b.guests).length) (k := k) (i := (k : Int)) rfl rfl (by omega) Tryz.underlying43 (by kernel_rfl)) (.cons (Q_el (RBare.guests (d := b) (S.arg hb)) (t := 90) (k := k) (by omega) rfl (by kernel_rfl) (by kernel_rfl)) (.cons (Q_call fun w hw => c_spec_GuestOk w (el b.guests k) (pb.guests.2 k) (rd_of (LRd.el (RBare.guests (d := b) (S.arg hb)) k (by omega)) hw)) .nil))) ?_; clear S; intro ac w β S
  refine (nt (S.c (!(f_guestOk (el b.guests k))) (fun h3 => ?_) (fun h3 => ?_)))
  ·have h4 := not_t h3
   refine ws (rg ?_)
   refine S.qe 1 [] [(2, .v (B false))] ?_; clear S; intro ac w β S
   exact (nt (wr (rb (rt (rt (rb (rt (S.r [B false] ⟨retB k1_spec_BareOk, S.chg⟩))))))))
  ·have h5 := not_f h3
   refine wk (nb (nt (rg ?_)))
   refine S.qg 3 [] [(3, .v (I ((k : Int) + 1)))] (.cons (Q_add (x := (k : Int)) (y := 1) ⟨by omega, by omega⟩) .nil) ?_; clear S; intro ac w β S
   refine (nt ?_)
   refine ⟨b.guests.length - (k + 1), by omega, k + 1, _, _, _, rfl, ?_, ?_, S.z⟩
   ·clear S; first | omega | (simp [*]; done) | (simp [*]; omega)
   ·clear S; exact all_step (by omega) he (by first | assumption | simp_all)
 ·have g6 := of_decide_eq_false h1
  refine wp_exit (ex_then (ex_then (ex_hit (nt (ws (rg ?_))))))
  refine S.qb 4 [] [(21, .v (B (f_memOk b.mem 8)))] (.cons (Q_call fun w hw => c_spec_MemOk w b.mem pb.mem (rd_of (RBare.mem (d := b) (S.arg hb)) hw) 8) .nil) ?_; clear S; intro ac w β S
  rcases Bool.eq_false_or_eq_true (f_memOk b.mem 8) with h7 | h7 <;> rw [h7] at S
  ·refine S.qb 6 [21] [(27, .v (B (f_within ((b.guests).length : Int) 1 2)))] (.cons (Q_call fun w hw => c_spec_l01In w ((b.guests).length : Int) 1 2) .nil) ?_; clear S; intro ac w β S
   rcases Bool.eq_false_or_eq_true (f_within ((b.guests).length : Int) 1 2) with h8 | h8 <;> rw [h8] at S
   ·have g9 := within_t h8
    refine S.qa 6 [27] [(33, .v (B (decide (((b.outs).length : Int) ≤ 40))))] ?_; clear S; intro ac w β S
    rcases Bool.eq_false_or_eq_true (decide (((b.outs).length : Int) ≤ 40)) with h10 | h10 <;> rw [h10] at S
    ·have g11 := of_decide_eq_true h10
     refine S.qg 5 [33] [(2, .v (B (f_within b.pend 0 255)))] (.cons (Q_call fun w hw => c_spec_PendOk w b.pend) .nil) ?_; clear S; intro ac w β S
     exact (nt (wr (S.r [B (f_within b.pend 0 255)] ⟨retB (by clear S; (first | rfl | (symm; rw [← Bool.not_eq_true]; intro hc; simp only [f_bareOk, Bool.and_eq_true, decide_eq_true_eq, beq_iff_eq] at hc; first | omega | (simp_all; done) | (simp_all; omega) | (have hx := all_el (k := k) hc.1.1.1.1 (by omega); simp_all; done)) | (symm; simp only [f_bareOk, Bool.and_eq_true, decide_eq_true_eq, beq_iff_eq]; (repeat' apply And.intro); all_goals first | assumption | omega | (simp_all; done) | (simp_all; omega) | (exact all_end (by omega) he)) | (rw [Bool.eq_iff_iff]; simp only [f_bareOk, Bool.and_eq_true, decide_eq_true_eq, beq_iff_eq]; refine ⟨fun hr => ?_, fun hc => ?_⟩ <;> ((repeat' apply And.intro); all_goals first | assumption | omega | (simp_all; done) | (simp_all; omega) | (exact all_end (by omega) he))))), S.chg⟩)))
    ·have g12 := of_decide_eq_false h10
     refine S.qe 5 [33] [(2, .v (B false))] ?_; clear S; intro ac w β S
     exact (nt (wr (S.r [B false] ⟨retB k1_spec_BareOk, S.chg⟩)))
   ·have g13 := within_f h8
    refine S.qe 11 [27] [(2, .v (B false))] ?_; clear S; intro ac w β S
    exact (nt (wr (S.r [B false] ⟨retB k1_spec_BareOk, S.chg⟩)))
  ·refine S.qe 17 [21] [(2, .v (B false))] ?_; clear S; intro ac w β S
   exact (nt (wr (S.r [B false] ⟨retB k1_spec_BareOk, S.chg⟩)))

theorem k0_spec_l19Is {p : Prop} (h : p := by clear S; first | rfl | (simp [f_l19Is, *]; done) | (simp [f_l19Is, *]; omega) | (simp_all [f_l19Is]; done) | (simp_all [f_l19Is]; omega)) : p := h
set_option maxRecDepth 100000 in
theorem c_spec_l19Is (w0 : World) (b : TBare) (pb : PBare) (hb : GT.rd KK (Lt w0.heap.size) w0 b pb) (g : Int) : Calls Tryz.prog 47 [GT.val b pb, I g].toArray w0 (fun e w' => e = .returned (B (f_l19Is b g)) ∧ Chg NoB w0 w') := by
 refine Calls.walk (args := [GT.val b pb, I g]) NoB Tryz.func47 rfl rfl ?_
 intro ac β S
 have hleb_mem : b.mem.length ≤ 4194304 := LRd.le (RBare.mem (d := b) hb)
 have hleb_guests : b.guests.length ≤ 4194304 := LRd.le (RBare.guests (d := b) hb)
 have hleb_outs : b.outs.length ≤ 4194304 := LRd.le (RBare.outs (d := b) hb)
 refine ws (rg ?_)
 refine S.qem 2 [] [(2, .p 0 0)] 1 [(0, GT.cells b pb)] ?_; clear S; intro ac w β S
 refine (nt (ws (rg ?_)))
 refine S.qb 3 [] [(7, .v (B (f_bareOk b)))] (.cons (Q_call fun w hw => c_spec_BareOk w b pb (rd_of (S.arg hb) hw)) .nil) ?_; clear S; intro ac w β S
 rcases Bool.eq_false_or_eq_true (f_bareOk b) with h1 | h1 <;> rw [h1] at S
 ·have g2 := bareOk_t h1
  refine S.qg 8 [7] [(4, .v (B (f_within g 0 (((b.guests).length : Int) - 1))))] (.cons (Q_sub (x := ((b.guests).length : Int)) (y := 1) ⟨by omega, by omega⟩) (.cons (Q_call fun w hw => c_spec_l01In w g 0 (((b.guests).length : Int) - 1)) .nil)) ?_; clear S; intro ac w β S
  exact (nt (wr (S.r [B (f_within g 0 (((b.guests).length : Int) - 1))] ⟨retB k0_spec_l19Is, S.chg⟩)))
 ·refine S.qe 8 [7] [(4, .v (B false))] ?_; clear S; intro ac w β S
  exact (nt (wr (S.r [B false] ⟨retB k0_spec_l19Is, S.chg⟩)))

theorem k0_spec_SlotAt {p : Prop} (h : p := by clear S; (first | (unfold f_slotAt; rw [if_pos (by omega)]) | (unfold f_slotAt; rw [if_neg (by omega)]))) : p := h
set_option maxRecDepth 100000 in
theorem c_spec_SlotAt (w0 : World) (t : List TSlot) (pt : LP TSlot) (ht : GT.rd KK (Lt w0.heap.size) w0 t pt) (page : Int) : Calls Tryz.prog 49 [slv (t).length pt.1, I page].toArray w0 (fun e w' => e = .returned (GT.val (f_slotAt t page) ()) ∧ Chg NoB w0 w') := by
 refine Calls.walk (args := [slv (t).length pt.1, I page]) NoB Tryz.func49 rfl rfl ?_
 intro ac β S
 have hlet : t.length ≤ 4194304 := LRd.le ht
 refine ws (rg ?_)
 refine S.qem 1 [] [(4, .p 0 0)] 1 [(0, Zc TSlot)] ?_; clear S; intro ac w β S
 refine (nt (ws (ws (rg ?_))))
 refine S.qg 6 [] [(10, .v (B (!(f_within page 0 (((t).length : Int) - 1)))))] (.cons (Q_sub (x := ((t).length : Int)) (y := 1) ⟨by omega, by omega⟩) (.cons (Q_call fun w hw => c_spec_l01In w page 0 (((t).length : Int) - 1)) .nil)) ?_; clear S; intro ac w β S
 refine (nt (S.c (!(f_within page 0 (((t).length : Int) - 1))) (fun h1 => ?_) (fun h1 => ?_)))
 ·have h2 := not_t h1
  have g3 := within_f h2
  refine ws (rg ?_)
  refine S.qgm 2 [] [] (.cons (Q_call fun w hw => c_spec_NoSlot w ) .nil) 1 [(0, GT.cells ((⟨-1, 0⟩ : TSlot)) ())] ?_; clear S; intro ac w β S
  exact (nt (wr (rt (S.r [GT.val ((⟨-1, 0⟩ : TSlot)) ()] ⟨retV (p := ()) k0_spec_SlotAt, S.chg⟩))))
 ·have h4 := not_f h1
  have g5 := within_t h4
  refine wk (nt (ws (rg ?_)))
  refine S.qgm 5 [] [] (.cons (Q_idx (S.arg ht) (l := (t).length) (k := (page).toNat) (i := page) rfl (by omega) (by omega) Tryz.underlying50 (by kernel_rfl)) (.cons (Q_el (S.arg ht) (t := 92) (k := (page).toNat) (by omega) rfl (by kernel_rfl) (by kernel_rfl)) .nil)) 1 [(0, GT.cells (el t ((page).toNat)) ())] ?_; clear S; intro ac w β S
  exact (nt (wr (S.r [GT.val (el t ((page).toNat)) ()] ⟨retV (p := ()) k0_spec_SlotAt, S.chg⟩)))

theorem k0_spec_WithSlot {p : Prop} (h : p := by clear S; (first | (unfold f_withSlot; rw [if_pos (by omega)]; done) | (unfold f_withSlot; rw [if_pos (by omega)]; first | rfl | (simp; done)) | (unfold f_withSlot; rw [if_neg (by omega)]; done) | (unfold f_withSlot; rw [if_neg (by omega)]; first | rfl | (simp; done)))) : p := h
set_option maxRecDepth 100000 in
theorem c_spec_WithSlot (w0 : World) (tb : List TSlot) (ptb : LP TSlot) (htb : GT.rd KK (Lt w0.heap.size) w0 tb ptb) (page : Int) (s : TSlot) (hs : RSlot s) : Calls Tryz.prog 48 [slv (tb).length ptb.1, I page, GT.val s ()].toArray w0 (Ret1 NoB w0 (f_withSlot tb page s : List TSlot)) := by
 refine Calls.walk (args := [slv (tb).length ptb.1, I page, GT.val s ()]) NoB Tryz.func48 rfl rfl ?_
 intro ac β S
 have hnl : (([] : List TSlot) ++ tb).length = tb.length := rfl
 have hletb : tb.length ≤ 4194304 := LRd.le htb
 refine ws (rg ?_)
 refine S.qem 2 [] [(5, .p 0 0)] 1 [(0, GT.cells s ())] ?_; clear S; intro ac w β S
 refine (nt (ws (rg ?_)))
 refine RG.op rfl (S.bs0 (α := TSlot) (d := 8) (by kernel_rfl) ?_)
 clear S; intro ac w N q1 F2 S up o3 d4
 clear up d4
 refine S.qa 1 [] [(8, .v (slv 0 q1.1)), (9, .v (slv (tb).length ptb.1))] ?_; clear S; intro ac w β S
 have b9 : (tb).length ≤ 4194304 := LRd.le (S.arg htb)
 refine RG.op rfl (S.appFlat (α := TSlot) o3 ((S.arg htb)) (fun _ _ h => h) (by' := 16) (d := 10) (lx := 0) (ly := (tb).length) rfl rfl (by kernel_rfl) (show _ ≤ 4194304 by simp only [List.length_append, List.length_cons, List.length_nil]; omega) ?_)
 clear S; intro ac w N q5 F6 S up o7 d8
 clear up d8
 refine S.qe 1 [] [(7, .v (slv ((([] : List TSlot) ++ tb)).length q5.1))] ?_; clear S; intro ac w β S
 refine (nt (ws (ws (rg ?_))))
 refine S.qg 5 [] [(15, .v (B (f_within page 0 (((tb).length : Int) - 1))))] (.cons (Q_sub (x := ((tb).length : Int)) (y := 1) ⟨by omega, by omega⟩) (.cons (Q_call fun w hw => c_spec_l01In w page 0 (((tb).length : Int) - 1)) .nil)) ?_; clear S; intro ac w β S
 refine (nt (S.c (f_within page 0 (((tb).length : Int) - 1)) (fun h10 => ?_) (fun h10 => ?_)))
 ·have g11 := within_t h10
  refine rg ?_
  refine S.qbm 4 [] [(18, .v (GT.val s ())), (19, .v (pt q5.1.b (q5.1.off + ((page).toNat) * 2)))] (.cons (Q_idx o7.rn (l := ((([] : List TSlot) ++ tb)).length) (k := (page).toNat) (i := page) rfl (by omega) (by omega) Tryz.underlying50 (by kernel_rfl)) .nil) 0 [] ?_; clear S; intro ac w β S
  have e12 : RSlot (el (([] : List TSlot) ++ tb) ((page).toNat)) := (LRd.el o7.rn ((page).toNat) (by omega))
  refine RG.op rfl (S.setEl (α := TSlot) o7 (t := 92) (v := GT.val s ()) (k := (page).toNat) (j := 0) (off := q5.1.off + ((page).toNat) * 2) (y := s) (q := ()) (Fy := NoB) (by kernel_rfl) (by kernel_rfl) (by omega) (by kernel_rfl) (by kernel_rfl) (Nat.le_of_ble_eq_true (by kernel_rfl)) (by kernel_rfl) (fun _ _ _ => ⟨NoB, hs, fun _ h => False.elim h⟩) (fun b _ h => False.elim h) (fun b h => False.elim h) (fun b h => False.elim h) ?_)
  clear S; intro w N F14 q15 S up o13 d16 s17 n18
  clear up d16 o7 n18
  have l19 : ((([] : List TSlot) ++ tb).set ((page).toNat) s).length = ((([] : List TSlot) ++ tb)).length := List.length_set
  refine rd (nt (ws (rg ?_)))
  refine S.qe 2 [] [(6, .v (slv ((([] : List TSlot) ++ tb)).length q5.1))] ?_; clear S; intro ac w β S
  exact (nt (wr (S.r [slv ((([] : List TSlot) ++ tb)).length q5.1] (ret1_of S (show f_withSlot tb page s = ((([] : List TSlot) ++ tb).set ((page).toNat) s) from k0_spec_WithSlot) (by rw [show ((([] : List TSlot) ++ tb)).length = (((([] : List TSlot) ++ tb).set ((page).toNat) s)).length from (by rw [List.length_set])]; rfl) o13))))
 ·have g20 := within_f h10
  refine wk (nt (ws (rg ?_)))
  refine S.qe 2 [] [(6, .v (slv ((([] : List TSlot) ++ tb)).length q5.1))] ?_; clear S; intro ac w β S
  exact (nt (wr (S.r [slv ((([] : List TSlot) ++ tb)).length q5.1] (ret1_of S (show f_withSlot tb page s = (([] : List TSlot) ++ tb) from k0_spec_WithSlot) rfl o7))))

theorem k0_spec_BareFlush {p : Prop} (h : p := by clear S; (first | (unfold f_bareFlush; rw [changed_out (by assumption)]; done) | (rw [flush_no (by assumption)]; done) | (rw [flush_in (by assumption) (by assumption)]; done))) : p := h
set_option maxRecDepth 100000 in
theorem c_spec_BareFlush (w0 : World) (b : TBare) (pb : PBare) (hb : GT.rd KK (Lt w0.heap.size) w0 b pb) (g : Int) (page : Int) (hpage : In64 page) : Calls Tryz.prog 16 [GT.val b pb, I g, I page].toArray w0 (Ret2 NoB w0 ((f_bareFlush b g page).1 : TBare) ((f_bareFlush b g page).2 : Bool)) := by
 refine Calls.walk (args := [GT.val b pb, I g, I page]) NoB Tryz.func16 rfl rfl ?_
 intro ac β S
 have hleb_mem : b.mem.length ≤ 4194304 := LRd.le (RBare.mem (d := b) hb)
 have hleb_guests : b.guests.length ≤ 4194304 := LRd.le (RBare.guests (d := b) hb)
 have hleb_outs : b.outs.length ≤ 4194304 := LRd.le (RBare.outs (d := b) hb)
 have hlopage := hpage.lo; have hhipage := hpage.hi
 refine ws (rg ?_)
 refine S.qem 3 [] [(3, .p 0 0), (6, .p 1 0)] 2 [(0, GT.cells b pb), (1, Zc TBare)] ?_; clear S; intro ac w β S
 refine (nt (ws (rg ?_)))
 refine S.qa 1 [] [(8, .v (GT.val b pb))] ?_; clear S; intro ac w β S
 refine RG.op rfl (S.call1 (r := b) (d := 9) (c_spec_l17Copy w b pb (S.rd (S.arg hb))) (by kernel_rfl) rfl ?_)
 clear S; intro ac w N q1 F2 S up o3 d4
 clear up d4
 have i14 : In64 b.pend := RBare.pend (d := b) o3.rn
 obtain ⟨F5, F8, F11, o6, o9, o12, s7, s10, s13, d15, d16, d17⟩ := sp_Bare o3
 refine S.qem 1 [] [] 2 [(0, [slv (b.mem).length q1.mem.1, slv (b.guests).length q1.guests.1, slv (b.outs).length q1.outs.1, I b.pend])] ?_; clear S; intro ac w β S
 refine (nt (ws (ws (rg ?_))))
 refine S.qb 5 [] [(14, .v (B (!(f_l19Is b g))))] (.cons (Q_call fun w hw => c_spec_l19Is w b q1 (rd_of (show GT.rd KK _ _ b q1 from ⟨o6.rn, o9.rn, o12.rn, i14⟩) hw) g) .nil) ?_; clear S; intro ac w β S
 rcases Bool.eq_false_or_eq_true (!(f_l19Is b g)) with h18 | h18 <;> rw [h18] at S
 ·have h19 := not_t h18
  refine S.qe 4 [14] [(18, .v (B true))] ?_; clear S; intro ac w β S
  refine (nt (S.c true (fun _ => ?_) (fun hx => by cases hx)))
  refine ws (rg ?_)
  refine S.qem 3 [] [(7, .v (B false))] 2 [(1, [slv (b.mem).length q1.mem.1, slv (b.guests).length q1.guests.1, slv (b.outs).length q1.outs.1, I b.pend])] ?_; clear S; intro ac w β S
  refine (nt (wr (rt (S.r [GT.val b q1, B false] ?_))))
  have o20 := ow_Bare (x := b) (p := q1) o6 o9 o12 d15 d16 d17 i14
  exact ret2_of (p' := ()) S (show (f_bareFlush b g page).1 = b from k0_spec_BareFlush) (show (f_bareFlush b g page).2 = false from k0_spec_BareFlush) rfl rfl o20 trivial
 ·have h21 := not_f h18
  have g22 := l19Is_t h21
  refine S.qg 4 [14] [(18, .v (B (!(f_within page 0 3))))] (.cons (Q_call fun w hw => c_spec_l01In w page 0 3) .nil) ?_; clear S; intro ac w β S
  refine (nt (S.c (!(f_within page 0 3)) (fun h23 => ?_) (fun h23 => ?_)))
  ·have h24 := not_t h23
   have g25 := within_f h24
   refine ws (rg ?_)
   refine S.qem 3 [] [(7, .v (B false))] 2 [(1, [slv (b.mem).length q1.mem.1, slv (b.guests).length q1.guests.1, slv (b.outs).length q1.outs.1, I b.pend])] ?_; clear S; intro ac w β S
   refine (nt (wr (rt (S.r [GT.val b q1, B false] ?_))))
   have o26 := ow_Bare (x := b) (p := q1) o6 o9 o12 d15 d16 d17 i14
   exact ret2_of (p' := ()) S (show (f_bareFlush b g page).1 = b from k0_spec_BareFlush) (show (f_bareFlush b g page).2 = false from k0_spec_BareFlush) rfl rfl o26 trivial
  ·have h27 := not_f h23
   have g28 := within_t h27
   refine wk (nt (ws ?_))
   refine S.draw0 (f := 22) 21 rfl rfl ?_
   clear S; intro w S
   refine S.hq 0 [0] [] [(20, .p 0 1)] .nil ?_; clear S; intro ac S
   refine S.hq 1 [1] [] [(21, .v (slv (b.guests).length q1.guests.1))] .nil ?_; clear S; intro ac S
   refine S.hq 2 [2] [] [(22, .v (I g))] .nil ?_; clear S; intro ac S
   refine S.hq 3 [3] [] [(23, .p 0 1)] .nil ?_; clear S; intro ac S
   refine S.hq 4 [4] [] [(24, .v (slv (b.guests).length q1.guests.1))] .nil ?_; clear S; intro ac S
   refine S.hq 5 [5] [] [(25, .v (I g))] .nil ?_; clear S; intro ac S
   refine S.hq 6 [6] [] [(26, .v (pt q1.guests.1.b (q1.guests.1.off + ((g).toNat) * 15)))] (.cons (Q_idx o9.rn (l := (b.guests).length) (k := (g).toNat) (i := g) rfl (by omega) (by omega) Tryz.underlying43 (by kernel_rfl)) .nil) ?_; clear S; intro ac S
   refine S.hq 7 [7] [] [(27, .v (pt q1.guests.1.b (q1.guests.1.off + ((g).toNat) * 15 + 4)))] .nil ?_; clear S; intro ac S
   refine S.hq 8 [8] [] [(28, .v (slv ((el b.guests ((g).toNat)).live).length ((q1.guests.2 ((g).toNat)).live).1))] (.cons (Q_cell o9.rn (t := 50) (k := (g).toNat) (j := 4) (v := slv ((el b.guests ((g).toNat)).live).length ((q1.guests.2 ((g).toNat)).live).1) (by omega) (by kernel_rfl) (by kernel_rfl)) .nil) ?_; clear S; intro ac S
   refine S.hq 9 [9] [] [(29, .v (I page))] .nil ?_; clear S; intro ac S
   refine S.hq 10 [10] [] [(30, .p 0 1)] .nil ?_; clear S; intro ac S
   refine S.hq 11 [11] [] [(31, .v (slv (b.guests).length q1.guests.1))] .nil ?_; clear S; intro ac S
   refine S.hq 12 [12] [] [(32, .v (I g))] .nil ?_; clear S; intro ac S
   refine S.hq 13 [13] [] [(33, .v (pt q1.guests.1.b (q1.guests.1.off + ((g).toNat) * 15)))] (.cons (Q_idx o9.rn (l := (b.guests).length) (k := (g).toNat) (i := g) rfl (by omega) (by omega) Tryz.underlying43 (by kernel_rfl)) .nil) ?_; clear S; intro ac S
   refine S.hq 14 [14] [] [(34, .v (pt q1.guests.1.b (q1.guests.1.off + ((g).toNat) * 15 + 3)))] .nil ?_; clear S; intro ac S
   refine S.hq 15 [15] [] [(35, .v (slv ((el b.guests ((g).toNat)).written).length ((q1.guests.2 ((g).toNat)).written).1))] (.cons (Q_cell o9.rn (t := 50) (k := (g).toNat) (j := 3) (v := slv ((el b.guests ((g).toNat)).written).length ((q1.guests.2 ((g).toNat)).written).1) (by omega) (by kernel_rfl) (by kernel_rfl)) .nil) ?_; clear S; intro ac S
   refine S.hq 16 [16] [] [(36, .v (I page))] .nil ?_; clear S; intro ac S
   refine WD.one (i := 17) (by kernel_rfl) ?_
   refine S.stepq (i := 17) (keep := [3, 6, 21, 22, 28, 29, 37]) (m := 2) (σ' := ⟨[(3, .p 0 0), (6, .p 1 0), (21, .v (slv (b.guests).length q1.guests.1)), (22, .v (I g)), (28, .v (slv ((el b.guests ((g).toNat)).live).length ((q1.guests.2 ((g).toNat)).live).1)), (29, .v (I page)), (37, .v (GT.val (f_slotAt ((el b.guests ((g).toNat)).written) page) ()))], [[slv (b.mem).length q1.mem.1, slv (b.guests).length q1.guests.1, slv (b.outs).length q1.outs.1, I b.pend], Zc TBare]⟩) (.cons (Q_call fun w hw => c_spec_SlotAt w ((el b.guests ((g).toNat)).written) ((q1.guests.2 ((g).toNat)).written) (rd_of (RGuest.written (d := (el b.guests ((g).toNat))) (LRd.el o9.rn ((g).toNat) (by omega))) hw) page) .nil) (by kernel_rfl) ?_
   clear S; intro ac w β S hβ
   refine WD.stayq S hβ ?_
   clear hβ
   refine WD.one (i := 18) (by kernel_rfl) ?_
   refine id (S.call1 (r := f_withSlot ((el b.guests ((g).toNat)).live) page (f_slotAt ((el b.guests ((g).toNat)).written) page)) (d := 38) (c_spec_WithSlot w ((el b.guests ((g).toNat)).live) ((q1.guests.2 ((g).toNat)).live) (S.rd (RGuest.live (d := (el b.guests ((g).toNat))) (LRd.el o9.rn ((g).toNat) (by omega)))) page (f_slotAt ((el b.guests ((g).toNat)).written) page) (slotAt_r (RGuest.written (d := (el b.guests ((g).toNat))) (LRd.el o9.rn ((g).toNat) (by omega))) page)) (by kernel_rfl) rfl ?_)
   clear S; intro ac w N q29 F30 S up o31 d32
   refine WD.next S up (by kernel_rfl) ?_
   have d33 : Disj F5 F30 := fun b x y => d32 b (o6.sub b x) y
   have d34 : Disj F8 F30 := fun b x y => d32 b (o9.sub b x) y
   have d35 : Disj F11 F30 := fun b x y => d32 b (o12.sub b x) y
   replace o6 := o6.up up
   replace o9 := o9.up up
   replace o12 := o12.up up
   clear up d32
   refine S.hq 19 [20, 19] [] [(38, .v (slv ((f_withSlot ((el b.guests ((g).toNat)).live) page (f_slotAt ((el b.guests ((g).toNat)).written) page))).length q29.1)), (39, .v (pt q1.guests.1.b (q1.guests.1.off + ((g).toNat) * 15)))] (.cons (Q_idx o9.rn (l := (b.guests).length) (k := (g).toNat) (i := g) rfl (by omega) (by omega) Tryz.underlying43 (by kernel_rfl)) .nil) ?_; clear S; intro ac S
   refine S.hq 20 [20] [] [(40, .v (pt q1.guests.1.b (q1.guests.1.off + ((g).toNat) * 15 + 4)))] .nil ?_; clear S; intro ac S
   refine WD.one (i := 21) (by kernel_rfl) ?_
   refine id (S.setEl (α := TGuest) o9 (t := 50) (v := slv ((f_withSlot ((el b.guests ((g).toNat)).live) page (f_slotAt ((el b.guests ((g).toNat)).written) page))).length q29.1) (k := (g).toNat) (j := 4) (off := q1.guests.1.off + ((g).toNat) * 15 + 4) (y := ({ el b.guests ((g).toNat) with live := (f_withSlot ((el b.guests ((g).toNat)).live) page (f_slotAt ((el b.guests ((g).toNat)).written) page)) } : TGuest)) (q := ({ q1.guests.2 ((g).toNat) with live := q29 } : PGuest)) (Fy := F30) (by kernel_rfl) (by kernel_rfl) (by omega) (by kernel_rfl) (by kernel_rfl) (Nat.le_of_ble_eq_true (by kernel_rfl)) (by kernel_rfl) (fun G g_ gF => ⟨_, owl_Guest_live g_ o31.own (fun b h h2 => d34 b (gF b h) h2), fun _ h => h⟩) d34 o31.sub o31.young ?_)
   clear S; intro w N F37 q38 S up o36 d39 s40 n41
   refine WD.last (by kernel_rfl) ?_
   have d42 : Disj F5 F37 := d39 _ d15 d33 o6.sub
   have d43 : Disj F11 F37 := d39 _ (Disj.symm d17) d35 o12.sub
   replace o6 := o6.upF d15 up
   replace o12 := o12.upF (Disj.symm d17) up
   clear up d39 o9 n41
   have l44 : ((b.guests).set ((g).toNat) ({ el b.guests ((g).toNat) with live := (f_withSlot ((el b.guests ((g).toNat)).live) page (f_slotAt ((el b.guests ((g).toNat)).written) page)) })).length = (b.guests).length := List.length_set
   replace S := S.z (σ' := ⟨[(3, .p 0 0), (6, .p 1 0), (38, .v (slv ((f_withSlot ((el b.guests ((g).toNat)).live) page (f_slotAt ((el b.guests ((g).toNat)).written) page))).length q29.1)), (40, .v (pt q1.guests.1.b (q1.guests.1.off + ((g).toNat) * 15 + 4)))], [[slv (b.mem).length q1.mem.1, slv (b.guests).length q1.guests.1, slv (b.outs).length q1.outs.1, I b.pend], Zc TBare]⟩)
   replace S := S.cast (σ' := ⟨[(3, .p 0 0), (6, .p 1 0), (38, .v (slv ((f_withSlot ((el b.guests ((g).toNat)).live) page (f_slotAt ((el b.guests ((g).toNat)).written) page))).length q29.1)), (40, .v (pt q1.guests.1.b (q1.guests.1.off + ((g).toNat) * 15 + 4)))], [[slv (b.mem).length q1.mem.1, slv (((b.guests).set ((g).toNat) ({ el b.guests ((g).toNat) with live := (f_withSlot ((el b.guests ((g).toNat)).live) page (f_slotAt ((el b.guests ((g).toNat)).written) page)) }))).length q1.guests.1, slv (b.outs).length q1.outs.1, I b.pend], Zc TBare]⟩) (by rw [show (((b.guests).set ((g).toNat) ({ el b.guests ((g).toNat) with live := (f_withSlot ((el b.guests ((g).toNat)).live) page (f_slotAt ((el b.guests ((g).toNat)).written) page)) }))).length = (b.guests).length by omega])
   refine WD.done (by kernel_rfl) ?_ _
   refine id (nt (ws (rg ?_)))
   refine S.qem 3 [] [(7, .v (B true))] 2 [(1, [slv (b.mem).length q1.mem.1, slv (((b.guests).set ((g).toNat) ({ el b.guests ((g).toNat) with live := (f_withSlot ((el b.guests ((g).toNat)).live) page (f_slotAt ((el b.guests ((g).toNat)).written) page)) }))).length q1.guests.1, slv (b.outs).length q1.outs.1, I b.pend])] ?_; clear S; intro ac w β S
   refine (nt (wr (S.r [GT.val (⟨b.mem, ((b.guests).set ((g).toNat) ({ el b.guests ((g).toNat) with live := (f_withSlot ((el b.guests ((g).toNat)).live) page (f_slotAt ((el b.guests ((g).toNat)).written) page)) })), b.outs, b.pend⟩ : TBare) (⟨q1.mem, (q1.guests.1, q38), q1.outs⟩ : PBare), B true] ?_)))
   have o45 := ow_Bare (x := (⟨b.mem, ((b.guests).set ((g).toNat) ({ el b.guests ((g).toNat) with live := (f_withSlot ((el b.guests ((g).toNat)).live) page (f_slotAt ((el b.guests ((g).toNat)).written) page)) })), b.outs, b.pend⟩ : TBare)) (p := (⟨q1.mem, (q1.guests.1, q38), q1.outs⟩ : PBare)) o6 o36 o12 d42 d16 (Disj.symm d43) i14
   exact ret2_of (p' := ()) S (show (f_bareFlush b g page).1 = (⟨b.mem, ((b.guests).set ((g).toNat) ({ el b.guests ((g).toNat) with live := (f_withSlot ((el b.guests ((g).toNat)).live) page (f_slotAt ((el b.guests ((g).toNat)).written) page)) })), b.outs, b.pend⟩ : TBare) from k0_spec_BareFlush) (show (f_bareFlush b g page).2 = true from k0_spec_BareFlush) rfl rfl o45 trivial

set_option maxRecDepth 100000 in
theorem c_spec_l25Back (w0 : World) (h : THost) (ph : PHost) (F : Bl) (hh : GT.own KK F w0 h ph) (hF : ∀ b, F b → b < w0.heap.size) (m : Int) (b : TBare) (pb : PBare) (Gb : Bl) (hb : GT.rd KK Gb w0 b pb) (gb : ∀ b, Gb b → b < w0.heap.size ∧ ¬ F b) (pre0 : 0 ≤ m) (pre1 : m < h.mons.length) : Calls Tryz.prog 18 [GT.val h ph, I m, GT.val b pb].toArray w0 (RetT F F w0 (f_back h m b : THost)) := by
 refine Calls.walk (args := [GT.val h ph, I m, GT.val b pb]) F Tryz.func18 rfl rfl ?_
 intro ac β S
 have oh : Ow w0 F w0 (Lt w0.heap.size) F h ph := ⟨hh, hF, fun b hb => .inr hb⟩
 obtain ⟨F1, F4, F7, F10, o2, o5, o8, o11, s3, s6, s9, s12, d13, d14, d15, d16, d17, d18⟩ := sp_Host oh
 have hleb_mem : b.mem.length ≤ 4194304 := LRd.le (RBare.mem (d := b) hb)
 have hleb_guests : b.guests.length ≤ 4194304 := LRd.le (RBare.guests (d := b) hb)
 have hleb_outs : b.outs.length ≤ 4194304 := LRd.le (RBare.outs (d := b) hb)
 refine ws (rg ?_)
 refine S.qem 3 [] [(3, .p 0 0), (5, .p 1 0), (6, .p 2 0)] 3 [(0, [slv (h.mem).length ph.mem.1, slv (h.mons).length ph.mons.1, slv (h.buf).length ph.buf.1, slv (h.iobuf).length ph.iobuf.1]), (1, GT.cells b pb), (2, Zc THost)] ?_; clear S; intro ac w β S
 refine (nt (ws ?_))
 refine S.draw0 (f := 9) 8 rfl rfl ?_
 clear S; intro w S
 refine S.hq 0 [0] [] [(7, .p 0 1)] .nil ?_; clear S; intro ac S
 refine S.hq 1 [1] [] [(8, .v (slv (h.mons).length ph.mons.1))] .nil ?_; clear S; intro ac S
 refine S.hq 2 [2] [] [(9, .v (I m))] .nil ?_; clear S; intro ac S
 refine S.hq 3 [3] [] [(10, .p 1 1)] .nil ?_; clear S; intro ac S
 refine S.hq 4 [4] [] [(11, .v (slv (b.guests).length pb.guests.1))] .nil ?_; clear S; intro ac S
 refine WD.one (i := 5) (by kernel_rfl) ?_
 refine id (S.call1 (r := b.guests) (d := 12) (c_spec_l17Guests w b.guests pb.guests (S.rd (RBare.guests (d := b) (S.argG hb gb)))) (by kernel_rfl) rfl ?_)
 clear S; intro ac w N q19 F20 S up o21 d22
 refine WD.next S up (by kernel_rfl) ?_
 have d23 : Disj F1 F20 := fun b x y => d22 b (o2.sub b x) y
 have d24 : Disj F4 F20 := fun b x y => d22 b (o5.sub b x) y
 have d25 : Disj F7 F20 := fun b x y => d22 b (o8.sub b x) y
 have d26 : Disj F10 F20 := fun b x y => d22 b (o11.sub b x) y
 replace o2 := o2.up up
 replace o5 := o5.up up
 replace o8 := o8.up up
 replace o11 := o11.up up
 clear up d22
 refine S.hq 6 [7, 6] [] [(12, .v (slv (b.guests).length q19.1)), (13, .v (pt ph.mons.1.b (ph.mons.1.off + ((m).toNat) * 9)))] (.cons (Q_idx o5.rn (l := (h.mons).length) (k := (m).toNat) (i := m) rfl (by omega) (by omega) Tryz.underlying28 (by kernel_rfl)) .nil) ?_; clear S; intro ac S
 refine S.hq 7 [7] [] [(14, .v (pt ph.mons.1.b (ph.mons.1.off + ((m).toNat) * 9 + 3)))] .nil ?_; clear S; intro ac S
 refine WD.one (i := 8) (by kernel_rfl) ?_
 refine id (S.setEl (α := TMon) o5 (t := 43) (v := slv (b.guests).length q19.1) (k := (m).toNat) (j := 3) (off := ph.mons.1.off + ((m).toNat) * 9 + 3) (y := ({ el h.mons ((m).toNat) with guests := b.guests } : TMon)) (q := ({ ph.mons.2 ((m).toNat) with guests := q19 } : PMon)) (Fy := F20) (by kernel_rfl) (by kernel_rfl) (by omega) (by kernel_rfl) (by kernel_rfl) (Nat.le_of_ble_eq_true (by kernel_rfl)) (by kernel_rfl) (fun G g_ gF => ⟨_, owl_Mon_guests g_ o21.own (fun b h h2 => d24 b (gF b h) h2), fun _ h => h⟩) d24 o21.sub o21.young ?_)
 clear S; intro w N F28 q29 S up o27 d30 s31 n32
 refine WD.last (by kernel_rfl) ?_
 have d33 : Disj F1 F28 := d30 _ d13 d23 o2.sub
 have d34 : Disj F7 F28 := d30 _ (Disj.symm d16) d25 o8.sub
 have d35 : Disj F10 F28 := d30 _ (Disj.symm d17) d26 o11.sub
 replace o2 := o2.upF d13 up
 replace o8 := o8.upF (Disj.symm d16) up
 replace o11 := o11.upF (Disj.symm d17) up
 clear up d30 o5 n32
 have l36 : ((h.mons).set ((m).toNat) ({ el h.mons ((m).toNat) with guests := b.guests })).length = (h.mons).length := List.length_set
 replace S := S.z (σ' := ⟨[(1, .v (I m)), (3, .p 0 0), (5, .p 1 0), (6, .p 2 0), (12, .v (slv (b.guests).length q19.1)), (14, .v (pt ph.mons.1.b (ph.mons.1.off + ((m).toNat) * 9 + 3)))], [[slv (h.mem).length ph.mem.1, slv (h.mons).length ph.mons.1, slv (h.buf).length ph.buf.1, slv (h.iobuf).length ph.iobuf.1], GT.cells b pb, Zc THost]⟩)
 replace S := S.cast (σ' := ⟨[(1, .v (I m)), (3, .p 0 0), (5, .p 1 0), (6, .p 2 0), (12, .v (slv (b.guests).length q19.1)), (14, .v (pt ph.mons.1.b (ph.mons.1.off + ((m).toNat) * 9 + 3)))], [[slv (h.mem).length ph.mem.1, slv (((h.mons).set ((m).toNat) ({ el h.mons ((m).toNat) with guests := b.guests }))).length ph.mons.1, slv (h.buf).length ph.buf.1, slv (h.iobuf).length ph.iobuf.1], GT.cells b pb, Zc THost]⟩) (by rw [show (((h.mons).set ((m).toNat) ({ el h.mons ((m).toNat) with guests := b.guests }))).length = (h.mons).length by omega])
 refine WD.done (by kernel_rfl) ?_ _
 refine id (nt (ws (rg ?_)))
 refine S.qb 7 [] [(19, .v (I b.pend)), (21, .v (pt ph.mons.1.b (ph.mons.1.off + ((m).toNat) * 9 + 5)))] (.cons (Q_idx o27.rn (l := (((h.mons).set ((m).toNat) ({ el h.mons ((m).toNat) with guests := b.guests }))).length) (k := (m).toNat) (i := m) rfl (by omega) (by omega) Tryz.underlying28 (by kernel_rfl)) .nil) ?_; clear S; intro ac w β S
 refine RG.op rfl (S.setEl (α := TMon) o27 (t := 3) (v := I b.pend) (k := (m).toNat) (j := 5) (off := ph.mons.1.off + ((m).toNat) * 9 + 5) (y := ({ el ((h.mons).set ((m).toNat) ({ el h.mons ((m).toNat) with guests := b.guests })) ((m).toNat) with pend := b.pend } : TMon)) (q := ((ph.mons.1, q29).2 ((m).toNat))) (Fy := NoB) (by kernel_rfl) (by kernel_rfl) (by omega) (by kernel_rfl) (by kernel_rfl) (Nat.le_of_ble_eq_true (by kernel_rfl)) (by kernel_rfl) (fun G g_ _ => ⟨G, ows_Mon_pend g_ ((RBare.pend (d := b) (S.argG hb gb))), fun _ h => .inl h⟩) (fun b _ h => False.elim h) (fun b h => False.elim h) (fun b h => False.elim h) ?_)
 clear S; intro w N F38 q39 S up o37 d40 s41 n42
 have d43 : Disj F1 F38 := d40 _ d33 (fun b _ h => False.elim h) o2.sub
 have d44 : Disj F7 F38 := d40 _ d34 (fun b _ h => False.elim h) o8.sub
 have d45 : Disj F10 F38 := d40 _ d35 (fun b _ h => False.elim h) o11.sub
 replace o2 := o2.upF d33 up
 replace o8 := o8.upF d34 up
 replace o11 := o11.upF d35 up
 clear up d40 o27 n42
 have l46 : ((((h.mons).set ((m).toNat) ({ el h.mons ((m).toNat) with guests := b.guests }))).set ((m).toNat) ({ el ((h.mons).set ((m).toNat) ({ el h.mons ((m).toNat) with guests := b.guests })) ((m).toNat) with pend := b.pend })).length = (((h.mons).set ((m).toNat) ({ el h.mons ((m).toNat) with guests := b.guests }))).length := List.length_set
 replace S := S.z (σ' := ⟨[(3, .p 0 0), (6, .p 2 0), (19, .v (I b.pend)), (21, .v (pt ph.mons.1.b (ph.mons.1.off + ((m).toNat) * 9 + 5)))], [[slv (h.mem).length ph.mem.1, slv (((h.mons).set ((m).toNat) ({ el h.mons ((m).toNat) with guests := b.guests }))).length ph.mons.1, slv (h.buf).length ph.buf.1, slv (h.iobuf).length ph.iobuf.1], GT.cells b pb, Zc THost]⟩)
 replace S := S.cast (σ' := ⟨[(3, .p 0 0), (6, .p 2 0), (19, .v (I b.pend)), (21, .v (pt ph.mons.1.b (ph.mons.1.off + ((m).toNat) * 9 + 5)))], [[slv (h.mem).length ph.mem.1, slv (((((h.mons).set ((m).toNat) ({ el h.mons ((m).toNat) with guests := b.guests }))).set ((m).toNat) ({ el ((h.mons).set ((m).toNat) ({ el h.mons ((m).toNat) with guests := b.guests })) ((m).toNat) with pend := b.pend }))).length ph.mons.1, slv (h.buf).length ph.buf.1, slv (h.iobuf).length ph.iobuf.1], GT.cells b pb, Zc THost]⟩) (by rw [show (((((h.mons).set ((m).toNat) ({ el h.mons ((m).toNat) with guests := b.guests }))).set ((m).toNat) ({ el ((h.mons).set ((m).toNat) ({ el h.mons ((m).toNat) with guests := b.guests })) ((m).toNat) with pend := b.pend }))).length = (((h.mons).set ((m).toNat) ({ el h.mons ((m).toNat) with guests := b.guests }))).length by omega])
 refine rd (nt (ws (rg ?_)))
 refine S.qem 2 [] [] 3 [(2, [slv (h.mem).length ph.mem.1, slv (((((h.mons).set ((m).toNat) ({ el h.mons ((m).toNat) with guests := b.guests }))).set ((m).toNat) ({ el ((h.mons).set ((m).toNat) ({ el h.mons ((m).toNat) with guests := b.guests })) ((m).toNat) with pend := b.pend }))).length ph.mons.1, slv (h.buf).length ph.buf.1, slv (h.iobuf).length ph.iobuf.1])] ?_; clear S; intro ac w β S
 refine (nt (wr (S.r [GT.val (⟨h.mem, ((((h.mons).set ((m).toNat) ({ el h.mons ((m).toNat) with guests := b.guests }))).set ((m).toNat) ({ el ((h.mons).set ((m).toNat) ({ el h.mons ((m).toNat) with guests := b.guests })) ((m).toNat) with pend := b.pend })), h.buf, h.iobuf⟩ : THost) (⟨ph.mem, (ph.mons.1, q39), ph.buf, ph.iobuf⟩ : PHost)] ?_)))
 have o47 := ow_Host (x := (⟨h.mem, ((((h.mons).set ((m).toNat) ({ el h.mons ((m).toNat) with guests := b.guests }))).set ((m).toNat) ({ el ((h.mons).set ((m).toNat) ({ el h.mons ((m).toNat) with guests := b.guests })) ((m).toNat) with pend := b.pend })), h.buf, h.iobuf⟩ : THost)) (p := (⟨ph.mem, (ph.mons.1, q39), ph.buf, ph.iobuf⟩ : PHost)) o2 o37 o8 o11 d43 d14 d15 (Disj.symm d44) (Disj.symm d45) d18 
 exact retT_of S (show f_back h m b = (⟨h.mem, ((((h.mons).set ((m).toNat) ({ el h.mons ((m).toNat) with guests := b.guests }))).set ((m).toNat) ({ el ((h.mons).set ((m).toNat) ({ el h.mons ((m).toNat) with guests := b.guests })) ((m).toNat) with pend := b.pend })), h.buf, h.iobuf⟩ : THost) by clear S; (unfold f_back; rw [← back_two (by omega)])) rfl o47

set_option maxRecDepth 100000 in
theorem c_spec_l07Has (w0 : World) (k : TKept) (pk : PKept) (hk : GT.rd KK (Lt w0.heap.size) w0 k pk) (page : Int) : Calls Tryz.prog 53 [GT.val k pk, I page].toArray w0 (fun e w' => e = .returned (B (decide ((0 ≤ page ∧ page < k.known.length) ∧ page < k.slots.length))) ∧ Chg NoB w0 w') := by
 refine Calls.walk (args := [GT.val k pk, I page]) NoB Tryz.func53 rfl rfl ?_
 intro ac β S
 have hlek_known : k.known.length ≤ 4194304 := LRd.le (RKept.known (d := k) hk)
 have hlek_slots : k.slots.length ≤ 4194304 := LRd.le (RKept.slots (d := k) hk)
 refine ws (rg ?_)
 refine S.qem 2 [] [(2, .p 0 0)] 1 [(0, GT.cells k pk)] ?_; clear S; intro ac w β S
 refine (nt (ws (rg ?_)))
 refine S.qb 7 [] [(11, .v (B (f_within page 0 (((k.known).length : Int) - 1))))] (.cons (Q_sub (x := ((k.known).length : Int)) (y := 1) ⟨by omega, by omega⟩) (.cons (Q_call fun w hw => c_spec_l01In w page 0 (((k.known).length : Int) - 1)) .nil)) ?_; clear S; intro ac w β S
 rcases Bool.eq_false_or_eq_true (f_within page 0 (((k.known).length : Int) - 1)) with h1 | h1 <;> rw [h1] at S
 ·have g2 := within_t h1
  refine S.qe 7 [11] [(4, .v (B (decide (page < ((k.slots).length : Int)))))] ?_; clear S; intro ac w β S
  exact (nt (wr (S.r [B (decide (page < ((k.slots).length : Int)))] ⟨retB (by clear S; (rw [Bool.eq_iff_iff]; simp; omega)), S.chg⟩)))
 ·have g3 := within_f h1
  refine S.qe 7 [11] [(4, .v (B false))] ?_; clear S; intro ac w β S
  exact (nt (wr (S.r [B false] ⟨retB (by clear S; (rw [Bool.eq_iff_iff]; simp; omega)), S.chg⟩)))

theorem k0_spec_Forget {p : Prop} (h : p := by clear S; (unfold f_forget; (repeat' split) <;> first | rfl | (exfalso; omega) | (exfalso; simp_all; done))) : p := h
set_option maxRecDepth 100000 in
theorem c_spec_Forget (w0 : World) (k : TKept) (pk : PKept) (hk : GT.rd KK (Lt w0.heap.size) w0 k pk) (page : Int) : Calls Tryz.prog 19 [GT.val k pk, I page].toArray w0 (Ret1 NoB w0 (f_forget k page : TKept)) := by
 refine Calls.walk (args := [GT.val k pk, I page]) NoB Tryz.func19 rfl rfl ?_
 intro ac β S
 have hlek_known : k.known.length ≤ 4194304 := LRd.le (RKept.known (d := k) hk)
 have hlek_slots : k.slots.length ≤ 4194304 := LRd.le (RKept.slots (d := k) hk)
 refine ws (rg ?_)
 refine S.qem 2 [] [(2, .p 0 0), (4, .p 1 0)] 2 [(0, GT.cells k pk), (1, Zc TKept)] ?_; clear S; intro ac w β S
 refine (nt (ws (rg ?_)))
 refine S.qa 1 [] [(5, .v (GT.val k pk))] ?_; clear S; intro ac w β S
 refine RG.op rfl (S.call1 (r := k) (d := 6) (c_spec_l07Copy w k pk (S.rd (S.arg hk))) (by kernel_rfl) rfl ?_)
 clear S; intro ac w N q1 F2 S up o3 d4
 clear up d4
 obtain ⟨F5, F8, o6, o9, s7, s10, d11⟩ := sp_Kept o3
 refine S.qem 1 [] [] 2 [(0, [slv (k.known).length q1.known.1, slv (k.slots).length q1.slots.1])] ?_; clear S; intro ac w β S
 refine (nt (ws (ws (rg ?_))))
 refine S.qg 3 [] [(9, .v (B ((decide ((0 ≤ page ∧ page < k.known.length) ∧ page < k.slots.length)))))] (.cons (Q_call fun w hw => c_spec_l07Has w k q1 (rd_of (show GT.rd KK _ _ k q1 from ⟨o6.rn, o9.rn⟩) hw) page) .nil) ?_; clear S; intro ac w β S
 refine (nt (S.c ((decide ((0 ≤ page ∧ page < k.known.length) ∧ page < k.slots.length))) (fun h12 => ?_) (fun h12 => ?_)))
 ·have g13 := of_decide_eq_true h12
  refine ws (rg ?_)
  refine S.qb 4 [] [(13, .v (pt q1.known.1.b (q1.known.1.off + ((page).toNat) * 1)))] (.cons (Q_idx o6.rn (l := (k.known).length) (k := (page).toNat) (i := page) rfl (by omega) (by omega) Tryz.underlying51 (by kernel_rfl)) .nil) ?_; clear S; intro ac w β S
  refine RG.op rfl (S.setEl (α := Bool) o6 (t := 4) (v := B false) (k := (page).toNat) (j := 0) (off := q1.known.1.off + ((page).toNat) * 1) (y := false) (q := ()) (Fy := NoB) (by kernel_rfl) (by kernel_rfl) (by omega) (by kernel_rfl) (by kernel_rfl) (Nat.le_of_ble_eq_true (by kernel_rfl)) (by kernel_rfl) (fun _ _ _ => ⟨NoB, trivial, fun _ h => False.elim h⟩) (fun b _ h => False.elim h) (fun b h => False.elim h) (fun b h => False.elim h) ?_)
  clear S; intro w N F15 q16 S up o14 d17 s18 n19
  have d20 : Disj F8 F15 := d17 _ (Disj.symm d11) (fun b _ h => False.elim h) o9.sub
  replace o9 := o9.upF (Disj.symm d11) up
  clear up d17 o6 n19
  have l21 : (k.known.set ((page).toNat) false).length = (k.known).length := List.length_set
  replace S := S.z (σ' := ⟨[(1, .v (I page)), (2, .p 0 0), (4, .p 1 0), (13, .v (pt q1.known.1.b (q1.known.1.off + ((page).toNat) * 1)))], [[slv (k.known).length q1.known.1, slv (k.slots).length q1.slots.1], Zc TKept]⟩)
  replace S := S.cast (σ' := ⟨[(1, .v (I page)), (2, .p 0 0), (4, .p 1 0), (13, .v (pt q1.known.1.b (q1.known.1.off + ((page).toNat) * 1)))], [[slv ((k.known.set ((page).toNat) false)).length q1.known.1, slv (k.slots).length q1.slots.1], Zc TKept]⟩) (by rw [show ((k.known.set ((page).toNat) false)).length = (k.known).length by omega])
  refine rd (nt ?_)
  refine S.draw0 (f := 6) 5 rfl rfl ?_
  clear S; intro w S
  refine S.hq 0 [0] [] [(14, .p 0 1)] .nil ?_; clear S; intro ac S
  refine S.hq 1 [1] [] [(15, .v (slv (k.slots).length q1.slots.1))] .nil ?_; clear S; intro ac S
  refine S.hq 2 [2] [] [(16, .v (I page))] .nil ?_; clear S; intro ac S
  refine WD.one (i := 3) (by kernel_rfl) ?_
  refine S.stepq (i := 3) (keep := [2, 4, 15, 16, 17]) (m := 2) (σ' := ⟨[(2, .p 0 0), (4, .p 1 0), (15, .v (slv (k.slots).length q1.slots.1)), (16, .v (I page)), (17, .v (GT.val ((⟨-1, 0⟩ : TSlot)) ()))], [[slv ((k.known.set ((page).toNat) false)).length q1.known.1, slv (k.slots).length q1.slots.1], Zc TKept]⟩) (.cons (Q_call fun w hw => c_spec_NoSlot w ) .nil) (by kernel_rfl) ?_
  clear S; intro ac w β S hβ
  refine WD.stayq S hβ ?_
  clear hβ
  refine S.hq 4 [4] [] [(18, .v (pt q1.slots.1.b (q1.slots.1.off + ((page).toNat) * 2)))] (.cons (Q_idx o9.rn (l := (k.slots).length) (k := (page).toNat) (i := page) rfl (by omega) (by omega) Tryz.underlying50 (by kernel_rfl)) .nil) ?_; clear S; intro ac S
  refine WD.one (i := 5) (by kernel_rfl) ?_
  have e22 : RSlot (el k.slots ((page).toNat)) := (LRd.el o9.rn ((page).toNat) (by omega))
  refine id (S.setEl (α := TSlot) o9 (t := 92) (v := GT.val ((⟨-1, 0⟩ : TSlot)) ()) (k := (page).toNat) (j := 0) (off := q1.slots.1.off + ((page).toNat) * 2) (y := ((⟨-1, 0⟩ : TSlot))) (q := ()) (Fy := NoB) (by kernel_rfl) (by kernel_rfl) (by omega) (by kernel_rfl) (by kernel_rfl) (Nat.le_of_ble_eq_true (by kernel_rfl)) (by kernel_rfl) (fun _ _ _ => ⟨NoB, ((show RSlot ⟨-1, 0⟩ from ⟨⟨by decide, by decide⟩, ⟨by decide, by decide⟩⟩)), fun _ h => False.elim h⟩) (fun b _ h => False.elim h) (fun b h => False.elim h) (fun b h => False.elim h) ?_)
  clear S; intro w N F24 q25 S up o23 d26 s27 n28
  refine WD.last (by kernel_rfl) ?_
  have d29 : Disj F15 F24 := d26 _ (Disj.symm d20) (fun b _ h => False.elim h) o14.sub
  replace o14 := o14.upF (Disj.symm d20) up
  clear up d26 o9 n28
  have l30 : (k.slots.set ((page).toNat) ((⟨-1, 0⟩ : TSlot))).length = (k.slots).length := List.length_set
  replace S := S.z (σ' := ⟨[(2, .p 0 0), (4, .p 1 0), (17, .v (GT.val ((⟨-1, 0⟩ : TSlot)) ())), (18, .v (pt q1.slots.1.b (q1.slots.1.off + ((page).toNat) * 2)))], [[slv ((k.known.set ((page).toNat) false)).length q1.known.1, slv (k.slots).length q1.slots.1], Zc TKept]⟩)
  replace S := S.cast (σ' := ⟨[(2, .p 0 0), (4, .p 1 0), (17, .v (GT.val ((⟨-1, 0⟩ : TSlot)) ())), (18, .v (pt q1.slots.1.b (q1.slots.1.off + ((page).toNat) * 2)))], [[slv ((k.known.set ((page).toNat) false)).length q1.known.1, slv ((k.slots.set ((page).toNat) ((⟨-1, 0⟩ : TSlot)))).length q1.slots.1], Zc TKept]⟩) (by rw [show ((k.slots.set ((page).toNat) ((⟨-1, 0⟩ : TSlot)))).length = (k.slots).length by omega])
  refine WD.done (by kernel_rfl) ?_ _
  refine id (nt (ws (rg ?_)))
  refine S.qem 2 [] [] 2 [(1, [slv ((k.known.set ((page).toNat) false)).length q1.known.1, slv ((k.slots.set ((page).toNat) ((⟨-1, 0⟩ : TSlot)))).length q1.slots.1])] ?_; clear S; intro ac w β S
  refine (nt (wr (S.r [GT.val (⟨(k.known.set ((page).toNat) false), (k.slots.set ((page).toNat) ((⟨-1, 0⟩ : TSlot)))⟩ : TKept) (⟨(q1.known.1, q16), (q1.slots.1, q25)⟩ : PKept)] ?_)))
  have o31 := ow_Kept (x := (⟨(k.known.set ((page).toNat) false), (k.slots.set ((page).toNat) ((⟨-1, 0⟩ : TSlot)))⟩ : TKept)) (p := (⟨(q1.known.1, q16), (q1.slots.1, q25)⟩ : PKept)) o14 o23 d29 
  exact ret1_of S (show f_forget k page = (⟨(k.known.set ((page).toNat) false), (k.slots.set ((page).toNat) ((⟨-1, 0⟩ : TSlot)))⟩ : TKept) from k0_spec_Forget) rfl o31
 ·have g32 := of_decide_eq_false h12
  refine wk (nt (ws (rg ?_)))
  refine S.qem 2 [] [] 2 [(1, [slv (k.known).length q1.known.1, slv (k.slots).length q1.slots.1])] ?_; clear S; intro ac w β S
  refine (nt (wr (S.r [GT.val k q1] ?_)))
  have o33 := ow_Kept (x := k) (p := q1) o6 o9 d11 
  exact ret1_of S (show f_forget k page = k from k0_spec_Forget) rfl o33

theorem k0_spec_TagOf {p : Prop} (h : p := by clear S; (first | (unfold f_tagOf; rw [if_pos (by omega)]; done) | (unfold f_tagOf; rw [if_pos (by omega)]; first | rfl | (simp; done)) | (unfold f_tagOf; rw [if_neg (by omega)]; done) | (unfold f_tagOf; rw [if_neg (by omega)]; first | rfl | (simp; done)))) : p := h
set_option maxRecDepth 100000 in
theorem c_spec_TagOf (w0 : World) (m : Int) (g : Int) : Calls Tryz.prog 21 [I m, I g].toArray w0 (fun e w' => e = .returned (I (f_tagOf m g)) ∧ Chg NoB w0 w') := by
 refine Calls.walk (args := [I m, I g]) NoB Tryz.func21 rfl rfl ?_
 intro ac β S
 refine ws (rg ?_)
 refine S.qe 1 [] [] ?_; clear S; intro ac w β S
 refine (nt (ws (ws (rg ?_))))
 refine S.qb 4 [] [(8, .v (B (!(f_within m 0 2))))] (.cons (Q_call fun w hw => c_spec_l01In w m 0 2) .nil) ?_; clear S; intro ac w β S
 rcases Bool.eq_false_or_eq_true (!(f_within m 0 2)) with h1 | h1 <;> rw [h1] at S
 ·have h2 := not_t h1
  have g3 := within_f h2
  refine S.qe 4 [8] [(12, .v (B true))] ?_; clear S; intro ac w β S
  refine (nt (S.c true (fun _ => ?_) (fun hx => by cases hx)))
  refine ws (rg ?_)
  refine S.qe 1 [] [(4, .v (I 0))] ?_; clear S; intro ac w β S
  exact (nt (wr (rt (S.r [I 0] ⟨retI k0_spec_TagOf, S.chg⟩))))
 ·have h4 := not_f h1
  have g5 := within_t h4
  refine S.qg 4 [8] [(12, .v (B (!(f_within g 0 1))))] (.cons (Q_call fun w hw => c_spec_l01In w g 0 1) .nil) ?_; clear S; intro ac w β S
  refine (nt (S.c (!(f_within g 0 1)) (fun h6 => ?_) (fun h6 => ?_)))
  ·have h7 := not_t h6
   have g8 := within_f h7
   refine ws (rg ?_)
   refine S.qe 1 [] [(4, .v (I 0))] ?_; clear S; intro ac w β S
   exact (nt (wr (rt (S.r [I 0] ⟨retI k0_spec_TagOf, S.chg⟩))))
  ·have h9 := not_f h6
   have g10 := within_t h9
   refine wk (nt (ws (rg ?_)))
   refine S.qg 6 [] [(4, .v (I ((1 + g) + (m * 2))))] (.cons (Q_add (x := 1) (y := g) ⟨by omega, by omega⟩) (.cons (Q_mul (x := m) (y := 2) ⟨by omega, by omega⟩) (.cons (Q_add (x := (1 + g)) (y := (m * 2)) ⟨by omega, by omega⟩) .nil))) ?_; clear S; intro ac w β S
   exact (nt (wr (S.r [I ((1 + g) + (m * 2))] ⟨retI k0_spec_TagOf, S.chg⟩)))

set_option maxRecDepth 100000 in
theorem c_spec_FlushPage (w0 : World) (b : List TEntry) (pb : LP TEntry) (hb : GT.rd KK (Lt w0.heap.size) w0 b pb) (tag : Int) (htag : In64 tag) (page : Int) (hpage : In64 page) : Calls Tryz.prog 20 [slv (b).length pb.1, I tag, I page].toArray w0 (Ret1 NoB w0 (f_flushPage b tag page : List TEntry)) := by
 refine Calls.walk (args := [slv (b).length pb.1, I tag, I page]) NoB Tryz.func20 rfl rfl ?_
 intro ac β S
 have hleb : b.length ≤ 4194304 := LRd.le hb
 have hlotag := htag.lo; have hhitag := htag.hi
 have hlopage := hpage.lo; have hhipage := hpage.hi
 refine ws (rg ?_)
 refine S.qe 1 [] [] ?_; clear S; intro ac w β S
 refine (nt (ws (rg ?_)))
 refine RG.op rfl (S.bs0 (α := TEntry) (d := 9) (by kernel_rfl) ?_)
 clear S; intro ac w N q1 F2 S up o3 d4
 clear up d4
 refine S.qe 1 [] [(7, .v (slv 0 q1.1))] ?_; clear S; intro ac w β S
 refine (nt (ws (ws (rg ?_))))
 refine S.qe 1 [] [(8, .v (I 0))] ?_; clear S; intro ac w β S
 refine (nt (wp_block ?_))
 refine wp_loop_down (fun mm ac w => ∃ (k : Nat) (acc : List TEntry) (q5 : GT.Ptr (List TEntry)) (F6 : Bl) (u : World) (N : Bl) (β : Nat → Nat), mm = b.length - k ∧ (k ≤ b.length) ∧ (acc = f_without (b.take k) (fun e => f_samePg e tag page)) ∧ St Tryz.prog Tryz.f20.ntmps w0 NoB u N β ⟨[(0, .v (slv (b).length pb.1)), (1, .v (I tag)), (2, .v (I page)), (7, .v (slv (acc).length q5.1)), (8, .v (I (k : Int)))], []⟩ ac w ∧ Ow w0 NoB u N F6 acc q5) _ ⟨0, ([] : List TEntry), q1, F2, _, _, _, rfl, (by first | omega | (simp; done) | (simp; omega)), (by rfl), S.z, o3⟩ ?_
 clear S o3
 rintro mm ac w ⟨k, acc, q5, F6, u, N, β, rfl, hk, hacc, S, o7⟩
 have hlacc : acc.length ≤ k := by rw [hacc]; exact Nat.le_trans (without_len _ _) (List.length_take_le _ _)
 refine ws (ws (rg ?_))
 refine S.qe 4 [] [(13, .v (B (decide ((k : Int) < ((b).length : Int)))))] ?_; clear S; intro ac w β S
 refine (nt (S.c (decide ((k : Int) < ((b).length : Int))) (fun h8 => ?_) (fun h8 => ?_)))
 ·have g9 := of_decide_eq_true h8
  refine wk (nt (ws (wp_block (ws (rg ?_)))))
  refine S.qb 8 [] [(23, .v (B ((el b k).tag != tag)))] (.cons (Q_idx (S.arg hb) (l := (b).length) (k := k) (i := (k : Int)) rfl rfl (by omega) Tryz.underlying29 (by kernel_rfl)) (.cons (Q_cell (S.arg hb) (t := 3) (k := k) (j := 0) (v := I ((el b k).tag)) (by omega) (by kernel_rfl) (by kernel_rfl)) .nil)) ?_; clear S; intro ac w β S
  rcases Bool.eq_false_or_eq_true ((el b k).tag != tag) with h10 | h10 <;> rw [h10] at S
  ·have g11 : ¬ ((el b k).tag = tag) := bne_iff_ne.1 h10
   refine S.qe 8 [23] [(31, .v (B true))] ?_; clear S; intro ac w β S
   refine (nt (S.c true (fun _ => ?_) (fun hx => by cases hx)))
   refine rg ?_
   refine S.qb 5 [] [(32, .v (slv (acc).length q5.1)), (36, .v (GT.val (el b k) ()))] (.cons (Q_idx (S.arg hb) (l := (b).length) (k := k) (i := (k : Int)) rfl rfl (by omega) Tryz.underlying29 (by kernel_rfl)) (.cons (Q_el (S.arg hb) (t := 100) (k := k) (by omega) rfl (by kernel_rfl) (by kernel_rfl)) .nil)) ?_; clear S; intro ac w β S
   refine RG.op rfl (S.bs1 (α := TEntry) (x := (el b k)) (p := ()) (F := NoB) (LRd.el (S.arg hb) k (by omega)) (fun b h => False.elim h) (fun b h => False.elim h) (d := 37) (by kernel_rfl) ?_)
   clear S; intro ac w N q12 F13 S up o14 d15
   have d16 : Disj F6 F13 := d15 _ (fun b _ h => False.elim h) o7.sub
   replace o7 := o7.up up
   clear up d15
   refine RG.op rfl (S.appFlat (α := TEntry) o7 (o14.rn) (fun _ _ h => h) (by' := 32) (d := 38) (lx := (acc).length) (ly := 1) rfl rfl (by kernel_rfl) (show _ ≤ 4194304 by simp only [List.length_append, List.length_cons, List.length_nil]; omega) ?_)
   clear S; intro ac w N q17 F18 S up o19 d20
   have d21 : Disj F13 F18 := d20 _ (Disj.symm d16) o14.sub
   replace o14 := o14.upF (Disj.symm d16) up
   clear up d20
   refine S.qe 1 [] [(7, .v (slv ((acc ++ [(el b k)])).length q17.1))] ?_; clear S; intro ac w β S
   refine (nb (nt (rg ?_)))
   refine S.qg 3 [] [(8, .v (I ((k : Int) + 1)))] (.cons (Q_add (x := (k : Int)) (y := 1) ⟨by omega, by omega⟩) .nil) ?_; clear S; intro ac w β S
   refine (nt ?_)
   refine ⟨b.length - (k + 1), by omega, k + 1, (acc ++ [(el b k)]), q17, F18, _, _, _, rfl, ?_, ?_, S.z, o19⟩
   ·clear S; first | omega | (simp [*]; done) | (simp [*]; omega)
   ·clear S; (first | (rw [without_t (by omega) (samePg_t (by assumption) (by assumption)), hacc]; done) | (rw [without_f (by omega) (samePg_f1 (by assumption)), hacc]; done) | (rw [without_f (by omega) (samePg_f2 (by assumption)), hacc]; done))
  ·have g22 : (el b k).tag = tag := ne_f h10
   refine S.qg 8 [23] [(31, .v (B ((el b k).page != page)))] (.cons (Q_idx (S.arg hb) (l := (b).length) (k := k) (i := (k : Int)) rfl rfl (by omega) Tryz.underlying29 (by kernel_rfl)) (.cons (Q_cell (S.arg hb) (t := 3) (k := k) (j := 1) (v := I ((el b k).page)) (by omega) (by kernel_rfl) (by kernel_rfl)) .nil)) ?_; clear S; intro ac w β S
   refine (nt (S.c ((el b k).page != page) (fun h23 => ?_) (fun h23 => ?_)))
   ·have g24 : ¬ ((el b k).page = page) := bne_iff_ne.1 h23
    refine rg ?_
    refine S.qb 5 [] [(32, .v (slv (acc).length q5.1)), (36, .v (GT.val (el b k) ()))] (.cons (Q_idx (S.arg hb) (l := (b).length) (k := k) (i := (k : Int)) rfl rfl (by omega) Tryz.underlying29 (by kernel_rfl)) (.cons (Q_el (S.arg hb) (t := 100) (k := k) (by omega) rfl (by kernel_rfl) (by kernel_rfl)) .nil)) ?_; clear S; intro ac w β S
    refine RG.op rfl (S.bs1 (α := TEntry) (x := (el b k)) (p := ()) (F := NoB) (LRd.el (S.arg hb) k (by omega)) (fun b h => False.elim h) (fun b h => False.elim h) (d := 37) (by kernel_rfl) ?_)
    clear S; intro ac w N q25 F26 S up o27 d28
    have d29 : Disj F6 F26 := d28 _ (fun b _ h => False.elim h) o7.sub
    replace o7 := o7.up up
    clear up d28
    refine RG.op rfl (S.appFlat (α := TEntry) o7 (o27.rn) (fun _ _ h => h) (by' := 32) (d := 38) (lx := (acc).length) (ly := 1) rfl rfl (by kernel_rfl) (show _ ≤ 4194304 by simp only [List.length_append, List.length_cons, List.length_nil]; omega) ?_)
    clear S; intro ac w N q30 F31 S up o32 d33
    have d34 : Disj F26 F31 := d33 _ (Disj.symm d29) o27.sub
    replace o27 := o27.upF (Disj.symm d29) up
    clear up d33
    refine S.qe 1 [] [(7, .v (slv ((acc ++ [(el b k)])).length q30.1))] ?_; clear S; intro ac w β S
    refine (nb (nt (rg ?_)))
    refine S.qg 3 [] [(8, .v (I ((k : Int) + 1)))] (.cons (Q_add (x := (k : Int)) (y := 1) ⟨by omega, by omega⟩) .nil) ?_; clear S; intro ac w β S
    refine (nt ?_)
    refine ⟨b.length - (k + 1), by omega, k + 1, (acc ++ [(el b k)]), q30, F31, _, _, _, rfl, ?_, ?_, S.z, o32⟩
    ·clear S; first | omega | (simp [*]; done) | (simp [*]; omega)
    ·clear S; (first | (rw [without_t (by omega) (samePg_t (by assumption) (by assumption)), hacc]; done) | (rw [without_f (by omega) (samePg_f1 (by assumption)), hacc]; done) | (rw [without_f (by omega) (samePg_f2 (by assumption)), hacc]; done))
   ·have g35 : (el b k).page = page := ne_f h23
    refine wk (nb (nt (rg ?_)))
    refine S.qg 3 [] [(8, .v (I ((k : Int) + 1)))] (.cons (Q_add (x := (k : Int)) (y := 1) ⟨by omega, by omega⟩) .nil) ?_; clear S; intro ac w β S
    refine (nt ?_)
    refine ⟨b.length - (k + 1), by omega, k + 1, acc, q5, F6, _, _, _, rfl, ?_, ?_, S.z, o7⟩
    ·clear S; first | omega | (simp [*]; done) | (simp [*]; omega)
    ·clear S; (first | (rw [without_t (by omega) (samePg_t (by assumption) (by assumption)), hacc]; done) | (rw [without_f (by omega) (samePg_f1 (by assumption)), hacc]; done) | (rw [without_f (by omega) (samePg_f2 (by assumption)), hacc]; done))
 ·have g36 := of_decide_eq_false h8
  refine wp_exit (ex_then (ex_then (ex_hit (nt (ws (rg ?_))))))
  refine S.qe 2 [] [(6, .v (slv (acc).length q5.1))] ?_; clear S; intro ac w β S
  exact (nt (wr (S.r [slv (acc).length q5.1] (ret1_of S (show f_flushPage b tag page = acc by clear S; (rw [hacc, take_all (by omega)]; rfl)) rfl o7))))

theorem k0_spec_HostFlush {p : Prop} (h : p := by clear S; (first | (rw [hostFlush_out (by assumption)]; done) | (rw [hostFlush_sno (by assumption) (by assumption)]; done) | (rw [hostFlush_syes (by assumption) (by assumption)]; done) | (rw [hostFlush_syes (by assumption) (by assumption)]; simp [f_flushed]; done))) : p := h
set_option maxRecDepth 100000 in
theorem c_spec_HostFlush (w0 : World) (h : THost) (ph : PHost) (hh : GT.rd KK (Lt w0.heap.size) w0 h ph) (m : Int) (g : Int) (hg : In64 g) (page : Int) (hpage : In64 page) : Calls Tryz.prog 5 [GT.val h ph, I m, I g, I page].toArray w0 (Ret2 NoB w0 ((f_hostFlush h m g page).1 : THost) ((f_hostFlush h m g page).2 : Bool)) := by
 refine Calls.walk (args := [GT.val h ph, I m, I g, I page]) NoB Tryz.func5 rfl rfl ?_
 intro ac β S
 have hleh_mem : h.mem.length ≤ 4194304 := LRd.le (RHost.mem (d := h) hh)
 have hleh_mons : h.mons.length ≤ 4194304 := LRd.le (RHost.mons (d := h) hh)
 have hleh_buf : h.buf.length ≤ 4194304 := LRd.le (RHost.buf (d := h) hh)
 have hleh_iobuf : h.iobuf.length ≤ 4194304 := LRd.le (RHost.iobuf (d := h) hh)
 have hlog := hg.lo; have hhig := hg.hi
 have hlopage := hpage.lo; have hhipage := hpage.hi
 refine ws (rg ?_)
 refine S.qem 3 [] [(4, .p 0 0), (8, .p 1 0)] 2 [(0, GT.cells h ph), (1, Zc THost)] ?_; clear S; intro ac w β S
 refine (nt (ws (rg ?_)))
 refine S.qa 1 [] [(12, .v (GT.val h ph))] ?_; clear S; intro ac w β S
 refine RG.op rfl (S.call1 (r := h) (d := 13) (c_spec_l21Copy w h ph (S.rd (S.arg hh))) (by kernel_rfl) rfl ?_)
 clear S; intro ac w N q1 F2 S up o3 d4
 clear up d4
 obtain ⟨F5, F8, F11, F14, o6, o9, o12, o15, s7, s10, s13, s16, d17, d18, d19, d20, d21, d22⟩ := sp_Host o3
 refine S.qem 1 [] [] 2 [(0, [slv (h.mem).length q1.mem.1, slv (h.mons).length q1.mons.1, slv (h.buf).length q1.buf.1, slv (h.iobuf).length q1.iobuf.1])] ?_; clear S; intro ac w β S
 refine (nt (ws (ws (rg ?_))))
 refine S.qg 4 [] [(17, .v (B (!(f_l25Mon h m))))] (.cons (Q_call fun w hw => c_spec_l25Mon w h q1 (rd_of (show GT.rd KK _ _ h q1 from ⟨o6.rn, o9.rn, o12.rn, o15.rn⟩) hw) m) .nil) ?_; clear S; intro ac w β S
 refine (nt (S.c (!(f_l25Mon h m)) (fun h23 => ?_) (fun h23 => ?_)))
 ·have h24 := not_t h23
  refine ws (rg ?_)
  refine S.qem 3 [] [(9, .v (B false))] 2 [(1, [slv (h.mem).length q1.mem.1, slv (h.mons).length q1.mons.1, slv (h.buf).length q1.buf.1, slv (h.iobuf).length q1.iobuf.1])] ?_; clear S; intro ac w β S
  refine (nt (wr (rt (S.r [GT.val h q1, B false] ?_))))
  have o25 := ow_Host (x := h) (p := q1) o6 o9 o12 o15 d17 d18 d19 d20 d21 d22 
  exact ret2_of (p' := ()) S (show (f_hostFlush h m g page).1 = h from k0_spec_HostFlush) (show (f_hostFlush h m g page).2 = false from k0_spec_HostFlush) rfl rfl o25 trivial
 ·have h26 := not_f h23
  have g27 := l25Mon_tab h26
  refine wk (nt (ws (rg ?_)))
  refine S.qb 5 [] [(24, .v (GT.val (el h.mons ((m).toNat)) (q1.mons.2 ((m).toNat))))] (.cons (Q_idx o9.rn (l := (h.mons).length) (k := (m).toNat) (i := m) rfl (by omega) (by omega) Tryz.underlying28 (by kernel_rfl)) (.cons (Q_el o9.rn (t := 54) (k := (m).toNat) (by omega) rfl (by kernel_rfl) (by kernel_rfl)) .nil)) ?_; clear S; intro ac w β S
  refine RG.op rfl (S.call1 (r := f_view (el h.mons ((m).toNat))) (d := 25) (c_spec_l25View w (el h.mons ((m).toNat)) (q1.mons.2 ((m).toNat)) (S.rd (LRd.el o9.rn ((m).toNat) (by omega)))) (by kernel_rfl) rfl ?_)
  clear S; intro ac w N q28 F29 S up o30 d31
  have d32 : Disj F5 F29 := fun b x y => d31 b (o6.sub b x) y
  have d33 : Disj F8 F29 := fun b x y => d31 b (o9.sub b x) y
  have d34 : Disj F11 F29 := fun b x y => d31 b (o12.sub b x) y
  have d35 : Disj F14 F29 := fun b x y => d31 b (o15.sub b x) y
  replace o6 := o6.up up
  replace o9 := o9.up up
  replace o12 := o12.up up
  replace o15 := o15.up up
  clear up d31
  have i45 : In64 (f_view (el h.mons ((m).toNat))).pend := RBare.pend (d := (f_view (el h.mons ((m).toNat)))) o30.rn
  obtain ⟨F36, F39, F42, o37, o40, o43, s38, s41, s44, d46, d47, d48⟩ := sp_Bare o30
  refine S.qa 2 [] [(25, .v (GT.val (f_view (el h.mons ((m).toNat))) q28)), (26, .v (I g)), (27, .v (I page))] ?_; clear S; intro ac w β S
  refine RG.op rfl (S.call2 (r := (f_bareFlush (f_view (el h.mons ((m).toNat))) g page).1) (r' := (f_bareFlush (f_view (el h.mons ((m).toNat))) g page).2) (d := 28) (c_spec_BareFlush w (f_view (el h.mons ((m).toNat))) q28 (S.rd (show GT.rd KK _ _ (f_view (el h.mons ((m).toNat))) q28 from ⟨o37.rn, o40.rn, o43.rn, i45⟩)) g page hpage) (by kernel_rfl) rfl ?_)
  clear S; intro ac w N q49 q50 F51 F52 S up o53 o54 d55 d56 d57
  have d58 : Disj F5 F52 := fun b x y => d56 b (o6.sub b x) y
  have d59 : Disj F8 F52 := fun b x y => d56 b (o9.sub b x) y
  have d60 : Disj F11 F52 := fun b x y => d56 b (o12.sub b x) y
  have d61 : Disj F14 F52 := fun b x y => d56 b (o15.sub b x) y
  have d62 : Disj F36 F52 := fun b x y => d56 b (o37.sub b x) y
  have d63 : Disj F39 F52 := fun b x y => d56 b (o40.sub b x) y
  have d64 : Disj F42 F52 := fun b x y => d56 b (o43.sub b x) y
  have d65 : Disj F5 F51 := fun b x y => d55 b (o6.sub b x) y
  have d66 : Disj F8 F51 := fun b x y => d55 b (o9.sub b x) y
  have d67 : Disj F11 F51 := fun b x y => d55 b (o12.sub b x) y
  have d68 : Disj F14 F51 := fun b x y => d55 b (o15.sub b x) y
  have d69 : Disj F36 F51 := fun b x y => d55 b (o37.sub b x) y
  have d70 : Disj F39 F51 := fun b x y => d55 b (o40.sub b x) y
  have d71 : Disj F42 F51 := fun b x y => d55 b (o43.sub b x) y
  replace o6 := o6.up up
  replace o9 := o9.up up
  replace o12 := o12.up up
  replace o15 := o15.up up
  replace o37 := o37.up up
  replace o40 := o40.up up
  replace o43 := o43.up up
  clear up d55
  clear d56
  have i81 : In64 ((f_bareFlush (f_view (el h.mons ((m).toNat))) g page).1).pend := RBare.pend (d := ((f_bareFlush (f_view (el h.mons ((m).toNat))) g page).1)) o53.rn
  obtain ⟨F72, F75, F78, o73, o76, o79, s74, s77, s80, d82, d83, d84⟩ := sp_Bare o53
  refine S.qem 6 [] [(10, .p 2 0), (11, .v (B ((f_bareFlush (f_view (el h.mons ((m).toNat))) g page).2)))] 3 [(2, [slv (((f_bareFlush (f_view (el h.mons ((m).toNat))) g page).1).mem).length q49.mem.1, slv (((f_bareFlush (f_view (el h.mons ((m).toNat))) g page).1).guests).length q49.guests.1, slv (((f_bareFlush (f_view (el h.mons ((m).toNat))) g page).1).outs).length q49.outs.1, I (((f_bareFlush (f_view (el h.mons ((m).toNat))) g page).1).pend)])] ?_; clear S; intro ac w β S
  refine (nt (ws (ws (rg ?_))))
  refine S.qe 2 [] [(32, .v (B (!((f_bareFlush (f_view (el h.mons ((m).toNat))) g page).2))))] ?_; clear S; intro ac w β S
  refine (nt (S.c (!((f_bareFlush (f_view (el h.mons ((m).toNat))) g page).2)) (fun h85 => ?_) (fun h85 => ?_)))
  ·have h86 := not_t h85
   refine ws (rg ?_)
   refine S.qem 3 [0, 1, 2, 3, 4, 10, 11, 12, 17, 24, 25, 26, 27, 32] [(9, .v (B false))] 2 [(1, [slv (h.mem).length q1.mem.1, slv (h.mons).length q1.mons.1, slv (h.buf).length q1.buf.1, slv (h.iobuf).length q1.iobuf.1])] ?_; clear S; intro ac w β S
   refine (nt (wr (rt (S.r [GT.val h q1, B false] ?_))))
   have o87 := ow_Host (x := h) (p := q1) o6 o9 o12 o15 d17 d18 d19 d20 d21 d22 
   exact ret2_of (p' := ()) S (show (f_hostFlush h m g page).1 = h from k0_spec_HostFlush) (show (f_hostFlush h m g page).2 = false from k0_spec_HostFlush) rfl rfl o87 trivial
  ·have h88 := not_f h85
   have g89 := bareFlush_v h88
   refine wk (nt (ws (rg ?_)))
   refine S.qam 3 [] [(34, .v (GT.val h q1)), (35, .v (I m)), (36, .v (GT.val ((f_bareFlush (f_view (el h.mons ((m).toNat))) g page).1) q49))] 2 [] ?_; clear S; intro ac w β S
   have b90 := back_bd h m ((f_bareFlush (f_view (el h.mons ((m).toNat))) g page).1)
   have o91 := ow_Host (x := h) (p := q1) o6 o9 o12 o15 d17 d18 d19 d20 d21 d22 
   have o92 := ow_Bare (x := (f_bareFlush (f_view (el h.mons ((m).toNat))) g page).1) (p := q49) o73 o76 o79 d82 d83 d84 i81
   refine RG.op rfl (S.callT (r := f_back h m ((f_bareFlush (f_view (el h.mons ((m).toNat))) g page).1)) (d := 37) o91 (c_spec_l25Back w h q1 (uniB [F5, F8, F11, F14]) (S.ownw o91) (fun b hb => (S.sep b (o91.sub b hb)).1) m ((f_bareFlush (f_view (el h.mons ((m).toNat))) g page).1) q49 (uniB [F72, F75, F78]) (GT.own_rd (S.ownw o92)) (fun b hb => ⟨(S.sep b (o92.sub b hb)).1, (Disj.or (Disj.symm (Disj.or (Disj.symm (Disj.part (Disj.symm d65) s74)) (Disj.or (Disj.symm (Disj.part (Disj.symm d66) s74)) (Disj.or (Disj.symm (Disj.part (Disj.symm d67) s74)) (Disj.or (Disj.symm (Disj.part (Disj.symm d68) s74)) Disj.nob))))) (Disj.or (Disj.symm (Disj.or (Disj.symm (Disj.part (Disj.symm d65) s77)) (Disj.or (Disj.symm (Disj.part (Disj.symm d66) s77)) (Disj.or (Disj.symm (Disj.part (Disj.symm d67) s77)) (Disj.or (Disj.symm (Disj.part (Disj.symm d68) s77)) Disj.nob))))) (Disj.or (Disj.symm (Disj.or (Disj.symm (Disj.part (Disj.symm d65) s80)) (Disj.or (Disj.symm (Disj.part (Disj.symm d66) s80)) (Disj.or (Disj.symm (Disj.part (Disj.symm d67) s80)) (Disj.or (Disj.symm (Disj.part (Disj.symm d68) s80)) Disj.nob))))) Disj.nob))) b hb⟩) (by omega) (by omega)) ?_)
   clear S; intro ac w N q93 F94 S up o95 d96
   have d97 : Disj F72 F94 := d96 _ (Disj.symm (Disj.or (Disj.symm (Disj.part (Disj.symm d65) s74)) (Disj.or (Disj.symm (Disj.part (Disj.symm d66) s74)) (Disj.or (Disj.symm (Disj.part (Disj.symm d67) s74)) (Disj.or (Disj.symm (Disj.part (Disj.symm d68) s74)) Disj.nob))))) o73.sub
   have d98 : Disj F75 F94 := d96 _ (Disj.symm (Disj.or (Disj.symm (Disj.part (Disj.symm d65) s77)) (Disj.or (Disj.symm (Disj.part (Disj.symm d66) s77)) (Disj.or (Disj.symm (Disj.part (Disj.symm d67) s77)) (Disj.or (Disj.symm (Disj.part (Disj.symm d68) s77)) Disj.nob))))) o76.sub
   have d99 : Disj F78 F94 := d96 _ (Disj.symm (Disj.or (Disj.symm (Disj.part (Disj.symm d65) s80)) (Disj.or (Disj.symm (Disj.part (Disj.symm d66) s80)) (Disj.or (Disj.symm (Disj.part (Disj.symm d67) s80)) (Disj.or (Disj.symm (Disj.part (Disj.symm d68) s80)) Disj.nob))))) o79.sub
   replace o73 := o73.upF (Disj.symm (Disj.or (Disj.symm (Disj.part (Disj.symm d65) s74)) (Disj.or (Disj.symm (Disj.part (Disj.symm d66) s74)) (Disj.or (Disj.symm (Disj.part (Disj.symm d67) s74)) (Disj.or (Disj.symm (Disj.part (Disj.symm d68) s74)) Disj.nob))))) up
   replace o76 := o76.upF (Disj.symm (Disj.or (Disj.symm (Disj.part (Disj.symm d65) s77)) (Disj.or (Disj.symm (Disj.part (Disj.symm d66) s77)) (Disj.or (Disj.symm (Disj.part (Disj.symm d67) s77)) (Disj.or (Disj.symm (Disj.part (Disj.symm d68) s77)) Disj.nob))))) up
   replace o79 := o79.upF (Disj.symm (Disj.or (Disj.symm (Disj.part (Disj.symm d65) s80)) (Disj.or (Disj.symm (Disj.part (Disj.symm d66) s80)) (Disj.or (Disj.symm (Disj.part (Disj.symm d67) s80)) (Disj.or (Disj.symm (Disj.part (Disj.symm d68) s80)) Disj.nob))))) up
   clear up d96 o91
   obtain ⟨F100, F103, F106, F109, o101, o104, o107, o110, s102, s105, s108, s111, d112, d113, d114, d115, d116, d117⟩ := sp_Host o95
   refine S.qem 1 [] [] 2 [(0, [slv ((f_back h m ((f_bareFlush (f_view (el h.mons ((m).toNat))) g page).1)).mem).length q93.mem.1, slv ((f_back h m ((f_bareFlush (f_view (el h.mons ((m).toNat))) g page).1)).mons).length q93.mons.1, slv ((f_back h m ((f_bareFlush (f_view (el h.mons ((m).toNat))) g page).1)).buf).length q93.buf.1, slv ((f_back h m ((f_bareFlush (f_view (el h.mons ((m).toNat))) g page).1)).iobuf).length q93.iobuf.1])] ?_; clear S; intro ac w β S
   refine (nt (ws ?_))
   refine S.draw0 (f := 20) 19 rfl rfl ?_
   clear S; intro w S
   refine S.hq 0 [0] [] [(38, .p 0 1)] .nil ?_; clear S; intro ac S
   refine S.hq 1 [1] [] [(39, .v (slv ((f_back h m ((f_bareFlush (f_view (el h.mons ((m).toNat))) g page).1)).mons).length q93.mons.1))] .nil ?_; clear S; intro ac S
   refine S.hq 2 [2] [] [(40, .v (I m))] .nil ?_; clear S; intro ac S
   refine S.hq 3 [3] [] [(41, .v (pt q93.mons.1.b (q93.mons.1.off + ((m).toNat) * 9)))] (.cons (Q_idx o104.rn (l := ((f_back h m ((f_bareFlush (f_view (el h.mons ((m).toNat))) g page).1)).mons).length) (k := (m).toNat) (i := m) rfl (by omega) (by omega) Tryz.underlying28 (by kernel_rfl)) .nil) ?_; clear S; intro ac S
   refine S.hq 4 [4] [] [(42, .v (pt q93.mons.1.b (q93.mons.1.off + ((m).toNat) * 9 + 7)))] .nil ?_; clear S; intro ac S
   refine S.hq 5 [5] [] [(43, .v (slv ((el ((f_back h m ((f_bareFlush (f_view (el h.mons ((m).toNat))) g page).1)).mons) ((m).toNat)).tables).length ((q93.mons.2 ((m).toNat)).tables).1))] (.cons (Q_cell o104.rn (t := 52) (k := (m).toNat) (j := 7) (v := slv ((el ((f_back h m ((f_bareFlush (f_view (el h.mons ((m).toNat))) g page).1)).mons) ((m).toNat)).tables).length ((q93.mons.2 ((m).toNat)).tables).1) (by omega) (by kernel_rfl) (by kernel_rfl)) .nil) ?_; clear S; intro ac S
   refine S.hq 6 [6] [] [(44, .v (I g))] .nil ?_; clear S; intro ac S
   refine S.hq 7 [7] [] [(45, .p 0 1)] .nil ?_; clear S; intro ac S
   refine S.hq 8 [8] [] [(46, .v (slv ((f_back h m ((f_bareFlush (f_view (el h.mons ((m).toNat))) g page).1)).mons).length q93.mons.1))] .nil ?_; clear S; intro ac S
   refine S.hq 9 [9] [] [(47, .v (I m))] .nil ?_; clear S; intro ac S
   refine S.hq 10 [10] [] [(48, .v (pt q93.mons.1.b (q93.mons.1.off + ((m).toNat) * 9)))] (.cons (Q_idx o104.rn (l := ((f_back h m ((f_bareFlush (f_view (el h.mons ((m).toNat))) g page).1)).mons).length) (k := (m).toNat) (i := m) rfl (by omega) (by omega) Tryz.underlying28 (by kernel_rfl)) .nil) ?_; clear S; intro ac S
   refine S.hq 11 [11] [] [(49, .v (pt q93.mons.1.b (q93.mons.1.off + ((m).toNat) * 9 + 7)))] .nil ?_; clear S; intro ac S
   refine S.hq 12 [12] [] [(50, .v (slv ((el ((f_back h m ((f_bareFlush (f_view (el h.mons ((m).toNat))) g page).1)).mons) ((m).toNat)).tables).length ((q93.mons.2 ((m).toNat)).tables).1))] (.cons (Q_cell o104.rn (t := 52) (k := (m).toNat) (j := 7) (v := slv ((el ((f_back h m ((f_bareFlush (f_view (el h.mons ((m).toNat))) g page).1)).mons) ((m).toNat)).tables).length ((q93.mons.2 ((m).toNat)).tables).1) (by omega) (by kernel_rfl) (by kernel_rfl)) .nil) ?_; clear S; intro ac S
   refine S.hq 13 [13] [] [(51, .v (I g))] .nil ?_; clear S; intro ac S
   refine S.hq 14 [14] [] [(52, .v (pt ((q93.mons.2 ((m).toNat)).tables).1.b (((q93.mons.2 ((m).toNat)).tables).1.off + ((g).toNat) * 2)))] (.cons (Q_idx (RMon.tables (d := (el ((f_back h m ((f_bareFlush (f_view (el h.mons ((m).toNat))) g page).1)).mons) ((m).toNat))) (LRd.el o104.rn ((m).toNat) (by omega))) (l := ((el ((f_back h m ((f_bareFlush (f_view (el h.mons ((m).toNat))) g page).1)).mons) ((m).toNat)).tables).length) (k := (g).toNat) (i := g) rfl (by omega) (by omega) Tryz.underlying52 (by kernel_rfl)) .nil) ?_; clear S; intro ac S
   refine S.hq 15 [15] [] [(53, .v (GT.val (el ((el ((f_back h m ((f_bareFlush (f_view (el h.mons ((m).toNat))) g page).1)).mons) ((m).toNat)).tables) ((g).toNat)) (((q93.mons.2 ((m).toNat)).tables).2 ((g).toNat))))] (.cons (Q_el (RMon.tables (d := (el ((f_back h m ((f_bareFlush (f_view (el h.mons ((m).toNat))) g page).1)).mons) ((m).toNat))) (LRd.el o104.rn ((m).toNat) (by omega))) (t := 57) (k := (g).toNat) (by omega) rfl (by kernel_rfl) (by kernel_rfl)) .nil) ?_; clear S; intro ac S
   refine S.hq 16 [16] [] [(54, .v (I page))] .nil ?_; clear S; intro ac S
   refine WD.one (i := 17) (by kernel_rfl) ?_
   refine id (S.call1 (r := f_forget (el ((el ((f_back h m ((f_bareFlush (f_view (el h.mons ((m).toNat))) g page).1)).mons) ((m).toNat)).tables) ((g).toNat)) page) (d := 55) (c_spec_Forget w (el ((el ((f_back h m ((f_bareFlush (f_view (el h.mons ((m).toNat))) g page).1)).mons) ((m).toNat)).tables) ((g).toNat)) (((q93.mons.2 ((m).toNat)).tables).2 ((g).toNat)) (S.rd (LRd.el (RMon.tables (d := (el ((f_back h m ((f_bareFlush (f_view (el h.mons ((m).toNat))) g page).1)).mons) ((m).toNat))) (LRd.el o104.rn ((m).toNat) (by omega))) ((g).toNat) (by omega))) page) (by kernel_rfl) rfl ?_)
   clear S; intro ac w N q118 F119 S up o120 d121
   refine WD.next S up (by kernel_rfl) ?_
   have d122 : Disj F100 F119 := fun b x y => d121 b (o101.sub b x) y
   have d123 : Disj F103 F119 := fun b x y => d121 b (o104.sub b x) y
   have d124 : Disj F106 F119 := fun b x y => d121 b (o107.sub b x) y
   have d125 : Disj F109 F119 := fun b x y => d121 b (o110.sub b x) y
   replace o101 := o101.up up
   replace o104 := o104.up up
   replace o107 := o107.up up
   replace o110 := o110.up up
   clear up d121
   obtain ⟨F126, F129, o127, o130, s128, s131, d132⟩ := sp_Kept o120
   refine S.hq 18 [18] [] [(55, .v (GT.val (f_forget (el ((el ((f_back h m ((f_bareFlush (f_view (el h.mons ((m).toNat))) g page).1)).mons) ((m).toNat)).tables) ((g).toNat)) page) q118)), (56, .v (pt ((q93.mons.2 ((m).toNat)).tables).1.b (((q93.mons.2 ((m).toNat)).tables).1.off + ((g).toNat) * 2)))] (.cons (Q_idx (RMon.tables (d := (el ((f_back h m ((f_bareFlush (f_view (el h.mons ((m).toNat))) g page).1)).mons) ((m).toNat))) (LRd.el o104.rn ((m).toNat) (by omega))) (l := ((el ((f_back h m ((f_bareFlush (f_view (el h.mons ((m).toNat))) g page).1)).mons) ((m).toNat)).tables).length) (k := (g).toNat) (i := g) rfl (by omega) (by omega) Tryz.underlying52 (by kernel_rfl)) .nil) ?_; clear S; intro ac S
   refine WD.one (i := 19) (by kernel_rfl) ?_
   obtain ⟨F133, o134, s135, b136⟩ := foc2_Mon_tables o104 (k := (m).toNat) (show (m).toNat < ((f_back h m ((f_bareFlush (f_view (el h.mons ((m).toNat))) g page).1)).mons).length by omega)
   have l137 := LRd.le o134.rn
   have n138 := o134.sub
   have o143 := ow_Kept (x := (f_forget (el ((el ((f_back h m ((f_bareFlush (f_view (el h.mons ((m).toNat))) g page).1)).mons) ((m).toNat)).tables) ((g).toNat)) page)) (p := q118) o127 o130 d132 
   refine id (S.setEl (α := TKept) o134 (t := 57) (v := GT.val (f_forget (el ((el ((f_back h m ((f_bareFlush (f_view (el h.mons ((m).toNat))) g page).1)).mons) ((m).toNat)).tables) ((g).toNat)) page) q118) (k := (g).toNat) (j := 0) (off := ((q93.mons.2 ((m).toNat)).tables).1.off + ((g).toNat) * 2) (y := (f_forget (el ((el ((f_back h m ((f_bareFlush (f_view (el h.mons ((m).toNat))) g page).1)).mons) ((m).toNat)).tables) ((g).toNat)) page)) (q := q118) (Fy := (uniB [F126, F129])) (by kernel_rfl) (by kernel_rfl) (by omega) (by kernel_rfl) (by kernel_rfl) (Nat.le_of_ble_eq_true (by kernel_rfl)) (by kernel_rfl) (fun _ _ _ => ⟨(uniB [F126, F129]), o143.own, fun _ h => .inr h⟩) (Disj.symm (Disj.or (Disj.symm (Disj.part (Disj.symm (Disj.part (Disj.symm d123) s128)) s135)) (Disj.or (Disj.symm (Disj.part (Disj.symm (Disj.part (Disj.symm d123) s131)) s135)) Disj.nob))) o143.sub o143.young ?_)
   clear S; intro w N F140 q141 S up o139 d142 s144 n145
   refine WD.last (by kernel_rfl) ?_
   have d146 : Disj F100 F140 := d142 _ (Disj.symm (Disj.part (Disj.symm d112) s135)) (Disj.symm (Disj.or (Disj.part (Disj.symm d122) s128) (Disj.or (Disj.part (Disj.symm d122) s131) Disj.nob))) o101.sub
   have d147 : Disj F106 F140 := d142 _ (Disj.symm (Disj.part d115 s135)) (Disj.symm (Disj.or (Disj.part (Disj.symm d124) s128) (Disj.or (Disj.part (Disj.symm d124) s131) Disj.nob))) o107.sub
   have d148 : Disj F109 F140 := d142 _ (Disj.symm (Disj.part d116 s135)) (Disj.symm (Disj.or (Disj.part (Disj.symm d125) s128) (Disj.or (Disj.part (Disj.symm d125) s131) Disj.nob))) o110.sub
   replace o101 := o101.upF (Disj.symm (Disj.part (Disj.symm d112) s135)) up
   replace o107 := o107.upF (Disj.symm (Disj.part d115 s135)) up
   replace o110 := o110.upF (Disj.symm (Disj.part d116 s135)) up
   clear d142 o134
   obtain ⟨p149, o150, c151⟩ := b136 _ _ _ _ _ (uniB [F126, F129]) up o139 s144 (Disj.symm (Disj.or (Disj.part (Disj.symm d123) s128) (Disj.or (Disj.part (Disj.symm d123) s131) Disj.nob))) (by show [slv _ _] = [slv _ _]; rw [List.length_set]) (fun b h => n145 b (n138 b h))
   clear up o139 n145
   have l152 : (((f_back h m ((f_bareFlush (f_view (el h.mons ((m).toNat))) g page).1)).mons).set ((m).toNat) ({ el ((f_back h m ((f_bareFlush (f_view (el h.mons ((m).toNat))) g page).1)).mons) ((m).toNat) with tables := (((el ((f_back h m ((f_bareFlush (f_view (el h.mons ((m).toNat))) g page).1)).mons) ((m).toNat)).tables).set ((g).toNat) (f_forget (el ((el ((f_back h m ((f_bareFlush (f_view (el h.mons ((m).toNat))) g page).1)).mons) ((m).toNat)).tables) ((g).toNat)) page)) })).length = ((f_back h m ((f_bareFlush (f_view (el h.mons ((m).toNat))) g page).1)).mons).length := List.length_set
   replace S := S.z (σ' := ⟨[(1, .v (I m)), (2, .v (I g)), (3, .v (I page)), (4, .p 0 0), (8, .p 1 0), (55, .v (GT.val (f_forget (el ((el ((f_back h m ((f_bareFlush (f_view (el h.mons ((m).toNat))) g page).1)).mons) ((m).toNat)).tables) ((g).toNat)) page) q118)), (56, .v (pt ((q93.mons.2 ((m).toNat)).tables).1.b (((q93.mons.2 ((m).toNat)).tables).1.off + ((g).toNat) * 2)))], [[slv ((f_back h m ((f_bareFlush (f_view (el h.mons ((m).toNat))) g page).1)).mem).length q93.mem.1, slv ((f_back h m ((f_bareFlush (f_view (el h.mons ((m).toNat))) g page).1)).mons).length q93.mons.1, slv ((f_back h m ((f_bareFlush (f_view (el h.mons ((m).toNat))) g page).1)).buf).length q93.buf.1, slv ((f_back h m ((f_bareFlush (f_view (el h.mons ((m).toNat))) g page).1)).iobuf).length q93.iobuf.1], Zc THost]⟩)
   replace S := S.cast (σ' := ⟨[(1, .v (I m)), (2, .v (I g)), (3, .v (I page)), (4, .p 0 0), (8, .p 1 0), (55, .v (GT.val (f_forget (el ((el ((f_back h m ((f_bareFlush (f_view (el h.mons ((m).toNat))) g page).1)).mons) ((m).toNat)).tables) ((g).toNat)) page) q118)), (56, .v (pt ((q93.mons.2 ((m).toNat)).tables).1.b (((q93.mons.2 ((m).toNat)).tables).1.off + ((g).toNat) * 2)))], [[slv ((f_back h m ((f_bareFlush (f_view (el h.mons ((m).toNat))) g page).1)).mem).length q93.mem.1, slv ((((f_back h m ((f_bareFlush (f_view (el h.mons ((m).toNat))) g page).1)).mons).set ((m).toNat) ({ el ((f_back h m ((f_bareFlush (f_view (el h.mons ((m).toNat))) g page).1)).mons) ((m).toNat) with tables := (((el ((f_back h m ((f_bareFlush (f_view (el h.mons ((m).toNat))) g page).1)).mons) ((m).toNat)).tables).set ((g).toNat) (f_forget (el ((el ((f_back h m ((f_bareFlush (f_view (el h.mons ((m).toNat))) g page).1)).mons) ((m).toNat)).tables) ((g).toNat)) page)) }))).length q93.mons.1, slv ((f_back h m ((f_bareFlush (f_view (el h.mons ((m).toNat))) g page).1)).buf).length q93.buf.1, slv ((f_back h m ((f_bareFlush (f_view (el h.mons ((m).toNat))) g page).1)).iobuf).length q93.iobuf.1], Zc THost]⟩) (by rw [show ((((f_back h m ((f_bareFlush (f_view (el h.mons ((m).toNat))) g page).1)).mons).set ((m).toNat) ({ el ((f_back h m ((f_bareFlush (f_view (el h.mons ((m).toNat))) g page).1)).mons) ((m).toNat) with tables := (((el ((f_back h m ((f_bareFlush (f_view (el h.mons ((m).toNat))) g page).1)).mons) ((m).toNat)).tables).set ((g).toNat) (f_forget (el ((el ((f_back h m ((f_bareFlush (f_view (el h.mons ((m).toNat))) g page).1)).mons) ((m).toNat)).tables) ((g).toNat)) page)) }))).length = ((f_back h m ((f_bareFlush (f_view (el h.mons ((m).toNat))) g page).1)).mons).length by omega])
   refine WD.done (by kernel_rfl) ?_ _
   refine id (nt (ws ?_))
   refine S.draw0 (f := 9) 8 rfl rfl ?_
   clear S; intro w S
   refine S.hq 0 [0] [] [(57, .p 0 2)] .nil ?_; clear S; intro ac S
   refine S.hq 1 [1] [] [(58, .v (slv ((f_back h m ((f_bareFlush (f_view (el h.mons ((m).toNat))) g page).1)).buf).length q93.buf.1))] .nil ?_; clear S; intro ac S
   refine S.hq 2 [2] [] [(59, .v (I m))] .nil ?_; clear S; intro ac S
   refine S.hq 3 [3] [] [(60, .v (I g))] .nil ?_; clear S; intro ac S
   refine S.hq 5 [5] [] [(62, .v (I page))] .nil ?_; clear S; intro ac S
   refine WD.one (i := 4) (by kernel_rfl) ?_
   refine S.stepq (i := 4) (keep := [1, 2, 3, 4, 8, 58, 61, 62]) (m := 2) (σ' := ⟨[(1, .v (I m)), (2, .v (I g)), (3, .v (I page)), (4, .p 0 0), (8, .p 1 0), (58, .v (slv ((f_back h m ((f_bareFlush (f_view (el h.mons ((m).toNat))) g page).1)).buf).length q93.buf.1)), (61, .v (I (f_tagOf m g))), (62, .v (I page))], [[slv ((f_back h m ((f_bareFlush (f_view (el h.mons ((m).toNat))) g page).1)).mem).length q93.mem.1, slv ((((f_back h m ((f_bareFlush (f_view (el h.mons ((m).toNat))) g page).1)).mons).set ((m).toNat) ({ el ((f_back h m ((f_bareFlush (f_view (el h.mons ((m).toNat))) g page).1)).mons) ((m).toNat) with tables := (((el ((f_back h m ((f_bareFlush (f_view (el h.mons ((m).toNat))) g page).1)).mons) ((m).toNat)).tables).set ((g).toNat) (f_forget (el ((el ((f_back h m ((f_bareFlush (f_view (el h.mons ((m).toNat))) g page).1)).mons) ((m).toNat)).tables) ((g).toNat)) page)) }))).length q93.mons.1, slv ((f_back h m ((f_bareFlush (f_view (el h.mons ((m).toNat))) g page).1)).buf).length q93.buf.1, slv ((f_back h m ((f_bareFlush (f_view (el h.mons ((m).toNat))) g page).1)).iobuf).length q93.iobuf.1], Zc THost]⟩) (.cons (Q_call fun w hw => c_spec_TagOf w m g) .nil) (by kernel_rfl) ?_
   clear S; intro ac w β S hβ
   refine WD.stayq S hβ ?_
   clear hβ
   refine WD.one (i := 6) (by kernel_rfl) ?_
   refine id (S.call1 (r := f_flushPage ((f_back h m ((f_bareFlush (f_view (el h.mons ((m).toNat))) g page).1)).buf) (f_tagOf m g) page) (d := 63) (c_spec_FlushPage w ((f_back h m ((f_bareFlush (f_view (el h.mons ((m).toNat))) g page).1)).buf) q93.buf (S.rd o107.rn) (f_tagOf m g) (tagOf_in64 m g) page hpage) (by kernel_rfl) rfl ?_)
   clear S; intro ac w N q153 F154 S up o155 d156
   refine WD.next S up (by kernel_rfl) ?_
   have d157 : Disj F100 F154 := fun b x y => d156 b (o101.sub b x) y
   have d158 : Disj F106 F154 := fun b x y => d156 b (o107.sub b x) y
   have d159 : Disj F109 F154 := fun b x y => d156 b (o110.sub b x) y
   have d160 : Disj (Or F103 F140) F154 := fun b x y => d156 b (o150.sub b x) y
   replace o101 := o101.up up
   replace o107 := o107.up up
   replace o110 := o110.up up
   replace o150 := o150.up up
   clear up d156
   refine S.hq 7 [7] [] [(63, .v (slv ((f_flushPage ((f_back h m ((f_bareFlush (f_view (el h.mons ((m).toNat))) g page).1)).buf) (f_tagOf m g) page)).length q153.1)), (64, .p 0 2)] .nil ?_; clear S; intro ac S
   refine WD.one (i := 8) (by kernel_rfl) ?_
   refine S.stepq (i := 8) (keep := [1, 2, 3, 4, 8]) (m := 2) (σ' := ⟨[(1, .v (I m)), (2, .v (I g)), (3, .v (I page)), (4, .p 0 0), (8, .p 1 0)], [[slv ((f_back h m ((f_bareFlush (f_view (el h.mons ((m).toNat))) g page).1)).mem).length q93.mem.1, slv ((((f_back h m ((f_bareFlush (f_view (el h.mons ((m).toNat))) g page).1)).mons).set ((m).toNat) ({ el ((f_back h m ((f_bareFlush (f_view (el h.mons ((m).toNat))) g page).1)).mons) ((m).toNat) with tables := (((el ((f_back h m ((f_bareFlush (f_view (el h.mons ((m).toNat))) g page).1)).mons) ((m).toNat)).tables).set ((g).toNat) (f_forget (el ((el ((f_back h m ((f_bareFlush (f_view (el h.mons ((m).toNat))) g page).1)).mons) ((m).toNat)).tables) ((g).toNat)) page)) }))).length q93.mons.1, slv ((f_flushPage ((f_back h m ((f_bareFlush (f_view (el h.mons ((m).toNat))) g page).1)).buf) (f_tagOf m g) page)).length q153.1, slv ((f_back h m ((f_bareFlush (f_view (el h.mons ((m).toNat))) g page).1)).iobuf).length q93.iobuf.1], Zc THost]⟩) .nil (by kernel_rfl) ?_
   clear S; intro ac w β S hβ
   refine WD.last (by kernel_rfl) ?_
   clear hβ
   refine WD.done (by kernel_rfl) ?_ _
   refine id (nt (ws ?_))
   refine S.draw0 (f := 9) 8 rfl rfl ?_
   clear S; intro w S
   refine S.hq 0 [0] [] [(65, .p 0 3)] .nil ?_; clear S; intro ac S
   refine S.hq 1 [1] [] [(66, .v (slv ((f_back h m ((f_bareFlush (f_view (el h.mons ((m).toNat))) g page).1)).iobuf).length q93.iobuf.1))] .nil ?_; clear S; intro ac S
   refine S.hq 2 [2] [] [(67, .v (I m))] .nil ?_; clear S; intro ac S
   refine S.hq 3 [3] [] [(68, .v (I g))] .nil ?_; clear S; intro ac S
   refine S.hq 5 [5] [] [(70, .v (I page))] .nil ?_; clear S; intro ac S
   refine WD.one (i := 4) (by kernel_rfl) ?_
   refine S.stepq (i := 4) (keep := [4, 8, 66, 69, 70]) (m := 2) (σ' := ⟨[(4, .p 0 0), (8, .p 1 0), (66, .v (slv ((f_back h m ((f_bareFlush (f_view (el h.mons ((m).toNat))) g page).1)).iobuf).length q93.iobuf.1)), (69, .v (I (f_tagOf m g))), (70, .v (I page))], [[slv ((f_back h m ((f_bareFlush (f_view (el h.mons ((m).toNat))) g page).1)).mem).length q93.mem.1, slv ((((f_back h m ((f_bareFlush (f_view (el h.mons ((m).toNat))) g page).1)).mons).set ((m).toNat) ({ el ((f_back h m ((f_bareFlush (f_view (el h.mons ((m).toNat))) g page).1)).mons) ((m).toNat) with tables := (((el ((f_back h m ((f_bareFlush (f_view (el h.mons ((m).toNat))) g page).1)).mons) ((m).toNat)).tables).set ((g).toNat) (f_forget (el ((el ((f_back h m ((f_bareFlush (f_view (el h.mons ((m).toNat))) g page).1)).mons) ((m).toNat)).tables) ((g).toNat)) page)) }))).length q93.mons.1, slv ((f_flushPage ((f_back h m ((f_bareFlush (f_view (el h.mons ((m).toNat))) g page).1)).buf) (f_tagOf m g) page)).length q153.1, slv ((f_back h m ((f_bareFlush (f_view (el h.mons ((m).toNat))) g page).1)).iobuf).length q93.iobuf.1], Zc THost]⟩) (.cons (Q_call fun w hw => c_spec_TagOf w m g) .nil) (by kernel_rfl) ?_
   clear S; intro ac w β S hβ
   refine WD.stayq S hβ ?_
   clear hβ
   refine WD.one (i := 6) (by kernel_rfl) ?_
   refine id (S.call1 (r := f_flushPage ((f_back h m ((f_bareFlush (f_view (el h.mons ((m).toNat))) g page).1)).iobuf) (f_tagOf m g) page) (d := 71) (c_spec_FlushPage w ((f_back h m ((f_bareFlush (f_view (el h.mons ((m).toNat))) g page).1)).iobuf) q93.iobuf (S.rd o110.rn) (f_tagOf m g) (tagOf_in64 m g) page hpage) (by kernel_rfl) rfl ?_)
   clear S; intro ac w N q161 F162 S up o163 d164
   refine WD.next S up (by kernel_rfl) ?_
   have d165 : Disj F100 F162 := fun b x y => d164 b (o101.sub b x) y
   have d166 : Disj F109 F162 := fun b x y => d164 b (o110.sub b x) y
   have d167 : Disj (Or F103 F140) F162 := fun b x y => d164 b (o150.sub b x) y
   have d168 : Disj F154 F162 := fun b x y => d164 b (o155.sub b x) y
   replace o101 := o101.up up
   replace o110 := o110.up up
   replace o150 := o150.up up
   replace o155 := o155.up up
   clear up d164
   refine S.hq 7 [7] [] [(71, .v (slv ((f_flushPage ((f_back h m ((f_bareFlush (f_view (el h.mons ((m).toNat))) g page).1)).iobuf) (f_tagOf m g) page)).length q161.1)), (72, .p 0 3)] .nil ?_; clear S; intro ac S
   refine WD.one (i := 8) (by kernel_rfl) ?_
   refine S.stepq (i := 8) (keep := [4, 8]) (m := 2) (σ' := ⟨[(4, .p 0 0), (8, .p 1 0)], [[slv ((f_back h m ((f_bareFlush (f_view (el h.mons ((m).toNat))) g page).1)).mem).length q93.mem.1, slv ((((f_back h m ((f_bareFlush (f_view (el h.mons ((m).toNat))) g page).1)).mons).set ((m).toNat) ({ el ((f_back h m ((f_bareFlush (f_view (el h.mons ((m).toNat))) g page).1)).mons) ((m).toNat) with tables := (((el ((f_back h m ((f_bareFlush (f_view (el h.mons ((m).toNat))) g page).1)).mons) ((m).toNat)).tables).set ((g).toNat) (f_forget (el ((el ((f_back h m ((f_bareFlush (f_view (el h.mons ((m).toNat))) g page).1)).mons) ((m).toNat)).tables) ((g).toNat)) page)) }))).length q93.mons.1, slv ((f_flushPage ((f_back h m ((f_bareFlush (f_view (el h.mons ((m).toNat))) g page).1)).buf) (f_tagOf m g) page)).length q153.1, slv ((f_flushPage ((f_back h m ((f_bareFlush (f_view (el h.mons ((m).toNat))) g page).1)).iobuf) (f_tagOf m g) page)).length q161.1], Zc THost]⟩) .nil (by kernel_rfl) ?_
   clear S; intro ac w β S hβ
   refine WD.last (by kernel_rfl) ?_
   clear hβ
   refine WD.done (by kernel_rfl) ?_ _
   refine id (nt (ws (rg ?_)))
   refine S.qem 3 [] [(9, .v (B true))] 2 [(1, [slv ((f_back h m ((f_bareFlush (f_view (el h.mons ((m).toNat))) g page).1)).mem).length q93.mem.1, slv ((((f_back h m ((f_bareFlush (f_view (el h.mons ((m).toNat))) g page).1)).mons).set ((m).toNat) ({ el ((f_back h m ((f_bareFlush (f_view (el h.mons ((m).toNat))) g page).1)).mons) ((m).toNat) with tables := (((el ((f_back h m ((f_bareFlush (f_view (el h.mons ((m).toNat))) g page).1)).mons) ((m).toNat)).tables).set ((g).toNat) (f_forget (el ((el ((f_back h m ((f_bareFlush (f_view (el h.mons ((m).toNat))) g page).1)).mons) ((m).toNat)).tables) ((g).toNat)) page)) }))).length q93.mons.1, slv ((f_flushPage ((f_back h m ((f_bareFlush (f_view (el h.mons ((m).toNat))) g page).1)).buf) (f_tagOf m g) page)).length q153.1, slv ((f_flushPage ((f_back h m ((f_bareFlush (f_view (el h.mons ((m).toNat))) g page).1)).iobuf) (f_tagOf m g) page)).length q161.1])] ?_; clear S; intro ac w β S
   refine (nt (wr (S.r [GT.val (⟨(f_back h m ((f_bareFlush (f_view (el h.mons ((m).toNat))) g page).1)).mem, (((f_back h m ((f_bareFlush (f_view (el h.mons ((m).toNat))) g page).1)).mons).set ((m).toNat) ({ el ((f_back h m ((f_bareFlush (f_view (el h.mons ((m).toNat))) g page).1)).mons) ((m).toNat) with tables := (((el ((f_back h m ((f_bareFlush (f_view (el h.mons ((m).toNat))) g page).1)).mons) ((m).toNat)).tables).set ((g).toNat) (f_forget (el ((el ((f_back h m ((f_bareFlush (f_view (el h.mons ((m).toNat))) g page).1)).mons) ((m).toNat)).tables) ((g).toNat)) page)) })), (f_flushPage ((f_back h m ((f_bareFlush (f_view (el h.mons ((m).toNat))) g page).1)).buf) (f_tagOf m g) page), (f_flushPage ((f_back h m ((f_bareFlush (f_view (el h.mons ((m).toNat))) g page).1)).iobuf) (f_tagOf m g) page)⟩ : THost) (⟨q93.mem, (q93.mons.1, p149), q153, q161⟩ : PHost), B true] ?_)))
   have o169 := ow_Host (x := (⟨(f_back h m ((f_bareFlush (f_view (el h.mons ((m).toNat))) g page).1)).mem, (((f_back h m ((f_bareFlush (f_view (el h.mons ((m).toNat))) g page).1)).mons).set ((m).toNat) ({ el ((f_back h m ((f_bareFlush (f_view (el h.mons ((m).toNat))) g page).1)).mons) ((m).toNat) with tables := (((el ((f_back h m ((f_bareFlush (f_view (el h.mons ((m).toNat))) g page).1)).mons) ((m).toNat)).tables).set ((g).toNat) (f_forget (el ((el ((f_back h m ((f_bareFlush (f_view (el h.mons ((m).toNat))) g page).1)).mons) ((m).toNat)).tables) ((g).toNat)) page)) })), (f_flushPage ((f_back h m ((f_bareFlush (f_view (el h.mons ((m).toNat))) g page).1)).buf) (f_tagOf m g) page), (f_flushPage ((f_back h m ((f_bareFlush (f_view (el h.mons ((m).toNat))) g page).1)).iobuf) (f_tagOf m g) page)⟩ : THost)) (p := (⟨q93.mem, (q93.mons.1, p149), q153, q161⟩ : PHost)) o101 o150 o155 o163 (Disj.symm (Disj.or (Disj.symm d112) (Disj.symm d146))) d157 d165 d160 d167 d168 
   exact ret2_of (p' := ()) S (show (f_hostFlush h m g page).1 = (⟨(f_back h m ((f_bareFlush (f_view (el h.mons ((m).toNat))) g page).1)).mem, (((f_back h m ((f_bareFlush (f_view (el h.mons ((m).toNat))) g page).1)).mons).set ((m).toNat) ({ el ((f_back h m ((f_bareFlush (f_view (el h.mons ((m).toNat))) g page).1)).mons) ((m).toNat) with tables := (((el ((f_back h m ((f_bareFlush (f_view (el h.mons ((m).toNat))) g page).1)).mons) ((m).toNat)).tables).set ((g).toNat) (f_forget (el ((el ((f_back h m ((f_bareFlush (f_view (el h.mons ((m).toNat))) g page).1)).mons) ((m).toNat)).tables) ((g).toNat)) page)) })), (f_flushPage ((f_back h m ((f_bareFlush (f_view (el h.mons ((m).toNat))) g page).1)).buf) (f_tagOf m g) page), (f_flushPage ((f_back h m ((f_bareFlush (f_view (el h.mons ((m).toNat))) g page).1)).iobuf) (f_tagOf m g) page)⟩ : THost) from k0_spec_HostFlush) (show (f_hostFlush h m g page).2 = true from k0_spec_HostFlush) rfl rfl o169 trivial

set_option maxRecDepth 100000 in
theorem c_impl_has (w0 : World) (k : Int) (length : Int) (pre0 : -9223372036854775808 < length) : Calls Tryz.prog 60 [I k, I length].toArray w0 (fun e w' => e = .returned (B (f_within k 0 (length - 1))) ∧ Chg NoB w0 w') := by
 refine Calls.walk (args := [I k, I length]) NoB Tryz.func60 rfl rfl ?_
 intro ac β S
 refine ws (rg ?_)
 refine S.qe 1 [] [] ?_; clear S; intro ac w β S
 refine (nt (ws (rg ?_)))
 refine S.qa 3 [] [(7, .v (B (decide (k ≥ 0))))] ?_; clear S; intro ac w β S
 rcases Bool.eq_false_or_eq_true (decide (k ≥ 0)) with h1 | h1 <;> rw [h1] at S
 ·have g2 := of_decide_eq_true h1
  refine S.qe 5 [7] [(4, .v (B (decide (k < length))))] ?_; clear S; intro ac w β S
  exact (nt (wr (S.r [B (decide (k < length))] ⟨retB (by clear S; (rw [Bool.eq_iff_iff]; simp [f_within]; omega)), S.chg⟩)))
 ·have g3 := of_decide_eq_false h1
  refine S.qe 5 [7] [(4, .v (B false))] ?_; clear S; intro ac w β S
  exact (nt (wr (S.r [B false] ⟨retB (by clear S; (rw [Bool.eq_iff_iff]; simp [f_within]; omega)), S.chg⟩)))

set_option maxRecDepth 100000 in
theorem c_impl_NoSlot (w0 : World)  : Calls Tryz.prog 68 [].toArray w0 (fun e w' => e = .returned (GT.val (⟨-1, 0⟩ : TSlot) ()) ∧ Chg NoB w0 w') := by
 refine Calls.walk (args := []) NoB Tryz.func68 rfl rfl ?_
 intro ac β S
 refine ws (rg ?_)
 refine S.qem 1 [] [(0, .p 0 0)] 1 [(0, Zc TSlot)] ?_; clear S; intro ac w β S
 refine (nt (ws (rg ?_)))
 refine S.qgm 2 [] [] (.cons (Q_sem (s := Instr.build 92 [(0, I (-1))].toArray) (v := .agg [I (-1), I 0].toArray) (fun w => by kernel_rfl)) .nil) 1 [(0, [I (-1), I 0])] ?_; clear S; intro ac w β S
 exact (nt (wr (S.r [GT.val (⟨(-1), 0⟩ : TSlot) ()] ⟨retV (p := ()) (by clear S; first | rfl | (simp [id, *]; done) | (simp [id, *]; omega) | (simp_all [id]; done) | (simp_all [id]; omega)), S.chg⟩)))

theorem k0_impl_SlotAt {p : Prop} (h : p := by clear S; (first | (unfold f_slotAt; rw [if_pos (by omega)]) | (unfold f_slotAt; rw [if_neg (by omega)]))) : p := h
set_option maxRecDepth 100000 in
theorem c_impl_SlotAt (w0 : World) (t : List TSlot) (pt : LP TSlot) (ht : GT.rd KK (Lt w0.heap.size) w0 t pt) (page : Int) : Calls Tryz.prog 66 [slv (t).length pt.1, I page].toArray w0 (fun e w' => e = .returned (GT.val (f_slotAt t page) ()) ∧ Chg NoB w0 w') := by
 refine Calls.walk (args := [slv (t).length pt.1, I page]) NoB Tryz.func66 rfl rfl ?_
 intro ac β S
 have hlet : t.length ≤ 4194304 := LRd.le ht
 refine ws (rg ?_)
 refine S.qem 1 [] [(4, .p 0 0)] 1 [(0, Zc TSlot)] ?_; clear S; intro ac w β S
 refine (nt (ws (ws (rg ?_))))
 refine S.qg 5 [] [(9, .v (B (!(f_within page 0 (((t).length : Int) - 1)))))] (.cons (Q_call fun w hw => c_impl_has w page ((t).length : Int) (by omega)) .nil) ?_; clear S; intro ac w β S
 refine (nt (S.c (!(f_within page 0 (((t).length : Int) - 1))) (fun h1 => ?_) (fun h1 => ?_)))
 ·have h2 := not_t h1
  have g3 := within_f h2
  refine ws (rg ?_)
  refine S.qgm 2 [] [] (.cons (Q_call fun w hw => c_impl_NoSlot w ) .nil) 1 [(0, GT.cells ((⟨-1, 0⟩ : TSlot)) ())] ?_; clear S; intro ac w β S
  exact (nt (wr (rt (S.r [GT.val ((⟨-1, 0⟩ : TSlot)) ()] ⟨retV (p := ()) k0_impl_SlotAt, S.chg⟩))))
 ·have h4 := not_f h1
  have g5 := within_t h4
  refine wk (nt (ws (rg ?_)))
  refine S.qgm 5 [] [] (.cons (Q_idx (S.arg ht) (l := (t).length) (k := (page).toNat) (i := page) rfl (by omega) (by omega) Tryz.underlying50 (by kernel_rfl)) (.cons (Q_el (S.arg ht) (t := 92) (k := (page).toNat) (by omega) rfl (by kernel_rfl) (by kernel_rfl)) .nil)) 1 [(0, GT.cells (el t ((page).toNat)) ())] ?_; clear S; intro ac w β S
  exact (nt (wr (S.r [GT.val (el t ((page).toNat)) ()] ⟨retV (p := ()) k0_impl_SlotAt, S.chg⟩)))

set_option maxRecDepth 100000 in
theorem c_impl_copyTable (w0 : World) (l : List TSlot) (pl : LP TSlot) (hl : GT.rd KK (Lt w0.heap.size) w0 l pl) : Calls Tryz.prog 111 [slv (l).length pl.1].toArray w0 (Ret1 NoB w0 (l : List TSlot)) := by
 refine Calls.walk (args := [slv (l).length pl.1]) NoB Tryz.func111 rfl rfl ?_
 intro ac β S
 have hlel : l.length ≤ 4194304 := LRd.le hl
 refine ws (rg ?_)
 refine S.qe 1 [] [] ?_; clear S; intro ac w β S
 refine (nt (ws (rg ?_)))
 refine RG.op rfl (S.bs0 (α := TSlot) (d := 3) (by kernel_rfl) ?_)
 clear S; intro ac w N q1 F2 S up o3 d4
 clear up d4
 refine S.qa 1 [] [(3, .v (slv 0 q1.1)), (4, .v (slv (l).length pl.1))] ?_; clear S; intro ac w β S
 have b9 : (l).length ≤ 4194304 := LRd.le (S.arg hl)
 refine RG.op rfl (S.appFlat (α := TSlot) o3 ((S.arg hl)) (fun _ _ h => h) (by' := 16) (d := 5) (lx := 0) (ly := (l).length) rfl rfl (by kernel_rfl) (show _ ≤ 4194304 by simp only [List.length_append, List.length_cons, List.length_nil]; omega) ?_)
 clear S; intro ac w N q5 F6 S up o7 d8
 clear up d8
 refine S.qe 1 [] [(2, .v (slv ((([] : List TSlot) ++ l)).length q5.1))] ?_; clear S; intro ac w β S
 exact (nt (wr (S.r [slv ((([] : List TSlot) ++ l)).length q5.1] (ret1_of S (show l = (([] : List TSlot) ++ l) by clear S; simp) rfl o7))))

theorem k0_impl_WithSlot {p : Prop} (h : p := by clear S; (first | (unfold f_withSlot; rw [if_pos (by omega)]; done) | (unfold f_withSlot; rw [if_pos (by omega)]; first | rfl | (simp; done)) | (unfold f_withSlot; rw [if_neg (by omega)]; done) | (unfold f_withSlot; rw [if_neg (by omega)]; first | rfl | (simp; done)))) : p := h
set_option maxRecDepth 100000 in
theorem c_impl_WithSlot (w0 : World) (tb : List TSlot) (ptb : LP TSlot) (htb : GT.rd KK (Lt w0.heap.size) w0 tb ptb) (page : Int) (s : TSlot) (hs : RSlot s) : Calls Tryz.prog 65 [slv (tb).length ptb.1, I page, GT.val s ()].toArray w0 (Ret1 NoB w0 (f_withSlot tb page s : List TSlot)) := by
 refine Calls.walk (args := [slv (tb).length ptb.1, I page, GT.val s ()]) NoB Tryz.func65 rfl rfl ?_
 intro ac β S
 have hletb : tb.length ≤ 4194304 := LRd.le htb
 refine ws (rg ?_)
 refine S.qem 2 [] [(5, .p 0 0)] 1 [(0, GT.cells s ())] ?_; clear S; intro ac w β S
 refine (nt (ws (rg ?_)))
 refine S.qa 1 [] [(8, .v (slv (tb).length ptb.1))] ?_; clear S; intro ac w β S
 refine RG.op rfl (S.call1 (r := tb) (d := 9) (c_impl_copyTable w tb ptb (S.rd (S.arg htb))) (by kernel_rfl) rfl ?_)
 clear S; intro ac w N q1 F2 S up o3 d4
 clear up d4
 refine S.qe 1 [] [(7, .v (slv (tb).length q1.1))] ?_; clear S; intro ac w β S
 refine (nt (ws (ws (rg ?_))))
 refine S.qg 4 [] [(13, .v (B (f_within page 0 (((tb).length : Int) - 1))))] (.cons (Q_call fun w hw => c_impl_has w page ((tb).length : Int) (by omega)) .nil) ?_; clear S; intro ac w β S
 refine (nt (S.c (f_within page 0 (((tb).length : Int) - 1)) (fun h5 => ?_) (fun h5 => ?_)))
 ·have g6 := within_t h5
  refine rg ?_
  refine S.qbm 4 [] [(16, .v (GT.val s ())), (17, .v (pt q1.1.b (q1.1.off + ((page).toNat) * 2)))] (.cons (Q_idx o3.rn (l := (tb).length) (k := (page).toNat) (i := page) rfl (by omega) (by omega) Tryz.underlying50 (by kernel_rfl)) .nil) 0 [] ?_; clear S; intro ac w β S
  have e7 : RSlot (el tb ((page).toNat)) := (LRd.el o3.rn ((page).toNat) (by omega))
  refine RG.op rfl (S.setEl (α := TSlot) o3 (t := 92) (v := GT.val s ()) (k := (page).toNat) (j := 0) (off := q1.1.off + ((page).toNat) * 2) (y := s) (q := ()) (Fy := NoB) (by kernel_rfl) (by kernel_rfl) (by omega) (by kernel_rfl) (by kernel_rfl) (Nat.le_of_ble_eq_true (by kernel_rfl)) (by kernel_rfl) (fun _ _ _ => ⟨NoB, hs, fun _ h => False.elim h⟩) (fun b _ h => False.elim h) (fun b h => False.elim h) (fun b h => False.elim h) ?_)
  clear S; intro w N F9 q10 S up o8 d11 s12 n13
  clear up d11 o3 n13
  have l14 : (tb.set ((page).toNat) s).length = (tb).length := List.length_set
  refine rd (nt (ws (rg ?_)))
  refine S.qe 2 [] [(6, .v (slv (tb).length q1.1))] ?_; clear S; intro ac w β S
  exact (nt (wr (S.r [slv (tb).length q1.1] (ret1_of S (show f_withSlot tb page s = (tb.set ((page).toNat) s) from k0_impl_WithSlot) (by rw [show (tb).length = ((tb.set ((page).toNat) s)).length from (by rw [List.length_set])]; rfl) o8))))
 ·have g15 := within_f h5
  refine wk (nt (ws (rg ?_)))
  refine S.qe 2 [] [(6, .v (slv (tb).length q1.1))] ?_; clear S; intro ac w β S
  exact (nt (wr (S.r [slv (tb).length q1.1] (ret1_of S (show f_withSlot tb page s = tb from k0_impl_WithSlot) rfl o3))))

set_option maxRecDepth 100000 in
theorem c_impl_BareFlush_1 (w0 : World) (x : TGuest) (px : PGuest) (F : Bl) (hx : GT.own KK F w0 x px) (hF : ∀ b, F b → b < w0.heap.size) (page : Int) (qpage : LP Int) (hpage : GT.rd KK (Lt w0.heap.size) w0 [page] qpage) : Calls Tryz.prog 64 [GT.val x px, pt qpage.1.b (qpage.1.off + 0 * 1)].toArray w0 (RetT NoB F w0 (({ x with live := f_withSlot x.live page (f_slotAt x.written page) } : TGuest) : TGuest)) := by
 refine Calls.walk (args := [GT.val x px, pt qpage.1.b (qpage.1.off + 0 * 1)]) NoB Tryz.func64 rfl rfl ?_
 intro ac β S
 have ox : Ow w0 F w0 (Lt w0.heap.size) F x px := ⟨hx, hF, fun b hb => .inr hb⟩
 have i4 : In64 x.acc := RGuest.acc (d := x) ox.rn
 have i5 : In64 x.pc := RGuest.pc (d := x) ox.rn
 have i12 : RCtl x.ctl := RGuest.ctl (d := x) ox.rn
 have i13 : In64 x.pend := RGuest.pend (d := x) ox.rn
 have i14 : RExit x.exit := RGuest.exit (d := x) ox.rn
 obtain ⟨F1, F6, F9, F15, o2, o7, o10, o16, s3, s8, s11, s17, d18, d19, d20, d21, d22, d23⟩ := sp_Guest ox
 refine ws (rg ?_)
 refine S.qem 2 [] [(2, .p 0 0), (3, .p 1 0)] 2 [(0, [slv (x.prog).length px.prog.1, I x.acc, I x.pc, slv (x.written).length px.written.1, slv (x.live).length px.live.1, I x.ctl.traps, I x.ctl.post, B x.ctl.opn, I x.pend, I x.exit.kind, I x.exit.page, B x.exit.wr, I x.exit.n, B x.halted, slv (x.seen).length px.seen.1]), (1, Zc TGuest)] ?_; clear S; intro ac w β S
 refine (nt (ws ?_))
 refine S.draw0 (f := 10) 9 rfl rfl ?_
 clear S; intro w S
 refine S.hq 0 [0] [] [(4, .p 0 4)] .nil ?_; clear S; intro ac S
 refine S.hq 1 [1] [] [(5, .v (slv (x.live).length px.live.1))] .nil ?_; clear S; intro ac S
 refine S.hq 2 [2] [] [(6, .v (I page))] (.cons (Q_el1 (S.arg hpage) (t := 3) (k := 0) (Nat.succ_pos 0) rfl (by kernel_rfl)) .nil) ?_; clear S; intro ac S
 refine S.hq 3 [3] [] [(7, .p 0 3)] .nil ?_; clear S; intro ac S
 refine S.hq 4 [4] [] [(8, .v (slv (x.written).length px.written.1))] .nil ?_; clear S; intro ac S
 refine S.hq 5 [5] [] [(9, .v (I page))] (.cons (Q_el1 (S.arg hpage) (t := 3) (k := 0) (Nat.succ_pos 0) rfl (by kernel_rfl)) .nil) ?_; clear S; intro ac S
 refine WD.one (i := 6) (by kernel_rfl) ?_
 refine S.stepq (i := 6) (keep := [2, 3, 5, 6, 10]) (m := 2) (σ' := ⟨[(2, .p 0 0), (3, .p 1 0), (5, .v (slv (x.live).length px.live.1)), (6, .v (I page)), (10, .v (GT.val (f_slotAt x.written page) ()))], [[slv (x.prog).length px.prog.1, I x.acc, I x.pc, slv (x.written).length px.written.1, slv (x.live).length px.live.1, I x.ctl.traps, I x.ctl.post, B x.ctl.opn, I x.pend, I x.exit.kind, I x.exit.page, B x.exit.wr, I x.exit.n, B x.halted, slv (x.seen).length px.seen.1], Zc TGuest]⟩) (.cons (Q_call fun w hw => c_impl_SlotAt w x.written px.written (rd_of o7.rn hw) page) .nil) (by kernel_rfl) ?_
 clear S; intro ac w β S hβ
 refine WD.stayq S hβ ?_
 clear hβ
 refine WD.one (i := 7) (by kernel_rfl) ?_
 refine id (S.call1 (r := f_withSlot x.live page (f_slotAt x.written page)) (d := 11) (c_impl_WithSlot w x.live px.live (S.rd o10.rn) page (f_slotAt x.written page) (slotAt_r o7.rn page)) (by kernel_rfl) rfl ?_)
 clear S; intro ac w N q24 F25 S up o26 d27
 refine WD.next S up (by kernel_rfl) ?_
 replace o26 := o26.wk (M' := F)
 have d28 : Disj F1 F25 := fun b x y => d27 b (o2.sub b x) y
 have d29 : Disj F6 F25 := fun b x y => d27 b (o7.sub b x) y
 have d30 : Disj F9 F25 := fun b x y => d27 b (o10.sub b x) y
 have d31 : Disj F15 F25 := fun b x y => d27 b (o16.sub b x) y
 replace o2 := o2.up up
 replace o7 := o7.up up
 replace o10 := o10.up up
 replace o16 := o16.up up
 clear up d27
 refine S.hq 8 [8] [] [(11, .v (slv ((f_withSlot x.live page (f_slotAt x.written page))).length q24.1)), (12, .p 0 4)] .nil ?_; clear S; intro ac S
 refine WD.one (i := 9) (by kernel_rfl) ?_
 refine S.stepq (i := 9) (keep := [2, 3]) (m := 2) (σ' := ⟨[(2, .p 0 0), (3, .p 1 0)], [[slv (x.prog).length px.prog.1, I x.acc, I x.pc, slv (x.written).length px.written.1, slv ((f_withSlot x.live page (f_slotAt x.written page))).length q24.1, I x.ctl.traps, I x.ctl.post, B x.ctl.opn, I x.pend, I x.exit.kind, I x.exit.page, B x.exit.wr, I x.exit.n, B x.halted, slv (x.seen).length px.seen.1], Zc TGuest]⟩) .nil (by kernel_rfl) ?_
 clear S; intro ac w β S hβ
 refine WD.last (by kernel_rfl) ?_
 clear hβ
 refine WD.done (by kernel_rfl) ?_ _
 refine id (nt (ws (rg ?_)))
 refine S.qem 2 [] [] 2 [(1, [slv (x.prog).length px.prog.1, I x.acc, I x.pc, slv (x.written).length px.written.1, slv ((f_withSlot x.live page (f_slotAt x.written page))).length q24.1, I x.ctl.traps, I x.ctl.post, B x.ctl.opn, I x.pend, I x.exit.kind, I x.exit.page, B x.exit.wr, I x.exit.n, B x.halted, slv (x.seen).length px.seen.1])] ?_; clear S; intro ac w β S
 refine (nt (wr (S.r [GT.val (⟨x.prog, x.acc, x.pc, x.written, (f_withSlot x.live page (f_slotAt x.written page)), x.ctl, x.pend, x.exit, x.halted, x.seen⟩ : TGuest) (⟨px.prog, px.written, q24, px.seen⟩ : PGuest)] ?_)))
 have o32 := ow_Guest (x := (⟨x.prog, x.acc, x.pc, x.written, (f_withSlot x.live page (f_slotAt x.written page)), x.ctl, x.pend, x.exit, x.halted, x.seen⟩ : TGuest)) (p := (⟨px.prog, px.written, q24, px.seen⟩ : PGuest)) o2 o7 o26 o16 d18 d28 d20 d29 d22 (Disj.symm d31) i4 i5 i12 i13 i14
 exact retT_of S (show ({ x with live := f_withSlot x.live page (f_slotAt x.written page) } : TGuest) = (⟨x.prog, x.acc, x.pc, x.written, (f_withSlot x.live page (f_slotAt x.written page)), x.ctl, x.pend, x.exit, x.halted, x.seen⟩ : TGuest) by clear S; rfl) rfl o32

set_option maxRecDepth 100000 in
theorem c_impl_copyProg (w0 : World) (l : List TIns) (pl : LP TIns) (hl : GT.rd KK (Lt w0.heap.size) w0 l pl) : Calls Tryz.prog 135 [slv (l).length pl.1].toArray w0 (Ret1 NoB w0 (l : List TIns)) := by
 refine Calls.walk (args := [slv (l).length pl.1]) NoB Tryz.func135 rfl rfl ?_
 intro ac β S
 have hlel : l.length ≤ 4194304 := LRd.le hl
 refine ws (rg ?_)
 refine S.qe 1 [] [] ?_; clear S; intro ac w β S
 refine (nt (ws (rg ?_)))
 refine RG.op rfl (S.bs0 (α := TIns) (d := 3) (by kernel_rfl) ?_)
 clear S; intro ac w N q1 F2 S up o3 d4
 clear up d4
 refine S.qa 1 [] [(3, .v (slv 0 q1.1)), (4, .v (slv (l).length pl.1))] ?_; clear S; intro ac w β S
 have b9 : (l).length ≤ 4194304 := LRd.le (S.arg hl)
 refine RG.op rfl (S.appFlat (α := TIns) o3 ((S.arg hl)) (fun _ _ h => h) (by' := 16) (d := 5) (lx := 0) (ly := (l).length) rfl rfl (by kernel_rfl) (show _ ≤ 4194304 by simp only [List.length_append, List.length_cons, List.length_nil]; omega) ?_)
 clear S; intro ac w N q5 F6 S up o7 d8
 clear up d8
 refine S.qe 1 [] [(2, .v (slv ((([] : List TIns) ++ l)).length q5.1))] ?_; clear S; intro ac w β S
 exact (nt (wr (S.r [slv ((([] : List TIns) ++ l)).length q5.1] (ret1_of S (show l = (([] : List TIns) ++ l) by clear S; simp) rfl o7))))

set_option maxRecDepth 100000 in
theorem c_impl_copyInts (w0 : World) (l : List Int) (pl : LP Int) (hl : GT.rd KK (Lt w0.heap.size) w0 l pl) : Calls Tryz.prog 128 [slv (l).length pl.1].toArray w0 (Ret1 NoB w0 (l : List Int)) := by
 refine Calls.walk (args := [slv (l).length pl.1]) NoB Tryz.func128 rfl rfl ?_
 intro ac β S
 have hlel : l.length ≤ 4194304 := LRd.le hl
 refine ws (rg ?_)
 refine S.qe 1 [] [] ?_; clear S; intro ac w β S
 refine (nt (ws (rg ?_)))
 refine RG.op rfl (S.bs0 (α := Int) (d := 3) (by kernel_rfl) ?_)
 clear S; intro ac w N q1 F2 S up o3 d4
 clear up d4
 refine S.qa 1 [] [(3, .v (slv 0 q1.1)), (4, .v (slv (l).length pl.1))] ?_; clear S; intro ac w β S
 have b9 : (l).length ≤ 4194304 := LRd.le (S.arg hl)
 refine RG.op rfl (S.appFlat (α := Int) o3 ((S.arg hl)) (fun _ _ h => h) (by' := 8) (d := 5) (lx := 0) (ly := (l).length) rfl rfl (by kernel_rfl) (show _ ≤ 4194304 by simp only [List.length_append, List.length_cons, List.length_nil]; omega) ?_)
 clear S; intro ac w N q5 F6 S up o7 d8
 clear up d8
 refine S.qe 1 [] [(2, .v (slv ((([] : List Int) ++ l)).length q5.1))] ?_; clear S; intro ac w β S
 exact (nt (wr (S.r [slv ((([] : List Int) ++ l)).length q5.1] (ret1_of S (show l = (([] : List Int) ++ l) by clear S; simp) rfl o7))))

set_option maxRecDepth 100000 in
theorem c_impl_copyGuest (w0 : World) (g : TGuest) (pg : PGuest) (hg : GT.rd KK (Lt w0.heap.size) w0 g pg) : Calls Tryz.prog 106 [GT.val g pg].toArray w0 (Ret1 NoB w0 (g : TGuest)) := by
 refine Calls.walk (args := [GT.val g pg]) NoB Tryz.func106 rfl rfl ?_
 intro ac β S
 have hleg_prog : g.prog.length ≤ 4194304 := LRd.le (RGuest.prog (d := g) hg)
 have hleg_written : g.written.length ≤ 4194304 := LRd.le (RGuest.written (d := g) hg)
 have hleg_live : g.live.length ≤ 4194304 := LRd.le (RGuest.live (d := g) hg)
 have hleg_seen : g.seen.length ≤ 4194304 := LRd.le (RGuest.seen (d := g) hg)
 refine ws (rg ?_)
 refine S.qem 2 [] [(1, .p 0 0), (2, .p 1 0)] 2 [(0, GT.cells g pg), (1, Zc TGuest)] ?_; clear S; intro ac w β S
 refine (nt (ws (rg ?_)))
 refine S.qa 2 [] [(4, .v (slv (g.prog).length pg.prog.1))] ?_; clear S; intro ac w β S
 refine RG.op rfl (S.call1 (r := g.prog) (d := 5) (c_impl_copyProg w g.prog pg.prog (S.rd (RGuest.prog (d := g) (S.arg hg)))) (by kernel_rfl) rfl ?_)
 clear S; intro ac w N q1 F2 S up o3 d4
 clear up d4
 refine S.qem 2 [] [] 2 [(0, [slv (g.prog).length q1.1, I g.acc, I g.pc, slv (g.written).length pg.written.1, slv (g.live).length pg.live.1, I g.ctl.traps, I g.ctl.post, B g.ctl.opn, I g.pend, I g.exit.kind, I g.exit.page, B g.exit.wr, I g.exit.n, B g.halted, slv (g.seen).length pg.seen.1])] ?_; clear S; intro ac w β S
 refine (nt (ws (rg ?_)))
 refine S.qa 2 [] [(8, .v (slv (g.written).length pg.written.1))] ?_; clear S; intro ac w β S
 refine RG.op rfl (S.call1 (r := g.written) (d := 9) (c_impl_copyTable w g.written pg.written (S.rd (RGuest.written (d := g) (S.arg hg)))) (by kernel_rfl) rfl ?_)
 clear S; intro ac w N q5 F6 S up o7 d8
 have d9 : Disj F2 F6 := fun b x y => d8 b (o3.sub b x) y
 replace o3 := o3.up up
 clear up d8
 refine S.qem 2 [] [] 2 [(0, [slv (g.prog).length q1.1, I g.acc, I g.pc, slv (g.written).length q5.1, slv (g.live).length pg.live.1, I g.ctl.traps, I g.ctl.post, B g.ctl.opn, I g.pend, I g.exit.kind, I g.exit.page, B g.exit.wr, I g.exit.n, B g.halted, slv (g.seen).length pg.seen.1])] ?_; clear S; intro ac w β S
 refine (nt (ws (rg ?_)))
 refine S.qa 2 [] [(12, .v (slv (g.live).length pg.live.1))] ?_; clear S; intro ac w β S
 refine RG.op rfl (S.call1 (r := g.live) (d := 13) (c_impl_copyTable w g.live pg.live (S.rd (RGuest.live (d := g) (S.arg hg)))) (by kernel_rfl) rfl ?_)
 clear S; intro ac w N q10 F11 S up o12 d13
 have d14 : Disj F2 F11 := fun b x y => d13 b (o3.sub b x) y
 have d15 : Disj F6 F11 := fun b x y => d13 b (o7.sub b x) y
 replace o3 := o3.up up
 replace o7 := o7.up up
 clear up d13
 refine S.qem 2 [] [] 2 [(0, [slv (g.prog).length q1.1, I g.acc, I g.pc, slv (g.written).length q5.1, slv (g.live).length q10.1, I g.ctl.traps, I g.ctl.post, B g.ctl.opn, I g.pend, I g.exit.kind, I g.exit.page, B g.exit.wr, I g.exit.n, B g.halted, slv (g.seen).length pg.seen.1])] ?_; clear S; intro ac w β S
 refine (nt (ws (rg ?_)))
 refine S.qa 2 [] [(16, .v (slv (g.seen).length pg.seen.1))] ?_; clear S; intro ac w β S
 refine RG.op rfl (S.call1 (r := g.seen) (d := 17) (c_impl_copyInts w g.seen pg.seen (S.rd (RGuest.seen (d := g) (S.arg hg)))) (by kernel_rfl) rfl ?_)
 clear S; intro ac w N q16 F17 S up o18 d19
 have d20 : Disj F2 F17 := fun b x y => d19 b (o3.sub b x) y
 have d21 : Disj F6 F17 := fun b x y => d19 b (o7.sub b x) y
 have d22 : Disj F11 F17 := fun b x y => d19 b (o12.sub b x) y
 replace o3 := o3.up up
 replace o7 := o7.up up
 replace o12 := o12.up up
 clear up d19
 refine S.qem 2 [] [] 2 [(0, [slv (g.prog).length q1.1, I g.acc, I g.pc, slv (g.written).length q5.1, slv (g.live).length q10.1, I g.ctl.traps, I g.ctl.post, B g.ctl.opn, I g.pend, I g.exit.kind, I g.exit.page, B g.exit.wr, I g.exit.n, B g.halted, slv (g.seen).length q16.1])] ?_; clear S; intro ac w β S
 refine (nt (ws (rg ?_)))
 refine S.qem 2 [] [] 2 [(1, [slv (g.prog).length q1.1, I g.acc, I g.pc, slv (g.written).length q5.1, slv (g.live).length q10.1, I g.ctl.traps, I g.ctl.post, B g.ctl.opn, I g.pend, I g.exit.kind, I g.exit.page, B g.exit.wr, I g.exit.n, B g.halted, slv (g.seen).length q16.1])] ?_; clear S; intro ac w β S
 refine (nt (wr (S.r [GT.val (⟨g.prog, g.acc, g.pc, g.written, g.live, g.ctl, g.pend, g.exit, g.halted, g.seen⟩ : TGuest) (⟨q1, q5, q10, q16⟩ : PGuest)] ?_)))
 have o23 := ow_Guest (x := (⟨g.prog, g.acc, g.pc, g.written, g.live, g.ctl, g.pend, g.exit, g.halted, g.seen⟩ : TGuest)) (p := (⟨q1, q5, q10, q16⟩ : PGuest)) o3 o7 o12 o18 d9 d14 d20 d15 d21 d22 (RGuest.acc (d := g) (S.arg hg)) (RGuest.pc (d := g) (S.arg hg)) (RGuest.ctl (d := g) (S.arg hg)) (RGuest.pend (d := g) (S.arg hg)) (RGuest.exit (d := g) (S.arg hg))
 exact ret1_of S (show g = (⟨g.prog, g.acc, g.pc, g.written, g.live, g.ctl, g.pend, g.exit, g.halted, g.seen⟩ : TGuest) by clear S; (first | rfl | simp)) rfl o23

theorem k0_impl_GuestAt {p : Prop} (h : p := by clear S; (first | (unfold f_guestAt; rw [if_pos (by omega)]; done) | (unfold f_guestAt; rw [if_pos (by omega)]; first | rfl | (simp; done)) | (unfold f_guestAt; rw [if_neg (by omega)]; done) | (unfold f_guestAt; rw [if_neg (by omega)]; first | rfl | (simp; done)))) : p := h
set_option maxRecDepth 100000 in
theorem c_impl_GuestAt (w0 : World) (b : TBare) (pb : PBare) (hb : GT.rd KK (Lt w0.heap.size) w0 b pb) (g : Int) : Calls Tryz.prog 107 [GT.val b pb, I g].toArray w0 (Ret2 NoB w0 ((f_guestAt b g).1 : TGuest) ((f_guestAt b g).2 : Bool)) := by
 refine Calls.walk (args := [GT.val b pb, I g]) NoB Tryz.func107 rfl rfl ?_
 intro ac β S
 have hleb_mem : b.mem.length ≤ 4194304 := LRd.le (RBare.mem (d := b) hb)
 have hleb_guests : b.guests.length ≤ 4194304 := LRd.le (RBare.guests (d := b) hb)
 have hleb_outs : b.outs.length ≤ 4194304 := LRd.le (RBare.outs (d := b) hb)
 refine ws (rg ?_)
 refine S.qem 3 [] [(2, .p 0 0), (4, .p 1 0)] 2 [(0, GT.cells b pb), (1, Zc TGuest)] ?_; clear S; intro ac w β S
 refine (nt (ws (ws (rg ?_))))
 refine S.qg 6 [] [(11, .v (B (!(f_within g 0 (((b.guests).length : Int) - 1)))))] (.cons (Q_call fun w hw => c_impl_has w g ((b.guests).length : Int) (by omega)) .nil) ?_; clear S; intro ac w β S
 refine (nt (S.c (!(f_within g 0 (((b.guests).length : Int) - 1))) (fun h1 => ?_) (fun h1 => ?_)))
 ·have h2 := not_t h1
  have g3 := within_f h2
  refine ws (rg ?_)
  refine S.qgm 3 [] [(5, .v (B false))] (.cons (Q_sem (s := Instr.build 90 [].toArray) (v := .agg [slv (([] : List TIns)).length (GT.pdflt (α := List TIns)).1, I 0, I 0, slv (([] : List TSlot)).length (GT.pdflt (α := List TSlot)).1, slv (([] : List TSlot)).length (GT.pdflt (α := List TSlot)).1, I 0, I 0, B false, I 0, I 0, I 0, B false, I 0, B false, slv (([] : List Int)).length (GT.pdflt (α := List Int)).1].toArray) (fun w => by kernel_rfl)) .nil) 2 [(1, [slv (([] : List TIns)).length (GT.pdflt (α := List TIns)).1, I 0, I 0, slv (([] : List TSlot)).length (GT.pdflt (α := List TSlot)).1, slv (([] : List TSlot)).length (GT.pdflt (α := List TSlot)).1, I 0, I 0, B false, I 0, I 0, I 0, B false, I 0, B false, slv (([] : List Int)).length (GT.pdflt (α := List Int)).1])] ?_; clear S; intro ac w β S
  refine (nt (wr (rt (S.r [GT.val (⟨([] : List TIns), 0, 0, ([] : List TSlot), ([] : List TSlot), (⟨0, 0, false⟩ : TCtl), 0, (⟨0, 0, false, 0⟩ : TExit), false, ([] : List Int)⟩ : TGuest) (⟨(GT.pdflt (α := List TIns)), (GT.pdflt (α := List TSlot)), (GT.pdflt (α := List TSlot)), (GT.pdflt (α := List Int))⟩ : PGuest), B false] ?_))))
  have o4 := S.nilOw (α := TIns)
  have o5 := S.nilOw (α := TSlot)
  have o6 := S.nilOw (α := TSlot)
  have o7 := S.nilOw (α := Int)
  have o8 := ow_Guest (x := (⟨([] : List TIns), 0, 0, ([] : List TSlot), ([] : List TSlot), (⟨0, 0, false⟩ : TCtl), 0, (⟨0, 0, false, 0⟩ : TExit), false, ([] : List Int)⟩ : TGuest)) (p := (⟨(GT.pdflt (α := List TIns)), (GT.pdflt (α := List TSlot)), (GT.pdflt (α := List TSlot)), (GT.pdflt (α := List Int))⟩ : PGuest)) o4 o5 o6 o7 (fun b _ h => False.elim h) (fun b _ h => False.elim h) (fun b _ h => False.elim h) (fun b _ h => False.elim h) (fun b _ h => False.elim h) (fun b _ h => False.elim h) (show In64 0 from ⟨by decide, by decide⟩) (show In64 0 from ⟨by decide, by decide⟩) (show RCtl (⟨0, 0, false⟩ : TCtl) from ⟨(show In64 0 from ⟨by decide, by decide⟩), (show In64 0 from ⟨by decide, by decide⟩)⟩) (show In64 0 from ⟨by decide, by decide⟩) (show RExit (⟨0, 0, false, 0⟩ : TExit) from ⟨(show In64 0 from ⟨by decide, by decide⟩), (show In64 0 from ⟨by decide, by decide⟩), (show In64 0 from ⟨by decide, by decide⟩)⟩)
  exact ret2_of (p' := ()) S (show (f_guestAt b g).1 = (⟨([] : List TIns), 0, 0, ([] : List TSlot), ([] : List TSlot), (⟨0, 0, false⟩ : TCtl), 0, (⟨0, 0, false, 0⟩ : TExit), false, ([] : List Int)⟩ : TGuest) from k0_impl_GuestAt) (show (f_guestAt b g).2 = false from k0_impl_GuestAt) rfl rfl o8 trivial
 ·have h9 := not_f h1
  have g10 := within_t h9
  refine wk (nt (ws (rg ?_)))
  refine S.qb 5 [] [(17, .v (GT.val (el b.guests ((g).toNat)) (pb.guests.2 ((g).toNat))))] (.cons (Q_idx (RBare.guests (d := b) (S.arg hb)) (l := (b.guests).length) (k := (g).toNat) (i := g) rfl (by omega) (by omega) Tryz.underlying43 (by kernel_rfl)) (.cons (Q_el (RBare.guests (d := b) (S.arg hb)) (t := 90) (k := (g).toNat) (by omega) rfl (by kernel_rfl) (by kernel_rfl)) .nil)) ?_; clear S; intro ac w β S
  refine RG.op rfl (S.call1 (r := (el b.guests ((g).toNat))) (d := 18) (c_impl_copyGuest w (el b.guests ((g).toNat)) (pb.guests.2 ((g).toNat)) (S.rd (LRd.el (RBare.guests (d := b) (S.arg hb)) ((g).toNat) (by omega)))) (by kernel_rfl) rfl ?_)
  clear S; intro ac w N q11 F12 S up o13 d14
  clear up d14
  have i18 : In64 (el b.guests ((g).toNat)).acc := RGuest.acc (d := (el b.guests ((g).toNat))) o13.rn
  have i19 : In64 (el b.guests ((g).toNat)).pc := RGuest.pc (d := (el b.guests ((g).toNat))) o13.rn
  have i26 : RCtl (el b.guests ((g).toNat)).ctl := RGuest.ctl (d := (el b.guests ((g).toNat))) o13.rn
  have i27 : In64 (el b.guests ((g).toNat)).pend := RGuest.pend (d := (el b.guests ((g).toNat))) o13.rn
  have i28 : RExit (el b.guests ((g).toNat)).exit := RGuest.exit (d := (el b.guests ((g).toNat))) o13.rn
  obtain ⟨F15, F20, F23, F29, o16, o21, o24, o30, s17, s22, s25, s31, d32, d33, d34, d35, d36, d37⟩ := sp_Guest o13
  refine S.qem 2 [] [(5, .v (B true))] 2 [(1, [slv ((el b.guests ((g).toNat)).prog).length q11.prog.1, I ((el b.guests ((g).toNat)).acc), I ((el b.guests ((g).toNat)).pc), slv ((el b.guests ((g).toNat)).written).length q11.written.1, slv ((el b.guests ((g).toNat)).live).length q11.live.1, I (((el b.guests ((g).toNat)).ctl).traps), I (((el b.guests ((g).toNat)).ctl).post), B (((el b.guests ((g).toNat)).ctl).opn), I ((el b.guests ((g).toNat)).pend), I (((el b.guests ((g).toNat)).exit).kind), I (((el b.guests ((g).toNat)).exit).page), B (((el b.guests ((g).toNat)).exit).wr), I (((el b.guests ((g).toNat)).exit).n), B ((el b.guests ((g).toNat)).halted), slv ((el b.guests ((g).toNat)).seen).length q11.seen.1])] ?_; clear S; intro ac w β S
  refine (nt (wr (S.r [GT.val (el b.guests ((g).toNat)) q11, B true] ?_)))
  have o38 := ow_Guest (x := (el b.guests ((g).toNat))) (p := q11) o16 o21 o24 o30 d32 d33 d34 d35 d36 d37 i18 i19 i26 i27 i28
  exact ret2_of (p' := ()) S (show (f_guestAt b g).1 = (el b.guests ((g).toNat)) from k0_impl_GuestAt) (show (f_guestAt b g).2 = true from k0_impl_GuestAt) rfl rfl o38 trivial

theorem k0_impl_within {p : Prop} (h : p := by clear S; first | rfl | (simp [f_within, *]; done) | (simp [f_within, *]; omega) | (simp_all [f_within]; done) | (simp_all [f_within]; omega)) : p := h
set_option maxRecDepth 100000 in
theorem c_impl_within (w0 : World) (n : Int) (a : Int) (b : Int) : Calls Tryz.prog 101 [I n, I a, I b].toArray w0 (fun e w' => e = .returned (B (f_within n a b)) ∧ Chg NoB w0 w') := by
 refine Calls.walk (args := [I n, I a, I b]) NoB Tryz.func101 rfl rfl ?_
 intro ac β S
 refine ws (rg ?_)
 refine S.qe 1 [] [] ?_; clear S; intro ac w β S
 refine (nt (ws (rg ?_)))
 refine S.qa 4 [] [(10, .v (B (decide (n ≥ a))))] ?_; clear S; intro ac w β S
 rcases Bool.eq_false_or_eq_true (decide (n ≥ a)) with h1 | h1 <;> rw [h1] at S
 ·have g2 := of_decide_eq_true h1
  refine S.qe 5 [10] [(6, .v (B (decide (n ≤ b))))] ?_; clear S; intro ac w β S
  exact (nt (wr (S.r [B (decide (n ≤ b))] ⟨retB k0_impl_within, S.chg⟩)))
 ·have g3 := of_decide_eq_false h1
  refine S.qe 5 [10] [(6, .v (B false))] ?_; clear S; intro ac w β S
  exact (nt (wr (S.r [B false] ⟨retB k0_impl_within, S.chg⟩)))

theorem k0_impl_InsOk {p : Prop} (h : p := by clear S; first | rfl | (simp [f_insOk, *]; done) | (simp [f_insOk, *]; omega) | (simp_all [f_insOk]; done) | (simp_all [f_insOk]; omega)) : p := h
set_option maxRecDepth 100000 in
theorem c_impl_InsOk (w0 : World) (i : TIns) : Calls Tryz.prog 159 [GT.val i ()].toArray w0 (fun e w' => e = .returned (B (f_insOk i)) ∧ Chg NoB w0 w') := by
 refine Calls.walk (args := [GT.val i ()]) NoB Tryz.func159 rfl rfl ?_
 intro ac β S
 refine ws (rg ?_)
 refine S.qem 2 [] [(1, .p 0 0)] 1 [(0, GT.cells i ())] ?_; clear S; intro ac w β S
 refine (nt (ws (ws (rg ?_))))
 refine S.qe 2 [] [(4, .v (I i.opc))] ?_; clear S; intro ac w β S
 refine (nt (wp_block (ws (ws (rg ?_)))))
 refine S.qe 2 [] [(5, .v (B (i.opc == 1)))] ?_; clear S; intro ac w β S
 refine (nt (S.c (i.opc == 1) (fun h1 => ?_) (fun h1 => ?_)))
 ·rw [h1] at S
  have g2 : i.opc = 1 := eq_of_beq h1
  refine wk (nt (S.c true (fun _ => ?_) (fun hx => by cases hx)))
  refine ws (rg ?_)
  refine S.qg 4 [5] [(2, .v (B (f_within i.x 0 99)))] (.cons (Q_call fun w hw => c_impl_within w i.x 0 99) .nil) ?_; clear S; intro ac w β S
  exact (nt (wr (rb (rt (S.r [B (f_within i.x 0 99)] ⟨retB k0_impl_InsOk, S.chg⟩)))))
 ·have g3 : ¬ (i.opc = 1) := ne_of_beq_false h1
  refine ws (rg ?_)
  refine S.qe 2 [] [(5, .v (B (i.opc == 2)))] ?_; clear S; intro ac w β S
  refine (nt (S.c (i.opc == 2) (fun h4 => ?_) (fun h4 => ?_)))
  ·rw [h4] at S
   have g5 : i.opc = 2 := eq_of_beq h4
   refine wk (nt (S.c true (fun _ => ?_) (fun hx => by cases hx)))
   refine ws (rg ?_)
   refine S.qg 4 [5] [(2, .v (B (f_within i.x 0 99)))] (.cons (Q_call fun w hw => c_impl_within w i.x 0 99) .nil) ?_; clear S; intro ac w β S
   exact (nt (wr (rb (rt (S.r [B (f_within i.x 0 99)] ⟨retB k0_impl_InsOk, S.chg⟩)))))
  ·have g6 : ¬ (i.opc = 2) := ne_of_beq_false h4
   refine ws (rg ?_)
   refine S.qe 2 [] [(5, .v (B (i.opc == 5)))] ?_; clear S; intro ac w β S
   refine (nt (S.c (i.opc == 5) (fun h7 => ?_) (fun h7 => ?_)))
   ·rw [h7] at S
    have g8 : i.opc = 5 := eq_of_beq h7
    refine wk (nt (S.c true (fun _ => ?_) (fun hx => by cases hx)))
    refine ws (rg ?_)
    refine S.qg 4 [5] [(2, .v (B (f_within i.x 0 99)))] (.cons (Q_call fun w hw => c_impl_within w i.x 0 99) .nil) ?_; clear S; intro ac w β S
    exact (nt (wr (rb (rt (S.r [B (f_within i.x 0 99)] ⟨retB k0_impl_InsOk, S.chg⟩)))))
   ·have g9 : ¬ (i.opc = 5) := ne_of_beq_false h7
    refine rg ?_
    refine S.qe 2 [] [(5, .v (B (i.opc == 6)))] ?_; clear S; intro ac w β S
    refine (nt (S.c (i.opc == 6) (fun h10 => ?_) (fun h10 => ?_)))
    ·have g11 : i.opc = 6 := eq_of_beq h10
     refine ws (rg ?_)
     refine S.qg 4 [] [(2, .v (B (f_within i.x 0 99)))] (.cons (Q_call fun w hw => c_impl_within w i.x 0 99) .nil) ?_; clear S; intro ac w β S
     exact (nt (wr (rb (rt (S.r [B (f_within i.x 0 99)] ⟨retB k0_impl_InsOk, S.chg⟩)))))
    ·have g12 : ¬ (i.opc = 6) := ne_of_beq_false h10
     refine ws (ws (rg ?_))
     refine S.qe 2 [] [(13, .v (B (i.opc == 3)))] ?_; clear S; intro ac w β S
     refine (nt (S.c (i.opc == 3) (fun h13 => ?_) (fun h13 => ?_)))
     ·rw [h13] at S
      have g14 : i.opc = 3 := eq_of_beq h13
      refine wk (nt (S.c true (fun _ => ?_) (fun hx => by cases hx)))
      refine ws (rg ?_)
      refine S.qg 4 [13] [(2, .v (B (f_within i.x 0 15)))] (.cons (Q_call fun w hw => c_impl_within w i.x 0 15) .nil) ?_; clear S; intro ac w β S
      exact (nt (wr (rb (rt (S.r [B (f_within i.x 0 15)] ⟨retB k0_impl_InsOk, S.chg⟩)))))
     ·have g15 : ¬ (i.opc = 3) := ne_of_beq_false h13
      refine rg ?_
      refine S.qe 2 [] [(13, .v (B (i.opc == 4)))] ?_; clear S; intro ac w β S
      refine (nt (S.c (i.opc == 4) (fun h16 => ?_) (fun h16 => ?_)))
      ·have g17 : i.opc = 4 := eq_of_beq h16
       refine ws (rg ?_)
       refine S.qg 4 [] [(2, .v (B (f_within i.x 0 15)))] (.cons (Q_call fun w hw => c_impl_within w i.x 0 15) .nil) ?_; clear S; intro ac w β S
       exact (nt (wr (rb (rt (S.r [B (f_within i.x 0 15)] ⟨retB k0_impl_InsOk, S.chg⟩)))))
      ·have g18 : ¬ (i.opc = 4) := ne_of_beq_false h16
       refine ws (rg ?_)
       refine S.qe 2 [] [(19, .v (B (i.opc == 7)))] ?_; clear S; intro ac w β S
       refine (nt (S.c (i.opc == 7) (fun h19 => ?_) (fun h19 => ?_)))
       ·have g20 : i.opc = 7 := eq_of_beq h19
        refine ws (rg ?_)
        refine S.qe 4 [] [(2, .v (B (i.x == 0)))] ?_; clear S; intro ac w β S
        exact (nt (wr (rb (rt (S.r [B (i.x == 0)] ⟨retB k0_impl_InsOk, S.chg⟩)))))
       ·have g21 : ¬ (i.opc = 7) := ne_of_beq_false h19
        refine ws (rg ?_)
        refine S.qe 2 [] [(24, .v (B (i.opc == 8)))] ?_; clear S; intro ac w β S
        refine (nt (S.c (i.opc == 8) (fun h22 => ?_) (fun h22 => ?_)))
        ·have g23 : i.opc = 8 := eq_of_beq h22
         refine ws (rg ?_)
         refine S.qg 4 [] [(2, .v (B (f_within i.x 0 11)))] (.cons (Q_call fun w hw => c_impl_within w i.x 0 11) .nil) ?_; clear S; intro ac w β S
         exact (nt (wr (rb (rt (S.r [B (f_within i.x 0 11)] ⟨retB k0_impl_InsOk, S.chg⟩)))))
        ·have g24 : ¬ (i.opc = 8) := ne_of_beq_false h22
         refine wk (nb (nt (ws (rg ?_))))
         refine S.qe 1 [] [(2, .v (B false))] ?_; clear S; intro ac w β S
         exact (nt (wr (S.r [B false] ⟨retB k0_impl_InsOk, S.chg⟩)))

set_option maxRecDepth 100000 in
theorem c_impl_ProgOk (w0 : World) (p : List TIns) (pp : LP TIns) (hp : GT.rd KK (Lt w0.heap.size) w0 p pp) : Calls Tryz.prog 149 [slv (p).length pp.1].toArray w0 (fun e w' => e = .returned (B (f_progOk p)) ∧ Chg NoB w0 w') := by
 refine Calls.walk (args := [slv (p).length pp.1]) NoB Tryz.func149 rfl rfl ?_
 intro ac β S
 have hlep : p.length ≤ 4194304 := LRd.le hp
 refine ws (rg ?_)
 refine S.qe 1 [] [] ?_; clear S; intro ac w β S
 refine (nt (ws (ws (rg ?_))))
 refine S.qe 3 [] [(5, .v (slv (p).length pp.1)), (6, .v (I ((p).length : Int))), (7, .v (I 0))] ?_; clear S; intro ac w β S
 refine (nt (wp_block ?_))
 refine wp_loop_down (fun mm ac w => ∃ (k : Nat)  (u : World) (N : Bl) (β : Nat → Nat), mm = (p).length - k ∧ (k ≤ (p).length) ∧ (((p).take k).all f_insOk = true) ∧ St Tryz.prog Tryz.f149.ntmps w0 NoB u N β ⟨[(0, .v (slv (p).length pp.1)), (5, .v (slv (p).length pp.1)), (6, .v (I ((p).length : Int))), (7, .v (I (k : Int)))], []⟩ ac w) _ ⟨0, _, _, _, rfl, (by first | omega | (simp; done) | (simp; omega)), (by simp), S.z⟩ ?_
 clear S
 rintro mm ac w ⟨k, u, N, β, rfl, hk, he, S⟩
 refine ws (rg ?_)
 refine S.qe 1 [] [(8, .v (B (decide ((k : Int) < ((p).length : Int)))))] ?_; clear S; intro ac w β S
 refine (nt (ws (S.c (decide ((k : Int) < ((p).length : Int))) (fun h1 => ?_) (fun h1 => ?_))))
 ·have g2 := of_decide_eq_true h1
  refine wk (nt (ws (wp_block (ws (rg ?_)))))
  refine S.qgm 4 [] [(4, .p 0 0)] (.cons (Q_idx (S.arg hp) (l := (p).length) (k := k) (i := (k : Int)) rfl rfl (by omega) Tryz.underlying84 (by kernel_rfl)) (.cons (Q_el (S.arg hp) (t := 165) (k := k) (by omega) rfl (by kernel_rfl) (by kernel_rfl)) .nil)) 1 [(0, GT.cells (el p k) ())] ?_; clear S; intro ac w β S
  refine (nt (ws (rg ?_)))
  refine S.qgm 3 [] [(13, .v (B (!(f_insOk (el p k)))))] (.cons (Q_call fun w hw => c_impl_InsOk w (el p k)) .nil) 0 [] ?_; clear S; intro ac w β S
  refine (nt (S.c (!(f_insOk (el p k))) (fun h3 => ?_) (fun h3 => ?_)))
  ·have h4 := not_t h3
   refine ws (rg ?_)
   refine S.qe 1 [] [(2, .v (B false))] ?_; clear S; intro ac w β S
   exact (nt (wr (rb (rt (rt (rb (rt (S.r [B false] ⟨retB (by clear S; (first | (unfold f_progOk; rw [all_bad (k := k) (by omega) (by first | assumption | simp_all)]; simp; done) | (unfold f_progOk; rw [all_end (by omega) he]; simp; done) | (unfold f_progOk; rw [all_end (by omega) he]; simp [*]; done) | (unfold f_progOk; rw [all_end (by omega) he]; simp; omega))), S.chg⟩))))))))
  ·have h5 := not_f h3
   refine wk (nb (nt (rg ?_)))
   refine S.qg 2 [] [(7, .v (I ((k : Int) + 1)))] (.cons (Q_add (x := (k : Int)) (y := 1) ⟨by omega, by omega⟩) .nil) ?_; clear S; intro ac w β S
   refine (nt ?_)
   refine ⟨(p).length - (k + 1), by omega, k + 1, _, _, _, rfl, ?_, ?_, S.z⟩
   ·clear S; first | omega | (simp [*]; done) | (simp [*]; omega)
   ·clear S; exact all_step (by omega) he (by first | assumption | (simp only [f_slotOk, f_within] at *; simp_all; done) | (simp_all; done) | (simp_all; omega))
 ·have g6 := of_decide_eq_false h1
  refine wp_exit (ex_then (ex_then (ex_hit (nt (ws (rg ?_))))))
  refine S.qg 4 [] [(2, .v (B (f_within ((p).length : Int) 1 12)))] (.cons (Q_call fun w hw => c_impl_within w ((p).length : Int) 1 12) .nil) ?_; clear S; intro ac w β S
  exact (nt (wr (S.r [B (f_within ((p).length : Int) 1 12)] ⟨retB (by clear S; (first | (unfold f_progOk; rw [all_end (by omega) he]; simp; done) | (unfold f_progOk; rw [all_end (by omega) he]; simp [*]; done) | (unfold f_progOk; rw [all_end (by omega) he]; simp; omega) | (unfold f_progOk; rw [all_bad (k := k) (by omega) (by first | assumption | simp_all)]; simp; done))), S.chg⟩)))

theorem k0_impl_SlotOk {p : Prop} (h : p := by clear S; first | rfl | (simp [f_slotOk, *]; done) | (simp [f_slotOk, *]; omega) | (simp_all [f_slotOk]; done) | (simp_all [f_slotOk]; omega)) : p := h
set_option maxRecDepth 100000 in
theorem c_impl_SlotOk (w0 : World) (s : TSlot) (pages : Int) (pre0 : 0 ≤ pages) (pre1 : pages ≤ 1000) : Calls Tryz.prog 148 [GT.val s (), I pages].toArray w0 (fun e w' => e = .returned (B (f_slotOk s pages)) ∧ Chg NoB w0 w') := by
 refine Calls.walk (args := [GT.val s (), I pages]) NoB Tryz.func148 rfl rfl ?_
 intro ac β S
 refine ws (rg ?_)
 refine S.qem 2 [] [(2, .p 0 0)] 1 [(0, GT.cells s ())] ?_; clear S; intro ac w β S
 refine (nt (ws ?_))
 rcases Bool.eq_false_or_eq_true (decide (s = ((⟨-1, 0⟩ : TSlot)))) with h1 | h1
 ·refine S.drawnO [(3, true)] (keep := [4]) (m := 0) (σ' := ⟨[(4, .v (B true))], []⟩) (.cons (Q_call fun w hw => c_impl_NoSlot w ) (.cons (Eq_eq_Slot (t := 92) s ((⟨-1, 0⟩ : TSlot)) (by kernel_rfl)) .nil)) rfl (by kernel_rfl) (by kernel_rfl) (.cons h1 .nil) ?_
  clear S; intro ac w S
  exact id (nt (wr (S.r [B true] ⟨retB k0_impl_SlotOk, S.chg⟩)))
 ·rcases Bool.eq_false_or_eq_true (decide (pages > 0)) with h2 | h2
  ·have g3 := of_decide_eq_true h2
   rcases Bool.eq_false_or_eq_true (f_within s.page 0 (pages - 1)) with h4 | h4
   ·have g5 := within_t h4
    refine S.drawnO [(3, false), (6, true), (13, true)] (keep := [4]) (m := 0) (σ' := ⟨[(4, .v (B (f_within s.rights 1 3)))], []⟩) (.cons (Q_call fun w hw => c_impl_NoSlot w ) (.cons (Eq_eq_Slot (t := 92) s ((⟨-1, 0⟩ : TSlot)) (by kernel_rfl)) (.cons (Q_sub (x := pages) (y := 1) ⟨by omega, by omega⟩) (.cons (Q_call fun w hw => c_impl_within w s.page 0 (pages - 1)) (.cons (Q_call fun w hw => c_impl_within w s.rights 1 3) .nil))))) rfl (by kernel_rfl) (by kernel_rfl) (.cons h1 (.cons h2 (.cons h4 .nil))) ?_
    clear S; intro ac w S
    exact id (nt (wr (S.r [B (f_within s.rights 1 3)] ⟨retB k0_impl_SlotOk, S.chg⟩)))
   ·have g6 := within_f h4
    refine S.drawnO [(3, false), (6, true), (13, false)] (keep := [4]) (m := 0) (σ' := ⟨[(4, .v (B false))], []⟩) (.cons (Q_call fun w hw => c_impl_NoSlot w ) (.cons (Eq_eq_Slot (t := 92) s ((⟨-1, 0⟩ : TSlot)) (by kernel_rfl)) (.cons (Q_sub (x := pages) (y := 1) ⟨by omega, by omega⟩) (.cons (Q_call fun w hw => c_impl_within w s.page 0 (pages - 1)) .nil)))) rfl (by kernel_rfl) (by kernel_rfl) (.cons h1 (.cons h2 (.cons h4 .nil))) ?_
    clear S; intro ac w S
    exact id (nt (wr (S.r [B false] ⟨retB k0_impl_SlotOk, S.chg⟩)))
  ·have g7 := of_decide_eq_false h2
   refine S.drawnO [(3, false), (6, false)] (keep := [4]) (m := 0) (σ' := ⟨[(4, .v (B false))], []⟩) (.cons (Q_call fun w hw => c_impl_NoSlot w ) (.cons (Eq_eq_Slot (t := 92) s ((⟨-1, 0⟩ : TSlot)) (by kernel_rfl)) .nil)) rfl (by kernel_rfl) (by kernel_rfl) (.cons h1 (.cons h2 .nil)) ?_
   clear S; intro ac w S
   exact id (nt (wr (S.r [B false] ⟨retB k0_impl_SlotOk, S.chg⟩)))

set_option maxRecDepth 100000 in
theorem c_impl_TableOk (w0 : World) (t : List TSlot) (pt : LP TSlot) (ht : GT.rd KK (Lt w0.heap.size) w0 t pt) (size : Int) (pages : Int) (pre0 : 0 ≤ pages) (pre1 : pages ≤ 1000) : Calls Tryz.prog 130 [slv (t).length pt.1, I size, I pages].toArray w0 (fun e w' => e = .returned (B (f_tableOk t size pages)) ∧ Chg NoB w0 w') := by
 refine Calls.walk (args := [slv (t).length pt.1, I size, I pages]) NoB Tryz.func130 rfl rfl ?_
 intro ac β S
 have hlet : t.length ≤ 4194304 := LRd.le ht
 refine ws (rg ?_)
 refine S.qe 1 [] [] ?_; clear S; intro ac w β S
 refine (nt (ws (ws (rg ?_))))
 refine S.qe 3 [] [(9, .v (slv (t).length pt.1)), (10, .v (I ((t).length : Int))), (11, .v (I 0))] ?_; clear S; intro ac w β S
 refine (nt (wp_block ?_))
 refine wp_loop_down (fun mm ac w => ∃ (k : Nat)  (u : World) (N : Bl) (β : Nat → Nat), mm = (t).length - k ∧ (k ≤ (t).length) ∧ (((t).take k).all (fun s => f_slotOk s pages) = true) ∧ St Tryz.prog Tryz.f130.ntmps w0 NoB u N β ⟨[(0, .v (slv (t).length pt.1)), (1, .v (I size)), (2, .v (I pages)), (9, .v (slv (t).length pt.1)), (10, .v (I ((t).length : Int))), (11, .v (I (k : Int)))], []⟩ ac w) _ ⟨0, _, _, _, rfl, (by first | omega | (simp; done) | (simp; omega)), (by simp), S.z⟩ ?_
 clear S
 rintro mm ac w ⟨k, u, N, β, rfl, hk, he, S⟩
 refine ws (rg ?_)
 refine S.qe 1 [] [(12, .v (B (decide ((k : Int) < ((t).length : Int)))))] ?_; clear S; intro ac w β S
 refine (nt (ws (S.c (decide ((k : Int) < ((t).length : Int))) (fun h1 => ?_) (fun h1 => ?_))))
 ·have g2 := of_decide_eq_true h1
  refine wk (nt (ws (wp_block (ws (rg ?_)))))
  refine S.qgm 4 [] [(8, .p 0 0)] (.cons (Q_idx (S.arg ht) (l := (t).length) (k := k) (i := (k : Int)) rfl rfl (by omega) Tryz.underlying50 (by kernel_rfl)) (.cons (Q_el (S.arg ht) (t := 92) (k := k) (by omega) rfl (by kernel_rfl) (by kernel_rfl)) .nil)) 1 [(0, GT.cells (el t k) ())] ?_; clear S; intro ac w β S
  refine (nt (ws (rg ?_)))
  refine S.qgm 4 [] [(18, .v (B (!(f_slotOk (el t k) pages))))] (.cons (Q_call fun w hw => c_impl_SlotOk w (el t k) pages (by omega) (by omega)) .nil) 0 [] ?_; clear S; intro ac w β S
  refine (nt (S.c (!(f_slotOk (el t k) pages)) (fun h3 => ?_) (fun h3 => ?_)))
  ·have h4 := not_t h3
   refine ws (rg ?_)
   refine S.qe 1 [] [(6, .v (B false))] ?_; clear S; intro ac w β S
   exact (nt (wr (rb (rt (rt (rb (rt (S.r [B false] ⟨retB (by clear S; (first | (unfold f_tableOk; rw [all_bad (k := k) (by omega) (by first | assumption | simp_all)]; simp; done) | (unfold f_tableOk; rw [all_end (by omega) he]; simp; done) | (unfold f_tableOk; rw [all_end (by omega) he]; simp [*]; done) | (unfold f_tableOk; rw [all_end (by omega) he]; simp; omega))), S.chg⟩))))))))
  ·have h5 := not_f h3
   refine wk (nb (nt (rg ?_)))
   refine S.qg 2 [] [(11, .v (I ((k : Int) + 1)))] (.cons (Q_add (x := (k : Int)) (y := 1) ⟨by omega, by omega⟩) .nil) ?_; clear S; intro ac w β S
   refine (nt ?_)
   refine ⟨(t).length - (k + 1), by omega, k + 1, _, _, _, rfl, ?_, ?_, S.z⟩
   ·clear S; first | omega | (simp [*]; done) | (simp [*]; omega)
   ·clear S; exact all_step (by omega) he (by first | assumption | (simp only [f_slotOk, f_within] at *; simp_all; done) | (simp_all; done) | (simp_all; omega))
 ·have g6 := of_decide_eq_false h1
  refine wp_exit (ex_then (ex_then (ex_hit (nt (ws (rg ?_))))))
  refine S.qe 5 [] [(6, .v (B (((t).length : Int) == size)))] ?_; clear S; intro ac w β S
  exact (nt (wr (S.r [B (((t).length : Int) == size)] ⟨retB (by clear S; (first | (unfold f_tableOk; rw [all_end (by omega) he]; simp; done) | (unfold f_tableOk; rw [all_end (by omega) he]; simp [*]; done) | (unfold f_tableOk; rw [all_end (by omega) he]; simp; omega) | (unfold f_tableOk; rw [all_bad (k := k) (by omega) (by first | assumption | simp_all)]; simp; done))), S.chg⟩)))

end Go.Proofs.YtdnjbneoaejcgaaGreat
