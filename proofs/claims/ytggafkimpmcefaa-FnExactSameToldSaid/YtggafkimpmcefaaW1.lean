/- The walks: what each function that the six laws reach computes, and that each law returns true. -/
import Derived.Test.YtggafkimpmcefaaMarks
import Derived.Test.YtggafkimpmcefaaCore9
import Derived.Test.YtggafkimpmcefaaEq
import Derived.Test.YtggafkimpmcefaaProg
import Derived.KernelRfl
namespace Go.Proofs.Ytggafkimpmcefaa
open Go
set_option linter.unusedVariables false
set_option linter.unusedSimpArgs false

set_option maxRecDepth 100000 in
theorem c_spec_l01In (w0 : World) (x : Int) (a : Int) (b : Int) : Calls Go.Proofs.Try.prog 33 [I x, I a, I b].toArray w0 (fun e w' => e = .returned (B (f_within x a b)) ∧ Chg NoB w0 w') := by
  refine Calls.walk (args := [I x, I a, I b]) NoB Go.Proofs.Try.func33 rfl rfl ?_
  intro ac β S
  refine wp_seq ?_
  refine RG.start ?_
  refine S.quiet (k := 1) (keep := [0, 1, 2]) (m := 0) (σ' := ⟨[(0, .v (I x)), (1, .v (I a)), (2, .v (I b))], []⟩) .nil (by kernel_rfl) ?_
  clear S; intro ac w β S
  refine RG.done rfl (nx_then ?_)
  refine wp_seq ?_
  refine RG.start ?_
  refine S.quiet (k := 4) (keep := [0, 2, 10]) (m := 0) (σ' := ⟨[(0, .v (I x)), (2, .v (I b)), (10, .v (B (decide (x ≥ a))))], []⟩) .nil (by kernel_rfl) ?_
  clear S; intro ac w β S
  rcases Bool.eq_false_or_eq_true (decide (x ≥ a)) with h1 | h1 <;> rw [h1] at S
  · have g2 : x ≥ a := of_decide_eq_true h1
    refine S.quiet (k := 5) (keep := [6]) (m := 0) (σ' := ⟨[(6, .v (B (decide (x ≤ b))))], []⟩) .nil (by kernel_rfl) ?_
    clear S; intro ac w β S
    refine RG.done rfl (nx_then ?_)
    refine wp_ret ?_
    refine S.ret (vs := [B (decide (x ≤ b))]) (by kernel_rfl) ?_
    exact ⟨retB (show (decide (x ≤ b)) = f_within x a b by clear S; first | rfl | (simp [f_within, *]; done) | (simp [f_within, *]; omega) | (simp_all [f_within]; done) | (simp_all [f_within]; omega)), S.chg⟩
  · have g3 : ¬ (x ≥ a) := of_decide_eq_false h1
    refine S.quiet (k := 5) (keep := [6]) (m := 0) (σ' := ⟨[(6, .v (B false))], []⟩) .nil (by kernel_rfl) ?_
    clear S; intro ac w β S
    refine RG.done rfl (nx_then ?_)
    refine wp_ret ?_
    refine S.ret (vs := [B false]) (by kernel_rfl) ?_
    exact ⟨retB (show false = f_within x a b by clear S; first | rfl | (simp [f_within, *]; done) | (simp [f_within, *]; omega) | (simp_all [f_within]; done) | (simp_all [f_within]; omega)), S.chg⟩

set_option maxRecDepth 100000 in
theorem c_spec_IsOuter (w0 : World) (k : Int) : Calls Go.Proofs.Try.prog 9 [I k].toArray w0 (fun e w' => e = .returned (B (f_isOuter k)) ∧ Chg NoB w0 w') := by
  refine Calls.walk (args := [I k]) NoB Go.Proofs.Try.func9 rfl rfl ?_
  intro ac β S
  refine wp_seq ?_
  refine RG.start ?_
  refine S.quiet (k := 1) (keep := [0]) (m := 0) (σ' := ⟨[(0, .v (I k))], []⟩) .nil (by kernel_rfl) ?_
  clear S; intro ac w β S
  refine RG.done rfl (nx_then ?_)
  refine wp_seq ?_
  refine RG.start ?_
  refine S.quiet (k := 3) (keep := [2]) (m := 0) (σ' := ⟨[(2, .v (B (f_within k 13 17)))], []⟩) (.cons (Q_call fun w hw => c_spec_l01In w k 13 17) .nil) (by kernel_rfl) ?_
  clear S; intro ac w β S
  refine RG.done rfl (nx_then ?_)
  refine wp_ret ?_
  refine S.ret (vs := [B (f_within k 13 17)]) (by kernel_rfl) ?_
  exact ⟨retB (show (f_within k 13 17) = f_isOuter k by clear S; first | rfl | (simp [f_isOuter, *]; done) | (simp [f_isOuter, *]; omega) | (simp_all [f_isOuter]; done) | (simp_all [f_isOuter]; omega)), S.chg⟩

set_option maxRecDepth 100000 in
theorem c_impl_within (w0 : World) (n : Int) (a : Int) (b : Int) : Calls Go.Proofs.Try.prog 34 [I n, I a, I b].toArray w0 (fun e w' => e = .returned (B (f_within n a b)) ∧ Chg NoB w0 w') := by
  refine Calls.walk (args := [I n, I a, I b]) NoB Go.Proofs.Try.func34 rfl rfl ?_
  intro ac β S
  refine wp_seq ?_
  refine RG.start ?_
  refine S.quiet (k := 1) (keep := [0, 1, 2]) (m := 0) (σ' := ⟨[(0, .v (I n)), (1, .v (I a)), (2, .v (I b))], []⟩) .nil (by kernel_rfl) ?_
  clear S; intro ac w β S
  refine RG.done rfl (nx_then ?_)
  refine wp_seq ?_
  refine RG.start ?_
  refine S.quiet (k := 4) (keep := [0, 2, 10]) (m := 0) (σ' := ⟨[(0, .v (I n)), (2, .v (I b)), (10, .v (B (decide (n ≥ a))))], []⟩) .nil (by kernel_rfl) ?_
  clear S; intro ac w β S
  rcases Bool.eq_false_or_eq_true (decide (n ≥ a)) with h1 | h1 <;> rw [h1] at S
  · have g2 : n ≥ a := of_decide_eq_true h1
    refine S.quiet (k := 5) (keep := [6]) (m := 0) (σ' := ⟨[(6, .v (B (decide (n ≤ b))))], []⟩) .nil (by kernel_rfl) ?_
    clear S; intro ac w β S
    refine RG.done rfl (nx_then ?_)
    refine wp_ret ?_
    refine S.ret (vs := [B (decide (n ≤ b))]) (by kernel_rfl) ?_
    exact ⟨retB (show (decide (n ≤ b)) = f_within n a b by clear S; first | rfl | (simp [f_within, *]; done) | (simp [f_within, *]; omega) | (simp_all [f_within]; done) | (simp_all [f_within]; omega)), S.chg⟩
  · have g3 : ¬ (n ≥ a) := of_decide_eq_false h1
    refine S.quiet (k := 5) (keep := [6]) (m := 0) (σ' := ⟨[(6, .v (B false))], []⟩) .nil (by kernel_rfl) ?_
    clear S; intro ac w β S
    refine RG.done rfl (nx_then ?_)
    refine wp_ret ?_
    refine S.ret (vs := [B false]) (by kernel_rfl) ?_
    exact ⟨retB (show false = f_within n a b by clear S; first | rfl | (simp [f_within, *]; done) | (simp [f_within, *]; omega) | (simp_all [f_within]; done) | (simp_all [f_within]; omega)), S.chg⟩

set_option maxRecDepth 100000 in
theorem c_impl_IsOuter (w0 : World) (k : Int) : Calls Go.Proofs.Try.prog 10 [I k].toArray w0 (fun e w' => e = .returned (B (f_isOuter k)) ∧ Chg NoB w0 w') := by
  refine Calls.walk (args := [I k]) NoB Go.Proofs.Try.func10 rfl rfl ?_
  intro ac β S
  refine wp_seq ?_
  refine RG.start ?_
  refine S.quiet (k := 1) (keep := [0]) (m := 0) (σ' := ⟨[(0, .v (I k))], []⟩) .nil (by kernel_rfl) ?_
  clear S; intro ac w β S
  refine RG.done rfl (nx_then ?_)
  refine wp_seq ?_
  refine RG.start ?_
  refine S.quiet (k := 3) (keep := [2]) (m := 0) (σ' := ⟨[(2, .v (B (f_within k 13 17)))], []⟩) (.cons (Q_call fun w hw => c_impl_within w k 13 17) .nil) (by kernel_rfl) ?_
  clear S; intro ac w β S
  refine RG.done rfl (nx_then ?_)
  refine wp_ret ?_
  refine S.ret (vs := [B (f_within k 13 17)]) (by kernel_rfl) ?_
  exact ⟨retB (show (f_within k 13 17) = f_isOuter k by clear S; first | rfl | (simp [f_isOuter, *]; done) | (simp [f_isOuter, *]; omega) | (simp_all [f_isOuter]; done) | (simp_all [f_isOuter]; omega)), S.chg⟩

set_option maxRecDepth 100000 in
theorem c_laws_FnExactIsOuter (w0 : World) (aKind : Int) : Calls Go.Proofs.Try.prog 3 [I aKind].toArray w0 (fun e w' => e = .returned (B true) ∧ Chg NoB w0 w') := by
  refine Calls.walk (args := [I aKind]) NoB Go.Proofs.Try.func3 rfl rfl ?_
  intro ac β S
  refine wp_seq ?_
  refine RG.start ?_
  refine S.quiet (k := 1) (keep := [0]) (m := 0) (σ' := ⟨[(0, .v (I aKind))], []⟩) .nil (by kernel_rfl) ?_
  clear S; intro ac w β S
  refine RG.done rfl (nx_then ?_)
  refine wp_seq ?_
  refine RG.start ?_
  refine S.quiet (k := 3) (keep := [0, 3]) (m := 0) (σ' := ⟨[(0, .v (I aKind)), (3, .v (B (f_isOuter aKind)))], []⟩) (.cons (Q_call fun w hw => c_spec_IsOuter w aKind) .nil) (by kernel_rfl) ?_
  clear S; intro ac w β S
  refine RG.done rfl (nx_then ?_)
  refine wp_seq ?_
  refine RG.start ?_
  refine S.quiet (k := 3) (keep := [3, 4]) (m := 0) (σ' := ⟨[(3, .v (B (f_isOuter aKind))), (4, .v (B (f_isOuter aKind)))], []⟩) (.cons (Q_call fun w hw => c_impl_IsOuter w aKind) .nil) (by kernel_rfl) ?_
  clear S; intro ac w β S
  refine RG.done rfl (nx_then ?_)
  refine wp_seq ?_
  refine wp_seq ?_
  refine RG.start ?_
  refine S.quiet (k := 3) (keep := [11]) (m := 0) (σ' := ⟨[(11, .v (B (!((f_isOuter aKind) == (f_isOuter aKind)))))], []⟩) .nil (by kernel_rfl) ?_
  clear S; intro ac w β S
  refine RG.done rfl (nx_then ?_)
  refine S.cond (e := (!((f_isOuter aKind) == (f_isOuter aKind)))) (by kernel_rfl) (fun h1 => ?_) (fun h1 => ?_)
  · have h2 : ((f_isOuter aKind) == (f_isOuter aKind)) = false := not_t h1
    refine wp_seq ?_
    refine RG.start ?_
    refine S.quiet (k := 1) (keep := [2]) (m := 0) (σ' := ⟨[(2, .v (B false))], []⟩) .nil (by kernel_rfl) ?_
    clear S; intro ac w β S
    refine RG.done rfl (nx_then ?_)
    refine wp_ret (rt_then ?_)
    refine S.ret (vs := [B false]) (by kernel_rfl) ?_
    exact ⟨retB (show false = true by clear S; first | rfl | (exfalso; omega) | (exfalso; simp_all [f_marksTold_len, f_marksAct_len]; done) | (exfalso; simp_all [f_marksTold_len, f_marksAct_len]; omega)), S.chg⟩
  · have h3 : ((f_isOuter aKind) == (f_isOuter aKind)) = true := not_f h1
    refine wp_skip (nx_then ?_)
    refine wp_seq ?_
    refine RG.start ?_
    refine S.quiet (k := 1) (keep := [2]) (m := 0) (σ' := ⟨[(2, .v (B true))], []⟩) .nil (by kernel_rfl) ?_
    clear S; intro ac w β S
    refine RG.done rfl (nx_then ?_)
    refine wp_ret ?_
    refine S.ret (vs := [B true]) (by kernel_rfl) ?_
    exact ⟨retB (show true = true by clear S; first | rfl | (exfalso; omega) | (exfalso; simp_all [f_marksTold_len, f_marksAct_len]; done) | (exfalso; simp_all [f_marksTold_len, f_marksAct_len]; omega)), S.chg⟩

set_option maxRecDepth 100000 in
theorem c_laws_toAct (w0 : World) (a : TAct) : Calls Go.Proofs.Try.prog 12 [GT.val (α := TAct) a ()].toArray w0 (fun e w' => e = .returned (GT.val (α := TAct) a ()) ∧ Chg NoB w0 w') := by
  refine Calls.walk (args := [GT.val (α := TAct) a ()]) NoB Go.Proofs.Try.func12 rfl rfl ?_
  intro ac β S
  refine wp_seq ?_
  refine RG.start ?_
  refine S.quiet (k := 2) (keep := [1, 2]) (m := 2) (σ' := ⟨[(1, .p 0 0), (2, .p 1 0)], [GT.cells (α := TAct) a (), [I 0, I 0, I 0, I 0, I 0, I 0]]⟩) .nil (by kernel_rfl) ?_
  clear S; intro ac w β S
  refine RG.done rfl (nx_then ?_)
  refine wp_seq ?_
  refine RG.start ?_
  refine S.quiet (k := 1) (keep := [1, 2, 3]) (m := 3) (σ' := ⟨[(1, .p 0 0), (2, .p 1 0), (3, .p 2 0)], [GT.cells (α := TAct) a (), [I 0, I 0, I 0, I 0, I 0, I 0], [I 0, I 0, I 0, I 0, I 0, I 0]]⟩) .nil (by kernel_rfl) ?_
  clear S; intro ac w β S
  refine RG.done rfl (nx_then ?_)
  refine wp_seq ?_
  refine RG.start ?_
  refine S.quiet (k := 4) (keep := [1, 2, 3]) (m := 3) (σ' := ⟨[(1, .p 0 0), (2, .p 1 0), (3, .p 2 0)], [GT.cells (α := TAct) a (), [I 0, I 0, I 0, I 0, I 0, I 0], [I a.kind, I 0, I 0, I 0, I 0, I 0]]⟩) .nil (by kernel_rfl) ?_
  clear S; intro ac w β S
  refine RG.done rfl (nx_then ?_)
  refine wp_seq ?_
  refine RG.start ?_
  refine S.quiet (k := 4) (keep := [1, 2, 3]) (m := 3) (σ' := ⟨[(1, .p 0 0), (2, .p 1 0), (3, .p 2 0)], [GT.cells (α := TAct) a (), [I 0, I 0, I 0, I 0, I 0, I 0], [I a.kind, I a.m, I 0, I 0, I 0, I 0]]⟩) .nil (by kernel_rfl) ?_
  clear S; intro ac w β S
  refine RG.done rfl (nx_then ?_)
  refine wp_seq ?_
  refine RG.start ?_
  refine S.quiet (k := 4) (keep := [1, 2, 3]) (m := 3) (σ' := ⟨[(1, .p 0 0), (2, .p 1 0), (3, .p 2 0)], [GT.cells (α := TAct) a (), [I 0, I 0, I 0, I 0, I 0, I 0], [I a.kind, I a.m, I a.g, I 0, I 0, I 0]]⟩) .nil (by kernel_rfl) ?_
  clear S; intro ac w β S
  refine RG.done rfl (nx_then ?_)
  refine wp_seq ?_
  refine RG.start ?_
  refine S.quiet (k := 4) (keep := [1, 2, 3]) (m := 3) (σ' := ⟨[(1, .p 0 0), (2, .p 1 0), (3, .p 2 0)], [GT.cells (α := TAct) a (), [I 0, I 0, I 0, I 0, I 0, I 0], [I a.kind, I a.m, I a.g, I a.x, I 0, I 0]]⟩) .nil (by kernel_rfl) ?_
  clear S; intro ac w β S
  refine RG.done rfl (nx_then ?_)
  refine wp_seq ?_
  refine RG.start ?_
  refine S.quiet (k := 4) (keep := [1, 2, 3]) (m := 3) (σ' := ⟨[(1, .p 0 0), (2, .p 1 0), (3, .p 2 0)], [GT.cells (α := TAct) a (), [I 0, I 0, I 0, I 0, I 0, I 0], [I a.kind, I a.m, I a.g, I a.x, I a.y, I 0]]⟩) .nil (by kernel_rfl) ?_
  clear S; intro ac w β S
  refine RG.done rfl (nx_then ?_)
  refine wp_seq ?_
  refine RG.start ?_
  refine S.quiet (k := 4) (keep := [2, 3]) (m := 3) (σ' := ⟨[(2, .p 1 0), (3, .p 2 0)], [GT.cells (α := TAct) a (), [I 0, I 0, I 0, I 0, I 0, I 0], [I a.kind, I a.m, I a.g, I a.x, I a.y, I a.z]]⟩) .nil (by kernel_rfl) ?_
  clear S; intro ac w β S
  refine RG.done rfl (nx_then ?_)
  refine wp_seq ?_
  refine RG.start ?_
  refine S.quiet (k := 2) (keep := [2]) (m := 2) (σ' := ⟨[(2, .p 1 0)], [GT.cells (α := TAct) a (), [I a.kind, I a.m, I a.g, I a.x, I a.y, I a.z]]⟩) .nil (by kernel_rfl) ?_
  clear S; intro ac w β S
  refine RG.done rfl (nx_then ?_)
  refine wp_ret ?_
  refine S.ret (vs := [GT.val (α := TAct) (⟨a.kind, a.m, a.g, a.x, a.y, a.z⟩ : TAct) ()]) (by kernel_rfl) ?_
  exact ⟨retV (p := ()) (show (⟨a.kind, a.m, a.g, a.x, a.y, a.z⟩ : TAct) = a by clear S; first | rfl | (simp [a, *]; done) | (simp [a, *]; omega) | (simp_all [a]; done) | (simp_all [a]; omega)), S.chg⟩

set_option maxRecDepth 100000 in
theorem c_spec_ActOk (w0 : World) (a : TAct) : Calls Go.Proofs.Try.prog 11 [GT.val (α := TAct) a ()].toArray w0 (fun e w' => e = .returned (B (f_actOk a)) ∧ Chg NoB w0 w') := by
  refine Calls.walk (args := [GT.val (α := TAct) a ()]) NoB Go.Proofs.Try.func11 rfl rfl ?_
  intro ac β S
  refine wp_seq ?_
  refine RG.start ?_
  refine S.quiet (k := 2) (keep := [1]) (m := 1) (σ' := ⟨[(1, .p 0 0)], [GT.cells (α := TAct) a ()]⟩) .nil (by kernel_rfl) ?_
  clear S; intro ac w β S
  refine RG.done rfl (nx_then ?_)
  refine wp_seq ?_
  refine RG.start ?_
  refine S.quiet (k := 4) (keep := [2]) (m := 0) (σ' := ⟨[(2, .v (B (f_within a.kind 1 17)))], []⟩) (.cons (Q_call fun w hw => c_spec_l01In w a.kind 1 17) .nil) (by kernel_rfl) ?_
  clear S; intro ac w β S
  refine RG.done rfl (nx_then ?_)
  refine wp_ret ?_
  refine S.ret (vs := [B (f_within a.kind 1 17)]) (by kernel_rfl) ?_
  exact ⟨retB (show (f_within a.kind 1 17) = f_actOk a by clear S; first | rfl | (simp [f_actOk, *]; done) | (simp [f_actOk, *]; omega) | (simp_all [f_actOk]; done) | (simp_all [f_actOk]; omega)), S.chg⟩

set_option maxRecDepth 100000 in
theorem c_impl_ActOk (w0 : World) (a : TAct) : Calls Go.Proofs.Try.prog 13 [GT.val (α := TAct) a ()].toArray w0 (fun e w' => e = .returned (B (f_actOk a)) ∧ Chg NoB w0 w') := by
  refine Calls.walk (args := [GT.val (α := TAct) a ()]) NoB Go.Proofs.Try.func13 rfl rfl ?_
  intro ac β S
  refine wp_seq ?_
  refine RG.start ?_
  refine S.quiet (k := 2) (keep := [1]) (m := 1) (σ' := ⟨[(1, .p 0 0)], [GT.cells (α := TAct) a ()]⟩) .nil (by kernel_rfl) ?_
  clear S; intro ac w β S
  refine RG.done rfl (nx_then ?_)
  refine wp_seq ?_
  refine RG.start ?_
  refine S.quiet (k := 4) (keep := [2]) (m := 0) (σ' := ⟨[(2, .v (B (f_within a.kind 1 17)))], []⟩) (.cons (Q_call fun w hw => c_impl_within w a.kind 1 17) .nil) (by kernel_rfl) ?_
  clear S; intro ac w β S
  refine RG.done rfl (nx_then ?_)
  refine wp_ret ?_
  refine S.ret (vs := [B (f_within a.kind 1 17)]) (by kernel_rfl) ?_
  exact ⟨retB (show (f_within a.kind 1 17) = f_actOk a by clear S; first | rfl | (simp [f_actOk, *]; done) | (simp [f_actOk, *]; omega) | (simp_all [f_actOk]; done) | (simp_all [f_actOk]; omega)), S.chg⟩

set_option maxRecDepth 100000 in
theorem c_laws_FnExactActOk (w0 : World) (aA : TAct) : Calls Go.Proofs.Try.prog 4 [GT.val (α := TAct) aA ()].toArray w0 (fun e w' => e = .returned (B true) ∧ Chg NoB w0 w') := by
  refine Calls.walk (args := [GT.val (α := TAct) aA ()]) NoB Go.Proofs.Try.func4 rfl rfl ?_
  intro ac β S
  refine wp_seq ?_
  refine RG.start ?_
  refine S.quiet (k := 2) (keep := [1]) (m := 1) (σ' := ⟨[(1, .p 0 0)], [GT.cells (α := TAct) aA ()]⟩) .nil (by kernel_rfl) ?_
  clear S; intro ac w β S
  refine RG.done rfl (nx_then ?_)
  refine wp_seq ?_
  refine RG.start ?_
  refine S.quiet (k := 4) (keep := [1, 3]) (m := 1) (σ' := ⟨[(1, .p 0 0), (3, .v (B (f_actOk aA)))], [GT.cells (α := TAct) aA ()]⟩) (.cons (Q_call fun w hw => c_laws_toAct w aA) (.cons (Q_call fun w hw => c_spec_ActOk w aA) .nil)) (by kernel_rfl) ?_
  clear S; intro ac w β S
  refine RG.done rfl (nx_then ?_)
  refine wp_seq ?_
  refine RG.start ?_
  refine S.quiet (k := 4) (keep := [3, 4]) (m := 0) (σ' := ⟨[(3, .v (B (f_actOk aA))), (4, .v (B (f_actOk aA)))], []⟩) (.cons (Q_call fun w hw => c_laws_toAct w aA) (.cons (Q_call fun w hw => c_impl_ActOk w aA) .nil)) (by kernel_rfl) ?_
  clear S; intro ac w β S
  refine RG.done rfl (nx_then ?_)
  refine wp_seq ?_
  refine wp_seq ?_
  refine RG.start ?_
  refine S.quiet (k := 3) (keep := [13]) (m := 0) (σ' := ⟨[(13, .v (B (!((f_actOk aA) == (f_actOk aA)))))], []⟩) .nil (by kernel_rfl) ?_
  clear S; intro ac w β S
  refine RG.done rfl (nx_then ?_)
  refine S.cond (e := (!((f_actOk aA) == (f_actOk aA)))) (by kernel_rfl) (fun h1 => ?_) (fun h1 => ?_)
  · have h2 : ((f_actOk aA) == (f_actOk aA)) = false := not_t h1
    refine wp_seq ?_
    refine RG.start ?_
    refine S.quiet (k := 1) (keep := [2]) (m := 0) (σ' := ⟨[(2, .v (B false))], []⟩) .nil (by kernel_rfl) ?_
    clear S; intro ac w β S
    refine RG.done rfl (nx_then ?_)
    refine wp_ret (rt_then ?_)
    refine S.ret (vs := [B false]) (by kernel_rfl) ?_
    exact ⟨retB (show false = true by clear S; first | rfl | (exfalso; omega) | (exfalso; simp_all [f_marksTold_len, f_marksAct_len]; done) | (exfalso; simp_all [f_marksTold_len, f_marksAct_len]; omega)), S.chg⟩
  · have h3 : ((f_actOk aA) == (f_actOk aA)) = true := not_f h1
    refine wp_skip (nx_then ?_)
    refine wp_seq ?_
    refine RG.start ?_
    refine S.quiet (k := 1) (keep := [2]) (m := 0) (σ' := ⟨[(2, .v (B true))], []⟩) .nil (by kernel_rfl) ?_
    clear S; intro ac w β S
    refine RG.done rfl (nx_then ?_)
    refine wp_ret ?_
    refine S.ret (vs := [B true]) (by kernel_rfl) ?_
    exact ⟨retB (show true = true by clear S; first | rfl | (exfalso; omega) | (exfalso; simp_all [f_marksTold_len, f_marksAct_len]; done) | (exfalso; simp_all [f_marksTold_len, f_marksAct_len]; omega)), S.chg⟩

set_option maxRecDepth 100000 in
theorem c_spec_CtlOf (w0 : World) (a : TAct) : Calls Go.Proofs.Try.prog 14 [GT.val (α := TAct) a ()].toArray w0 (fun e w' => e = .returned (GT.val (α := TCtl) (f_ctlOf a) ()) ∧ Chg NoB w0 w') := by
  refine Calls.walk (args := [GT.val (α := TAct) a ()]) NoB Go.Proofs.Try.func14 rfl rfl ?_
  intro ac β S
  refine wp_seq ?_
  refine RG.start ?_
  refine S.quiet (k := 2) (keep := [1, 2]) (m := 2) (σ' := ⟨[(1, .p 0 0), (2, .p 1 0)], [GT.cells (α := TAct) a (), [I 0, I 0, B false]]⟩) .nil (by kernel_rfl) ?_
  clear S; intro ac w β S
  refine RG.done rfl (nx_then ?_)
  refine wp_seq ?_
  refine RG.start ?_
  refine S.quiet (k := 9) (keep := [2]) (m := 2) (σ' := ⟨[(2, .p 1 0)], [GT.cells (α := TAct) a (), [I a.x, I a.y, B (a.z == 1)]]⟩) (.cons (Q_sem (s := Instr.build 30 [(0, I a.x), (1, I a.y), (2, B (a.z == 1))].toArray) (v := .agg [I a.x, I a.y, B (a.z == 1)].toArray) (fun w => by kernel_rfl)) .nil) (by kernel_rfl) ?_
  clear S; intro ac w β S
  refine RG.done rfl (nx_then ?_)
  refine wp_ret ?_
  refine S.ret (vs := [GT.val (α := TCtl) (⟨a.x, a.y, (a.z == 1)⟩ : TCtl) ()]) (by kernel_rfl) ?_
  exact ⟨retV (p := ()) (show (⟨a.x, a.y, (a.z == 1)⟩ : TCtl) = f_ctlOf a by clear S; first | rfl | (simp [f_ctlOf, *]; done) | (simp [f_ctlOf, *]; omega) | (simp_all [f_ctlOf]; done) | (simp_all [f_ctlOf]; omega)), S.chg⟩

set_option maxRecDepth 100000 in
theorem c_impl_CtlOf (w0 : World) (a : TAct) : Calls Go.Proofs.Try.prog 15 [GT.val (α := TAct) a ()].toArray w0 (fun e w' => e = .returned (GT.val (α := TCtl) (f_ctlOf a) ()) ∧ Chg NoB w0 w') := by
  refine Calls.walk (args := [GT.val (α := TAct) a ()]) NoB Go.Proofs.Try.func15 rfl rfl ?_
  intro ac β S
  refine wp_seq ?_
  refine RG.start ?_
  refine S.quiet (k := 2) (keep := [1, 2]) (m := 2) (σ' := ⟨[(1, .p 0 0), (2, .p 1 0)], [GT.cells (α := TAct) a (), [I 0, I 0, B false]]⟩) .nil (by kernel_rfl) ?_
  clear S; intro ac w β S
  refine RG.done rfl (nx_then ?_)
  refine wp_seq ?_
  refine RG.start ?_
  refine S.quiet (k := 9) (keep := [2]) (m := 2) (σ' := ⟨[(2, .p 1 0)], [GT.cells (α := TAct) a (), [I a.x, I a.y, B (a.z == 1)]]⟩) (.cons (Q_sem (s := Instr.build 30 [(0, I a.x), (1, I a.y), (2, B (a.z == 1))].toArray) (v := .agg [I a.x, I a.y, B (a.z == 1)].toArray) (fun w => by kernel_rfl)) .nil) (by kernel_rfl) ?_
  clear S; intro ac w β S
  refine RG.done rfl (nx_then ?_)
  refine wp_ret ?_
  refine S.ret (vs := [GT.val (α := TCtl) (⟨a.x, a.y, (a.z == 1)⟩ : TCtl) ()]) (by kernel_rfl) ?_
  exact ⟨retV (p := ()) (show (⟨a.x, a.y, (a.z == 1)⟩ : TCtl) = f_ctlOf a by clear S; first | rfl | (simp [f_ctlOf, *]; done) | (simp [f_ctlOf, *]; omega) | (simp_all [f_ctlOf]; done) | (simp_all [f_ctlOf]; omega)), S.chg⟩

set_option maxRecDepth 100000 in
theorem c_laws_eqCtl (w0 : World) (a : TCtl) (b : TCtl) : Calls Go.Proofs.Try.prog 16 [GT.val (α := TCtl) a (), GT.val (α := TCtl) b ()].toArray w0 (fun e w' => e = .returned (B (decide (a = b))) ∧ Chg NoB w0 w') := by
  refine Calls.walk (args := [GT.val (α := TCtl) a (), GT.val (α := TCtl) b ()]) NoB Go.Proofs.Try.func16 rfl rfl ?_
  intro ac β S
  refine wp_seq ?_
  refine RG.start ?_
  refine S.quiet (k := 3) (keep := [2, 3]) (m := 2) (σ' := ⟨[(2, .p 0 0), (3, .p 1 0)], [GT.cells (α := TCtl) a (), GT.cells (α := TCtl) b ()]⟩) .nil (by kernel_rfl) ?_
  clear S; intro ac w β S
  refine RG.done rfl (nx_then ?_)
  refine wp_seq ?_
  refine wp_seq ?_
  refine RG.start ?_
  refine S.quiet (k := 5) (keep := [2, 3, 9]) (m := 2) (σ' := ⟨[(2, .p 0 0), (3, .p 1 0), (9, .v (B (a.traps != b.traps)))], [GT.cells (α := TCtl) a (), GT.cells (α := TCtl) b ()]⟩) .nil (by kernel_rfl) ?_
  clear S; intro ac w β S
  refine RG.done rfl (nx_then ?_)
  refine S.cond (e := (a.traps != b.traps)) (by kernel_rfl) (fun h1 => ?_) (fun h1 => ?_)
  · have g2 : ¬ (a.traps = b.traps) := bne_iff_ne.1 h1
    refine wp_seq ?_
    refine RG.start ?_
    refine S.quiet (k := 1) (keep := [4]) (m := 0) (σ' := ⟨[(4, .v (B false))], []⟩) .nil (by kernel_rfl) ?_
    clear S; intro ac w β S
    refine RG.done rfl (nx_then ?_)
    refine wp_ret (rt_then ?_)
    refine S.ret (vs := [B false]) (by kernel_rfl) ?_
    exact ⟨retB (show false = decide (a = b) by clear S; first | (simp [TCtl.ext_iff, *]; done) | (simp_all [TCtl.ext_iff]; done)), S.chg⟩
  · have g3 : a.traps = b.traps := ne_f h1
    refine wp_skip (nx_then ?_)
    refine wp_seq ?_
    refine wp_seq ?_
    refine RG.start ?_
    refine S.quiet (k := 5) (keep := [2, 3, 14]) (m := 2) (σ' := ⟨[(2, .p 0 0), (3, .p 1 0), (14, .v (B (a.post != b.post)))], [GT.cells (α := TCtl) a (), GT.cells (α := TCtl) b ()]⟩) .nil (by kernel_rfl) ?_
    clear S; intro ac w β S
    refine RG.done rfl (nx_then ?_)
    refine S.cond (e := (a.post != b.post)) (by kernel_rfl) (fun h4 => ?_) (fun h4 => ?_)
    · have g5 : ¬ (a.post = b.post) := bne_iff_ne.1 h4
      refine wp_seq ?_
      refine RG.start ?_
      refine S.quiet (k := 1) (keep := [4]) (m := 0) (σ' := ⟨[(4, .v (B false))], []⟩) .nil (by kernel_rfl) ?_
      clear S; intro ac w β S
      refine RG.done rfl (nx_then ?_)
      refine wp_ret (rt_then ?_)
      refine S.ret (vs := [B false]) (by kernel_rfl) ?_
      exact ⟨retB (show false = decide (a = b) by clear S; first | (simp [TCtl.ext_iff, *]; done) | (simp_all [TCtl.ext_iff]; done)), S.chg⟩
    · have g6 : a.post = b.post := ne_f h4
      refine wp_skip (nx_then ?_)
      refine wp_seq ?_
      refine wp_seq ?_
      refine RG.start ?_
      refine S.quiet (k := 5) (keep := [19]) (m := 0) (σ' := ⟨[(19, .v (B (!(a.opn == b.opn))))], []⟩) .nil (by kernel_rfl) ?_
      clear S; intro ac w β S
      refine RG.done rfl (nx_then ?_)
      refine S.cond (e := (!(a.opn == b.opn))) (by kernel_rfl) (fun h7 => ?_) (fun h7 => ?_)
      · have h8 : (a.opn == b.opn) = false := not_t h7
        refine wp_seq ?_
        refine RG.start ?_
        refine S.quiet (k := 1) (keep := [4]) (m := 0) (σ' := ⟨[(4, .v (B false))], []⟩) .nil (by kernel_rfl) ?_
        clear S; intro ac w β S
        refine RG.done rfl (nx_then ?_)
        refine wp_ret (rt_then ?_)
        refine S.ret (vs := [B false]) (by kernel_rfl) ?_
        exact ⟨retB (show false = decide (a = b) by clear S; first | (simp [TCtl.ext_iff, *]; done) | (simp_all [TCtl.ext_iff]; done)), S.chg⟩
      · have h9 : (a.opn == b.opn) = true := not_f h7
        refine wp_skip (nx_then ?_)
        refine wp_seq ?_
        refine RG.start ?_
        refine S.quiet (k := 1) (keep := [4]) (m := 0) (σ' := ⟨[(4, .v (B true))], []⟩) .nil (by kernel_rfl) ?_
        clear S; intro ac w β S
        refine RG.done rfl (nx_then ?_)
        refine wp_ret ?_
        refine S.ret (vs := [B true]) (by kernel_rfl) ?_
        exact ⟨retB (show true = decide (a = b) by clear S; first | (simp [TCtl.ext_iff, *]; done) | (simp_all [TCtl.ext_iff]; done)), S.chg⟩

set_option maxRecDepth 100000 in
theorem c_laws_FnExactCtlOf (w0 : World) (aA : TAct) : Calls Go.Proofs.Try.prog 5 [GT.val (α := TAct) aA ()].toArray w0 (fun e w' => e = .returned (B true) ∧ Chg NoB w0 w') := by
  refine Calls.walk (args := [GT.val (α := TAct) aA ()]) NoB Go.Proofs.Try.func5 rfl rfl ?_
  intro ac β S
  refine wp_seq ?_
  refine RG.start ?_
  refine S.quiet (k := 2) (keep := [1]) (m := 1) (σ' := ⟨[(1, .p 0 0)], [GT.cells (α := TAct) aA ()]⟩) .nil (by kernel_rfl) ?_
  clear S; intro ac w β S
  refine RG.done rfl (nx_then ?_)
  refine wp_seq ?_
  refine RG.start ?_
  refine S.quiet (k := 5) (keep := [1, 3]) (m := 2) (σ' := ⟨[(1, .p 0 0), (3, .p 1 0)], [GT.cells (α := TAct) aA (), GT.cells (α := TCtl) (f_ctlOf aA) ()]⟩) (.cons (Q_call fun w hw => c_laws_toAct w aA) (.cons (Q_call fun w hw => c_spec_CtlOf w aA) .nil)) (by kernel_rfl) ?_
  clear S; intro ac w β S
  refine RG.done rfl (nx_then ?_)
  refine wp_seq ?_
  refine RG.start ?_
  refine S.quiet (k := 5) (keep := [3, 4]) (m := 3) (σ' := ⟨[(3, .p 1 0), (4, .p 2 0)], [GT.cells (α := TAct) aA (), GT.cells (α := TCtl) (f_ctlOf aA) (), GT.cells (α := TCtl) (f_ctlOf aA) ()]⟩) (.cons (Q_call fun w hw => c_laws_toAct w aA) (.cons (Q_call fun w hw => c_impl_CtlOf w aA) .nil)) (by kernel_rfl) ?_
  clear S; intro ac w β S
  refine RG.done rfl (nx_then ?_)
  refine wp_seq ?_
  refine wp_seq ?_
  refine RG.start ?_
  refine S.quiet (k := 4) (keep := [14]) (m := 0) (σ' := ⟨[(14, .v (B (!(decide ((f_ctlOf aA) = (f_ctlOf aA))))))], []⟩) (.cons (Q_call fun w hw => c_laws_eqCtl w (f_ctlOf aA) (f_ctlOf aA)) .nil) (by kernel_rfl) ?_
  clear S; intro ac w β S
  refine RG.done rfl (nx_then ?_)
  refine S.cond (e := (!(decide ((f_ctlOf aA) = (f_ctlOf aA))))) (by kernel_rfl) (fun h1 => ?_) (fun h1 => ?_)
  · have h2 : (decide ((f_ctlOf aA) = (f_ctlOf aA))) = false := not_t h1
    have g3 := of_decide_eq_false h2
    refine wp_seq ?_
    refine RG.start ?_
    refine S.quiet (k := 1) (keep := [2]) (m := 0) (σ' := ⟨[(2, .v (B false))], []⟩) .nil (by kernel_rfl) ?_
    clear S; intro ac w β S
    refine RG.done rfl (nx_then ?_)
    refine wp_ret (rt_then ?_)
    refine S.ret (vs := [B false]) (by kernel_rfl) ?_
    exact ⟨retB (show false = true by clear S; first | rfl | (exfalso; omega) | (exfalso; simp_all [f_marksTold_len, f_marksAct_len]; done) | (exfalso; simp_all [f_marksTold_len, f_marksAct_len]; omega)), S.chg⟩
  · have h4 : (decide ((f_ctlOf aA) = (f_ctlOf aA))) = true := not_f h1
    have g5 := of_decide_eq_true h4
    refine wp_skip (nx_then ?_)
    refine wp_seq ?_
    refine RG.start ?_
    refine S.quiet (k := 1) (keep := [2]) (m := 0) (σ' := ⟨[(2, .v (B true))], []⟩) .nil (by kernel_rfl) ?_
    clear S; intro ac w β S
    refine RG.done rfl (nx_then ?_)
    refine wp_ret ?_
    refine S.ret (vs := [B true]) (by kernel_rfl) ?_
    exact ⟨retB (show true = true by clear S; first | rfl | (exfalso; omega) | (exfalso; simp_all [f_marksTold_len, f_marksAct_len]; done) | (exfalso; simp_all [f_marksTold_len, f_marksAct_len]; omega)), S.chg⟩

set_option maxRecDepth 100000 in
theorem c_laws_szToldS (w0 : World) (a : List TTold) (pa : LP TTold) (ha : GT.rd KR (Lt w0.heap.size) w0 a pa) (left : Int) (pre0 : -1 ≤ left) (pre1 : left ≤ 4194304) : Calls Go.Proofs.Try.prog 17 [slv (a).length pa.1, I left].toArray w0 (fun e w' => e = .returned (I (f_sz a.length left)) ∧ Chg NoB w0 w') := by
  refine Calls.walk (args := [slv (a).length pa.1, I left]) NoB Go.Proofs.Try.func17 rfl rfl ?_
  intro ac β S
  have hlea : a.length ≤ 9223372036854775807 := LRd.le ha
  refine wp_seq ?_
  refine RG.start ?_
  refine S.quiet (k := 1) (keep := [0, 1]) (m := 0) (σ' := ⟨[(0, .v (slv (a).length pa.1)), (1, .v (I left))], []⟩) .nil (by kernel_rfl) ?_
  clear S; intro ac w β S
  refine RG.done rfl (nx_then ?_)
  refine wp_seq ?_
  refine RG.start ?_
  refine S.quiet (k := 5) (keep := [1]) (m := 0) (σ' := ⟨[(1, .v (I (left - ((a).length : Int))))], []⟩) (.cons (Q_sub (x := left) (y := ((a).length : Int)) ⟨by omega, by omega⟩) .nil) (by kernel_rfl) ?_
  clear S; intro ac w β S
  refine RG.done rfl (nx_then ?_)
  refine wp_seq ?_
  refine wp_seq ?_
  refine RG.start ?_
  refine S.quiet (k := 2) (keep := [1, 10]) (m := 0) (σ' := ⟨[(1, .v (I (left - ((a).length : Int)))), (10, .v (B (decide ((left - ((a).length : Int)) < 0))))], []⟩) .nil (by kernel_rfl) ?_
  clear S; intro ac w β S
  refine RG.done rfl (nx_then ?_)
  refine S.cond (e := (decide ((left - ((a).length : Int)) < 0))) (by kernel_rfl) (fun h1 => ?_) (fun h1 => ?_)
  · have g2 : (left - ((a).length : Int)) < 0 := of_decide_eq_true h1
    refine wp_seq ?_
    refine RG.start ?_
    refine S.quiet (k := 1) (keep := [4]) (m := 0) (σ' := ⟨[(4, .v (I (-1)))], []⟩) .nil (by kernel_rfl) ?_
    clear S; intro ac w β S
    refine RG.done rfl (nx_then ?_)
    refine wp_ret (rt_then ?_)
    refine S.ret (vs := [I (-1)]) (by kernel_rfl) ?_
    exact ⟨retI (show (-1) = f_sz a.length left by clear S; first | rfl | (simp [f_sz, *]; done) | (simp [f_sz, *]; omega) | (simp_all [f_sz]; done) | (simp_all [f_sz]; omega)), S.chg⟩
  · have g3 : ¬ ((left - ((a).length : Int)) < 0) := of_decide_eq_false h1
    refine wp_skip (nx_then ?_)
    refine wp_seq ?_
    refine RG.start ?_
    refine S.quiet (k := 2) (keep := [4]) (m := 0) (σ' := ⟨[(4, .v (I (left - ((a).length : Int))))], []⟩) .nil (by kernel_rfl) ?_
    clear S; intro ac w β S
    refine RG.done rfl (nx_then ?_)
    refine wp_ret ?_
    refine S.ret (vs := [I (left - ((a).length : Int))]) (by kernel_rfl) ?_
    exact ⟨retI (show (left - ((a).length : Int)) = f_sz a.length left by clear S; first | rfl | (simp [f_sz, *]; done) | (simp [f_sz, *]; omega) | (simp_all [f_sz]; done) | (simp_all [f_sz]; omega)), S.chg⟩

set_option maxRecDepth 100000 in
theorem c_laws_toTold (w0 : World) (a : TTold) : Calls Go.Proofs.Try.prog 35 [GT.val (α := TTold) a ()].toArray w0 (fun e w' => e = .returned (GT.val (α := TTold) a ()) ∧ Chg NoB w0 w') := by
  refine Calls.walk (args := [GT.val (α := TTold) a ()]) NoB Go.Proofs.Try.func35 rfl rfl ?_
  intro ac β S
  refine wp_seq ?_
  refine RG.start ?_
  refine S.quiet (k := 2) (keep := [1, 2]) (m := 2) (σ' := ⟨[(1, .p 0 0), (2, .p 1 0)], [GT.cells (α := TTold) a (), [B false, I 0]]⟩) .nil (by kernel_rfl) ?_
  clear S; intro ac w β S
  refine RG.done rfl (nx_then ?_)
  refine wp_seq ?_
  refine RG.start ?_
  refine S.quiet (k := 1) (keep := [1, 2, 3]) (m := 3) (σ' := ⟨[(1, .p 0 0), (2, .p 1 0), (3, .p 2 0)], [GT.cells (α := TTold) a (), [B false, I 0], [B false, I 0]]⟩) .nil (by kernel_rfl) ?_
  clear S; intro ac w β S
  refine RG.done rfl (nx_then ?_)
  refine wp_seq ?_
  refine RG.start ?_
  refine S.quiet (k := 4) (keep := [1, 2, 3]) (m := 3) (σ' := ⟨[(1, .p 0 0), (2, .p 1 0), (3, .p 2 0)], [GT.cells (α := TTold) a (), [B false, I 0], [B a.ok, I 0]]⟩) .nil (by kernel_rfl) ?_
  clear S; intro ac w β S
  refine RG.done rfl (nx_then ?_)
  refine wp_seq ?_
  refine RG.start ?_
  refine S.quiet (k := 4) (keep := [2, 3]) (m := 3) (σ' := ⟨[(2, .p 1 0), (3, .p 2 0)], [GT.cells (α := TTold) a (), [B false, I 0], [B a.ok, I a.n]]⟩) .nil (by kernel_rfl) ?_
  clear S; intro ac w β S
  refine RG.done rfl (nx_then ?_)
  refine wp_seq ?_
  refine RG.start ?_
  refine S.quiet (k := 2) (keep := [2]) (m := 2) (σ' := ⟨[(2, .p 1 0)], [GT.cells (α := TTold) a (), [B a.ok, I a.n]]⟩) .nil (by kernel_rfl) ?_
  clear S; intro ac w β S
  refine RG.done rfl (nx_then ?_)
  refine wp_ret ?_
  refine S.ret (vs := [GT.val (α := TTold) (⟨a.ok, a.n⟩ : TTold) ()]) (by kernel_rfl) ?_
  exact ⟨retV (p := ()) (show (⟨a.ok, a.n⟩ : TTold) = a by clear S; first | rfl | (simp [a, *]; done) | (simp [a, *]; omega) | (simp_all [a]; done) | (simp_all [a]; omega)), S.chg⟩

set_option maxRecDepth 100000 in
theorem c_laws_toToldS (w0 : World) (a : List TTold) (pa : LP TTold) (ha : GT.rd KK (Lt w0.heap.size) w0 a pa) : Calls Go.Proofs.Try.prog 19 [slv (a).length pa.1].toArray w0 (Ret1 NoB w0 (a : List TTold)) := by
  refine Calls.walk (args := [slv (a).length pa.1]) NoB Go.Proofs.Try.func19 rfl rfl ?_
  intro ac β S
  have hlea : a.length ≤ 4194304 := LRd.le ha
  refine wp_seq ?_
  refine RG.start ?_
  refine S.quiet (k := 1) (keep := [0]) (m := 0) (σ' := ⟨[(0, .v (slv (a).length pa.1))], []⟩) .nil (by kernel_rfl) ?_
  clear S; intro ac w β S
  refine RG.done rfl (nx_then ?_)
  refine wp_seq ?_
  refine RG.start ?_
  refine S.quiet (k := 2) (keep := [0, 6]) (m := 0) (σ' := ⟨[(0, .v (slv (a).length pa.1)), (6, .v (I ((a).length : Int)))], []⟩) .nil (by kernel_rfl) ?_
  clear S; intro ac w β S
  refine S.make (α := TTold) (m := (a).length) (by' := 16) (d := 7) (by kernel_rfl) (by omega) (show (a).length ≤ 4194304 by omega) ?_
  clear S; intro ac w N q1 F2 S up o3 d4
  clear up d4
  refine S.quiet (k := 1) (keep := [0, 3]) (m := 0) (σ' := ⟨[(0, .v (slv (a).length pa.1)), (3, .v (slv ((a).length) q1.1))], []⟩) .nil (by kernel_rfl) ?_
  clear S; intro ac w β S
  refine RG.done rfl (nx_then ?_)
  refine wp_seq ?_
  refine wp_seq ?_
  refine RG.start ?_
  refine S.quiet (k := 1) (keep := [0, 3, 4]) (m := 0) (σ' := ⟨[(0, .v (slv (a).length pa.1)), (3, .v (slv ((a).length) q1.1)), (4, .v (I 0))], []⟩) .nil (by kernel_rfl) ?_
  clear S; intro ac w β S
  refine RG.done rfl (nx_then ?_)
  refine wp_block ?_
  replace S := S.prune (keep := [0, 3, 4]) (m := 0) (σ' := ⟨[(0, .v (slv (a).length pa.1)), (3, .v (slv ((a).length) q1.1)), (4, .v (I 0))], []⟩) (by kernel_rfl)
  refine wp_loop_down (fun mm ac w => ∃ (k : Nat) (acc : List TTold) (q5 : GT.Ptr (List TTold)) (F6 : Bl) (u : World) (N : Bl) (β : Nat → Nat), mm = a.length - k ∧ (k ≤ a.length) ∧ (acc = a.take k ++ List.replicate (a.length - k) (GT.dflt : TTold)) ∧ St Go.Proofs.Try.prog Go.Proofs.Try.f19.ntmps w0 NoB u N β ⟨[(0, .v (slv (a).length pa.1)), (3, .v (slv a.length q5.1)), (4, .v (I (k : Int)))], []⟩ ac w ∧ Ow w0 NoB u N F6 acc q5) _ ⟨0, (List.replicate ((a).length) (GT.dflt : TTold)), q1, F2, _, _, _, rfl, (by first | omega | (simp; done) | (simp; omega)), (by simp), S.cast (by kernel_rfl), o3⟩ ?_
  clear S o3
  rintro mm ac w ⟨k, acc, q5, F6, u, N, β, rfl, hk, hacc, S, o7⟩
  have hlacc : acc.length = a.length := by rw [hacc]; simp; omega
  refine wp_seq ?_
  refine wp_seq ?_
  refine RG.start ?_
  refine S.quiet (k := 4) (keep := [0, 3, 4, 11]) (m := 0) (σ' := ⟨[(0, .v (slv (a).length pa.1)), (3, .v (slv a.length q5.1)), (4, .v (I (k : Int))), (11, .v (B (decide ((k : Int) < ((a).length : Int)))))], []⟩) .nil (by kernel_rfl) ?_
  clear S; intro ac w β S
  refine RG.done rfl (nx_then ?_)
  refine S.cond (e := (decide ((k : Int) < ((a).length : Int)))) (by kernel_rfl) (fun h8 => ?_) (fun h8 => ?_)
  · have g9 : (k : Int) < ((a).length : Int) := of_decide_eq_true h8
    refine wp_skip (nx_then ?_)
    refine wp_seq ?_
    refine wp_block ?_
    refine RG.start ?_
    refine S.quiet (k := 8) (keep := [0, 3, 4, 20, 21]) (m := 0) (σ' := ⟨[(0, .v (slv (a).length pa.1)), (3, .v (slv a.length q5.1)), (4, .v (I (k : Int))), (20, .v (GT.val (α := TTold) ((el a k)) ())), (21, .v (pt q5.1.b (q5.1.off + k * 2)))], []⟩) (.cons (Q_idx (S.arg ha) (l := (a).length) (k := k) rfl rfl (by omega) Go.Proofs.Try.underlying33 (by kernel_rfl)) (.cons (Q_el (S.arg ha) (t := 54) (k := k) (by omega) rfl (by kernel_rfl) (by kernel_rfl)) (.cons (Q_call fun w hw => c_laws_toTold w (el a k)) (.cons (Q_idx o7.rn (l := a.length) (k := k) (by rw [hacc]; simp; omega) rfl (by omega) Go.Proofs.Try.underlying36 (by kernel_rfl)) .nil)))) (by kernel_rfl) ?_
    clear S; intro ac w β S
    have e10 : RTold (el acc k) := (LRd.el o7.rn k (by omega))
    refine S.setEl (α := TTold) o7 (t := 52) (v := GT.val (α := TTold) ((el a k)) ()) (k := k) (j := 0) (off := q5.1.off + k * 2) (y := ((el a k))) (q := ()) (Fy := NoB) (by kernel_rfl) (by kernel_rfl) (by omega) (by kernel_rfl) (by kernel_rfl) (Nat.le_of_ble_eq_true (by kernel_rfl)) (by kernel_rfl) (fun _ _ => ⟨NoB, ((LRd.el (S.arg ha) k (by omega))), fun _ h => False.elim h⟩) (fun b _ h => False.elim h) (fun b h => False.elim h) (fun b h => False.elim h) ?_
    clear S; intro w N F12 q13 S up o11 d14 s15
    clear up d14 o7
    have l16 : (acc.set k ((el a k))).length = (acc).length := List.length_set
    replace S := S.prune (keep := [0, 3, 4]) (m := 0) (σ' := ⟨[(0, .v (slv (a).length pa.1)), (3, .v (slv a.length q5.1)), (4, .v (I (k : Int)))], []⟩) (by kernel_rfl)
    refine RG.done rfl (nx_block (nx_then ?_))
    refine RG.start ?_
    refine S.quiet (k := 3) (keep := [0, 3, 4]) (m := 0) (σ' := ⟨[(0, .v (slv (a).length pa.1)), (3, .v (slv a.length q5.1)), (4, .v (I ((k : Int) + 1)))], []⟩) (.cons (Q_add (x := (k : Int)) (y := 1) ⟨by omega, by omega⟩) .nil) (by kernel_rfl) ?_
    clear S; intro ac w β S
    refine RG.done rfl (nx_then ?_)
    replace S := S.prune (keep := [0, 3, 4]) (m := 0) (σ' := ⟨[(0, .v (slv (a).length pa.1)), (3, .v (slv a.length q5.1)), (4, .v (I ((k : Int) + 1)))], []⟩) (by kernel_rfl)
    refine ⟨a.length - (k + 1), by omega, k + 1, (acc.set k ((el a k))), (q5.1, q13), F12, _, _, _, rfl, ?_, ?_, S.cast (by kernel_rfl), o11⟩
    · clear S; first | omega | (simp [*]; done) | (simp [*]; omega)
    · clear S; rw [hacc]; exact set_step (by omega)
  · have g17 : ¬ ((k : Int) < ((a).length : Int)) := of_decide_eq_false h8
    refine wp_exit (ex_then (ex_then (ex_hit (nx_then ?_))))
    refine wp_seq ?_
    refine RG.start ?_
    refine S.quiet (k := 2) (keep := [2]) (m := 0) (σ' := ⟨[(2, .v (slv a.length q5.1))], []⟩) .nil (by kernel_rfl) ?_
    clear S; intro ac w β S
    refine RG.done rfl (nx_then ?_)
    refine wp_ret ?_
    refine S.ret (vs := [slv a.length q5.1]) (by kernel_rfl) ?_
    exact ret1_of S (show a = acc by clear S; rw [hacc, take_all (by omega), show a.length - k = 0 by omega]; simp) (by rw [show a.length = (acc).length from (by rw [hacc]; simp; omega)]; rfl) o7

set_option maxRecDepth 100000 in
theorem c_spec_SameTold (w0 : World) (a : List TTold) (pa : LP TTold) (ha : GT.rd KK (Lt w0.heap.size) w0 a pa) (b : List TTold) (pb : LP TTold) (hb : GT.rd KK (Lt w0.heap.size) w0 b pb) : Calls Go.Proofs.Try.prog 18 [slv (a).length pa.1, slv (b).length pb.1].toArray w0 (fun e w' => e = .returned (B (decide (a = b))) ∧ Chg NoB w0 w') := by
  refine Calls.walk (args := [slv (a).length pa.1, slv (b).length pb.1]) NoB Go.Proofs.Try.func18 rfl rfl ?_
  intro ac β S
  have hlea : a.length ≤ 4194304 := LRd.le ha
  have hleb : b.length ≤ 4194304 := LRd.le hb
  refine wp_seq ?_
  refine RG.start ?_
  refine S.quiet (k := 1) (keep := [0, 1]) (m := 0) (σ' := ⟨[(0, .v (slv (a).length pa.1)), (1, .v (slv (b).length pb.1))], []⟩) .nil (by kernel_rfl) ?_
  clear S; intro ac w β S
  refine RG.done rfl (nx_then ?_)
  refine wp_seq ?_
  refine wp_seq ?_
  refine RG.start ?_
  refine S.quiet (k := 5) (keep := [0, 1, 10]) (m := 0) (σ' := ⟨[(0, .v (slv (a).length pa.1)), (1, .v (slv (b).length pb.1)), (10, .v (B (((a).length : Int) != ((b).length : Int))))], []⟩) .nil (by kernel_rfl) ?_
  clear S; intro ac w β S
  refine RG.done rfl (nx_then ?_)
  refine S.cond (e := (((a).length : Int) != ((b).length : Int))) (by kernel_rfl) (fun h1 => ?_) (fun h1 => ?_)
  · have g2 : ¬ (((a).length : Int) = ((b).length : Int)) := bne_iff_ne.1 h1
    refine wp_seq ?_
    refine RG.start ?_
    refine S.quiet (k := 1) (keep := [4]) (m := 0) (σ' := ⟨[(4, .v (B false))], []⟩) .nil (by kernel_rfl) ?_
    clear S; intro ac w β S
    refine RG.done rfl (nx_then ?_)
    refine wp_ret (rt_then ?_)
    refine S.ret (vs := [B false]) (by kernel_rfl) ?_
    exact ⟨retB (show false = decide (a = b) by clear S; first | (simp; intro e; subst e; simp_all; done) | (simp; rw [take_all (by omega), take_all (by omega)] at he; exact he) | (simp; exact take_ne (by simp_all))), S.chg⟩
  · have g3 : ((a).length : Int) = ((b).length : Int) := ne_f h1
    refine wp_skip (nx_then ?_)
    refine wp_seq ?_
    refine wp_seq ?_
    refine RG.start ?_
    refine S.quiet (k := 1) (keep := [0, 1, 5]) (m := 0) (σ' := ⟨[(0, .v (slv (a).length pa.1)), (1, .v (slv (b).length pb.1)), (5, .v (I 0))], []⟩) .nil (by kernel_rfl) ?_
    clear S; intro ac w β S
    refine RG.done rfl (nx_then ?_)
    refine wp_block ?_
    replace S := S.prune (keep := [0, 1, 5]) (m := 0) (σ' := ⟨[(0, .v (slv (a).length pa.1)), (1, .v (slv (b).length pb.1)), (5, .v (I 0))], []⟩) (by kernel_rfl)
    refine wp_loop_down (fun mm ac w => ∃ (k : Nat)  (u : World) (N : Bl) (β : Nat → Nat), mm = a.length - k ∧ (k ≤ a.length) ∧ (a.length = b.length) ∧ (a.take k = b.take k) ∧ St Go.Proofs.Try.prog Go.Proofs.Try.f18.ntmps w0 NoB u N β ⟨[(0, .v (slv (a).length pa.1)), (1, .v (slv (b).length pb.1)), (5, .v (I (k : Int)))], []⟩ ac w) _ ⟨0, _, _, _, rfl, (by first | omega | (simp; done) | (simp; omega)), (by first | omega | (simp; done) | (simp; omega)), (by simp), S.cast (by kernel_rfl)⟩ ?_
    clear S
    rintro mm ac w ⟨k, u, N, β, rfl, hk, hab, he, S⟩
    refine wp_seq ?_
    refine wp_seq ?_
    refine RG.start ?_
    refine S.quiet (k := 4) (keep := [0, 1, 5, 14]) (m := 0) (σ' := ⟨[(0, .v (slv (a).length pa.1)), (1, .v (slv (b).length pb.1)), (5, .v (I (k : Int))), (14, .v (B (decide ((k : Int) < ((a).length : Int)))))], []⟩) .nil (by kernel_rfl) ?_
    clear S; intro ac w β S
    refine RG.done rfl (nx_then ?_)
    refine S.cond (e := (decide ((k : Int) < ((a).length : Int)))) (by kernel_rfl) (fun h4 => ?_) (fun h4 => ?_)
    · have g5 : (k : Int) < ((a).length : Int) := of_decide_eq_true h4
      refine wp_skip (nx_then ?_)
      refine wp_seq ?_
      refine wp_block ?_
      refine wp_seq ?_
      refine S.drawn (keep := [0, 1, 5, 25]) (m := 0) (σ' := ⟨[(0, .v (slv (a).length pa.1)), (1, .v (slv (b).length pb.1)), (5, .v (I (k : Int))), (25, .v (B (!decide ((el a k) = (el b k)))))], []⟩) (.cons (Q_idx (S.arg ha) (l := (a).length) (k := k) rfl rfl (by omega) Go.Proofs.Try.underlying36 (by kernel_rfl)) (.cons (Q_el (S.arg ha) (t := 52) (k := k) (by omega) rfl (by kernel_rfl) (by kernel_rfl)) (.cons (Q_idx (S.arg hb) (l := (b).length) (k := k) rfl rfl (by omega) Go.Proofs.Try.underlying36 (by kernel_rfl)) (.cons (Q_el (S.arg hb) (t := 52) (k := k) (by omega) rfl (by kernel_rfl) (by kernel_rfl)) (.cons (Eq_ne_Told (t := 52) (el a k) (el b k) (by kernel_rfl)) .nil))))) rfl (by kernel_rfl) (by kernel_rfl) ?_
      clear S; intro ac w S
      refine id (nx_then ?_)
      refine S.cond (e := (!decide ((el a k) = (el b k)))) (by kernel_rfl) (fun h6 => ?_) (fun h6 => ?_)
      · refine wp_seq ?_
        refine RG.start ?_
        refine S.quiet (k := 1) (keep := [4]) (m := 0) (σ' := ⟨[(4, .v (B false))], []⟩) .nil (by kernel_rfl) ?_
        clear S; intro ac w β S
        refine RG.done rfl (nx_then ?_)
        refine wp_ret (rt_block (rt_then (rt_then (rt_block (rt_then ?_)))))
        refine S.ret (vs := [B false]) (by kernel_rfl) ?_
        exact ⟨retB (show false = decide (a = b) by clear S; first | (simp; intro e; subst e; simp_all; done) | (simp; rw [take_all (by omega), take_all (by omega)] at he; exact he) | (simp; exact take_ne (by simp_all))), S.chg⟩
      · refine wp_skip (nx_block (nx_then ?_))
        refine RG.start ?_
        refine S.quiet (k := 3) (keep := [0, 1, 5]) (m := 0) (σ' := ⟨[(0, .v (slv (a).length pa.1)), (1, .v (slv (b).length pb.1)), (5, .v (I ((k : Int) + 1)))], []⟩) (.cons (Q_add (x := (k : Int)) (y := 1) ⟨by omega, by omega⟩) .nil) (by kernel_rfl) ?_
        clear S; intro ac w β S
        refine RG.done rfl (nx_then ?_)
        replace S := S.prune (keep := [0, 1, 5]) (m := 0) (σ' := ⟨[(0, .v (slv (a).length pa.1)), (1, .v (slv (b).length pb.1)), (5, .v (I ((k : Int) + 1)))], []⟩) (by kernel_rfl)
        refine ⟨a.length - (k + 1), by omega, k + 1, _, _, _, rfl, ?_, ?_, ?_, S.cast (by kernel_rfl)⟩
        · clear S; first | omega | (simp [*]; done) | (simp [*]; omega)
        · clear S; first | omega | (simp [*]; done) | (simp [*]; omega)
        · clear S; exact take_eq_step (by omega) (by omega) he (by simp_all)
    · have g7 : ¬ ((k : Int) < ((a).length : Int)) := of_decide_eq_false h4
      refine wp_exit (ex_then (ex_then (ex_hit (nx_then ?_))))
      refine wp_seq ?_
      refine RG.start ?_
      refine S.quiet (k := 1) (keep := [4]) (m := 0) (σ' := ⟨[(4, .v (B true))], []⟩) .nil (by kernel_rfl) ?_
      clear S; intro ac w β S
      refine RG.done rfl (nx_then ?_)
      refine wp_ret ?_
      refine S.ret (vs := [B true]) (by kernel_rfl) ?_
      exact ⟨retB (show true = decide (a = b) by clear S; first | (simp; intro e; subst e; simp_all; done) | (simp; rw [take_all (by omega), take_all (by omega)] at he; exact he) | (simp; exact take_ne (by simp_all))), S.chg⟩

set_option maxRecDepth 100000 in
theorem c_slices_Equal___impl_Told_impl_Told_ (w0 : World) (a : List TTold) (pa : LP TTold) (ha : GT.rd KK (Lt w0.heap.size) w0 a pa) (b : List TTold) (pb : LP TTold) (hb : GT.rd KK (Lt w0.heap.size) w0 b pb) : Calls Go.Proofs.Try.prog 36 [slv (a).length pa.1, slv (b).length pb.1].toArray w0 (fun e w' => e = .returned (B (decide (a = b))) ∧ Chg NoB w0 w') := by
  refine Calls.walk (args := [slv (a).length pa.1, slv (b).length pb.1]) NoB Go.Proofs.Try.func36 rfl rfl ?_
  intro ac β S
  have hlea : a.length ≤ 4194304 := LRd.le ha
  have hleb : b.length ≤ 4194304 := LRd.le hb
  refine wp_seq ?_
  refine RG.start ?_
  refine S.quiet (k := 1) (keep := [0, 1]) (m := 0) (σ' := ⟨[(0, .v (slv (a).length pa.1)), (1, .v (slv (b).length pb.1))], []⟩) .nil (by kernel_rfl) ?_
  clear S; intro ac w β S
  refine RG.done rfl (nx_then ?_)
  refine wp_seq ?_
  refine wp_seq ?_
  refine RG.start ?_
  refine S.quiet (k := 5) (keep := [0, 1, 10]) (m := 0) (σ' := ⟨[(0, .v (slv (a).length pa.1)), (1, .v (slv (b).length pb.1)), (10, .v (B (((a).length : Int) != ((b).length : Int))))], []⟩) .nil (by kernel_rfl) ?_
  clear S; intro ac w β S
  refine RG.done rfl (nx_then ?_)
  refine S.cond (e := (((a).length : Int) != ((b).length : Int))) (by kernel_rfl) (fun h1 => ?_) (fun h1 => ?_)
  · have g2 : ¬ (((a).length : Int) = ((b).length : Int)) := bne_iff_ne.1 h1
    refine wp_seq ?_
    refine RG.start ?_
    refine S.quiet (k := 1) (keep := [4]) (m := 0) (σ' := ⟨[(4, .v (B false))], []⟩) .nil (by kernel_rfl) ?_
    clear S; intro ac w β S
    refine RG.done rfl (nx_then ?_)
    refine wp_ret (rt_then ?_)
    refine S.ret (vs := [B false]) (by kernel_rfl) ?_
    exact ⟨retB (show false = decide (a = b) by clear S; first | (simp; intro e; subst e; simp_all; done) | (simp; rw [take_all (by omega), take_all (by omega)] at he; exact he) | (simp; exact take_ne (by simp_all))), S.chg⟩
  · have g3 : ((a).length : Int) = ((b).length : Int) := ne_f h1
    refine wp_skip (nx_then ?_)
    refine wp_seq ?_
    refine wp_seq ?_
    refine RG.start ?_
    refine S.quiet (k := 3) (keep := [0, 1, 12, 13]) (m := 0) (σ' := ⟨[(0, .v (slv (a).length pa.1)), (1, .v (slv (b).length pb.1)), (12, .v (I ((a).length : Int))), (13, .v (I 0))], []⟩) .nil (by kernel_rfl) ?_
    clear S; intro ac w β S
    refine RG.done rfl (nx_then ?_)
    refine wp_block ?_
    replace S := S.prune (keep := [0, 1, 12, 13]) (m := 0) (σ' := ⟨[(0, .v (slv (a).length pa.1)), (1, .v (slv (b).length pb.1)), (12, .v (I ((a).length : Int))), (13, .v (I 0))], []⟩) (by kernel_rfl)
    refine wp_loop_down (fun mm ac w => ∃ (k : Nat)  (u : World) (N : Bl) (β : Nat → Nat), mm = a.length - k ∧ (k ≤ a.length) ∧ (a.length = b.length) ∧ (a.take k = b.take k) ∧ St Go.Proofs.Try.prog Go.Proofs.Try.f36.ntmps w0 NoB u N β ⟨[(0, .v (slv (a).length pa.1)), (1, .v (slv (b).length pb.1)), (12, .v (I ((a).length : Int))), (13, .v (I (k : Int)))], []⟩ ac w) _ ⟨0, _, _, _, rfl, (by first | omega | (simp; done) | (simp; omega)), (by first | omega | (simp; done) | (simp; omega)), (by simp), S.cast (by kernel_rfl)⟩ ?_
    clear S
    rintro mm ac w ⟨k, u, N, β, rfl, hk, hab, he, S⟩
    refine wp_seq ?_
    refine RG.start ?_
    refine S.quiet (k := 1) (keep := [0, 1, 12, 13, 14]) (m := 0) (σ' := ⟨[(0, .v (slv (a).length pa.1)), (1, .v (slv (b).length pb.1)), (12, .v (I ((a).length : Int))), (13, .v (I (k : Int))), (14, .v (B (decide ((k : Int) < ((a).length : Int)))))], []⟩) .nil (by kernel_rfl) ?_
    clear S; intro ac w β S
    refine RG.done rfl (nx_then ?_)
    refine wp_seq ?_
    refine S.cond (e := (decide ((k : Int) < ((a).length : Int)))) (by kernel_rfl) (fun h4 => ?_) (fun h4 => ?_)
    · have g5 : (k : Int) < ((a).length : Int) := of_decide_eq_true h4
      refine wp_skip (nx_then ?_)
      refine wp_seq ?_
      refine wp_block ?_
      refine wp_seq ?_
      refine RG.start ?_
      refine S.quiet (k := 2) (keep := [0, 1, 5, 12, 13]) (m := 0) (σ' := ⟨[(0, .v (slv (a).length pa.1)), (1, .v (slv (b).length pb.1)), (5, .v (I (k : Int))), (12, .v (I ((a).length : Int))), (13, .v (I (k : Int)))], []⟩) .nil (by kernel_rfl) ?_
      clear S; intro ac w β S
      refine RG.done rfl (nx_then ?_)
      refine wp_seq ?_
      refine S.drawn (keep := [0, 1, 12, 13, 24]) (m := 0) (σ' := ⟨[(0, .v (slv (a).length pa.1)), (1, .v (slv (b).length pb.1)), (12, .v (I ((a).length : Int))), (13, .v (I (k : Int))), (24, .v (B (!decide ((el a k) = (el b k)))))], []⟩) (.cons (Q_idx (S.arg ha) (l := (a).length) (k := k) rfl rfl (by omega) Go.Proofs.Try.underlying36 (by kernel_rfl)) (.cons (Q_el (S.arg ha) (t := 52) (k := k) (by omega) rfl (by kernel_rfl) (by kernel_rfl)) (.cons (Q_idx (S.arg hb) (l := (b).length) (k := k) rfl rfl (by omega) Go.Proofs.Try.underlying36 (by kernel_rfl)) (.cons (Q_el (S.arg hb) (t := 52) (k := k) (by omega) rfl (by kernel_rfl) (by kernel_rfl)) (.cons (Eq_ne_Told (t := 52) (el a k) (el b k) (by kernel_rfl)) .nil))))) rfl (by kernel_rfl) (by kernel_rfl) ?_
      clear S; intro ac w S
      refine id (nx_then ?_)
      refine S.cond (e := (!decide ((el a k) = (el b k)))) (by kernel_rfl) (fun h6 => ?_) (fun h6 => ?_)
      · refine wp_seq ?_
        refine RG.start ?_
        refine S.quiet (k := 1) (keep := [4]) (m := 0) (σ' := ⟨[(4, .v (B false))], []⟩) .nil (by kernel_rfl) ?_
        clear S; intro ac w β S
        refine RG.done rfl (nx_then ?_)
        refine wp_ret (rt_block (rt_then (rt_then (rt_block (rt_then ?_)))))
        refine S.ret (vs := [B false]) (by kernel_rfl) ?_
        exact ⟨retB (show false = decide (a = b) by clear S; first | (simp; intro e; subst e; simp_all; done) | (simp; rw [take_all (by omega), take_all (by omega)] at he; exact he) | (simp; exact take_ne (by simp_all))), S.chg⟩
      · refine wp_skip (nx_block (nx_then ?_))
        refine RG.start ?_
        refine S.quiet (k := 2) (keep := [0, 1, 12, 13]) (m := 0) (σ' := ⟨[(0, .v (slv (a).length pa.1)), (1, .v (slv (b).length pb.1)), (12, .v (I ((a).length : Int))), (13, .v (I ((k : Int) + 1)))], []⟩) (.cons (Q_add (x := (k : Int)) (y := 1) ⟨by omega, by omega⟩) .nil) (by kernel_rfl) ?_
        clear S; intro ac w β S
        refine RG.done rfl (nx_then ?_)
        replace S := S.prune (keep := [0, 1, 12, 13]) (m := 0) (σ' := ⟨[(0, .v (slv (a).length pa.1)), (1, .v (slv (b).length pb.1)), (12, .v (I ((a).length : Int))), (13, .v (I ((k : Int) + 1)))], []⟩) (by kernel_rfl)
        refine ⟨a.length - (k + 1), by omega, k + 1, _, _, _, rfl, ?_, ?_, ?_, S.cast (by kernel_rfl)⟩
        · clear S; first | omega | (simp [*]; done) | (simp [*]; omega)
        · clear S; first | omega | (simp [*]; done) | (simp [*]; omega)
        · clear S; exact take_eq_step (by omega) (by omega) he (by simp_all)
    · have g7 : ¬ ((k : Int) < ((a).length : Int)) := of_decide_eq_false h4
      refine wp_exit (ex_then (ex_then (ex_hit (nx_then ?_))))
      refine wp_seq ?_
      refine RG.start ?_
      refine S.quiet (k := 1) (keep := [4]) (m := 0) (σ' := ⟨[(4, .v (B true))], []⟩) .nil (by kernel_rfl) ?_
      clear S; intro ac w β S
      refine RG.done rfl (nx_then ?_)
      refine wp_ret ?_
      refine S.ret (vs := [B true]) (by kernel_rfl) ?_
      exact ⟨retB (show true = decide (a = b) by clear S; first | (simp; intro e; subst e; simp_all; done) | (simp; rw [take_all (by omega), take_all (by omega)] at he; exact he) | (simp; exact take_ne (by simp_all))), S.chg⟩

set_option maxRecDepth 100000 in
theorem c_impl_SameTold (w0 : World) (a : List TTold) (pa : LP TTold) (ha : GT.rd KK (Lt w0.heap.size) w0 a pa) (b : List TTold) (pb : LP TTold) (hb : GT.rd KK (Lt w0.heap.size) w0 b pb) : Calls Go.Proofs.Try.prog 20 [slv (a).length pa.1, slv (b).length pb.1].toArray w0 (fun e w' => e = .returned (B (decide (a = b))) ∧ Chg NoB w0 w') := by
  refine Calls.walk (args := [slv (a).length pa.1, slv (b).length pb.1]) NoB Go.Proofs.Try.func20 rfl rfl ?_
  intro ac β S
  have hlea : a.length ≤ 4194304 := LRd.le ha
  have hleb : b.length ≤ 4194304 := LRd.le hb
  refine wp_seq ?_
  refine RG.start ?_
  refine S.quiet (k := 1) (keep := [0, 1]) (m := 0) (σ' := ⟨[(0, .v (slv (a).length pa.1)), (1, .v (slv (b).length pb.1))], []⟩) .nil (by kernel_rfl) ?_
  clear S; intro ac w β S
  refine RG.done rfl (nx_then ?_)
  refine wp_seq ?_
  refine RG.start ?_
  refine S.quiet (k := 4) (keep := [4]) (m := 0) (σ' := ⟨[(4, .v (B (decide (a = b))))], []⟩) (.cons (Q_call fun w hw => c_slices_Equal___impl_Told_impl_Told_ w a pa (rd_of (S.arg ha) hw) b pb (rd_of (S.arg hb) hw)) .nil) (by kernel_rfl) ?_
  clear S; intro ac w β S
  refine RG.done rfl (nx_then ?_)
  refine wp_ret ?_
  refine S.ret (vs := [B (decide (a = b))]) (by kernel_rfl) ?_
  exact ⟨retB (show (decide (a = b)) = decide (a = b) by clear S; first | rfl | (simp [decide, *]; done) | (simp [decide, *]; omega) | (simp_all [decide]; done) | (simp_all [decide]; omega)), S.chg⟩

set_option maxRecDepth 100000 in
theorem c_laws_eqTold (w0 : World) (a : TTold) (b : TTold) : Calls Go.Proofs.Try.prog 37 [GT.val (α := TTold) a (), GT.val (α := TTold) b ()].toArray w0 (fun e w' => e = .returned (B (decide (a = b))) ∧ Chg NoB w0 w') := by
  refine Calls.walk (args := [GT.val (α := TTold) a (), GT.val (α := TTold) b ()]) NoB Go.Proofs.Try.func37 rfl rfl ?_
  intro ac β S
  refine wp_seq ?_
  refine RG.start ?_
  refine S.quiet (k := 3) (keep := [2, 3]) (m := 2) (σ' := ⟨[(2, .p 0 0), (3, .p 1 0)], [GT.cells (α := TTold) a (), GT.cells (α := TTold) b ()]⟩) .nil (by kernel_rfl) ?_
  clear S; intro ac w β S
  refine RG.done rfl (nx_then ?_)
  refine wp_seq ?_
  refine wp_seq ?_
  refine RG.start ?_
  refine S.quiet (k := 5) (keep := [2, 3, 9]) (m := 2) (σ' := ⟨[(2, .p 0 0), (3, .p 1 0), (9, .v (B (!(a.ok == b.ok))))], [GT.cells (α := TTold) a (), GT.cells (α := TTold) b ()]⟩) .nil (by kernel_rfl) ?_
  clear S; intro ac w β S
  refine RG.done rfl (nx_then ?_)
  refine S.cond (e := (!(a.ok == b.ok))) (by kernel_rfl) (fun h1 => ?_) (fun h1 => ?_)
  · have h2 : (a.ok == b.ok) = false := not_t h1
    refine wp_seq ?_
    refine RG.start ?_
    refine S.quiet (k := 1) (keep := [4]) (m := 0) (σ' := ⟨[(4, .v (B false))], []⟩) .nil (by kernel_rfl) ?_
    clear S; intro ac w β S
    refine RG.done rfl (nx_then ?_)
    refine wp_ret (rt_then ?_)
    refine S.ret (vs := [B false]) (by kernel_rfl) ?_
    exact ⟨retB (show false = decide (a = b) by clear S; first | (simp [TTold.ext_iff, *]; done) | (simp_all [TTold.ext_iff]; done)), S.chg⟩
  · have h3 : (a.ok == b.ok) = true := not_f h1
    refine wp_skip (nx_then ?_)
    refine wp_seq ?_
    refine wp_seq ?_
    refine RG.start ?_
    refine S.quiet (k := 5) (keep := [14]) (m := 0) (σ' := ⟨[(14, .v (B (a.n != b.n)))], []⟩) .nil (by kernel_rfl) ?_
    clear S; intro ac w β S
    refine RG.done rfl (nx_then ?_)
    refine S.cond (e := (a.n != b.n)) (by kernel_rfl) (fun h4 => ?_) (fun h4 => ?_)
    · have g5 : ¬ (a.n = b.n) := bne_iff_ne.1 h4
      refine wp_seq ?_
      refine RG.start ?_
      refine S.quiet (k := 1) (keep := [4]) (m := 0) (σ' := ⟨[(4, .v (B false))], []⟩) .nil (by kernel_rfl) ?_
      clear S; intro ac w β S
      refine RG.done rfl (nx_then ?_)
      refine wp_ret (rt_then ?_)
      refine S.ret (vs := [B false]) (by kernel_rfl) ?_
      exact ⟨retB (show false = decide (a = b) by clear S; first | (simp [TTold.ext_iff, *]; done) | (simp_all [TTold.ext_iff]; done)), S.chg⟩
    · have g6 : a.n = b.n := ne_f h4
      refine wp_skip (nx_then ?_)
      refine wp_seq ?_
      refine RG.start ?_
      refine S.quiet (k := 1) (keep := [4]) (m := 0) (σ' := ⟨[(4, .v (B true))], []⟩) .nil (by kernel_rfl) ?_
      clear S; intro ac w β S
      refine RG.done rfl (nx_then ?_)
      refine wp_ret ?_
      refine S.ret (vs := [B true]) (by kernel_rfl) ?_
      exact ⟨retB (show true = decide (a = b) by clear S; first | (simp [TTold.ext_iff, *]; done) | (simp_all [TTold.ext_iff]; done)), S.chg⟩

set_option maxRecDepth 100000 in
theorem c_laws_eqToldS (w0 : World) (a : List TTold) (pa : LP TTold) (ha : GT.rd KK (Lt w0.heap.size) w0 a pa) (b : List TTold) (pb : LP TTold) (hb : GT.rd KK (Lt w0.heap.size) w0 b pb) : Calls Go.Proofs.Try.prog 21 [slv (a).length pa.1, slv (b).length pb.1].toArray w0 (fun e w' => e = .returned (B (decide (a = b))) ∧ Chg NoB w0 w') := by
  refine Calls.walk (args := [slv (a).length pa.1, slv (b).length pb.1]) NoB Go.Proofs.Try.func21 rfl rfl ?_
  intro ac β S
  have hlea : a.length ≤ 4194304 := LRd.le ha
  have hleb : b.length ≤ 4194304 := LRd.le hb
  refine wp_seq ?_
  refine RG.start ?_
  refine S.quiet (k := 1) (keep := [0, 1]) (m := 0) (σ' := ⟨[(0, .v (slv (a).length pa.1)), (1, .v (slv (b).length pb.1))], []⟩) .nil (by kernel_rfl) ?_
  clear S; intro ac w β S
  refine RG.done rfl (nx_then ?_)
  refine wp_seq ?_
  refine wp_seq ?_
  refine RG.start ?_
  refine S.quiet (k := 5) (keep := [0, 1, 10]) (m := 0) (σ' := ⟨[(0, .v (slv (a).length pa.1)), (1, .v (slv (b).length pb.1)), (10, .v (B (((a).length : Int) != ((b).length : Int))))], []⟩) .nil (by kernel_rfl) ?_
  clear S; intro ac w β S
  refine RG.done rfl (nx_then ?_)
  refine S.cond (e := (((a).length : Int) != ((b).length : Int))) (by kernel_rfl) (fun h1 => ?_) (fun h1 => ?_)
  · have g2 : ¬ (((a).length : Int) = ((b).length : Int)) := bne_iff_ne.1 h1
    refine wp_seq ?_
    refine RG.start ?_
    refine S.quiet (k := 1) (keep := [4]) (m := 0) (σ' := ⟨[(4, .v (B false))], []⟩) .nil (by kernel_rfl) ?_
    clear S; intro ac w β S
    refine RG.done rfl (nx_then ?_)
    refine wp_ret (rt_then ?_)
    refine S.ret (vs := [B false]) (by kernel_rfl) ?_
    exact ⟨retB (show false = decide (a = b) by clear S; first | (simp; intro e; subst e; simp_all; done) | (simp; rw [take_all (by omega), take_all (by omega)] at he; exact he) | (simp; exact take_ne (by simp_all))), S.chg⟩
  · have g3 : ((a).length : Int) = ((b).length : Int) := ne_f h1
    refine wp_skip (nx_then ?_)
    refine wp_seq ?_
    refine wp_seq ?_
    refine RG.start ?_
    refine S.quiet (k := 1) (keep := [0, 1, 5]) (m := 0) (σ' := ⟨[(0, .v (slv (a).length pa.1)), (1, .v (slv (b).length pb.1)), (5, .v (I 0))], []⟩) .nil (by kernel_rfl) ?_
    clear S; intro ac w β S
    refine RG.done rfl (nx_then ?_)
    refine wp_block ?_
    replace S := S.prune (keep := [0, 1, 5]) (m := 0) (σ' := ⟨[(0, .v (slv (a).length pa.1)), (1, .v (slv (b).length pb.1)), (5, .v (I 0))], []⟩) (by kernel_rfl)
    refine wp_loop_down (fun mm ac w => ∃ (k : Nat)  (u : World) (N : Bl) (β : Nat → Nat), mm = a.length - k ∧ (k ≤ a.length) ∧ (a.length = b.length) ∧ (a.take k = b.take k) ∧ St Go.Proofs.Try.prog Go.Proofs.Try.f21.ntmps w0 NoB u N β ⟨[(0, .v (slv (a).length pa.1)), (1, .v (slv (b).length pb.1)), (5, .v (I (k : Int)))], []⟩ ac w) _ ⟨0, _, _, _, rfl, (by first | omega | (simp; done) | (simp; omega)), (by first | omega | (simp; done) | (simp; omega)), (by simp), S.cast (by kernel_rfl)⟩ ?_
    clear S
    rintro mm ac w ⟨k, u, N, β, rfl, hk, hab, he, S⟩
    refine wp_seq ?_
    refine wp_seq ?_
    refine RG.start ?_
    refine S.quiet (k := 4) (keep := [0, 1, 5, 14]) (m := 0) (σ' := ⟨[(0, .v (slv (a).length pa.1)), (1, .v (slv (b).length pb.1)), (5, .v (I (k : Int))), (14, .v (B (decide ((k : Int) < ((a).length : Int)))))], []⟩) .nil (by kernel_rfl) ?_
    clear S; intro ac w β S
    refine RG.done rfl (nx_then ?_)
    refine S.cond (e := (decide ((k : Int) < ((a).length : Int)))) (by kernel_rfl) (fun h4 => ?_) (fun h4 => ?_)
    · have g5 : (k : Int) < ((a).length : Int) := of_decide_eq_true h4
      refine wp_skip (nx_then ?_)
      refine wp_seq ?_
      refine wp_block ?_
      refine wp_seq ?_
      refine S.drawn (keep := [0, 1, 5, 26]) (m := 0) (σ' := ⟨[(0, .v (slv (a).length pa.1)), (1, .v (slv (b).length pb.1)), (5, .v (I (k : Int))), (26, .v (B (!(decide ((el a k) = (el b k))))))], []⟩) (.cons (Q_idx (S.arg ha) (l := (a).length) (k := k) rfl rfl (by omega) Go.Proofs.Try.underlying36 (by kernel_rfl)) (.cons (Q_el (S.arg ha) (t := 52) (k := k) (by omega) rfl (by kernel_rfl) (by kernel_rfl)) (.cons (Q_idx (S.arg hb) (l := (b).length) (k := k) rfl rfl (by omega) Go.Proofs.Try.underlying36 (by kernel_rfl)) (.cons (Q_el (S.arg hb) (t := 52) (k := k) (by omega) rfl (by kernel_rfl) (by kernel_rfl)) (.cons (Q_call fun w hw => c_laws_eqTold w (el a k) (el b k)) .nil))))) rfl (by kernel_rfl) (by kernel_rfl) ?_
      clear S; intro ac w S
      refine id (nx_then ?_)
      refine S.cond (e := (!(decide ((el a k) = (el b k))))) (by kernel_rfl) (fun h6 => ?_) (fun h6 => ?_)
      · have h7 : (decide ((el a k) = (el b k))) = false := not_t h6
        have g8 := of_decide_eq_false h7
        refine wp_seq ?_
        refine RG.start ?_
        refine S.quiet (k := 1) (keep := [4]) (m := 0) (σ' := ⟨[(4, .v (B false))], []⟩) .nil (by kernel_rfl) ?_
        clear S; intro ac w β S
        refine RG.done rfl (nx_then ?_)
        refine wp_ret (rt_block (rt_then (rt_then (rt_block (rt_then ?_)))))
        refine S.ret (vs := [B false]) (by kernel_rfl) ?_
        exact ⟨retB (show false = decide (a = b) by clear S; first | (simp; intro e; subst e; simp_all; done) | (simp; rw [take_all (by omega), take_all (by omega)] at he; exact he) | (simp; exact take_ne (by simp_all))), S.chg⟩
      · have h9 : (decide ((el a k) = (el b k))) = true := not_f h6
        have g10 := of_decide_eq_true h9
        refine wp_skip (nx_block (nx_then ?_))
        refine RG.start ?_
        refine S.quiet (k := 3) (keep := [0, 1, 5]) (m := 0) (σ' := ⟨[(0, .v (slv (a).length pa.1)), (1, .v (slv (b).length pb.1)), (5, .v (I ((k : Int) + 1)))], []⟩) (.cons (Q_add (x := (k : Int)) (y := 1) ⟨by omega, by omega⟩) .nil) (by kernel_rfl) ?_
        clear S; intro ac w β S
        refine RG.done rfl (nx_then ?_)
        replace S := S.prune (keep := [0, 1, 5]) (m := 0) (σ' := ⟨[(0, .v (slv (a).length pa.1)), (1, .v (slv (b).length pb.1)), (5, .v (I ((k : Int) + 1)))], []⟩) (by kernel_rfl)
        refine ⟨a.length - (k + 1), by omega, k + 1, _, _, _, rfl, ?_, ?_, ?_, S.cast (by kernel_rfl)⟩
        · clear S; first | omega | (simp [*]; done) | (simp [*]; omega)
        · clear S; first | omega | (simp [*]; done) | (simp [*]; omega)
        · clear S; exact take_eq_step (by omega) (by omega) he (by simp_all)
    · have g11 : ¬ ((k : Int) < ((a).length : Int)) := of_decide_eq_false h4
      refine wp_exit (ex_then (ex_then (ex_hit (nx_then ?_))))
      refine wp_seq ?_
      refine RG.start ?_
      refine S.quiet (k := 1) (keep := [4]) (m := 0) (σ' := ⟨[(4, .v (B true))], []⟩) .nil (by kernel_rfl) ?_
      clear S; intro ac w β S
      refine RG.done rfl (nx_then ?_)
      refine wp_ret ?_
      refine S.ret (vs := [B true]) (by kernel_rfl) ?_
      exact ⟨retB (show true = decide (a = b) by clear S; first | (simp; intro e; subst e; simp_all; done) | (simp; rw [take_all (by omega), take_all (by omega)] at he; exact he) | (simp; exact take_ne (by simp_all))), S.chg⟩

set_option maxRecDepth 100000 in
theorem c_laws_FnExactSameTold (w0 : World) (aA : List TTold) (paA : LP TTold) (haA : GT.rd KR (Lt w0.heap.size) w0 aA paA) (aB : List TTold) (paB : LP TTold) (haB : GT.rd KR (Lt w0.heap.size) w0 aB paB) : Calls Go.Proofs.Try.prog 6 [slv (aA).length paA.1, slv (aB).length paB.1].toArray w0 (fun e w' => e = .returned (B true) ∧ Chg NoB w0 w') := by
  refine Calls.walk (args := [slv (aA).length paA.1, slv (aB).length paB.1]) NoB Go.Proofs.Try.func6 rfl rfl ?_
  intro ac β S
  have hleaA : aA.length ≤ 9223372036854775807 := LRd.le haA
  have hleaB : aB.length ≤ 9223372036854775807 := LRd.le haB
  refine wp_seq ?_
  refine RG.start ?_
  refine S.quiet (k := 1) (keep := [0, 1]) (m := 0) (σ' := ⟨[(0, .v (slv (aA).length paA.1)), (1, .v (slv (aB).length paB.1))], []⟩) .nil (by kernel_rfl) ?_
  clear S; intro ac w β S
  refine RG.done rfl (nx_then ?_)
  refine wp_seq ?_
  refine RG.start ?_
  refine S.quiet (k := 1) (keep := [0, 1, 5]) (m := 0) (σ' := ⟨[(0, .v (slv (aA).length paA.1)), (1, .v (slv (aB).length paB.1)), (5, .v (I 1048576))], []⟩) .nil (by kernel_rfl) ?_
  clear S; intro ac w β S
  refine RG.done rfl (nx_then ?_)
  refine wp_seq ?_
  refine RG.start ?_
  refine S.quiet (k := 4) (keep := [0, 1, 5]) (m := 0) (σ' := ⟨[(0, .v (slv (aA).length paA.1)), (1, .v (slv (aB).length paB.1)), (5, .v (I (f_sz aA.length 1048576)))], []⟩) (.cons (Q_call fun w hw => c_laws_szToldS w aA paA (rd_of (S.arg haA) hw) 1048576 (by omega) (by omega)) .nil) (by kernel_rfl) ?_
  clear S; intro ac w β S
  refine RG.done rfl (nx_then ?_)
  refine wp_seq ?_
  refine wp_seq ?_
  refine RG.start ?_
  refine S.quiet (k := 2) (keep := [0, 1, 5, 14]) (m := 0) (σ' := ⟨[(0, .v (slv (aA).length paA.1)), (1, .v (slv (aB).length paB.1)), (5, .v (I (f_sz aA.length 1048576))), (14, .v (B (decide ((f_sz aA.length 1048576) < 0))))], []⟩) .nil (by kernel_rfl) ?_
  clear S; intro ac w β S
  refine RG.done rfl (nx_then ?_)
  refine S.cond (e := (decide ((f_sz aA.length 1048576) < 0))) (by kernel_rfl) (fun h1 => ?_) (fun h1 => ?_)
  · have g2 : (f_sz aA.length 1048576) < 0 := of_decide_eq_true h1
    refine wp_seq ?_
    refine RG.start ?_
    refine S.quiet (k := 1) (keep := [4]) (m := 0) (σ' := ⟨[(4, .v (B true))], []⟩) .nil (by kernel_rfl) ?_
    clear S; intro ac w β S
    refine RG.done rfl (nx_then ?_)
    refine wp_ret (rt_then ?_)
    refine S.ret (vs := [B true]) (by kernel_rfl) ?_
    exact ⟨retB (show true = true by clear S; first | rfl | (exfalso; omega) | (exfalso; simp_all [f_marksTold_len, f_marksAct_len]; done) | (exfalso; simp_all [f_marksTold_len, f_marksAct_len]; omega)), S.chg⟩
  · have g3 : ¬ ((f_sz aA.length 1048576) < 0) := of_decide_eq_false h1
    have hbaA := f_sz_bd aA.length 1048576
    have hkaA : GT.rd KK (Lt w0.heap.size) w0 aA paA := rd_cut haA (show aA.length ≤ 4194304 by omega) (fun i hi => LRd.el haA i hi)
    have hcaA : aA.length ≤ 1048576 := by omega
    refine wp_skip (nx_then ?_)
    refine wp_seq ?_
    refine RG.start ?_
    refine S.quiet (k := 4) (keep := [0, 1, 5]) (m := 0) (σ' := ⟨[(0, .v (slv (aA).length paA.1)), (1, .v (slv (aB).length paB.1)), (5, .v (I (f_sz aB.length (f_sz aA.length 1048576))))], []⟩) (.cons (Q_call fun w hw => c_laws_szToldS w aB paB (rd_of (S.arg haB) hw) (f_sz aA.length 1048576) (by omega) (by omega)) .nil) (by kernel_rfl) ?_
    clear S; intro ac w β S
    refine RG.done rfl (nx_then ?_)
    refine wp_seq ?_
    refine wp_seq ?_
    refine RG.start ?_
    refine S.quiet (k := 2) (keep := [0, 1, 19]) (m := 0) (σ' := ⟨[(0, .v (slv (aA).length paA.1)), (1, .v (slv (aB).length paB.1)), (19, .v (B (decide ((f_sz aB.length (f_sz aA.length 1048576)) < 0))))], []⟩) .nil (by kernel_rfl) ?_
    clear S; intro ac w β S
    refine RG.done rfl (nx_then ?_)
    refine S.cond (e := (decide ((f_sz aB.length (f_sz aA.length 1048576)) < 0))) (by kernel_rfl) (fun h4 => ?_) (fun h4 => ?_)
    · have g5 : (f_sz aB.length (f_sz aA.length 1048576)) < 0 := of_decide_eq_true h4
      refine wp_seq ?_
      refine RG.start ?_
      refine S.quiet (k := 1) (keep := [4]) (m := 0) (σ' := ⟨[(4, .v (B true))], []⟩) .nil (by kernel_rfl) ?_
      clear S; intro ac w β S
      refine RG.done rfl (nx_then ?_)
      refine wp_ret (rt_then ?_)
      refine S.ret (vs := [B true]) (by kernel_rfl) ?_
      exact ⟨retB (show true = true by clear S; first | rfl | (exfalso; omega) | (exfalso; simp_all [f_marksTold_len, f_marksAct_len]; done) | (exfalso; simp_all [f_marksTold_len, f_marksAct_len]; omega)), S.chg⟩
    · have g6 : ¬ ((f_sz aB.length (f_sz aA.length 1048576)) < 0) := of_decide_eq_false h4
      have hbaB := f_sz_bd aB.length (f_sz aA.length 1048576)
      have hkaB : GT.rd KK (Lt w0.heap.size) w0 aB paB := rd_cut haB (show aB.length ≤ 4194304 by omega) (fun i hi => LRd.el haB i hi)
      have hcaB : aB.length ≤ 1048576 := by omega
      refine wp_skip (nx_then ?_)
      refine wp_seq ?_
      refine RG.start ?_
      refine S.quiet (k := 1) (keep := [0, 1, 20]) (m := 0) (σ' := ⟨[(0, .v (slv (aA).length paA.1)), (1, .v (slv (aB).length paB.1)), (20, .v (slv (aA).length paA.1))], []⟩) .nil (by kernel_rfl) ?_
      clear S; intro ac w β S
      refine S.call1 (r := aA) (d := 21) (c_laws_toToldS w aA paA (S.rd (S.arg hkaA))) (by kernel_rfl) rfl ?_
      clear S; intro ac w N q7 F8 S up o9 d10
      clear up d10
      refine S.quiet (k := 1) (keep := [0, 1, 21, 22]) (m := 0) (σ' := ⟨[(0, .v (slv (aA).length paA.1)), (1, .v (slv (aB).length paB.1)), (21, .v (slv (aA).length q7.1)), (22, .v (slv (aB).length paB.1))], []⟩) .nil (by kernel_rfl) ?_
      clear S; intro ac w β S
      refine S.call1 (r := aB) (d := 23) (c_laws_toToldS w aB paB (S.rd (S.arg hkaB))) (by kernel_rfl) rfl ?_
      clear S; intro ac w N q11 F12 S up o13 d14
      have d15 : Disj F8 F12 := fun b x y => d14 b (o9.sub b x) y
      replace o9 := o9.up up
      clear up d14
      refine S.quiet (k := 2) (keep := [0, 1, 6]) (m := 0) (σ' := ⟨[(0, .v (slv (aA).length paA.1)), (1, .v (slv (aB).length paB.1)), (6, .v (B (decide (aA = aB))))], []⟩) (.cons (Q_call fun w hw => c_spec_SameTold w aA q7 (rd_of o9.rn hw) aB q11 (rd_of o13.rn hw)) .nil) (by kernel_rfl) ?_
      clear S; intro ac w β S
      refine RG.done rfl (nx_then ?_)
      refine wp_seq ?_
      refine RG.start ?_
      refine S.quiet (k := 1) (keep := [0, 1, 6, 25]) (m := 0) (σ' := ⟨[(0, .v (slv (aA).length paA.1)), (1, .v (slv (aB).length paB.1)), (6, .v (B (decide (aA = aB)))), (25, .v (slv (aA).length paA.1))], []⟩) .nil (by kernel_rfl) ?_
      clear S; intro ac w β S
      refine S.call1 (r := aA) (d := 26) (c_laws_toToldS w aA paA (S.rd (S.arg hkaA))) (by kernel_rfl) rfl ?_
      clear S; intro ac w N q16 F17 S up o18 d19
      clear up d19
      refine S.quiet (k := 1) (keep := [0, 1, 6, 7]) (m := 0) (σ' := ⟨[(0, .v (slv (aA).length paA.1)), (1, .v (slv (aB).length paB.1)), (6, .v (B (decide (aA = aB)))), (7, .v (slv (aA).length q16.1))], []⟩) .nil (by kernel_rfl) ?_
      clear S; intro ac w β S
      refine RG.done rfl (nx_then ?_)
      refine wp_seq ?_
      refine RG.start ?_
      refine S.quiet (k := 1) (keep := [0, 1, 6, 7, 27]) (m := 0) (σ' := ⟨[(0, .v (slv (aA).length paA.1)), (1, .v (slv (aB).length paB.1)), (6, .v (B (decide (aA = aB)))), (7, .v (slv (aA).length q16.1)), (27, .v (slv (aB).length paB.1))], []⟩) .nil (by kernel_rfl) ?_
      clear S; intro ac w β S
      refine S.call1 (r := aB) (d := 28) (c_laws_toToldS w aB paB (S.rd (S.arg hkaB))) (by kernel_rfl) rfl ?_
      clear S; intro ac w N q20 F21 S up o22 d23
      have d24 : Disj F17 F21 := fun b x y => d23 b (o18.sub b x) y
      replace o18 := o18.up up
      clear up d23
      refine S.quiet (k := 1) (keep := [0, 1, 6, 7, 8]) (m := 0) (σ' := ⟨[(0, .v (slv (aA).length paA.1)), (1, .v (slv (aB).length paB.1)), (6, .v (B (decide (aA = aB)))), (7, .v (slv (aA).length q16.1)), (8, .v (slv (aB).length q20.1))], []⟩) .nil (by kernel_rfl) ?_
      clear S; intro ac w β S
      refine RG.done rfl (nx_then ?_)
      refine wp_seq ?_
      refine RG.start ?_
      refine S.quiet (k := 4) (keep := [0, 1, 6, 7, 8, 9]) (m := 0) (σ' := ⟨[(0, .v (slv (aA).length paA.1)), (1, .v (slv (aB).length paB.1)), (6, .v (B (decide (aA = aB)))), (7, .v (slv (aA).length q16.1)), (8, .v (slv (aB).length q20.1)), (9, .v (B (decide (aA = aB))))], []⟩) (.cons (Q_call fun w hw => c_impl_SameTold w aA q16 (rd_of o18.rn hw) aB q20 (rd_of o22.rn hw)) .nil) (by kernel_rfl) ?_
      clear S; intro ac w β S
      refine RG.done rfl (nx_then ?_)
      refine wp_seq ?_
      refine wp_seq ?_
      refine RG.start ?_
      refine S.quiet (k := 3) (keep := [0, 1, 7, 8, 34]) (m := 0) (σ' := ⟨[(0, .v (slv (aA).length paA.1)), (1, .v (slv (aB).length paB.1)), (7, .v (slv (aA).length q16.1)), (8, .v (slv (aB).length q20.1)), (34, .v (B (!((decide (aA = aB)) == (decide (aA = aB))))))], []⟩) .nil (by kernel_rfl) ?_
      clear S; intro ac w β S
      refine RG.done rfl (nx_then ?_)
      refine S.cond (e := (!((decide (aA = aB)) == (decide (aA = aB))))) (by kernel_rfl) (fun h25 => ?_) (fun h25 => ?_)
      · have h26 : ((decide (aA = aB)) == (decide (aA = aB))) = false := not_t h25
        refine wp_seq ?_
        refine RG.start ?_
        refine S.quiet (k := 1) (keep := [4]) (m := 0) (σ' := ⟨[(4, .v (B false))], []⟩) .nil (by kernel_rfl) ?_
        clear S; intro ac w β S
        refine RG.done rfl (nx_then ?_)
        refine wp_ret (rt_then ?_)
        refine S.ret (vs := [B false]) (by kernel_rfl) ?_
        exact ⟨retB (show false = true by clear S; first | rfl | (exfalso; omega) | (exfalso; simp_all [f_marksTold_len, f_marksAct_len]; done) | (exfalso; simp_all [f_marksTold_len, f_marksAct_len]; omega)), S.chg⟩
      · have h27 : ((decide (aA = aB)) == (decide (aA = aB))) = true := not_f h25
        refine wp_skip (nx_then ?_)
        refine wp_seq ?_
        refine wp_seq ?_
        refine RG.start ?_
        refine S.quiet (k := 2) (keep := [1, 8, 35, 36]) (m := 0) (σ' := ⟨[(1, .v (slv (aB).length paB.1)), (8, .v (slv (aB).length q20.1)), (35, .v (slv (aA).length q16.1)), (36, .v (slv (aA).length paA.1))], []⟩) .nil (by kernel_rfl) ?_
        clear S; intro ac w β S
        refine S.call1 (r := aA) (d := 37) (c_laws_toToldS w aA paA (S.rd (S.arg hkaA))) (by kernel_rfl) rfl ?_
        clear S; intro ac w N q28 F29 S up o30 d31
        have d32 : Disj F17 F29 := fun b x y => d31 b (o18.sub b x) y
        have d33 : Disj F21 F29 := fun b x y => d31 b (o22.sub b x) y
        replace o18 := o18.up up
        replace o22 := o22.up up
        clear up d31
        refine S.quiet (k := 2) (keep := [1, 8, 39]) (m := 0) (σ' := ⟨[(1, .v (slv (aB).length paB.1)), (8, .v (slv (aB).length q20.1)), (39, .v (B (!(decide (aA = aA)))))], []⟩) (.cons (Q_call fun w hw => c_laws_eqToldS w aA q16 (rd_of o18.rn hw) aA q28 (rd_of o30.rn hw)) .nil) (by kernel_rfl) ?_
        clear S; intro ac w β S
        refine RG.done rfl (nx_then ?_)
        refine S.cond (e := (!(decide (aA = aA)))) (by kernel_rfl) (fun h34 => ?_) (fun h34 => ?_)
        · have h35 : (decide (aA = aA)) = false := not_t h34
          have g36 := of_decide_eq_false h35
          refine wp_seq ?_
          refine RG.start ?_
          refine S.quiet (k := 1) (keep := [4]) (m := 0) (σ' := ⟨[(4, .v (B false))], []⟩) .nil (by kernel_rfl) ?_
          clear S; intro ac w β S
          refine RG.done rfl (nx_then ?_)
          refine wp_ret (rt_then ?_)
          refine S.ret (vs := [B false]) (by kernel_rfl) ?_
          exact ⟨retB (show false = true by clear S; first | rfl | (exfalso; omega) | (exfalso; simp_all [f_marksTold_len, f_marksAct_len]; done) | (exfalso; simp_all [f_marksTold_len, f_marksAct_len]; omega)), S.chg⟩
        · have h37 : (decide (aA = aA)) = true := not_f h34
          have g38 := of_decide_eq_true h37
          refine wp_skip (nx_then ?_)
          refine wp_seq ?_
          refine wp_seq ?_
          refine RG.start ?_
          refine S.quiet (k := 2) (keep := [40, 41]) (m := 0) (σ' := ⟨[(40, .v (slv (aB).length q20.1)), (41, .v (slv (aB).length paB.1))], []⟩) .nil (by kernel_rfl) ?_
          clear S; intro ac w β S
          refine S.call1 (r := aB) (d := 42) (c_laws_toToldS w aB paB (S.rd (S.arg hkaB))) (by kernel_rfl) rfl ?_
          clear S; intro ac w N q39 F40 S up o41 d42
          have d43 : Disj F21 F40 := fun b x y => d42 b (o22.sub b x) y
          replace o22 := o22.up up
          clear up d42
          refine S.quiet (k := 2) (keep := [44]) (m := 0) (σ' := ⟨[(44, .v (B (!(decide (aB = aB)))))], []⟩) (.cons (Q_call fun w hw => c_laws_eqToldS w aB q20 (rd_of o22.rn hw) aB q39 (rd_of o41.rn hw)) .nil) (by kernel_rfl) ?_
          clear S; intro ac w β S
          refine RG.done rfl (nx_then ?_)
          refine S.cond (e := (!(decide (aB = aB)))) (by kernel_rfl) (fun h44 => ?_) (fun h44 => ?_)
          · have h45 : (decide (aB = aB)) = false := not_t h44
            have g46 := of_decide_eq_false h45
            refine wp_seq ?_
            refine RG.start ?_
            refine S.quiet (k := 1) (keep := [4]) (m := 0) (σ' := ⟨[(4, .v (B false))], []⟩) .nil (by kernel_rfl) ?_
            clear S; intro ac w β S
            refine RG.done rfl (nx_then ?_)
            refine wp_ret (rt_then ?_)
            refine S.ret (vs := [B false]) (by kernel_rfl) ?_
            exact ⟨retB (show false = true by clear S; first | rfl | (exfalso; omega) | (exfalso; simp_all [f_marksTold_len, f_marksAct_len]; done) | (exfalso; simp_all [f_marksTold_len, f_marksAct_len]; omega)), S.chg⟩
          · have h47 : (decide (aB = aB)) = true := not_f h44
            have g48 := of_decide_eq_true h47
            refine wp_skip (nx_then ?_)
            refine wp_seq ?_
            refine RG.start ?_
            refine S.quiet (k := 1) (keep := [4]) (m := 0) (σ' := ⟨[(4, .v (B true))], []⟩) .nil (by kernel_rfl) ?_
            clear S; intro ac w β S
            refine RG.done rfl (nx_then ?_)
            refine wp_ret ?_
            refine S.ret (vs := [B true]) (by kernel_rfl) ?_
            exact ⟨retB (show true = true by clear S; first | rfl | (exfalso; omega) | (exfalso; simp_all [f_marksTold_len, f_marksAct_len]; done) | (exfalso; simp_all [f_marksTold_len, f_marksAct_len]; omega)), S.chg⟩

set_option maxRecDepth 100000 in
theorem c_laws_szActS (w0 : World) (a : List TAct) (pa : LP TAct) (ha : GT.rd KR (Lt w0.heap.size) w0 a pa) (left : Int) (pre0 : -1 ≤ left) (pre1 : left ≤ 4194304) : Calls Go.Proofs.Try.prog 22 [slv (a).length pa.1, I left].toArray w0 (fun e w' => e = .returned (I (f_sz a.length left)) ∧ Chg NoB w0 w') := by
  refine Calls.walk (args := [slv (a).length pa.1, I left]) NoB Go.Proofs.Try.func22 rfl rfl ?_
  intro ac β S
  have hlea : a.length ≤ 9223372036854775807 := LRd.le ha
  refine wp_seq ?_
  refine RG.start ?_
  refine S.quiet (k := 1) (keep := [0, 1]) (m := 0) (σ' := ⟨[(0, .v (slv (a).length pa.1)), (1, .v (I left))], []⟩) .nil (by kernel_rfl) ?_
  clear S; intro ac w β S
  refine RG.done rfl (nx_then ?_)
  refine wp_seq ?_
  refine RG.start ?_
  refine S.quiet (k := 5) (keep := [1]) (m := 0) (σ' := ⟨[(1, .v (I (left - ((a).length : Int))))], []⟩) (.cons (Q_sub (x := left) (y := ((a).length : Int)) ⟨by omega, by omega⟩) .nil) (by kernel_rfl) ?_
  clear S; intro ac w β S
  refine RG.done rfl (nx_then ?_)
  refine wp_seq ?_
  refine wp_seq ?_
  refine RG.start ?_
  refine S.quiet (k := 2) (keep := [1, 10]) (m := 0) (σ' := ⟨[(1, .v (I (left - ((a).length : Int)))), (10, .v (B (decide ((left - ((a).length : Int)) < 0))))], []⟩) .nil (by kernel_rfl) ?_
  clear S; intro ac w β S
  refine RG.done rfl (nx_then ?_)
  refine S.cond (e := (decide ((left - ((a).length : Int)) < 0))) (by kernel_rfl) (fun h1 => ?_) (fun h1 => ?_)
  · have g2 : (left - ((a).length : Int)) < 0 := of_decide_eq_true h1
    refine wp_seq ?_
    refine RG.start ?_
    refine S.quiet (k := 1) (keep := [4]) (m := 0) (σ' := ⟨[(4, .v (I (-1)))], []⟩) .nil (by kernel_rfl) ?_
    clear S; intro ac w β S
    refine RG.done rfl (nx_then ?_)
    refine wp_ret (rt_then ?_)
    refine S.ret (vs := [I (-1)]) (by kernel_rfl) ?_
    exact ⟨retI (show (-1) = f_sz a.length left by clear S; first | rfl | (simp [f_sz, *]; done) | (simp [f_sz, *]; omega) | (simp_all [f_sz]; done) | (simp_all [f_sz]; omega)), S.chg⟩
  · have g3 : ¬ ((left - ((a).length : Int)) < 0) := of_decide_eq_false h1
    refine wp_skip (nx_then ?_)
    refine wp_seq ?_
    refine RG.start ?_
    refine S.quiet (k := 2) (keep := [4]) (m := 0) (σ' := ⟨[(4, .v (I (left - ((a).length : Int))))], []⟩) .nil (by kernel_rfl) ?_
    clear S; intro ac w β S
    refine RG.done rfl (nx_then ?_)
    refine wp_ret ?_
    refine S.ret (vs := [I (left - ((a).length : Int))]) (by kernel_rfl) ?_
    exact ⟨retI (show (left - ((a).length : Int)) = f_sz a.length left by clear S; first | rfl | (simp [f_sz, *]; done) | (simp [f_sz, *]; omega) | (simp_all [f_sz]; done) | (simp_all [f_sz]; omega)), S.chg⟩

set_option maxRecDepth 100000 in
theorem c_laws_toActS (w0 : World) (a : List TAct) (pa : LP TAct) (ha : GT.rd KK (Lt w0.heap.size) w0 a pa) : Calls Go.Proofs.Try.prog 24 [slv (a).length pa.1].toArray w0 (Ret1 NoB w0 (a : List TAct)) := by
  refine Calls.walk (args := [slv (a).length pa.1]) NoB Go.Proofs.Try.func24 rfl rfl ?_
  intro ac β S
  have hlea : a.length ≤ 4194304 := LRd.le ha
  refine wp_seq ?_
  refine RG.start ?_
  refine S.quiet (k := 1) (keep := [0]) (m := 0) (σ' := ⟨[(0, .v (slv (a).length pa.1))], []⟩) .nil (by kernel_rfl) ?_
  clear S; intro ac w β S
  refine RG.done rfl (nx_then ?_)
  refine wp_seq ?_
  refine RG.start ?_
  refine S.quiet (k := 2) (keep := [0, 6]) (m := 0) (σ' := ⟨[(0, .v (slv (a).length pa.1)), (6, .v (I ((a).length : Int)))], []⟩) .nil (by kernel_rfl) ?_
  clear S; intro ac w β S
  refine S.make (α := TAct) (m := (a).length) (by' := 48) (d := 7) (by kernel_rfl) (by omega) (show (a).length ≤ 4194304 by omega) ?_
  clear S; intro ac w N q1 F2 S up o3 d4
  clear up d4
  refine S.quiet (k := 1) (keep := [0, 3]) (m := 0) (σ' := ⟨[(0, .v (slv (a).length pa.1)), (3, .v (slv ((a).length) q1.1))], []⟩) .nil (by kernel_rfl) ?_
  clear S; intro ac w β S
  refine RG.done rfl (nx_then ?_)
  refine wp_seq ?_
  refine wp_seq ?_
  refine RG.start ?_
  refine S.quiet (k := 1) (keep := [0, 3, 4]) (m := 0) (σ' := ⟨[(0, .v (slv (a).length pa.1)), (3, .v (slv ((a).length) q1.1)), (4, .v (I 0))], []⟩) .nil (by kernel_rfl) ?_
  clear S; intro ac w β S
  refine RG.done rfl (nx_then ?_)
  refine wp_block ?_
  replace S := S.prune (keep := [0, 3, 4]) (m := 0) (σ' := ⟨[(0, .v (slv (a).length pa.1)), (3, .v (slv ((a).length) q1.1)), (4, .v (I 0))], []⟩) (by kernel_rfl)
  refine wp_loop_down (fun mm ac w => ∃ (k : Nat) (acc : List TAct) (q5 : GT.Ptr (List TAct)) (F6 : Bl) (u : World) (N : Bl) (β : Nat → Nat), mm = a.length - k ∧ (k ≤ a.length) ∧ (acc = a.take k ++ List.replicate (a.length - k) (GT.dflt : TAct)) ∧ St Go.Proofs.Try.prog Go.Proofs.Try.f24.ntmps w0 NoB u N β ⟨[(0, .v (slv (a).length pa.1)), (3, .v (slv a.length q5.1)), (4, .v (I (k : Int)))], []⟩ ac w ∧ Ow w0 NoB u N F6 acc q5) _ ⟨0, (List.replicate ((a).length) (GT.dflt : TAct)), q1, F2, _, _, _, rfl, (by first | omega | (simp; done) | (simp; omega)), (by simp), S.cast (by kernel_rfl), o3⟩ ?_
  clear S o3
  rintro mm ac w ⟨k, acc, q5, F6, u, N, β, rfl, hk, hacc, S, o7⟩
  have hlacc : acc.length = a.length := by rw [hacc]; simp; omega
  refine wp_seq ?_
  refine wp_seq ?_
  refine RG.start ?_
  refine S.quiet (k := 4) (keep := [0, 3, 4, 11]) (m := 0) (σ' := ⟨[(0, .v (slv (a).length pa.1)), (3, .v (slv a.length q5.1)), (4, .v (I (k : Int))), (11, .v (B (decide ((k : Int) < ((a).length : Int)))))], []⟩) .nil (by kernel_rfl) ?_
  clear S; intro ac w β S
  refine RG.done rfl (nx_then ?_)
  refine S.cond (e := (decide ((k : Int) < ((a).length : Int)))) (by kernel_rfl) (fun h8 => ?_) (fun h8 => ?_)
  · have g9 : (k : Int) < ((a).length : Int) := of_decide_eq_true h8
    refine wp_skip (nx_then ?_)
    refine wp_seq ?_
    refine wp_block ?_
    refine RG.start ?_
    refine S.quiet (k := 8) (keep := [0, 3, 4, 20, 21]) (m := 0) (σ' := ⟨[(0, .v (slv (a).length pa.1)), (3, .v (slv a.length q5.1)), (4, .v (I (k : Int))), (20, .v (GT.val (α := TAct) ((el a k)) ())), (21, .v (pt q5.1.b (q5.1.off + k * 6)))], []⟩) (.cons (Q_idx (S.arg ha) (l := (a).length) (k := k) rfl rfl (by omega) Go.Proofs.Try.underlying39 (by kernel_rfl)) (.cons (Q_el (S.arg ha) (t := 24) (k := k) (by omega) rfl (by kernel_rfl) (by kernel_rfl)) (.cons (Q_call fun w hw => c_laws_toAct w (el a k)) (.cons (Q_idx o7.rn (l := a.length) (k := k) (by rw [hacc]; simp; omega) rfl (by omega) Go.Proofs.Try.underlying41 (by kernel_rfl)) .nil)))) (by kernel_rfl) ?_
    clear S; intro ac w β S
    have e10 : RAct (el acc k) := (LRd.el o7.rn k (by omega))
    refine S.setEl (α := TAct) o7 (t := 26) (v := GT.val (α := TAct) ((el a k)) ()) (k := k) (j := 0) (off := q5.1.off + k * 6) (y := ((el a k))) (q := ()) (Fy := NoB) (by kernel_rfl) (by kernel_rfl) (by omega) (by kernel_rfl) (by kernel_rfl) (Nat.le_of_ble_eq_true (by kernel_rfl)) (by kernel_rfl) (fun _ _ => ⟨NoB, ((LRd.el (S.arg ha) k (by omega))), fun _ h => False.elim h⟩) (fun b _ h => False.elim h) (fun b h => False.elim h) (fun b h => False.elim h) ?_
    clear S; intro w N F12 q13 S up o11 d14 s15
    clear up d14 o7
    have l16 : (acc.set k ((el a k))).length = (acc).length := List.length_set
    replace S := S.prune (keep := [0, 3, 4]) (m := 0) (σ' := ⟨[(0, .v (slv (a).length pa.1)), (3, .v (slv a.length q5.1)), (4, .v (I (k : Int)))], []⟩) (by kernel_rfl)
    refine RG.done rfl (nx_block (nx_then ?_))
    refine RG.start ?_
    refine S.quiet (k := 3) (keep := [0, 3, 4]) (m := 0) (σ' := ⟨[(0, .v (slv (a).length pa.1)), (3, .v (slv a.length q5.1)), (4, .v (I ((k : Int) + 1)))], []⟩) (.cons (Q_add (x := (k : Int)) (y := 1) ⟨by omega, by omega⟩) .nil) (by kernel_rfl) ?_
    clear S; intro ac w β S
    refine RG.done rfl (nx_then ?_)
    replace S := S.prune (keep := [0, 3, 4]) (m := 0) (σ' := ⟨[(0, .v (slv (a).length pa.1)), (3, .v (slv a.length q5.1)), (4, .v (I ((k : Int) + 1)))], []⟩) (by kernel_rfl)
    refine ⟨a.length - (k + 1), by omega, k + 1, (acc.set k ((el a k))), (q5.1, q13), F12, _, _, _, rfl, ?_, ?_, S.cast (by kernel_rfl), o11⟩
    · clear S; first | omega | (simp [*]; done) | (simp [*]; omega)
    · clear S; rw [hacc]; exact set_step (by omega)
  · have g17 : ¬ ((k : Int) < ((a).length : Int)) := of_decide_eq_false h8
    refine wp_exit (ex_then (ex_then (ex_hit (nx_then ?_))))
    refine wp_seq ?_
    refine RG.start ?_
    refine S.quiet (k := 2) (keep := [2]) (m := 0) (σ' := ⟨[(2, .v (slv a.length q5.1))], []⟩) .nil (by kernel_rfl) ?_
    clear S; intro ac w β S
    refine RG.done rfl (nx_then ?_)
    refine wp_ret ?_
    refine S.ret (vs := [slv a.length q5.1]) (by kernel_rfl) ?_
    exact ret1_of S (show a = acc by clear S; rw [hacc, take_all (by omega), show a.length - k = 0 by omega]; simp) (by rw [show a.length = (acc).length from (by rw [hacc]; simp; omega)]; rfl) o7

set_option maxRecDepth 100000 in
theorem c_spec_Undisturbed (w0 : World) (l : List TAct) (pl : LP TAct) (hl : GT.rd KK (Lt w0.heap.size) w0 l pl) : Calls Go.Proofs.Try.prog 23 [slv (l).length pl.1].toArray w0 (Ret1 NoB w0 (f_undisturbed l : List TAct)) := by
  refine Calls.walk (args := [slv (l).length pl.1]) NoB Go.Proofs.Try.func23 rfl rfl ?_
  intro ac β S
  have hlel : l.length ≤ 4194304 := LRd.le hl
  refine wp_seq ?_
  refine RG.start ?_
  refine S.quiet (k := 1) (keep := [0]) (m := 0) (σ' := ⟨[(0, .v (slv (l).length pl.1))], []⟩) .nil (by kernel_rfl) ?_
  clear S; intro ac w β S
  refine RG.done rfl (nx_then ?_)
  refine wp_seq ?_
  refine RG.start ?_
  refine S.bs0 (α := TAct) (d := 5) (by kernel_rfl) ?_
  clear S; intro ac w N q1 F2 S up o3 d4
  clear up d4
  refine S.quiet (k := 1) (keep := [0, 3]) (m := 0) (σ' := ⟨[(0, .v (slv (l).length pl.1)), (3, .v (slv 0 q1.1))], []⟩) .nil (by kernel_rfl) ?_
  clear S; intro ac w β S
  refine RG.done rfl (nx_then ?_)
  refine wp_seq ?_
  refine wp_seq ?_
  refine RG.start ?_
  refine S.quiet (k := 1) (keep := [0, 3, 4]) (m := 0) (σ' := ⟨[(0, .v (slv (l).length pl.1)), (3, .v (slv 0 q1.1)), (4, .v (I 0))], []⟩) .nil (by kernel_rfl) ?_
  clear S; intro ac w β S
  refine RG.done rfl (nx_then ?_)
  refine wp_block ?_
  replace S := S.prune (keep := [0, 3, 4]) (m := 0) (σ' := ⟨[(0, .v (slv (l).length pl.1)), (3, .v (slv 0 q1.1)), (4, .v (I 0))], []⟩) (by kernel_rfl)
  refine wp_loop_down (fun mm ac w => ∃ (k : Nat) (acc : List TAct) (q5 : GT.Ptr (List TAct)) (F6 : Bl) (u : World) (N : Bl) (β : Nat → Nat), mm = l.length - k ∧ (k ≤ l.length) ∧ (acc = f_undisturbed (l.take k)) ∧ St Go.Proofs.Try.prog Go.Proofs.Try.f23.ntmps w0 NoB u N β ⟨[(0, .v (slv (l).length pl.1)), (3, .v (slv (acc).length q5.1)), (4, .v (I (k : Int)))], []⟩ ac w ∧ Ow w0 NoB u N F6 acc q5) _ ⟨0, ([] : List TAct), q1, F2, _, _, _, rfl, (by first | omega | (simp; done) | (simp; omega)), (by simp [f_undisturbed]), S.cast (by kernel_rfl), o3⟩ ?_
  clear S o3
  rintro mm ac w ⟨k, acc, q5, F6, u, N, β, rfl, hk, hacc, S, o7⟩
  have hlacc : acc.length ≤ k := by rw [hacc]; exact Nat.le_trans (List.length_filter_le _ _) (by simp; omega)
  refine wp_seq ?_
  refine wp_seq ?_
  refine RG.start ?_
  refine S.quiet (k := 4) (keep := [0, 3, 4, 9]) (m := 0) (σ' := ⟨[(0, .v (slv (l).length pl.1)), (3, .v (slv (acc).length q5.1)), (4, .v (I (k : Int))), (9, .v (B (decide ((k : Int) < ((l).length : Int)))))], []⟩) .nil (by kernel_rfl) ?_
  clear S; intro ac w β S
  refine RG.done rfl (nx_then ?_)
  refine S.cond (e := (decide ((k : Int) < ((l).length : Int)))) (by kernel_rfl) (fun h8 => ?_) (fun h8 => ?_)
  · have g9 : (k : Int) < ((l).length : Int) := of_decide_eq_true h8
    refine wp_skip (nx_then ?_)
    refine wp_seq ?_
    refine wp_block ?_
    refine wp_seq ?_
    refine RG.start ?_
    refine S.quiet (k := 7) (keep := [0, 3, 4, 18]) (m := 0) (σ' := ⟨[(0, .v (slv (l).length pl.1)), (3, .v (slv (acc).length q5.1)), (4, .v (I (k : Int))), (18, .v (B (!(f_isOuter ((el l k).kind)))))], []⟩) (.cons (Q_idx (S.arg hl) (l := (l).length) (k := k) rfl rfl (by omega) Go.Proofs.Try.underlying41 (by kernel_rfl)) (.cons (Q_cell (S.arg hl) (t := 3) (k := k) (j := 0) (v := I ((el l k).kind)) (by omega) (by kernel_rfl) (by kernel_rfl)) (.cons (Q_call fun w hw => c_spec_IsOuter w ((el l k).kind)) .nil))) (by kernel_rfl) ?_
    clear S; intro ac w β S
    refine RG.done rfl (nx_then ?_)
    refine S.cond (e := (!(f_isOuter ((el l k).kind)))) (by kernel_rfl) (fun h10 => ?_) (fun h10 => ?_)
    · have h11 : (f_isOuter ((el l k).kind)) = false := not_t h10
      refine RG.start ?_
      refine S.quiet (k := 5) (keep := [0, 4, 19, 23]) (m := 0) (σ' := ⟨[(0, .v (slv (l).length pl.1)), (4, .v (I (k : Int))), (19, .v (slv (acc).length q5.1)), (23, .v (GT.val (α := TAct) (el l k) ()))], []⟩) (.cons (Q_idx (S.arg hl) (l := (l).length) (k := k) rfl rfl (by omega) Go.Proofs.Try.underlying41 (by kernel_rfl)) (.cons (Q_el (S.arg hl) (t := 26) (k := k) (by omega) rfl (by kernel_rfl) (by kernel_rfl)) .nil)) (by kernel_rfl) ?_
      clear S; intro ac w β S
      refine S.bs1 (α := TAct) (x := (el l k)) (p := ()) (F := NoB) (LRd.el (S.arg hl) k (by omega)) (fun b h => False.elim h) (fun b h => False.elim h) (d := 24) (by kernel_rfl) ?_
      clear S; intro ac w N q12 F13 S up o14 d15
      have d16 : Disj F6 F13 := d15 _ (fun b _ h => False.elim h) o7.sub
      replace o7 := o7.up up
      clear up d15
      refine S.appFlat (α := TAct) o7 (o14.rn) (fun _ _ h => h) (by' := 48) (d := 25) (lx := (acc).length) (ly := 1) rfl rfl (by kernel_rfl) (show _ ≤ 4194304 by simp only [List.length_append, List.length_cons, List.length_nil]; omega) ?_
      clear S; intro ac w N q17 F18 S up o19 d20
      have d21 : Disj F13 F18 := d20 _ (Disj.symm d16) o14.sub
      replace o14 := o14.upF (Disj.symm d16) up
      clear up d20
      refine S.quiet (k := 1) (keep := [0, 3, 4]) (m := 0) (σ' := ⟨[(0, .v (slv (l).length pl.1)), (3, .v (slv ((acc ++ [(el l k)])).length q17.1)), (4, .v (I (k : Int)))], []⟩) .nil (by kernel_rfl) ?_
      clear S; intro ac w β S
      refine RG.done rfl (nx_block (nx_then ?_))
      refine RG.start ?_
      refine S.quiet (k := 3) (keep := [0, 3, 4]) (m := 0) (σ' := ⟨[(0, .v (slv (l).length pl.1)), (3, .v (slv ((acc ++ [(el l k)])).length q17.1)), (4, .v (I ((k : Int) + 1)))], []⟩) (.cons (Q_add (x := (k : Int)) (y := 1) ⟨by omega, by omega⟩) .nil) (by kernel_rfl) ?_
      clear S; intro ac w β S
      refine RG.done rfl (nx_then ?_)
      replace S := S.prune (keep := [0, 3, 4]) (m := 0) (σ' := ⟨[(0, .v (slv (l).length pl.1)), (3, .v (slv ((acc ++ [(el l k)])).length q17.1)), (4, .v (I ((k : Int) + 1)))], []⟩) (by kernel_rfl)
      refine ⟨l.length - (k + 1), by omega, k + 1, (acc ++ [(el l k)]), q17, F18, _, _, _, rfl, ?_, ?_, S.cast (by kernel_rfl), o19⟩
      · clear S; first | omega | (simp [*]; done) | (simp [*]; omega)
      · clear S; rw [take_el (by omega)]; simp_all [f_undisturbed]
    · have h22 : (f_isOuter ((el l k).kind)) = true := not_f h10
      refine wp_skip (nx_block (nx_then ?_))
      refine RG.start ?_
      refine S.quiet (k := 3) (keep := [0, 3, 4]) (m := 0) (σ' := ⟨[(0, .v (slv (l).length pl.1)), (3, .v (slv (acc).length q5.1)), (4, .v (I ((k : Int) + 1)))], []⟩) (.cons (Q_add (x := (k : Int)) (y := 1) ⟨by omega, by omega⟩) .nil) (by kernel_rfl) ?_
      clear S; intro ac w β S
      refine RG.done rfl (nx_then ?_)
      replace S := S.prune (keep := [0, 3, 4]) (m := 0) (σ' := ⟨[(0, .v (slv (l).length pl.1)), (3, .v (slv (acc).length q5.1)), (4, .v (I ((k : Int) + 1)))], []⟩) (by kernel_rfl)
      refine ⟨l.length - (k + 1), by omega, k + 1, acc, q5, F6, _, _, _, rfl, ?_, ?_, S.cast (by kernel_rfl), o7⟩
      · clear S; first | omega | (simp [*]; done) | (simp [*]; omega)
      · clear S; rw [take_el (by omega)]; simp_all [f_undisturbed]
  · have g23 : ¬ ((k : Int) < ((l).length : Int)) := of_decide_eq_false h8
    refine wp_exit (ex_then (ex_then (ex_hit (nx_then ?_))))
    refine wp_seq ?_
    refine RG.start ?_
    refine S.quiet (k := 2) (keep := [2]) (m := 0) (σ' := ⟨[(2, .v (slv (acc).length q5.1))], []⟩) .nil (by kernel_rfl) ?_
    clear S; intro ac w β S
    refine RG.done rfl (nx_then ?_)
    refine wp_ret ?_
    refine S.ret (vs := [slv (acc).length q5.1]) (by kernel_rfl) ?_
    exact ret1_of S (show f_undisturbed l = acc by clear S; rw [hacc, take_all (by omega)]) rfl o7

set_option maxRecDepth 100000 in
theorem c_impl_Undisturbed (w0 : World) (l : List TAct) (pl : LP TAct) (hl : GT.rd KK (Lt w0.heap.size) w0 l pl) : Calls Go.Proofs.Try.prog 25 [slv (l).length pl.1].toArray w0 (Ret1 NoB w0 (f_undisturbed l : List TAct)) := by
  refine Calls.walk (args := [slv (l).length pl.1]) NoB Go.Proofs.Try.func25 rfl rfl ?_
  intro ac β S
  have hlel : l.length ≤ 4194304 := LRd.le hl
  refine wp_seq ?_
  refine RG.start ?_
  refine S.quiet (k := 1) (keep := [0]) (m := 0) (σ' := ⟨[(0, .v (slv (l).length pl.1))], []⟩) .nil (by kernel_rfl) ?_
  clear S; intro ac w β S
  refine RG.done rfl (nx_then ?_)
  refine wp_seq ?_
  refine RG.start ?_
  refine S.bs0 (α := TAct) (d := 6) (by kernel_rfl) ?_
  clear S; intro ac w N q1 F2 S up o3 d4
  clear up d4
  refine S.quiet (k := 1) (keep := [0, 3]) (m := 0) (σ' := ⟨[(0, .v (slv (l).length pl.1)), (3, .v (slv 0 q1.1))], []⟩) .nil (by kernel_rfl) ?_
  clear S; intro ac w β S
  refine RG.done rfl (nx_then ?_)
  refine wp_seq ?_
  refine wp_seq ?_
  refine RG.start ?_
  refine S.quiet (k := 3) (keep := [3, 7, 8, 9]) (m := 0) (σ' := ⟨[(3, .v (slv 0 q1.1)), (7, .v (slv (l).length pl.1)), (8, .v (I ((l).length : Int))), (9, .v (I 0))], []⟩) .nil (by kernel_rfl) ?_
  clear S; intro ac w β S
  refine RG.done rfl (nx_then ?_)
  refine wp_block ?_
  replace S := S.prune (keep := [3, 7, 8, 9]) (m := 0) (σ' := ⟨[(3, .v (slv 0 q1.1)), (7, .v (slv (l).length pl.1)), (8, .v (I ((l).length : Int))), (9, .v (I 0))], []⟩) (by kernel_rfl)
  refine wp_loop_down (fun mm ac w => ∃ (k : Nat) (acc : List TAct) (q5 : GT.Ptr (List TAct)) (F6 : Bl) (u : World) (N : Bl) (β : Nat → Nat), mm = l.length - k ∧ (k ≤ l.length) ∧ (acc = f_undisturbed (l.take k)) ∧ St Go.Proofs.Try.prog Go.Proofs.Try.f25.ntmps w0 NoB u N β ⟨[(3, .v (slv (acc).length q5.1)), (7, .v (slv (l).length pl.1)), (8, .v (I ((l).length : Int))), (9, .v (I (k : Int)))], []⟩ ac w ∧ Ow w0 NoB u N F6 acc q5) _ ⟨0, ([] : List TAct), q1, F2, _, _, _, rfl, (by first | omega | (simp; done) | (simp; omega)), (by simp [f_undisturbed]), S.cast (by kernel_rfl), o3⟩ ?_
  clear S o3
  rintro mm ac w ⟨k, acc, q5, F6, u, N, β, rfl, hk, hacc, S, o7⟩
  have hlacc : acc.length ≤ k := by rw [hacc]; exact Nat.le_trans (List.length_filter_le _ _) (by simp; omega)
  refine wp_seq ?_
  refine RG.start ?_
  refine S.quiet (k := 1) (keep := [3, 7, 8, 9, 10]) (m := 0) (σ' := ⟨[(3, .v (slv (acc).length q5.1)), (7, .v (slv (l).length pl.1)), (8, .v (I ((l).length : Int))), (9, .v (I (k : Int))), (10, .v (B (decide ((k : Int) < ((l).length : Int)))))], []⟩) .nil (by kernel_rfl) ?_
  clear S; intro ac w β S
  refine RG.done rfl (nx_then ?_)
  refine wp_seq ?_
  refine S.cond (e := (decide ((k : Int) < ((l).length : Int)))) (by kernel_rfl) (fun h8 => ?_) (fun h8 => ?_)
  · have g9 : (k : Int) < ((l).length : Int) := of_decide_eq_true h8
    refine wp_skip (nx_then ?_)
    refine wp_seq ?_
    refine wp_block ?_
    refine wp_seq ?_
    refine RG.start ?_
    refine S.quiet (k := 4) (keep := [3, 5, 7, 8, 9]) (m := 1) (σ' := ⟨[(3, .v (slv (acc).length q5.1)), (5, .p 0 0), (7, .v (slv (l).length pl.1)), (8, .v (I ((l).length : Int))), (9, .v (I (k : Int)))], [GT.cells (α := TAct) (el l k) ()]⟩) (.cons (Q_idx (S.arg hl) (l := (l).length) (k := k) rfl rfl (by omega) Go.Proofs.Try.underlying41 (by kernel_rfl)) (.cons (Q_el (S.arg hl) (t := 26) (k := k) (by omega) rfl (by kernel_rfl) (by kernel_rfl)) .nil)) (by kernel_rfl) ?_
    clear S; intro ac w β S
    refine RG.done rfl (nx_then ?_)
    refine wp_seq ?_
    refine RG.start ?_
    refine S.quiet (k := 4) (keep := [3, 5, 7, 8, 9, 16]) (m := 1) (σ' := ⟨[(3, .v (slv (acc).length q5.1)), (5, .p 0 0), (7, .v (slv (l).length pl.1)), (8, .v (I ((l).length : Int))), (9, .v (I (k : Int))), (16, .v (B (!(f_isOuter ((el l k).kind)))))], [GT.cells (α := TAct) (el l k) ()]⟩) (.cons (Q_call fun w hw => c_impl_IsOuter w ((el l k).kind)) .nil) (by kernel_rfl) ?_
    clear S; intro ac w β S
    refine RG.done rfl (nx_then ?_)
    refine S.cond (e := (!(f_isOuter ((el l k).kind)))) (by kernel_rfl) (fun h10 => ?_) (fun h10 => ?_)
    · have h11 : (f_isOuter ((el l k).kind)) = false := not_t h10
      refine RG.start ?_
      refine S.quiet (k := 2) (keep := [7, 8, 9, 17, 18]) (m := 0) (σ' := ⟨[(7, .v (slv (l).length pl.1)), (8, .v (I ((l).length : Int))), (9, .v (I (k : Int))), (17, .v (slv (acc).length q5.1)), (18, .v (GT.val (α := TAct) (el l k) ()))], []⟩) .nil (by kernel_rfl) ?_
      clear S; intro ac w β S
      refine S.bs1 (α := TAct) (x := (el l k)) (p := ()) (F := NoB) (LRd.el (S.arg hl) k (by omega)) (fun b h => False.elim h) (fun b h => False.elim h) (d := 19) (by kernel_rfl) ?_
      clear S; intro ac w N q12 F13 S up o14 d15
      have d16 : Disj F6 F13 := d15 _ (fun b _ h => False.elim h) o7.sub
      replace o7 := o7.up up
      clear up d15
      refine S.appFlat (α := TAct) o7 (o14.rn) (fun _ _ h => h) (by' := 48) (d := 20) (lx := (acc).length) (ly := 1) rfl rfl (by kernel_rfl) (show _ ≤ 4194304 by simp only [List.length_append, List.length_cons, List.length_nil]; omega) ?_
      clear S; intro ac w N q17 F18 S up o19 d20
      have d21 : Disj F13 F18 := d20 _ (Disj.symm d16) o14.sub
      replace o14 := o14.upF (Disj.symm d16) up
      clear up d20
      refine S.quiet (k := 1) (keep := [3, 7, 8, 9]) (m := 0) (σ' := ⟨[(3, .v (slv ((acc ++ [(el l k)])).length q17.1)), (7, .v (slv (l).length pl.1)), (8, .v (I ((l).length : Int))), (9, .v (I (k : Int)))], []⟩) .nil (by kernel_rfl) ?_
      clear S; intro ac w β S
      refine RG.done rfl (nx_block (nx_then ?_))
      refine RG.start ?_
      refine S.quiet (k := 2) (keep := [3, 7, 8, 9]) (m := 0) (σ' := ⟨[(3, .v (slv ((acc ++ [(el l k)])).length q17.1)), (7, .v (slv (l).length pl.1)), (8, .v (I ((l).length : Int))), (9, .v (I ((k : Int) + 1)))], []⟩) (.cons (Q_add (x := (k : Int)) (y := 1) ⟨by omega, by omega⟩) .nil) (by kernel_rfl) ?_
      clear S; intro ac w β S
      refine RG.done rfl (nx_then ?_)
      replace S := S.prune (keep := [3, 7, 8, 9]) (m := 0) (σ' := ⟨[(3, .v (slv ((acc ++ [(el l k)])).length q17.1)), (7, .v (slv (l).length pl.1)), (8, .v (I ((l).length : Int))), (9, .v (I ((k : Int) + 1)))], []⟩) (by kernel_rfl)
      refine ⟨l.length - (k + 1), by omega, k + 1, (acc ++ [(el l k)]), q17, F18, _, _, _, rfl, ?_, ?_, S.cast (by kernel_rfl), o19⟩
      · clear S; first | omega | (simp [*]; done) | (simp [*]; omega)
      · clear S; rw [take_el (by omega)]; simp_all [f_undisturbed]
    · have h22 : (f_isOuter ((el l k).kind)) = true := not_f h10
      refine wp_skip (nx_block (nx_then ?_))
      refine RG.start ?_
      refine S.quiet (k := 2) (keep := [3, 7, 8, 9]) (m := 0) (σ' := ⟨[(3, .v (slv (acc).length q5.1)), (7, .v (slv (l).length pl.1)), (8, .v (I ((l).length : Int))), (9, .v (I ((k : Int) + 1)))], []⟩) (.cons (Q_add (x := (k : Int)) (y := 1) ⟨by omega, by omega⟩) .nil) (by kernel_rfl) ?_
      clear S; intro ac w β S
      refine RG.done rfl (nx_then ?_)
      replace S := S.prune (keep := [3, 7, 8, 9]) (m := 0) (σ' := ⟨[(3, .v (slv (acc).length q5.1)), (7, .v (slv (l).length pl.1)), (8, .v (I ((l).length : Int))), (9, .v (I ((k : Int) + 1)))], []⟩) (by kernel_rfl)
      refine ⟨l.length - (k + 1), by omega, k + 1, acc, q5, F6, _, _, _, rfl, ?_, ?_, S.cast (by kernel_rfl), o7⟩
      · clear S; first | omega | (simp [*]; done) | (simp [*]; omega)
      · clear S; rw [take_el (by omega)]; simp_all [f_undisturbed]
  · have g23 : ¬ ((k : Int) < ((l).length : Int)) := of_decide_eq_false h8
    refine wp_exit (ex_then (ex_then (ex_hit (nx_then ?_))))
    refine wp_seq ?_
    refine RG.start ?_
    refine S.quiet (k := 2) (keep := [2]) (m := 0) (σ' := ⟨[(2, .v (slv (acc).length q5.1))], []⟩) .nil (by kernel_rfl) ?_
    clear S; intro ac w β S
    refine RG.done rfl (nx_then ?_)
    refine wp_ret ?_
    refine S.ret (vs := [slv (acc).length q5.1]) (by kernel_rfl) ?_
    exact ret1_of S (show f_undisturbed l = acc by clear S; rw [hacc, take_all (by omega)]) rfl o7

set_option maxRecDepth 100000 in
theorem c_laws_eqAct (w0 : World) (a : TAct) (b : TAct) : Calls Go.Proofs.Try.prog 38 [GT.val (α := TAct) a (), GT.val (α := TAct) b ()].toArray w0 (fun e w' => e = .returned (B (decide (a = b))) ∧ Chg NoB w0 w') := by
  refine Calls.walk (args := [GT.val (α := TAct) a (), GT.val (α := TAct) b ()]) NoB Go.Proofs.Try.func38 rfl rfl ?_
  intro ac β S
  refine wp_seq ?_
  refine RG.start ?_
  refine S.quiet (k := 3) (keep := [2, 3]) (m := 2) (σ' := ⟨[(2, .p 0 0), (3, .p 1 0)], [GT.cells (α := TAct) a (), GT.cells (α := TAct) b ()]⟩) .nil (by kernel_rfl) ?_
  clear S; intro ac w β S
  refine RG.done rfl (nx_then ?_)
  refine wp_seq ?_
  refine wp_seq ?_
  refine RG.start ?_
  refine S.quiet (k := 5) (keep := [2, 3, 9]) (m := 2) (σ' := ⟨[(2, .p 0 0), (3, .p 1 0), (9, .v (B (a.kind != b.kind)))], [GT.cells (α := TAct) a (), GT.cells (α := TAct) b ()]⟩) .nil (by kernel_rfl) ?_
  clear S; intro ac w β S
  refine RG.done rfl (nx_then ?_)
  refine S.cond (e := (a.kind != b.kind)) (by kernel_rfl) (fun h1 => ?_) (fun h1 => ?_)
  · have g2 : ¬ (a.kind = b.kind) := bne_iff_ne.1 h1
    refine wp_seq ?_
    refine RG.start ?_
    refine S.quiet (k := 1) (keep := [4]) (m := 0) (σ' := ⟨[(4, .v (B false))], []⟩) .nil (by kernel_rfl) ?_
    clear S; intro ac w β S
    refine RG.done rfl (nx_then ?_)
    refine wp_ret (rt_then ?_)
    refine S.ret (vs := [B false]) (by kernel_rfl) ?_
    exact ⟨retB (show false = decide (a = b) by clear S; first | (simp [TAct.ext_iff, *]; done) | (simp_all [TAct.ext_iff]; done)), S.chg⟩
  · have g3 : a.kind = b.kind := ne_f h1
    refine wp_skip (nx_then ?_)
    refine wp_seq ?_
    refine wp_seq ?_
    refine RG.start ?_
    refine S.quiet (k := 5) (keep := [2, 3, 14]) (m := 2) (σ' := ⟨[(2, .p 0 0), (3, .p 1 0), (14, .v (B (a.m != b.m)))], [GT.cells (α := TAct) a (), GT.cells (α := TAct) b ()]⟩) .nil (by kernel_rfl) ?_
    clear S; intro ac w β S
    refine RG.done rfl (nx_then ?_)
    refine S.cond (e := (a.m != b.m)) (by kernel_rfl) (fun h4 => ?_) (fun h4 => ?_)
    · have g5 : ¬ (a.m = b.m) := bne_iff_ne.1 h4
      refine wp_seq ?_
      refine RG.start ?_
      refine S.quiet (k := 1) (keep := [4]) (m := 0) (σ' := ⟨[(4, .v (B false))], []⟩) .nil (by kernel_rfl) ?_
      clear S; intro ac w β S
      refine RG.done rfl (nx_then ?_)
      refine wp_ret (rt_then ?_)
      refine S.ret (vs := [B false]) (by kernel_rfl) ?_
      exact ⟨retB (show false = decide (a = b) by clear S; first | (simp [TAct.ext_iff, *]; done) | (simp_all [TAct.ext_iff]; done)), S.chg⟩
    · have g6 : a.m = b.m := ne_f h4
      refine wp_skip (nx_then ?_)
      refine wp_seq ?_
      refine wp_seq ?_
      refine RG.start ?_
      refine S.quiet (k := 5) (keep := [2, 3, 19]) (m := 2) (σ' := ⟨[(2, .p 0 0), (3, .p 1 0), (19, .v (B (a.g != b.g)))], [GT.cells (α := TAct) a (), GT.cells (α := TAct) b ()]⟩) .nil (by kernel_rfl) ?_
      clear S; intro ac w β S
      refine RG.done rfl (nx_then ?_)
      refine S.cond (e := (a.g != b.g)) (by kernel_rfl) (fun h7 => ?_) (fun h7 => ?_)
      · have g8 : ¬ (a.g = b.g) := bne_iff_ne.1 h7
        refine wp_seq ?_
        refine RG.start ?_
        refine S.quiet (k := 1) (keep := [4]) (m := 0) (σ' := ⟨[(4, .v (B false))], []⟩) .nil (by kernel_rfl) ?_
        clear S; intro ac w β S
        refine RG.done rfl (nx_then ?_)
        refine wp_ret (rt_then ?_)
        refine S.ret (vs := [B false]) (by kernel_rfl) ?_
        exact ⟨retB (show false = decide (a = b) by clear S; first | (simp [TAct.ext_iff, *]; done) | (simp_all [TAct.ext_iff]; done)), S.chg⟩
      · have g9 : a.g = b.g := ne_f h7
        refine wp_skip (nx_then ?_)
        refine wp_seq ?_
        refine wp_seq ?_
        refine RG.start ?_
        refine S.quiet (k := 5) (keep := [2, 3, 24]) (m := 2) (σ' := ⟨[(2, .p 0 0), (3, .p 1 0), (24, .v (B (a.x != b.x)))], [GT.cells (α := TAct) a (), GT.cells (α := TAct) b ()]⟩) .nil (by kernel_rfl) ?_
        clear S; intro ac w β S
        refine RG.done rfl (nx_then ?_)
        refine S.cond (e := (a.x != b.x)) (by kernel_rfl) (fun h10 => ?_) (fun h10 => ?_)
        · have g11 : ¬ (a.x = b.x) := bne_iff_ne.1 h10
          refine wp_seq ?_
          refine RG.start ?_
          refine S.quiet (k := 1) (keep := [4]) (m := 0) (σ' := ⟨[(4, .v (B false))], []⟩) .nil (by kernel_rfl) ?_
          clear S; intro ac w β S
          refine RG.done rfl (nx_then ?_)
          refine wp_ret (rt_then ?_)
          refine S.ret (vs := [B false]) (by kernel_rfl) ?_
          exact ⟨retB (show false = decide (a = b) by clear S; first | (simp [TAct.ext_iff, *]; done) | (simp_all [TAct.ext_iff]; done)), S.chg⟩
        · have g12 : a.x = b.x := ne_f h10
          refine wp_skip (nx_then ?_)
          refine wp_seq ?_
          refine wp_seq ?_
          refine RG.start ?_
          refine S.quiet (k := 5) (keep := [2, 3, 29]) (m := 2) (σ' := ⟨[(2, .p 0 0), (3, .p 1 0), (29, .v (B (a.y != b.y)))], [GT.cells (α := TAct) a (), GT.cells (α := TAct) b ()]⟩) .nil (by kernel_rfl) ?_
          clear S; intro ac w β S
          refine RG.done rfl (nx_then ?_)
          refine S.cond (e := (a.y != b.y)) (by kernel_rfl) (fun h13 => ?_) (fun h13 => ?_)
          · have g14 : ¬ (a.y = b.y) := bne_iff_ne.1 h13
            refine wp_seq ?_
            refine RG.start ?_
            refine S.quiet (k := 1) (keep := [4]) (m := 0) (σ' := ⟨[(4, .v (B false))], []⟩) .nil (by kernel_rfl) ?_
            clear S; intro ac w β S
            refine RG.done rfl (nx_then ?_)
            refine wp_ret (rt_then ?_)
            refine S.ret (vs := [B false]) (by kernel_rfl) ?_
            exact ⟨retB (show false = decide (a = b) by clear S; first | (simp [TAct.ext_iff, *]; done) | (simp_all [TAct.ext_iff]; done)), S.chg⟩
          · have g15 : a.y = b.y := ne_f h13
            refine wp_skip (nx_then ?_)
            refine wp_seq ?_
            refine wp_seq ?_
            refine RG.start ?_
            refine S.quiet (k := 5) (keep := [34]) (m := 0) (σ' := ⟨[(34, .v (B (a.z != b.z)))], []⟩) .nil (by kernel_rfl) ?_
            clear S; intro ac w β S
            refine RG.done rfl (nx_then ?_)
            refine S.cond (e := (a.z != b.z)) (by kernel_rfl) (fun h16 => ?_) (fun h16 => ?_)
            · have g17 : ¬ (a.z = b.z) := bne_iff_ne.1 h16
              refine wp_seq ?_
              refine RG.start ?_
              refine S.quiet (k := 1) (keep := [4]) (m := 0) (σ' := ⟨[(4, .v (B false))], []⟩) .nil (by kernel_rfl) ?_
              clear S; intro ac w β S
              refine RG.done rfl (nx_then ?_)
              refine wp_ret (rt_then ?_)
              refine S.ret (vs := [B false]) (by kernel_rfl) ?_
              exact ⟨retB (show false = decide (a = b) by clear S; first | (simp [TAct.ext_iff, *]; done) | (simp_all [TAct.ext_iff]; done)), S.chg⟩
            · have g18 : a.z = b.z := ne_f h16
              refine wp_skip (nx_then ?_)
              refine wp_seq ?_
              refine RG.start ?_
              refine S.quiet (k := 1) (keep := [4]) (m := 0) (σ' := ⟨[(4, .v (B true))], []⟩) .nil (by kernel_rfl) ?_
              clear S; intro ac w β S
              refine RG.done rfl (nx_then ?_)
              refine wp_ret ?_
              refine S.ret (vs := [B true]) (by kernel_rfl) ?_
              exact ⟨retB (show true = decide (a = b) by clear S; first | (simp [TAct.ext_iff, *]; done) | (simp_all [TAct.ext_iff]; done)), S.chg⟩

set_option maxRecDepth 100000 in
theorem c_laws_eqActS (w0 : World) (a : List TAct) (pa : LP TAct) (ha : GT.rd KK (Lt w0.heap.size) w0 a pa) (b : List TAct) (pb : LP TAct) (hb : GT.rd KK (Lt w0.heap.size) w0 b pb) : Calls Go.Proofs.Try.prog 26 [slv (a).length pa.1, slv (b).length pb.1].toArray w0 (fun e w' => e = .returned (B (decide (a = b))) ∧ Chg NoB w0 w') := by
  refine Calls.walk (args := [slv (a).length pa.1, slv (b).length pb.1]) NoB Go.Proofs.Try.func26 rfl rfl ?_
  intro ac β S
  have hlea : a.length ≤ 4194304 := LRd.le ha
  have hleb : b.length ≤ 4194304 := LRd.le hb
  refine wp_seq ?_
  refine RG.start ?_
  refine S.quiet (k := 1) (keep := [0, 1]) (m := 0) (σ' := ⟨[(0, .v (slv (a).length pa.1)), (1, .v (slv (b).length pb.1))], []⟩) .nil (by kernel_rfl) ?_
  clear S; intro ac w β S
  refine RG.done rfl (nx_then ?_)
  refine wp_seq ?_
  refine wp_seq ?_
  refine RG.start ?_
  refine S.quiet (k := 5) (keep := [0, 1, 10]) (m := 0) (σ' := ⟨[(0, .v (slv (a).length pa.1)), (1, .v (slv (b).length pb.1)), (10, .v (B (((a).length : Int) != ((b).length : Int))))], []⟩) .nil (by kernel_rfl) ?_
  clear S; intro ac w β S
  refine RG.done rfl (nx_then ?_)
  refine S.cond (e := (((a).length : Int) != ((b).length : Int))) (by kernel_rfl) (fun h1 => ?_) (fun h1 => ?_)
  · have g2 : ¬ (((a).length : Int) = ((b).length : Int)) := bne_iff_ne.1 h1
    refine wp_seq ?_
    refine RG.start ?_
    refine S.quiet (k := 1) (keep := [4]) (m := 0) (σ' := ⟨[(4, .v (B false))], []⟩) .nil (by kernel_rfl) ?_
    clear S; intro ac w β S
    refine RG.done rfl (nx_then ?_)
    refine wp_ret (rt_then ?_)
    refine S.ret (vs := [B false]) (by kernel_rfl) ?_
    exact ⟨retB (show false = decide (a = b) by clear S; first | (simp; intro e; subst e; simp_all; done) | (simp; rw [take_all (by omega), take_all (by omega)] at he; exact he) | (simp; exact take_ne (by simp_all))), S.chg⟩
  · have g3 : ((a).length : Int) = ((b).length : Int) := ne_f h1
    refine wp_skip (nx_then ?_)
    refine wp_seq ?_
    refine wp_seq ?_
    refine RG.start ?_
    refine S.quiet (k := 1) (keep := [0, 1, 5]) (m := 0) (σ' := ⟨[(0, .v (slv (a).length pa.1)), (1, .v (slv (b).length pb.1)), (5, .v (I 0))], []⟩) .nil (by kernel_rfl) ?_
    clear S; intro ac w β S
    refine RG.done rfl (nx_then ?_)
    refine wp_block ?_
    replace S := S.prune (keep := [0, 1, 5]) (m := 0) (σ' := ⟨[(0, .v (slv (a).length pa.1)), (1, .v (slv (b).length pb.1)), (5, .v (I 0))], []⟩) (by kernel_rfl)
    refine wp_loop_down (fun mm ac w => ∃ (k : Nat)  (u : World) (N : Bl) (β : Nat → Nat), mm = a.length - k ∧ (k ≤ a.length) ∧ (a.length = b.length) ∧ (a.take k = b.take k) ∧ St Go.Proofs.Try.prog Go.Proofs.Try.f26.ntmps w0 NoB u N β ⟨[(0, .v (slv (a).length pa.1)), (1, .v (slv (b).length pb.1)), (5, .v (I (k : Int)))], []⟩ ac w) _ ⟨0, _, _, _, rfl, (by first | omega | (simp; done) | (simp; omega)), (by first | omega | (simp; done) | (simp; omega)), (by simp), S.cast (by kernel_rfl)⟩ ?_
    clear S
    rintro mm ac w ⟨k, u, N, β, rfl, hk, hab, he, S⟩
    refine wp_seq ?_
    refine wp_seq ?_
    refine RG.start ?_
    refine S.quiet (k := 4) (keep := [0, 1, 5, 14]) (m := 0) (σ' := ⟨[(0, .v (slv (a).length pa.1)), (1, .v (slv (b).length pb.1)), (5, .v (I (k : Int))), (14, .v (B (decide ((k : Int) < ((a).length : Int)))))], []⟩) .nil (by kernel_rfl) ?_
    clear S; intro ac w β S
    refine RG.done rfl (nx_then ?_)
    refine S.cond (e := (decide ((k : Int) < ((a).length : Int)))) (by kernel_rfl) (fun h4 => ?_) (fun h4 => ?_)
    · have g5 : (k : Int) < ((a).length : Int) := of_decide_eq_true h4
      refine wp_skip (nx_then ?_)
      refine wp_seq ?_
      refine wp_block ?_
      refine wp_seq ?_
      refine S.drawn (keep := [0, 1, 5, 26]) (m := 0) (σ' := ⟨[(0, .v (slv (a).length pa.1)), (1, .v (slv (b).length pb.1)), (5, .v (I (k : Int))), (26, .v (B (!(decide ((el a k) = (el b k))))))], []⟩) (.cons (Q_idx (S.arg ha) (l := (a).length) (k := k) rfl rfl (by omega) Go.Proofs.Try.underlying41 (by kernel_rfl)) (.cons (Q_el (S.arg ha) (t := 26) (k := k) (by omega) rfl (by kernel_rfl) (by kernel_rfl)) (.cons (Q_idx (S.arg hb) (l := (b).length) (k := k) rfl rfl (by omega) Go.Proofs.Try.underlying41 (by kernel_rfl)) (.cons (Q_el (S.arg hb) (t := 26) (k := k) (by omega) rfl (by kernel_rfl) (by kernel_rfl)) (.cons (Q_call fun w hw => c_laws_eqAct w (el a k) (el b k)) .nil))))) rfl (by kernel_rfl) (by kernel_rfl) ?_
      clear S; intro ac w S
      refine id (nx_then ?_)
      refine S.cond (e := (!(decide ((el a k) = (el b k))))) (by kernel_rfl) (fun h6 => ?_) (fun h6 => ?_)
      · have h7 : (decide ((el a k) = (el b k))) = false := not_t h6
        have g8 := of_decide_eq_false h7
        refine wp_seq ?_
        refine RG.start ?_
        refine S.quiet (k := 1) (keep := [4]) (m := 0) (σ' := ⟨[(4, .v (B false))], []⟩) .nil (by kernel_rfl) ?_
        clear S; intro ac w β S
        refine RG.done rfl (nx_then ?_)
        refine wp_ret (rt_block (rt_then (rt_then (rt_block (rt_then ?_)))))
        refine S.ret (vs := [B false]) (by kernel_rfl) ?_
        exact ⟨retB (show false = decide (a = b) by clear S; first | (simp; intro e; subst e; simp_all; done) | (simp; rw [take_all (by omega), take_all (by omega)] at he; exact he) | (simp; exact take_ne (by simp_all))), S.chg⟩
      · have h9 : (decide ((el a k) = (el b k))) = true := not_f h6
        have g10 := of_decide_eq_true h9
        refine wp_skip (nx_block (nx_then ?_))
        refine RG.start ?_
        refine S.quiet (k := 3) (keep := [0, 1, 5]) (m := 0) (σ' := ⟨[(0, .v (slv (a).length pa.1)), (1, .v (slv (b).length pb.1)), (5, .v (I ((k : Int) + 1)))], []⟩) (.cons (Q_add (x := (k : Int)) (y := 1) ⟨by omega, by omega⟩) .nil) (by kernel_rfl) ?_
        clear S; intro ac w β S
        refine RG.done rfl (nx_then ?_)
        replace S := S.prune (keep := [0, 1, 5]) (m := 0) (σ' := ⟨[(0, .v (slv (a).length pa.1)), (1, .v (slv (b).length pb.1)), (5, .v (I ((k : Int) + 1)))], []⟩) (by kernel_rfl)
        refine ⟨a.length - (k + 1), by omega, k + 1, _, _, _, rfl, ?_, ?_, ?_, S.cast (by kernel_rfl)⟩
        · clear S; first | omega | (simp [*]; done) | (simp [*]; omega)
        · clear S; first | omega | (simp [*]; done) | (simp [*]; omega)
        · clear S; exact take_eq_step (by omega) (by omega) he (by simp_all)
    · have g11 : ¬ ((k : Int) < ((a).length : Int)) := of_decide_eq_false h4
      refine wp_exit (ex_then (ex_then (ex_hit (nx_then ?_))))
      refine wp_seq ?_
      refine RG.start ?_
      refine S.quiet (k := 1) (keep := [4]) (m := 0) (σ' := ⟨[(4, .v (B true))], []⟩) .nil (by kernel_rfl) ?_
      clear S; intro ac w β S
      refine RG.done rfl (nx_then ?_)
      refine wp_ret ?_
      refine S.ret (vs := [B true]) (by kernel_rfl) ?_
      exact ⟨retB (show true = decide (a = b) by clear S; first | (simp; intro e; subst e; simp_all; done) | (simp; rw [take_all (by omega), take_all (by omega)] at he; exact he) | (simp; exact take_ne (by simp_all))), S.chg⟩

set_option maxRecDepth 100000 in
theorem c_laws_markActS (w0 : World) (a : List TAct) (pa : LP TAct) (F : Bl) (ha : GT.own KK F w0 a pa) (hF : ∀ b, F b → b < w0.heap.size) (k : Int) (pre0 : 0 ≤ k) (pre1 : k ≤ 4611686018427387904) : Calls Go.Proofs.Try.prog 27 [slv (a).length pa.1, I k].toArray w0 (RetM F w0 pa a (f_marksAct a.length k) (k + 6 * (a.length : Int))) := by
  refine Calls.walk (args := [slv (a).length pa.1, I k]) F Go.Proofs.Try.func27 rfl rfl ?_
  intro ac β S
  have oa : Ow w0 F w0 (Lt w0.heap.size) F a pa := ⟨ha, hF, fun b hb => .inr hb⟩
  have hlea : a.length ≤ 4194304 := LOwn.le ha
  refine wp_seq ?_
  refine RG.start ?_
  refine S.quiet (k := 1) (keep := [0, 1]) (m := 0) (σ' := ⟨[(0, .v (slv (a).length pa.1)), (1, .v (I k))], []⟩) .nil (by kernel_rfl) ?_
  clear S; intro ac w β S
  refine RG.done rfl (nx_then ?_)
  refine wp_seq ?_
  refine wp_seq ?_
  refine RG.start ?_
  refine S.quiet (k := 1) (keep := [0, 1, 5]) (m := 0) (σ' := ⟨[(0, .v (slv (a).length pa.1)), (1, .v (I k)), (5, .v (I 0))], []⟩) .nil (by kernel_rfl) ?_
  clear S; intro ac w β S
  refine RG.done rfl (nx_then ?_)
  refine wp_block ?_
  replace S := S.prune (keep := [0, 1, 5]) (m := 0) (σ' := ⟨[(0, .v (slv (a).length pa.1)), (1, .v (I k)), (5, .v (I 0))], []⟩) (by kernel_rfl)
  refine wp_loop_down (fun mm ac w => ∃ (i : Nat) (acc : List TAct) (j : Int) (q1 : GT.Ptr (List TAct)) (F2 : Bl) (u : World) (N : Bl) (β : Nat → Nat), mm = a.length - i ∧ (i ≤ a.length) ∧ (acc = f_marksAct i k ++ a.drop i) ∧ (j = k + 6 * (i : Int)) ∧ St Go.Proofs.Try.prog Go.Proofs.Try.f27.ntmps w0 F u N β ⟨[(0, .v (slv a.length q1.1)), (1, .v (I j)), (5, .v (I (i : Int)))], []⟩ ac w ∧ Ow w0 F u N F2 acc q1 ∧ q1.1 = pa.1 ∧ (∀ b, F2 b → F b)) _ ⟨0, a, k, pa, F, _, _, _, rfl, (by first | omega | (simp; done) | (simp; omega)), (by simp [f_marksAct]), (by simp), S.cast (by kernel_rfl), oa, rfl, (fun _ h => h)⟩ ?_
  clear S oa
  rintro mm ac w ⟨i, acc, j, q1, F2, u, N, β, rfl, hi, hacc, hj, S, o3, hq, hs⟩
  have hlacc : acc.length = a.length := by rw [hacc]; simp [f_marksAct]; omega
  refine wp_seq ?_
  refine wp_seq ?_
  refine RG.start ?_
  refine S.quiet (k := 4) (keep := [0, 1, 5, 9]) (m := 0) (σ' := ⟨[(0, .v (slv a.length q1.1)), (1, .v (I j)), (5, .v (I (i : Int))), (9, .v (B (decide ((i : Int) < (a.length : Int)))))], []⟩) .nil (by kernel_rfl) ?_
  clear S; intro ac w β S
  refine RG.done rfl (nx_then ?_)
  refine S.cond (e := (decide ((i : Int) < (a.length : Int)))) (by kernel_rfl) (fun h4 => ?_) (fun h4 => ?_)
  · have g5 : (i : Int) < (a.length : Int) := of_decide_eq_true h4
    refine wp_skip (nx_then ?_)
    refine wp_seq ?_
    refine wp_block ?_
    refine wp_seq ?_
    refine RG.start ?_
    refine S.quiet (k := 5) (keep := [0, 1, 5, 14, 16]) (m := 0) (σ' := ⟨[(0, .v (slv a.length q1.1)), (1, .v (I j)), (5, .v (I (i : Int))), (14, .v (I j)), (16, .v (pt q1.1.b (q1.1.off + i * 6)))], []⟩) (.cons (Q_idx o3.rn (l := a.length) (k := i) (by rw [hacc]; simp [f_marksAct]; omega) rfl (by omega) Go.Proofs.Try.underlying41 (by kernel_rfl)) .nil) (by kernel_rfl) ?_
    clear S; intro ac w β S
    have e6 : RAct (el acc i) := (LRd.el o3.rn i (by omega))
    refine S.setEl (α := TAct) o3 (t := 3) (v := I j) (k := i) (j := 0) (off := q1.1.off + i * 6) (y := (⟨j, (el acc i).m, (el acc i).g, (el acc i).x, (el acc i).y, (el acc i).z⟩ : TAct)) (q := ()) (Fy := NoB) (by kernel_rfl) (by kernel_rfl) (by omega) (by kernel_rfl) (by kernel_rfl) (Nat.le_of_ble_eq_true (by kernel_rfl)) (by kernel_rfl) (fun _ _ => ⟨NoB, (show RAct (⟨j, (el acc i).m, (el acc i).g, (el acc i).x, (el acc i).y, (el acc i).z⟩ : TAct) from ⟨(show In64 j from ⟨by omega, by omega⟩), (RAct.m (d := (el acc i)) e6), (RAct.g (d := (el acc i)) e6), (RAct.x (d := (el acc i)) e6), (RAct.y (d := (el acc i)) e6), (RAct.z (d := (el acc i)) e6)⟩), fun _ h => False.elim h⟩) (fun b _ h => False.elim h) (fun b h => False.elim h) (fun b h => False.elim h) ?_
    clear S; intro w N F8 q9 S up o7 d10 s11
    have s12 : ∀ b, F8 b → F b := fun b h => (s11 b h).elim (hs b) (fun h => False.elim h)
    clear up d10 o3
    have l13 : (acc.set i (⟨j, (el acc i).m, (el acc i).g, (el acc i).x, (el acc i).y, (el acc i).z⟩ : TAct)).length = (acc).length := List.length_set
    replace S := S.prune (keep := [0, 1, 5]) (m := 0) (σ' := ⟨[(0, .v (slv a.length q1.1)), (1, .v (I j)), (5, .v (I (i : Int)))], []⟩) (by kernel_rfl)
    refine RG.done rfl (nx_then ?_)
    refine wp_seq ?_
    refine RG.start ?_
    refine S.quiet (k := 3) (keep := [0, 1, 5]) (m := 0) (σ' := ⟨[(0, .v (slv a.length q1.1)), (1, .v (I (j + 1))), (5, .v (I (i : Int)))], []⟩) (.cons (Q_add (x := j) (y := 1) ⟨by omega, by omega⟩) .nil) (by kernel_rfl) ?_
    clear S; intro ac w β S
    refine RG.done rfl (nx_then ?_)
    refine wp_seq ?_
    refine RG.start ?_
    refine S.quiet (k := 5) (keep := [0, 1, 5, 21, 23]) (m := 0) (σ' := ⟨[(0, .v (slv a.length q1.1)), (1, .v (I (j + 1))), (5, .v (I (i : Int))), (21, .v (I (j + 1))), (23, .v (pt q1.1.b (q1.1.off + i * 6 + 1)))], []⟩) (.cons (Q_idx o7.rn (l := a.length) (k := i) (by rw [List.length_set]; exact (by rw [hacc]; simp [f_marksAct]; omega)) rfl (by omega) Go.Proofs.Try.underlying41 (by kernel_rfl)) .nil) (by kernel_rfl) ?_
    clear S; intro ac w β S
    refine S.setEl (α := TAct) o7 (t := 3) (v := I (j + 1)) (k := i) (j := 1) (off := q1.1.off + i * 6 + 1) (y := (⟨j, (j + 1), (el acc i).g, (el acc i).x, (el acc i).y, (el acc i).z⟩ : TAct)) (q := ()) (Fy := NoB) (by kernel_rfl) (by kernel_rfl) (by omega) (by kernel_rfl) (by kernel_rfl) (Nat.le_of_ble_eq_true (by kernel_rfl)) (by rw [el_set_self (show i < (acc).length by omega)]; kernel_rfl) (fun _ _ => ⟨NoB, (show RAct (⟨j, (j + 1), (el acc i).g, (el acc i).x, (el acc i).y, (el acc i).z⟩ : TAct) from ⟨(show In64 j from ⟨by omega, by omega⟩), (show In64 (j + 1) from ⟨by omega, by omega⟩), (RAct.g (d := (el acc i)) e6), (RAct.x (d := (el acc i)) e6), (RAct.y (d := (el acc i)) e6), (RAct.z (d := (el acc i)) e6)⟩), fun _ h => False.elim h⟩) (fun b _ h => False.elim h) (fun b h => False.elim h) (fun b h => False.elim h) ?_
    clear S; intro w N F15 q16 S up o14 d17 s18
    have s19 : ∀ b, F15 b → F b := fun b h => (s18 b h).elim (s12 b) (fun h => False.elim h)
    clear up d17 o7
    rw [List.set_set] at o14
    have l20 : (acc.set i (⟨j, (j + 1), (el acc i).g, (el acc i).x, (el acc i).y, (el acc i).z⟩ : TAct)).length = (acc).length := List.length_set
    replace S := S.prune (keep := [0, 1, 5]) (m := 0) (σ' := ⟨[(0, .v (slv a.length q1.1)), (1, .v (I (j + 1))), (5, .v (I (i : Int)))], []⟩) (by kernel_rfl)
    refine RG.done rfl (nx_then ?_)
    refine wp_seq ?_
    refine RG.start ?_
    refine S.quiet (k := 3) (keep := [0, 1, 5]) (m := 0) (σ' := ⟨[(0, .v (slv a.length q1.1)), (1, .v (I ((j + 1) + 1))), (5, .v (I (i : Int)))], []⟩) (.cons (Q_add (x := (j + 1)) (y := 1) ⟨by omega, by omega⟩) .nil) (by kernel_rfl) ?_
    clear S; intro ac w β S
    refine RG.done rfl (nx_then ?_)
    refine wp_seq ?_
    refine RG.start ?_
    refine S.quiet (k := 5) (keep := [0, 1, 5, 28, 30]) (m := 0) (σ' := ⟨[(0, .v (slv a.length q1.1)), (1, .v (I ((j + 1) + 1))), (5, .v (I (i : Int))), (28, .v (I ((j + 1) + 1))), (30, .v (pt q1.1.b (q1.1.off + i * 6 + 2)))], []⟩) (.cons (Q_idx o14.rn (l := a.length) (k := i) (by rw [List.length_set]; exact (by rw [hacc]; simp [f_marksAct]; omega)) rfl (by omega) Go.Proofs.Try.underlying41 (by kernel_rfl)) .nil) (by kernel_rfl) ?_
    clear S; intro ac w β S
    refine S.setEl (α := TAct) o14 (t := 3) (v := I ((j + 1) + 1)) (k := i) (j := 2) (off := q1.1.off + i * 6 + 2) (y := (⟨j, (j + 1), ((j + 1) + 1), (el acc i).x, (el acc i).y, (el acc i).z⟩ : TAct)) (q := ()) (Fy := NoB) (by kernel_rfl) (by kernel_rfl) (by omega) (by kernel_rfl) (by kernel_rfl) (Nat.le_of_ble_eq_true (by kernel_rfl)) (by rw [el_set_self (show i < (acc).length by omega)]; kernel_rfl) (fun _ _ => ⟨NoB, (show RAct (⟨j, (j + 1), ((j + 1) + 1), (el acc i).x, (el acc i).y, (el acc i).z⟩ : TAct) from ⟨(show In64 j from ⟨by omega, by omega⟩), (show In64 (j + 1) from ⟨by omega, by omega⟩), (show In64 ((j + 1) + 1) from ⟨by omega, by omega⟩), (RAct.x (d := (el acc i)) e6), (RAct.y (d := (el acc i)) e6), (RAct.z (d := (el acc i)) e6)⟩), fun _ h => False.elim h⟩) (fun b _ h => False.elim h) (fun b h => False.elim h) (fun b h => False.elim h) ?_
    clear S; intro w N F22 q23 S up o21 d24 s25
    have s26 : ∀ b, F22 b → F b := fun b h => (s25 b h).elim (s19 b) (fun h => False.elim h)
    clear up d24 o14
    rw [List.set_set] at o21
    have l27 : (acc.set i (⟨j, (j + 1), ((j + 1) + 1), (el acc i).x, (el acc i).y, (el acc i).z⟩ : TAct)).length = (acc).length := List.length_set
    replace S := S.prune (keep := [0, 1, 5]) (m := 0) (σ' := ⟨[(0, .v (slv a.length q1.1)), (1, .v (I ((j + 1) + 1))), (5, .v (I (i : Int)))], []⟩) (by kernel_rfl)
    refine RG.done rfl (nx_then ?_)
    refine wp_seq ?_
    refine RG.start ?_
    refine S.quiet (k := 3) (keep := [0, 1, 5]) (m := 0) (σ' := ⟨[(0, .v (slv a.length q1.1)), (1, .v (I (((j + 1) + 1) + 1))), (5, .v (I (i : Int)))], []⟩) (.cons (Q_add (x := ((j + 1) + 1)) (y := 1) ⟨by omega, by omega⟩) .nil) (by kernel_rfl) ?_
    clear S; intro ac w β S
    refine RG.done rfl (nx_then ?_)
    refine wp_seq ?_
    refine RG.start ?_
    refine S.quiet (k := 5) (keep := [0, 1, 5, 35, 37]) (m := 0) (σ' := ⟨[(0, .v (slv a.length q1.1)), (1, .v (I (((j + 1) + 1) + 1))), (5, .v (I (i : Int))), (35, .v (I (((j + 1) + 1) + 1))), (37, .v (pt q1.1.b (q1.1.off + i * 6 + 3)))], []⟩) (.cons (Q_idx o21.rn (l := a.length) (k := i) (by rw [List.length_set]; exact (by rw [hacc]; simp [f_marksAct]; omega)) rfl (by omega) Go.Proofs.Try.underlying41 (by kernel_rfl)) .nil) (by kernel_rfl) ?_
    clear S; intro ac w β S
    refine S.setEl (α := TAct) o21 (t := 3) (v := I (((j + 1) + 1) + 1)) (k := i) (j := 3) (off := q1.1.off + i * 6 + 3) (y := (⟨j, (j + 1), ((j + 1) + 1), (((j + 1) + 1) + 1), (el acc i).y, (el acc i).z⟩ : TAct)) (q := ()) (Fy := NoB) (by kernel_rfl) (by kernel_rfl) (by omega) (by kernel_rfl) (by kernel_rfl) (Nat.le_of_ble_eq_true (by kernel_rfl)) (by rw [el_set_self (show i < (acc).length by omega)]; kernel_rfl) (fun _ _ => ⟨NoB, (show RAct (⟨j, (j + 1), ((j + 1) + 1), (((j + 1) + 1) + 1), (el acc i).y, (el acc i).z⟩ : TAct) from ⟨(show In64 j from ⟨by omega, by omega⟩), (show In64 (j + 1) from ⟨by omega, by omega⟩), (show In64 ((j + 1) + 1) from ⟨by omega, by omega⟩), (show In64 (((j + 1) + 1) + 1) from ⟨by omega, by omega⟩), (RAct.y (d := (el acc i)) e6), (RAct.z (d := (el acc i)) e6)⟩), fun _ h => False.elim h⟩) (fun b _ h => False.elim h) (fun b h => False.elim h) (fun b h => False.elim h) ?_
    clear S; intro w N F29 q30 S up o28 d31 s32
    have s33 : ∀ b, F29 b → F b := fun b h => (s32 b h).elim (s26 b) (fun h => False.elim h)
    clear up d31 o21
    rw [List.set_set] at o28
    have l34 : (acc.set i (⟨j, (j + 1), ((j + 1) + 1), (((j + 1) + 1) + 1), (el acc i).y, (el acc i).z⟩ : TAct)).length = (acc).length := List.length_set
    replace S := S.prune (keep := [0, 1, 5]) (m := 0) (σ' := ⟨[(0, .v (slv a.length q1.1)), (1, .v (I (((j + 1) + 1) + 1))), (5, .v (I (i : Int)))], []⟩) (by kernel_rfl)
    refine RG.done rfl (nx_then ?_)
    refine wp_seq ?_
    refine RG.start ?_
    refine S.quiet (k := 3) (keep := [0, 1, 5]) (m := 0) (σ' := ⟨[(0, .v (slv a.length q1.1)), (1, .v (I ((((j + 1) + 1) + 1) + 1))), (5, .v (I (i : Int)))], []⟩) (.cons (Q_add (x := (((j + 1) + 1) + 1)) (y := 1) ⟨by omega, by omega⟩) .nil) (by kernel_rfl) ?_
    clear S; intro ac w β S
    refine RG.done rfl (nx_then ?_)
    refine wp_seq ?_
    refine RG.start ?_
    refine S.quiet (k := 5) (keep := [0, 1, 5, 42, 44]) (m := 0) (σ' := ⟨[(0, .v (slv a.length q1.1)), (1, .v (I ((((j + 1) + 1) + 1) + 1))), (5, .v (I (i : Int))), (42, .v (I ((((j + 1) + 1) + 1) + 1))), (44, .v (pt q1.1.b (q1.1.off + i * 6 + 4)))], []⟩) (.cons (Q_idx o28.rn (l := a.length) (k := i) (by rw [List.length_set]; exact (by rw [hacc]; simp [f_marksAct]; omega)) rfl (by omega) Go.Proofs.Try.underlying41 (by kernel_rfl)) .nil) (by kernel_rfl) ?_
    clear S; intro ac w β S
    refine S.setEl (α := TAct) o28 (t := 3) (v := I ((((j + 1) + 1) + 1) + 1)) (k := i) (j := 4) (off := q1.1.off + i * 6 + 4) (y := (⟨j, (j + 1), ((j + 1) + 1), (((j + 1) + 1) + 1), ((((j + 1) + 1) + 1) + 1), (el acc i).z⟩ : TAct)) (q := ()) (Fy := NoB) (by kernel_rfl) (by kernel_rfl) (by omega) (by kernel_rfl) (by kernel_rfl) (Nat.le_of_ble_eq_true (by kernel_rfl)) (by rw [el_set_self (show i < (acc).length by omega)]; kernel_rfl) (fun _ _ => ⟨NoB, (show RAct (⟨j, (j + 1), ((j + 1) + 1), (((j + 1) + 1) + 1), ((((j + 1) + 1) + 1) + 1), (el acc i).z⟩ : TAct) from ⟨(show In64 j from ⟨by omega, by omega⟩), (show In64 (j + 1) from ⟨by omega, by omega⟩), (show In64 ((j + 1) + 1) from ⟨by omega, by omega⟩), (show In64 (((j + 1) + 1) + 1) from ⟨by omega, by omega⟩), (show In64 ((((j + 1) + 1) + 1) + 1) from ⟨by omega, by omega⟩), (RAct.z (d := (el acc i)) e6)⟩), fun _ h => False.elim h⟩) (fun b _ h => False.elim h) (fun b h => False.elim h) (fun b h => False.elim h) ?_
    clear S; intro w N F36 q37 S up o35 d38 s39
    have s40 : ∀ b, F36 b → F b := fun b h => (s39 b h).elim (s33 b) (fun h => False.elim h)
    clear up d38 o28
    rw [List.set_set] at o35
    have l41 : (acc.set i (⟨j, (j + 1), ((j + 1) + 1), (((j + 1) + 1) + 1), ((((j + 1) + 1) + 1) + 1), (el acc i).z⟩ : TAct)).length = (acc).length := List.length_set
    replace S := S.prune (keep := [0, 1, 5]) (m := 0) (σ' := ⟨[(0, .v (slv a.length q1.1)), (1, .v (I ((((j + 1) + 1) + 1) + 1))), (5, .v (I (i : Int)))], []⟩) (by kernel_rfl)
    refine RG.done rfl (nx_then ?_)
    refine wp_seq ?_
    refine RG.start ?_
    refine S.quiet (k := 3) (keep := [0, 1, 5]) (m := 0) (σ' := ⟨[(0, .v (slv a.length q1.1)), (1, .v (I (((((j + 1) + 1) + 1) + 1) + 1))), (5, .v (I (i : Int)))], []⟩) (.cons (Q_add (x := ((((j + 1) + 1) + 1) + 1)) (y := 1) ⟨by omega, by omega⟩) .nil) (by kernel_rfl) ?_
    clear S; intro ac w β S
    refine RG.done rfl (nx_then ?_)
    refine wp_seq ?_
    refine RG.start ?_
    refine S.quiet (k := 5) (keep := [0, 1, 5, 49, 51]) (m := 0) (σ' := ⟨[(0, .v (slv a.length q1.1)), (1, .v (I (((((j + 1) + 1) + 1) + 1) + 1))), (5, .v (I (i : Int))), (49, .v (I (((((j + 1) + 1) + 1) + 1) + 1))), (51, .v (pt q1.1.b (q1.1.off + i * 6 + 5)))], []⟩) (.cons (Q_idx o35.rn (l := a.length) (k := i) (by rw [List.length_set]; exact (by rw [hacc]; simp [f_marksAct]; omega)) rfl (by omega) Go.Proofs.Try.underlying41 (by kernel_rfl)) .nil) (by kernel_rfl) ?_
    clear S; intro ac w β S
    refine S.setEl (α := TAct) o35 (t := 3) (v := I (((((j + 1) + 1) + 1) + 1) + 1)) (k := i) (j := 5) (off := q1.1.off + i * 6 + 5) (y := (⟨j, (j + 1), ((j + 1) + 1), (((j + 1) + 1) + 1), ((((j + 1) + 1) + 1) + 1), (((((j + 1) + 1) + 1) + 1) + 1)⟩ : TAct)) (q := ()) (Fy := NoB) (by kernel_rfl) (by kernel_rfl) (by omega) (by kernel_rfl) (by kernel_rfl) (Nat.le_of_ble_eq_true (by kernel_rfl)) (by rw [el_set_self (show i < (acc).length by omega)]; kernel_rfl) (fun _ _ => ⟨NoB, (show RAct (⟨j, (j + 1), ((j + 1) + 1), (((j + 1) + 1) + 1), ((((j + 1) + 1) + 1) + 1), (((((j + 1) + 1) + 1) + 1) + 1)⟩ : TAct) from ⟨(show In64 j from ⟨by omega, by omega⟩), (show In64 (j + 1) from ⟨by omega, by omega⟩), (show In64 ((j + 1) + 1) from ⟨by omega, by omega⟩), (show In64 (((j + 1) + 1) + 1) from ⟨by omega, by omega⟩), (show In64 ((((j + 1) + 1) + 1) + 1) from ⟨by omega, by omega⟩), (show In64 (((((j + 1) + 1) + 1) + 1) + 1) from ⟨by omega, by omega⟩)⟩), fun _ h => False.elim h⟩) (fun b _ h => False.elim h) (fun b h => False.elim h) (fun b h => False.elim h) ?_
    clear S; intro w N F43 q44 S up o42 d45 s46
    have s47 : ∀ b, F43 b → F b := fun b h => (s46 b h).elim (s40 b) (fun h => False.elim h)
    clear up d45 o35
    rw [List.set_set] at o42
    have l48 : (acc.set i (⟨j, (j + 1), ((j + 1) + 1), (((j + 1) + 1) + 1), ((((j + 1) + 1) + 1) + 1), (((((j + 1) + 1) + 1) + 1) + 1)⟩ : TAct)).length = (acc).length := List.length_set
    replace S := S.prune (keep := [0, 1, 5]) (m := 0) (σ' := ⟨[(0, .v (slv a.length q1.1)), (1, .v (I (((((j + 1) + 1) + 1) + 1) + 1))), (5, .v (I (i : Int)))], []⟩) (by kernel_rfl)
    refine RG.done rfl (nx_then ?_)
    refine RG.start ?_
    refine S.quiet (k := 3) (keep := [0, 1, 5]) (m := 0) (σ' := ⟨[(0, .v (slv a.length q1.1)), (1, .v (I ((((((j + 1) + 1) + 1) + 1) + 1) + 1))), (5, .v (I (i : Int)))], []⟩) (.cons (Q_add (x := (((((j + 1) + 1) + 1) + 1) + 1)) (y := 1) ⟨by omega, by omega⟩) .nil) (by kernel_rfl) ?_
    clear S; intro ac w β S
    refine RG.done rfl (nx_block (nx_then ?_))
    refine RG.start ?_
    refine S.quiet (k := 3) (keep := [0, 1, 5]) (m := 0) (σ' := ⟨[(0, .v (slv a.length q1.1)), (1, .v (I ((((((j + 1) + 1) + 1) + 1) + 1) + 1))), (5, .v (I ((i : Int) + 1)))], []⟩) (.cons (Q_add (x := (i : Int)) (y := 1) ⟨by omega, by omega⟩) .nil) (by kernel_rfl) ?_
    clear S; intro ac w β S
    refine RG.done rfl (nx_then ?_)
    replace S := S.prune (keep := [0, 1, 5]) (m := 0) (σ' := ⟨[(0, .v (slv a.length q1.1)), (1, .v (I ((((((j + 1) + 1) + 1) + 1) + 1) + 1))), (5, .v (I ((i : Int) + 1)))], []⟩) (by kernel_rfl)
    refine ⟨a.length - (i + 1), by omega, i + 1, (acc.set i (⟨j, (j + 1), ((j + 1) + 1), (((j + 1) + 1) + 1), ((((j + 1) + 1) + 1) + 1), (((((j + 1) + 1) + 1) + 1) + 1)⟩ : TAct)), ((((((j + 1) + 1) + 1) + 1) + 1) + 1), (q1.1, q44), F43, _, _, _, rfl, ?_, ?_, ?_, S.cast (by kernel_rfl), o42, hq, s47⟩
    · clear S; first | omega | (simp [*]; done) | (simp [*]; omega)
    · clear S; (have hlt : i < acc.length := (by omega)); rw [hacc, ← marksAct_step (by omega) hj]; (first | rfl | (simp [g_markAct, Int.add_assoc]; done))
    · clear S; omega
  · have g49 : ¬ ((i : Int) < (a.length : Int)) := of_decide_eq_false h4
    refine wp_exit (ex_then (ex_then (ex_hit (nx_then ?_))))
    refine wp_seq ?_
    refine RG.start ?_
    refine S.quiet (k := 2) (keep := [4]) (m := 0) (σ' := ⟨[(4, .v (I j))], []⟩) .nil (by kernel_rfl) ?_
    clear S; intro ac w β S
    refine RG.done rfl (nx_then ?_)
    refine wp_ret ?_
    refine S.ret (vs := [I j]) (by kernel_rfl) ?_
    exact retM_of S (show f_marksAct a.length k = acc by clear S; (have e : i = a.length := (by omega)); subst e; rw [hacc]; simp) (show k + 6 * (a.length : Int) = j by clear S; omega) (by show [slv _ _] = [slv _ _]; rw [hlacc, hq]) o3 hs

set_option maxRecDepth 100000 in
theorem c_laws_heldActS (w0 : World) (a : List TAct) (pa : LP TAct) (ha : GT.rd KK (Lt w0.heap.size) w0 a pa) (k : Int) (pre0 : 0 ≤ k) (pre1 : k ≤ 4611686018427387904) (pre2 : a = f_marksAct a.length k) : Calls Go.Proofs.Try.prog 28 [slv (a).length pa.1, I k].toArray w0 (fun e w' => e = .returned (I (k + 6 * (a.length : Int))) ∧ Chg NoB w0 w') := by
  refine Calls.walk (args := [slv (a).length pa.1, I k]) NoB Go.Proofs.Try.func28 rfl rfl ?_
  intro ac β S
  have hlea : a.length ≤ 4194304 := LRd.le ha
  refine wp_seq ?_
  refine RG.start ?_
  refine S.quiet (k := 1) (keep := [0, 1]) (m := 0) (σ' := ⟨[(0, .v (slv (a).length pa.1)), (1, .v (I k))], []⟩) .nil (by kernel_rfl) ?_
  clear S; intro ac w β S
  refine RG.done rfl (nx_then ?_)
  refine wp_seq ?_
  refine wp_seq ?_
  refine RG.start ?_
  refine S.quiet (k := 1) (keep := [0, 1, 5]) (m := 0) (σ' := ⟨[(0, .v (slv (a).length pa.1)), (1, .v (I k)), (5, .v (I 0))], []⟩) .nil (by kernel_rfl) ?_
  clear S; intro ac w β S
  refine RG.done rfl (nx_then ?_)
  refine wp_block ?_
  replace S := S.prune (keep := [0, 1, 5]) (m := 0) (σ' := ⟨[(0, .v (slv (a).length pa.1)), (1, .v (I k)), (5, .v (I 0))], []⟩) (by kernel_rfl)
  refine wp_loop_down (fun mm ac w => ∃ (i : Nat) (j : Int)  (u : World) (N : Bl) (β : Nat → Nat), mm = a.length - i ∧ (i ≤ a.length) ∧ (j = k + 6 * (i : Int)) ∧ St Go.Proofs.Try.prog Go.Proofs.Try.f28.ntmps w0 NoB u N β ⟨[(0, .v (slv (a).length pa.1)), (1, .v (I j)), (5, .v (I (i : Int)))], []⟩ ac w) _ ⟨0, k, _, _, _, rfl, (by first | omega | (simp; done) | (simp; omega)), (by simp), S.cast (by kernel_rfl)⟩ ?_
  clear S
  rintro mm ac w ⟨i, j, u, N, β, rfl, hi, hj, S⟩
  have hel : i < a.length → el a i = g_markAct j := fun h => by rw [pre2, hj]; exact el_marksAct h
  refine wp_seq ?_
  refine wp_seq ?_
  refine RG.start ?_
  refine S.quiet (k := 4) (keep := [0, 1, 5, 9]) (m := 0) (σ' := ⟨[(0, .v (slv (a).length pa.1)), (1, .v (I j)), (5, .v (I (i : Int))), (9, .v (B (decide ((i : Int) < ((a).length : Int)))))], []⟩) .nil (by kernel_rfl) ?_
  clear S; intro ac w β S
  refine RG.done rfl (nx_then ?_)
  refine S.cond (e := (decide ((i : Int) < ((a).length : Int)))) (by kernel_rfl) (fun h1 => ?_) (fun h1 => ?_)
  · have g2 : (i : Int) < ((a).length : Int) := of_decide_eq_true h1
    refine wp_skip (nx_then ?_)
    refine wp_seq ?_
    refine wp_block ?_
    refine wp_seq ?_
    refine wp_seq ?_
    refine RG.start ?_
    refine S.quiet (k := 7) (keep := [0, 1, 5, 18]) (m := 0) (σ' := ⟨[(0, .v (slv (a).length pa.1)), (1, .v (I j)), (5, .v (I (i : Int))), (18, .v (B ((el a i).kind != j)))], []⟩) (.cons (Q_idx (S.arg ha) (l := (a).length) (k := i) rfl rfl (by omega) Go.Proofs.Try.underlying41 (by kernel_rfl)) (.cons (Q_cell (S.arg ha) (t := 3) (k := i) (j := 0) (v := I ((el a i).kind)) (by omega) (by kernel_rfl) (by kernel_rfl)) .nil)) (by kernel_rfl) ?_
    clear S; intro ac w β S
    refine RG.done rfl (nx_then ?_)
    refine S.cond (e := ((el a i).kind != j)) (by kernel_rfl) (fun h3 => ?_) (fun h3 => ?_)
    · have g4 : ¬ ((el a i).kind = j) := bne_iff_ne.1 h3
      refine wp_seq ?_
      refine RG.start ?_
      refine S.quiet (k := 1) (keep := [4]) (m := 0) (σ' := ⟨[(4, .v (I (-1)))], []⟩) .nil (by kernel_rfl) ?_
      clear S; intro ac w β S
      refine RG.done rfl (nx_then ?_)
      refine wp_ret (rt_then (rt_block (rt_then (rt_then (rt_block (rt_then ?_))))))
      refine S.ret (vs := [I (-1)]) (by kernel_rfl) ?_
      exact ⟨retI (show (-1) = k + 6 * (a.length : Int) by clear S; first | omega | (exfalso; (have hel := hel (by omega)); clear pre2; simp_all [g_markAct]; done) | (exfalso; (have hel := hel (by omega)); clear pre2; simp_all [g_markAct]; omega)), S.chg⟩
    · have g5 : (el a i).kind = j := ne_f h3
      refine wp_skip (nx_then ?_)
      refine wp_seq ?_
      refine RG.start ?_
      refine S.quiet (k := 3) (keep := [0, 1, 5]) (m := 0) (σ' := ⟨[(0, .v (slv (a).length pa.1)), (1, .v (I (j + 1))), (5, .v (I (i : Int)))], []⟩) (.cons (Q_add (x := j) (y := 1) ⟨by omega, by omega⟩) .nil) (by kernel_rfl) ?_
      clear S; intro ac w β S
      refine RG.done rfl (nx_then ?_)
      refine wp_seq ?_
      refine wp_seq ?_
      refine RG.start ?_
      refine S.quiet (k := 7) (keep := [0, 1, 5, 27]) (m := 0) (σ' := ⟨[(0, .v (slv (a).length pa.1)), (1, .v (I (j + 1))), (5, .v (I (i : Int))), (27, .v (B ((el a i).m != (j + 1))))], []⟩) (.cons (Q_idx (S.arg ha) (l := (a).length) (k := i) rfl rfl (by omega) Go.Proofs.Try.underlying41 (by kernel_rfl)) (.cons (Q_cell (S.arg ha) (t := 3) (k := i) (j := 1) (v := I ((el a i).m)) (by omega) (by kernel_rfl) (by kernel_rfl)) .nil)) (by kernel_rfl) ?_
      clear S; intro ac w β S
      refine RG.done rfl (nx_then ?_)
      refine S.cond (e := ((el a i).m != (j + 1))) (by kernel_rfl) (fun h6 => ?_) (fun h6 => ?_)
      · have g7 : ¬ ((el a i).m = (j + 1)) := bne_iff_ne.1 h6
        refine wp_seq ?_
        refine RG.start ?_
        refine S.quiet (k := 1) (keep := [4]) (m := 0) (σ' := ⟨[(4, .v (I (-1)))], []⟩) .nil (by kernel_rfl) ?_
        clear S; intro ac w β S
        refine RG.done rfl (nx_then ?_)
        refine wp_ret (rt_then (rt_block (rt_then (rt_then (rt_block (rt_then ?_))))))
        refine S.ret (vs := [I (-1)]) (by kernel_rfl) ?_
        exact ⟨retI (show (-1) = k + 6 * (a.length : Int) by clear S; first | omega | (exfalso; (have hel := hel (by omega)); clear pre2; simp_all [g_markAct]; done) | (exfalso; (have hel := hel (by omega)); clear pre2; simp_all [g_markAct]; omega)), S.chg⟩
      · have g8 : (el a i).m = (j + 1) := ne_f h6
        refine wp_skip (nx_then ?_)
        refine wp_seq ?_
        refine RG.start ?_
        refine S.quiet (k := 3) (keep := [0, 1, 5]) (m := 0) (σ' := ⟨[(0, .v (slv (a).length pa.1)), (1, .v (I ((j + 1) + 1))), (5, .v (I (i : Int)))], []⟩) (.cons (Q_add (x := (j + 1)) (y := 1) ⟨by omega, by omega⟩) .nil) (by kernel_rfl) ?_
        clear S; intro ac w β S
        refine RG.done rfl (nx_then ?_)
        refine wp_seq ?_
        refine wp_seq ?_
        refine RG.start ?_
        refine S.quiet (k := 7) (keep := [0, 1, 5, 36]) (m := 0) (σ' := ⟨[(0, .v (slv (a).length pa.1)), (1, .v (I ((j + 1) + 1))), (5, .v (I (i : Int))), (36, .v (B ((el a i).g != ((j + 1) + 1))))], []⟩) (.cons (Q_idx (S.arg ha) (l := (a).length) (k := i) rfl rfl (by omega) Go.Proofs.Try.underlying41 (by kernel_rfl)) (.cons (Q_cell (S.arg ha) (t := 3) (k := i) (j := 2) (v := I ((el a i).g)) (by omega) (by kernel_rfl) (by kernel_rfl)) .nil)) (by kernel_rfl) ?_
        clear S; intro ac w β S
        refine RG.done rfl (nx_then ?_)
        refine S.cond (e := ((el a i).g != ((j + 1) + 1))) (by kernel_rfl) (fun h9 => ?_) (fun h9 => ?_)
        · have g10 : ¬ ((el a i).g = ((j + 1) + 1)) := bne_iff_ne.1 h9
          refine wp_seq ?_
          refine RG.start ?_
          refine S.quiet (k := 1) (keep := [4]) (m := 0) (σ' := ⟨[(4, .v (I (-1)))], []⟩) .nil (by kernel_rfl) ?_
          clear S; intro ac w β S
          refine RG.done rfl (nx_then ?_)
          refine wp_ret (rt_then (rt_block (rt_then (rt_then (rt_block (rt_then ?_))))))
          refine S.ret (vs := [I (-1)]) (by kernel_rfl) ?_
          exact ⟨retI (show (-1) = k + 6 * (a.length : Int) by clear S; first | omega | (exfalso; (have hel := hel (by omega)); clear pre2; simp_all [g_markAct]; done) | (exfalso; (have hel := hel (by omega)); clear pre2; simp_all [g_markAct]; omega)), S.chg⟩
        · have g11 : (el a i).g = ((j + 1) + 1) := ne_f h9
          refine wp_skip (nx_then ?_)
          refine wp_seq ?_
          refine RG.start ?_
          refine S.quiet (k := 3) (keep := [0, 1, 5]) (m := 0) (σ' := ⟨[(0, .v (slv (a).length pa.1)), (1, .v (I (((j + 1) + 1) + 1))), (5, .v (I (i : Int)))], []⟩) (.cons (Q_add (x := ((j + 1) + 1)) (y := 1) ⟨by omega, by omega⟩) .nil) (by kernel_rfl) ?_
          clear S; intro ac w β S
          refine RG.done rfl (nx_then ?_)
          refine wp_seq ?_
          refine wp_seq ?_
          refine RG.start ?_
          refine S.quiet (k := 7) (keep := [0, 1, 5, 45]) (m := 0) (σ' := ⟨[(0, .v (slv (a).length pa.1)), (1, .v (I (((j + 1) + 1) + 1))), (5, .v (I (i : Int))), (45, .v (B ((el a i).x != (((j + 1) + 1) + 1))))], []⟩) (.cons (Q_idx (S.arg ha) (l := (a).length) (k := i) rfl rfl (by omega) Go.Proofs.Try.underlying41 (by kernel_rfl)) (.cons (Q_cell (S.arg ha) (t := 3) (k := i) (j := 3) (v := I ((el a i).x)) (by omega) (by kernel_rfl) (by kernel_rfl)) .nil)) (by kernel_rfl) ?_
          clear S; intro ac w β S
          refine RG.done rfl (nx_then ?_)
          refine S.cond (e := ((el a i).x != (((j + 1) + 1) + 1))) (by kernel_rfl) (fun h12 => ?_) (fun h12 => ?_)
          · have g13 : ¬ ((el a i).x = (((j + 1) + 1) + 1)) := bne_iff_ne.1 h12
            refine wp_seq ?_
            refine RG.start ?_
            refine S.quiet (k := 1) (keep := [4]) (m := 0) (σ' := ⟨[(4, .v (I (-1)))], []⟩) .nil (by kernel_rfl) ?_
            clear S; intro ac w β S
            refine RG.done rfl (nx_then ?_)
            refine wp_ret (rt_then (rt_block (rt_then (rt_then (rt_block (rt_then ?_))))))
            refine S.ret (vs := [I (-1)]) (by kernel_rfl) ?_
            exact ⟨retI (show (-1) = k + 6 * (a.length : Int) by clear S; first | omega | (exfalso; (have hel := hel (by omega)); clear pre2; simp_all [g_markAct]; done) | (exfalso; (have hel := hel (by omega)); clear pre2; simp_all [g_markAct]; omega)), S.chg⟩
          · have g14 : (el a i).x = (((j + 1) + 1) + 1) := ne_f h12
            refine wp_skip (nx_then ?_)
            refine wp_seq ?_
            refine RG.start ?_
            refine S.quiet (k := 3) (keep := [0, 1, 5]) (m := 0) (σ' := ⟨[(0, .v (slv (a).length pa.1)), (1, .v (I ((((j + 1) + 1) + 1) + 1))), (5, .v (I (i : Int)))], []⟩) (.cons (Q_add (x := (((j + 1) + 1) + 1)) (y := 1) ⟨by omega, by omega⟩) .nil) (by kernel_rfl) ?_
            clear S; intro ac w β S
            refine RG.done rfl (nx_then ?_)
            refine wp_seq ?_
            refine wp_seq ?_
            refine RG.start ?_
            refine S.quiet (k := 7) (keep := [0, 1, 5, 54]) (m := 0) (σ' := ⟨[(0, .v (slv (a).length pa.1)), (1, .v (I ((((j + 1) + 1) + 1) + 1))), (5, .v (I (i : Int))), (54, .v (B ((el a i).y != ((((j + 1) + 1) + 1) + 1))))], []⟩) (.cons (Q_idx (S.arg ha) (l := (a).length) (k := i) rfl rfl (by omega) Go.Proofs.Try.underlying41 (by kernel_rfl)) (.cons (Q_cell (S.arg ha) (t := 3) (k := i) (j := 4) (v := I ((el a i).y)) (by omega) (by kernel_rfl) (by kernel_rfl)) .nil)) (by kernel_rfl) ?_
            clear S; intro ac w β S
            refine RG.done rfl (nx_then ?_)
            refine S.cond (e := ((el a i).y != ((((j + 1) + 1) + 1) + 1))) (by kernel_rfl) (fun h15 => ?_) (fun h15 => ?_)
            · have g16 : ¬ ((el a i).y = ((((j + 1) + 1) + 1) + 1)) := bne_iff_ne.1 h15
              refine wp_seq ?_
              refine RG.start ?_
              refine S.quiet (k := 1) (keep := [4]) (m := 0) (σ' := ⟨[(4, .v (I (-1)))], []⟩) .nil (by kernel_rfl) ?_
              clear S; intro ac w β S
              refine RG.done rfl (nx_then ?_)
              refine wp_ret (rt_then (rt_block (rt_then (rt_then (rt_block (rt_then ?_))))))
              refine S.ret (vs := [I (-1)]) (by kernel_rfl) ?_
              exact ⟨retI (show (-1) = k + 6 * (a.length : Int) by clear S; first | omega | (exfalso; (have hel := hel (by omega)); clear pre2; simp_all [g_markAct]; done) | (exfalso; (have hel := hel (by omega)); clear pre2; simp_all [g_markAct]; omega)), S.chg⟩
            · have g17 : (el a i).y = ((((j + 1) + 1) + 1) + 1) := ne_f h15
              refine wp_skip (nx_then ?_)
              refine wp_seq ?_
              refine RG.start ?_
              refine S.quiet (k := 3) (keep := [0, 1, 5]) (m := 0) (σ' := ⟨[(0, .v (slv (a).length pa.1)), (1, .v (I (((((j + 1) + 1) + 1) + 1) + 1))), (5, .v (I (i : Int)))], []⟩) (.cons (Q_add (x := ((((j + 1) + 1) + 1) + 1)) (y := 1) ⟨by omega, by omega⟩) .nil) (by kernel_rfl) ?_
              clear S; intro ac w β S
              refine RG.done rfl (nx_then ?_)
              refine wp_seq ?_
              refine wp_seq ?_
              refine RG.start ?_
              refine S.quiet (k := 7) (keep := [0, 1, 5, 63]) (m := 0) (σ' := ⟨[(0, .v (slv (a).length pa.1)), (1, .v (I (((((j + 1) + 1) + 1) + 1) + 1))), (5, .v (I (i : Int))), (63, .v (B ((el a i).z != (((((j + 1) + 1) + 1) + 1) + 1))))], []⟩) (.cons (Q_idx (S.arg ha) (l := (a).length) (k := i) rfl rfl (by omega) Go.Proofs.Try.underlying41 (by kernel_rfl)) (.cons (Q_cell (S.arg ha) (t := 3) (k := i) (j := 5) (v := I ((el a i).z)) (by omega) (by kernel_rfl) (by kernel_rfl)) .nil)) (by kernel_rfl) ?_
              clear S; intro ac w β S
              refine RG.done rfl (nx_then ?_)
              refine S.cond (e := ((el a i).z != (((((j + 1) + 1) + 1) + 1) + 1))) (by kernel_rfl) (fun h18 => ?_) (fun h18 => ?_)
              · have g19 : ¬ ((el a i).z = (((((j + 1) + 1) + 1) + 1) + 1)) := bne_iff_ne.1 h18
                refine wp_seq ?_
                refine RG.start ?_
                refine S.quiet (k := 1) (keep := [4]) (m := 0) (σ' := ⟨[(4, .v (I (-1)))], []⟩) .nil (by kernel_rfl) ?_
                clear S; intro ac w β S
                refine RG.done rfl (nx_then ?_)
                refine wp_ret (rt_then (rt_block (rt_then (rt_then (rt_block (rt_then ?_))))))
                refine S.ret (vs := [I (-1)]) (by kernel_rfl) ?_
                exact ⟨retI (show (-1) = k + 6 * (a.length : Int) by clear S; first | omega | (exfalso; (have hel := hel (by omega)); clear pre2; simp_all [g_markAct]; done) | (exfalso; (have hel := hel (by omega)); clear pre2; simp_all [g_markAct]; omega)), S.chg⟩
              · have g20 : (el a i).z = (((((j + 1) + 1) + 1) + 1) + 1) := ne_f h18
                refine wp_skip (nx_then ?_)
                refine RG.start ?_
                refine S.quiet (k := 3) (keep := [0, 1, 5]) (m := 0) (σ' := ⟨[(0, .v (slv (a).length pa.1)), (1, .v (I ((((((j + 1) + 1) + 1) + 1) + 1) + 1))), (5, .v (I (i : Int)))], []⟩) (.cons (Q_add (x := (((((j + 1) + 1) + 1) + 1) + 1)) (y := 1) ⟨by omega, by omega⟩) .nil) (by kernel_rfl) ?_
                clear S; intro ac w β S
                refine RG.done rfl (nx_block (nx_then ?_))
                refine RG.start ?_
                refine S.quiet (k := 3) (keep := [0, 1, 5]) (m := 0) (σ' := ⟨[(0, .v (slv (a).length pa.1)), (1, .v (I ((((((j + 1) + 1) + 1) + 1) + 1) + 1))), (5, .v (I ((i : Int) + 1)))], []⟩) (.cons (Q_add (x := (i : Int)) (y := 1) ⟨by omega, by omega⟩) .nil) (by kernel_rfl) ?_
                clear S; intro ac w β S
                refine RG.done rfl (nx_then ?_)
                replace S := S.prune (keep := [0, 1, 5]) (m := 0) (σ' := ⟨[(0, .v (slv (a).length pa.1)), (1, .v (I ((((((j + 1) + 1) + 1) + 1) + 1) + 1))), (5, .v (I ((i : Int) + 1)))], []⟩) (by kernel_rfl)
                refine ⟨a.length - (i + 1), by omega, i + 1, ((((((j + 1) + 1) + 1) + 1) + 1) + 1), _, _, _, rfl, ?_, ?_, S.cast (by kernel_rfl)⟩
                · clear S; first | omega | (simp [*]; done) | (simp [*]; omega)
                · clear S; omega
  · have g21 : ¬ ((i : Int) < ((a).length : Int)) := of_decide_eq_false h1
    refine wp_exit (ex_then (ex_then (ex_hit (nx_then ?_))))
    refine wp_seq ?_
    refine RG.start ?_
    refine S.quiet (k := 2) (keep := [4]) (m := 0) (σ' := ⟨[(4, .v (I j))], []⟩) .nil (by kernel_rfl) ?_
    clear S; intro ac w β S
    refine RG.done rfl (nx_then ?_)
    refine wp_ret ?_
    refine S.ret (vs := [I j]) (by kernel_rfl) ?_
    exact ⟨retI (show j = k + 6 * (a.length : Int) by clear S; first | omega | (exfalso; (have hel := hel (by omega)); clear pre2; simp_all [g_markAct]; done) | (exfalso; (have hel := hel (by omega)); clear pre2; simp_all [g_markAct]; omega)), S.chg⟩

set_option maxRecDepth 100000 in
theorem c_laws_FnExactUndisturbed (w0 : World) (aActs : List TAct) (paActs : LP TAct) (haActs : GT.rd KR (Lt w0.heap.size) w0 aActs paActs) : Calls Go.Proofs.Try.prog 7 [slv (aActs).length paActs.1].toArray w0 (fun e w' => e = .returned (B true) ∧ Chg NoB w0 w') := by
  refine Calls.walk (args := [slv (aActs).length paActs.1]) NoB Go.Proofs.Try.func7 rfl rfl ?_
  intro ac β S
  have hleaActs : aActs.length ≤ 9223372036854775807 := LRd.le haActs
  refine wp_seq ?_
  refine RG.start ?_
  refine S.quiet (k := 1) (keep := [0]) (m := 0) (σ' := ⟨[(0, .v (slv (aActs).length paActs.1))], []⟩) .nil (by kernel_rfl) ?_
  clear S; intro ac w β S
  refine RG.done rfl (nx_then ?_)
  refine wp_seq ?_
  refine RG.start ?_
  refine S.quiet (k := 1) (keep := [0, 3]) (m := 0) (σ' := ⟨[(0, .v (slv (aActs).length paActs.1)), (3, .v (I 1048576))], []⟩) .nil (by kernel_rfl) ?_
  clear S; intro ac w β S
  refine RG.done rfl (nx_then ?_)
  refine wp_seq ?_
  refine RG.start ?_
  refine S.quiet (k := 4) (keep := [0, 3]) (m := 0) (σ' := ⟨[(0, .v (slv (aActs).length paActs.1)), (3, .v (I (f_sz aActs.length 1048576)))], []⟩) (.cons (Q_call fun w hw => c_laws_szActS w aActs paActs (rd_of (S.arg haActs) hw) 1048576 (by omega) (by omega)) .nil) (by kernel_rfl) ?_
  clear S; intro ac w β S
  refine RG.done rfl (nx_then ?_)
  refine wp_seq ?_
  refine wp_seq ?_
  refine RG.start ?_
  refine S.quiet (k := 2) (keep := [0, 15]) (m := 0) (σ' := ⟨[(0, .v (slv (aActs).length paActs.1)), (15, .v (B (decide ((f_sz aActs.length 1048576) < 0))))], []⟩) .nil (by kernel_rfl) ?_
  clear S; intro ac w β S
  refine RG.done rfl (nx_then ?_)
  refine S.cond (e := (decide ((f_sz aActs.length 1048576) < 0))) (by kernel_rfl) (fun h1 => ?_) (fun h1 => ?_)
  · have g2 : (f_sz aActs.length 1048576) < 0 := of_decide_eq_true h1
    refine wp_seq ?_
    refine RG.start ?_
    refine S.quiet (k := 1) (keep := [2]) (m := 0) (σ' := ⟨[(2, .v (B true))], []⟩) .nil (by kernel_rfl) ?_
    clear S; intro ac w β S
    refine RG.done rfl (nx_then ?_)
    refine wp_ret (rt_then ?_)
    refine S.ret (vs := [B true]) (by kernel_rfl) ?_
    exact ⟨retB (show true = true by clear S; first | rfl | (exfalso; omega) | (exfalso; simp_all [f_marksTold_len, f_marksAct_len]; done) | (exfalso; simp_all [f_marksTold_len, f_marksAct_len]; omega)), S.chg⟩
  · have g3 : ¬ ((f_sz aActs.length 1048576) < 0) := of_decide_eq_false h1
    have hbaActs := f_sz_bd aActs.length 1048576
    have hkaActs : GT.rd KK (Lt w0.heap.size) w0 aActs paActs := rd_cut haActs (show aActs.length ≤ 4194304 by omega) (fun i hi => LRd.el haActs i hi)
    have hcaActs : aActs.length ≤ 1048576 := by omega
    refine wp_skip (nx_then ?_)
    refine wp_seq ?_
    refine RG.start ?_
    refine S.quiet (k := 1) (keep := [0, 16]) (m := 0) (σ' := ⟨[(0, .v (slv (aActs).length paActs.1)), (16, .v (slv (aActs).length paActs.1))], []⟩) .nil (by kernel_rfl) ?_
    clear S; intro ac w β S
    refine S.call1 (r := aActs) (d := 17) (c_laws_toActS w aActs paActs (S.rd (S.arg hkaActs))) (by kernel_rfl) rfl ?_
    clear S; intro ac w N q4 F5 S up o6 d7
    clear up d7
    refine S.call1 (r := f_undisturbed aActs) (d := 18) (c_spec_Undisturbed w aActs q4 (S.rd o6.rn)) (by kernel_rfl) rfl ?_
    clear S; intro ac w N q8 F9 S up o10 d11
    have d12 : Disj F5 F9 := fun b x y => d11 b (o6.sub b x) y
    replace o6 := o6.up up
    clear up d11
    refine S.quiet (k := 1) (keep := [0, 4]) (m := 0) (σ' := ⟨[(0, .v (slv (aActs).length paActs.1)), (4, .v (slv (f_undisturbed aActs).length q8.1))], []⟩) .nil (by kernel_rfl) ?_
    clear S; intro ac w β S
    refine RG.done rfl (nx_then ?_)
    refine wp_seq ?_
    refine RG.start ?_
    refine S.quiet (k := 1) (keep := [0, 4, 19]) (m := 0) (σ' := ⟨[(0, .v (slv (aActs).length paActs.1)), (4, .v (slv (f_undisturbed aActs).length q8.1)), (19, .v (slv (aActs).length paActs.1))], []⟩) .nil (by kernel_rfl) ?_
    clear S; intro ac w β S
    refine S.call1 (r := aActs) (d := 20) (c_laws_toActS w aActs paActs (S.rd (S.arg hkaActs))) (by kernel_rfl) rfl ?_
    clear S; intro ac w N q13 F14 S up o15 d16
    have d17 : Disj F9 F14 := fun b x y => d16 b (o10.sub b x) y
    replace o10 := o10.up up
    clear up d16
    refine S.quiet (k := 1) (keep := [0, 4, 5]) (m := 0) (σ' := ⟨[(0, .v (slv (aActs).length paActs.1)), (4, .v (slv (f_undisturbed aActs).length q8.1)), (5, .v (slv (aActs).length q13.1))], []⟩) .nil (by kernel_rfl) ?_
    clear S; intro ac w β S
    refine RG.done rfl (nx_then ?_)
    refine wp_seq ?_
    refine RG.start ?_
    refine S.quiet (k := 1) (keep := [0, 4, 5, 21]) (m := 0) (σ' := ⟨[(0, .v (slv (aActs).length paActs.1)), (4, .v (slv (f_undisturbed aActs).length q8.1)), (5, .v (slv (aActs).length q13.1)), (21, .v (slv (aActs).length q13.1))], []⟩) .nil (by kernel_rfl) ?_
    clear S; intro ac w β S
    refine S.call1 (r := f_undisturbed aActs) (d := 22) (c_impl_Undisturbed w aActs q13 (S.rd o15.rn)) (by kernel_rfl) rfl ?_
    clear S; intro ac w N q18 F19 S up o20 d21
    have d22 : Disj F9 F19 := fun b x y => d21 b (o10.sub b x) y
    have d23 : Disj F14 F19 := fun b x y => d21 b (o15.sub b x) y
    replace o10 := o10.up up
    replace o15 := o15.up up
    clear up d21
    refine S.quiet (k := 1) (keep := [0, 4, 5, 6]) (m := 0) (σ' := ⟨[(0, .v (slv (aActs).length paActs.1)), (4, .v (slv (f_undisturbed aActs).length q8.1)), (5, .v (slv (aActs).length q13.1)), (6, .v (slv (f_undisturbed aActs).length q18.1))], []⟩) .nil (by kernel_rfl) ?_
    clear S; intro ac w β S
    refine RG.done rfl (nx_then ?_)
    refine wp_seq ?_
    refine wp_seq ?_
    refine RG.start ?_
    refine S.quiet (k := 4) (keep := [0, 4, 5, 6, 26]) (m := 0) (σ' := ⟨[(0, .v (slv (aActs).length paActs.1)), (4, .v (slv (f_undisturbed aActs).length q8.1)), (5, .v (slv (aActs).length q13.1)), (6, .v (slv (f_undisturbed aActs).length q18.1)), (26, .v (B (!(decide ((f_undisturbed aActs) = (f_undisturbed aActs))))))], []⟩) (.cons (Q_call fun w hw => c_laws_eqActS w (f_undisturbed aActs) q18 (rd_of o20.rn hw) (f_undisturbed aActs) q8 (rd_of o10.rn hw)) .nil) (by kernel_rfl) ?_
    clear S; intro ac w β S
    refine RG.done rfl (nx_then ?_)
    refine S.cond (e := (!(decide ((f_undisturbed aActs) = (f_undisturbed aActs))))) (by kernel_rfl) (fun h24 => ?_) (fun h24 => ?_)
    · have h25 : (decide ((f_undisturbed aActs) = (f_undisturbed aActs))) = false := not_t h24
      have g26 := of_decide_eq_false h25
      refine wp_seq ?_
      refine RG.start ?_
      refine S.quiet (k := 1) (keep := [2]) (m := 0) (σ' := ⟨[(2, .v (B false))], []⟩) .nil (by kernel_rfl) ?_
      clear S; intro ac w β S
      refine RG.done rfl (nx_then ?_)
      refine wp_ret (rt_then ?_)
      refine S.ret (vs := [B false]) (by kernel_rfl) ?_
      exact ⟨retB (show false = true by clear S; first | rfl | (exfalso; omega) | (exfalso; simp_all [f_marksTold_len, f_marksAct_len]; done) | (exfalso; simp_all [f_marksTold_len, f_marksAct_len]; omega)), S.chg⟩
    · have h27 : (decide ((f_undisturbed aActs) = (f_undisturbed aActs))) = true := not_f h24
      have g28 := of_decide_eq_true h27
      refine wp_skip (nx_then ?_)
      refine wp_seq ?_
      refine wp_seq ?_
      refine RG.start ?_
      refine S.quiet (k := 2) (keep := [0, 4, 5, 6, 27, 28]) (m := 0) (σ' := ⟨[(0, .v (slv (aActs).length paActs.1)), (4, .v (slv (f_undisturbed aActs).length q8.1)), (5, .v (slv (aActs).length q13.1)), (6, .v (slv (f_undisturbed aActs).length q18.1)), (27, .v (slv (aActs).length q13.1)), (28, .v (slv (aActs).length paActs.1))], []⟩) .nil (by kernel_rfl) ?_
      clear S; intro ac w β S
      refine S.call1 (r := aActs) (d := 29) (c_laws_toActS w aActs paActs (S.rd (S.arg hkaActs))) (by kernel_rfl) rfl ?_
      clear S; intro ac w N q29 F30 S up o31 d32
      have d33 : Disj F9 F30 := fun b x y => d32 b (o10.sub b x) y
      have d34 : Disj F14 F30 := fun b x y => d32 b (o15.sub b x) y
      have d35 : Disj F19 F30 := fun b x y => d32 b (o20.sub b x) y
      replace o10 := o10.up up
      replace o15 := o15.up up
      replace o20 := o20.up up
      clear up d32
      refine S.quiet (k := 2) (keep := [0, 4, 5, 6, 31]) (m := 0) (σ' := ⟨[(0, .v (slv (aActs).length paActs.1)), (4, .v (slv (f_undisturbed aActs).length q8.1)), (5, .v (slv (aActs).length q13.1)), (6, .v (slv (f_undisturbed aActs).length q18.1)), (31, .v (B (!(decide (aActs = aActs)))))], []⟩) (.cons (Q_call fun w hw => c_laws_eqActS w aActs q13 (rd_of o15.rn hw) aActs q29 (rd_of o31.rn hw)) .nil) (by kernel_rfl) ?_
      clear S; intro ac w β S
      refine RG.done rfl (nx_then ?_)
      refine S.cond (e := (!(decide (aActs = aActs)))) (by kernel_rfl) (fun h36 => ?_) (fun h36 => ?_)
      · have h37 : (decide (aActs = aActs)) = false := not_t h36
        have g38 := of_decide_eq_false h37
        refine wp_seq ?_
        refine RG.start ?_
        refine S.quiet (k := 1) (keep := [2]) (m := 0) (σ' := ⟨[(2, .v (B false))], []⟩) .nil (by kernel_rfl) ?_
        clear S; intro ac w β S
        refine RG.done rfl (nx_then ?_)
        refine wp_ret (rt_then ?_)
        refine S.ret (vs := [B false]) (by kernel_rfl) ?_
        exact ⟨retB (show false = true by clear S; first | rfl | (exfalso; omega) | (exfalso; simp_all [f_marksTold_len, f_marksAct_len]; done) | (exfalso; simp_all [f_marksTold_len, f_marksAct_len]; omega)), S.chg⟩
      · have h39 : (decide (aActs = aActs)) = true := not_f h36
        have g40 := of_decide_eq_true h39
        refine wp_skip (nx_then ?_)
        refine wp_seq ?_
        refine RG.start ?_
        refine S.quiet (k := 1) (keep := [0, 4, 5, 6, 7]) (m := 0) (σ' := ⟨[(0, .v (slv (aActs).length paActs.1)), (4, .v (slv (f_undisturbed aActs).length q8.1)), (5, .v (slv (aActs).length q13.1)), (6, .v (slv (f_undisturbed aActs).length q18.1)), (7, .v (I 1))], []⟩) .nil (by kernel_rfl) ?_
        clear S; intro ac w β S
        refine RG.done rfl (nx_then ?_)
        refine wp_seq ?_
        refine RG.start ?_
        refine S.quiet (k := 2) (keep := [0, 4, 6, 32, 33]) (m := 0) (σ' := ⟨[(0, .v (slv (aActs).length paActs.1)), (4, .v (slv (f_undisturbed aActs).length q8.1)), (6, .v (slv (f_undisturbed aActs).length q18.1)), (32, .v (slv (aActs).length q13.1)), (33, .v (I 1))], []⟩) .nil (by kernel_rfl) ?_
        clear S; intro ac w β S
        refine S.callM (x' := f_marksAct aActs.length 1) (k' := 1 + 6 * (aActs.length : Int)) (d := 34) o15 (c_laws_markActS w aActs q13 F14 (S.ownw o15) (fun b hb => (S.sep b (o15.sub b hb)).1) 1 (by first | omega | (simp; omega)) (by first | omega | (simp; omega))) (by kernel_rfl) rfl ?_
        clear S; intro ac w N q41 S up o42 c43
        replace o10 := o10.upF d17 up
        replace o20 := o20.upF (Disj.symm d23) up
        clear up o15
        have hv : slv ((f_marksAct aActs.length 1)).length q41.1 = slv (aActs).length q13.1 := (List.cons.inj c43).1
        replace S := S.prune (keep := [0, 4, 6, 32, 33, 34]) (m := 0) (σ' := ⟨[(0, .v (slv (aActs).length paActs.1)), (4, .v (slv (f_undisturbed aActs).length q8.1)), (6, .v (slv (f_undisturbed aActs).length q18.1)), (32, .v (slv (aActs).length q13.1)), (33, .v (I 1)), (34, .v (I (1 + 6 * (aActs.length : Int))))], []⟩) (by kernel_rfl)
        replace S := S.cast (σ' := ⟨[(0, .v (slv (aActs).length paActs.1)), (4, .v (slv (f_undisturbed aActs).length q8.1)), (6, .v (slv (f_undisturbed aActs).length q18.1)), (32, .v (slv ((f_marksAct aActs.length 1)).length q41.1)), (33, .v (I 1)), (34, .v (I (1 + 6 * (aActs.length : Int))))], []⟩) (by rw [hv])
        clear hv
        clear c43
        refine S.quiet (k := 1) (keep := [0, 4, 6, 7]) (m := 0) (σ' := ⟨[(0, .v (slv (aActs).length paActs.1)), (4, .v (slv (f_undisturbed aActs).length q8.1)), (6, .v (slv (f_undisturbed aActs).length q18.1)), (7, .v (I (1 + 6 * (aActs.length : Int))))], []⟩) .nil (by kernel_rfl) ?_
        clear S; intro ac w β S
        refine RG.done rfl (nx_then ?_)
        refine wp_seq ?_
        refine wp_seq ?_
        refine RG.start ?_
        refine S.quiet (k := 3) (keep := [0, 4, 6, 37]) (m := 0) (σ' := ⟨[(0, .v (slv (aActs).length paActs.1)), (4, .v (slv (f_undisturbed aActs).length q8.1)), (6, .v (slv (f_undisturbed aActs).length q18.1)), (37, .v (B (decide ((1 + 6 * (aActs.length : Int)) < 0))))], []⟩) .nil (by kernel_rfl) ?_
        clear S; intro ac w β S
        rcases Bool.eq_false_or_eq_true (decide ((1 + 6 * (aActs.length : Int)) < 0)) with h44 | h44 <;> rw [h44] at S
        · have g45 : (1 + 6 * (aActs.length : Int)) < 0 := of_decide_eq_true h44
          refine S.quiet (k := 5) (keep := [0, 4, 6, 42]) (m := 0) (σ' := ⟨[(0, .v (slv (aActs).length paActs.1)), (4, .v (slv (f_undisturbed aActs).length q8.1)), (6, .v (slv (f_undisturbed aActs).length q18.1)), (42, .v (B true))], []⟩) .nil (by kernel_rfl) ?_
          clear S; intro ac w β S
          refine RG.done rfl (nx_then ?_)
          refine S.cond (e := true) (by kernel_rfl) (fun _ => ?_) (fun hx => by cases hx)
          refine wp_seq ?_
          refine RG.start ?_
          refine S.quiet (k := 1) (keep := [2]) (m := 0) (σ' := ⟨[(2, .v (B false))], []⟩) .nil (by kernel_rfl) ?_
          clear S; intro ac w β S
          refine RG.done rfl (nx_then ?_)
          refine wp_ret (rt_then ?_)
          refine S.ret (vs := [B false]) (by kernel_rfl) ?_
          exact ⟨retB (show false = true by clear S; first | rfl | (exfalso; omega) | (exfalso; simp_all [f_marksTold_len, f_marksAct_len]; done) | (exfalso; simp_all [f_marksTold_len, f_marksAct_len]; omega)), S.chg⟩
        · have g46 : ¬ ((1 + 6 * (aActs.length : Int)) < 0) := of_decide_eq_false h44
          refine S.quiet (k := 5) (keep := [0, 4, 6, 42]) (m := 0) (σ' := ⟨[(0, .v (slv (aActs).length paActs.1)), (4, .v (slv (f_undisturbed aActs).length q8.1)), (6, .v (slv (f_undisturbed aActs).length q18.1)), (42, .v (B (!(decide ((f_undisturbed aActs) = (f_undisturbed aActs))))))], []⟩) (.cons (Q_call fun w hw => c_laws_eqActS w (f_undisturbed aActs) q18 (rd_of o20.rn hw) (f_undisturbed aActs) q8 (rd_of o10.rn hw)) .nil) (by kernel_rfl) ?_
          clear S; intro ac w β S
          refine RG.done rfl (nx_then ?_)
          refine S.cond (e := (!(decide ((f_undisturbed aActs) = (f_undisturbed aActs))))) (by kernel_rfl) (fun h47 => ?_) (fun h47 => ?_)
          · have h48 : (decide ((f_undisturbed aActs) = (f_undisturbed aActs))) = false := not_t h47
            have g49 := of_decide_eq_false h48
            refine wp_seq ?_
            refine RG.start ?_
            refine S.quiet (k := 1) (keep := [2]) (m := 0) (σ' := ⟨[(2, .v (B false))], []⟩) .nil (by kernel_rfl) ?_
            clear S; intro ac w β S
            refine RG.done rfl (nx_then ?_)
            refine wp_ret (rt_then ?_)
            refine S.ret (vs := [B false]) (by kernel_rfl) ?_
            exact ⟨retB (show false = true by clear S; first | rfl | (exfalso; omega) | (exfalso; simp_all [f_marksTold_len, f_marksAct_len]; done) | (exfalso; simp_all [f_marksTold_len, f_marksAct_len]; omega)), S.chg⟩
          · have h50 : (decide ((f_undisturbed aActs) = (f_undisturbed aActs))) = true := not_f h47
            have g51 := of_decide_eq_true h50
            refine wp_skip (nx_then ?_)
            refine wp_seq ?_
            refine RG.start ?_
            refine S.quiet (k := 1) (keep := [0, 4, 6, 8]) (m := 0) (σ' := ⟨[(0, .v (slv (aActs).length paActs.1)), (4, .v (slv (f_undisturbed aActs).length q8.1)), (6, .v (slv (f_undisturbed aActs).length q18.1)), (8, .v (I 1))], []⟩) .nil (by kernel_rfl) ?_
            clear S; intro ac w β S
            refine RG.done rfl (nx_then ?_)
            refine wp_seq ?_
            refine RG.start ?_
            refine S.quiet (k := 2) (keep := [0, 4, 6, 43, 44]) (m := 0) (σ' := ⟨[(0, .v (slv (aActs).length paActs.1)), (4, .v (slv (f_undisturbed aActs).length q8.1)), (6, .v (slv (f_undisturbed aActs).length q18.1)), (43, .v (slv (f_undisturbed aActs).length q18.1)), (44, .v (I 1))], []⟩) .nil (by kernel_rfl) ?_
            clear S; intro ac w β S
            refine S.callM (x' := f_marksAct (f_undisturbed aActs).length 1) (k' := 1 + 6 * ((f_undisturbed aActs).length : Int)) (d := 45) o20 (c_laws_markActS w (f_undisturbed aActs) q18 F19 (S.ownw o20) (fun b hb => (S.sep b (o20.sub b hb)).1) 1 (by first | omega | (simp; omega)) (by first | omega | (simp; omega))) (by kernel_rfl) rfl ?_
            clear S; intro ac w N q52 S up o53 c54
            replace o10 := o10.upF d22 up
            clear up o20
            have hv : slv ((f_marksAct (f_undisturbed aActs).length 1)).length q52.1 = slv (f_undisturbed aActs).length q18.1 := (List.cons.inj c54).1
            replace S := S.prune (keep := [0, 4, 6, 43, 44, 45]) (m := 0) (σ' := ⟨[(0, .v (slv (aActs).length paActs.1)), (4, .v (slv (f_undisturbed aActs).length q8.1)), (6, .v (slv (f_undisturbed aActs).length q18.1)), (43, .v (slv (f_undisturbed aActs).length q18.1)), (44, .v (I 1)), (45, .v (I (1 + 6 * ((f_undisturbed aActs).length : Int))))], []⟩) (by kernel_rfl)
            replace S := S.cast (σ' := ⟨[(0, .v (slv (aActs).length paActs.1)), (4, .v (slv (f_undisturbed aActs).length q8.1)), (6, .v (slv ((f_marksAct (f_undisturbed aActs).length 1)).length q52.1)), (43, .v (slv ((f_marksAct (f_undisturbed aActs).length 1)).length q52.1)), (44, .v (I 1)), (45, .v (I (1 + 6 * ((f_undisturbed aActs).length : Int))))], []⟩) (by rw [hv])
            clear hv
            clear c54
            refine S.quiet (k := 1) (keep := [0, 4, 6, 8]) (m := 0) (σ' := ⟨[(0, .v (slv (aActs).length paActs.1)), (4, .v (slv (f_undisturbed aActs).length q8.1)), (6, .v (slv ((f_marksAct (f_undisturbed aActs).length 1)).length q52.1)), (8, .v (I (1 + 6 * ((f_undisturbed aActs).length : Int))))], []⟩) .nil (by kernel_rfl) ?_
            clear S; intro ac w β S
            refine RG.done rfl (nx_then ?_)
            refine wp_seq ?_
            refine RG.start ?_
            refine S.quiet (k := 1) (keep := [0, 4, 6, 8, 9]) (m := 0) (σ' := ⟨[(0, .v (slv (aActs).length paActs.1)), (4, .v (slv (f_undisturbed aActs).length q8.1)), (6, .v (slv ((f_marksAct (f_undisturbed aActs).length 1)).length q52.1)), (8, .v (I (1 + 6 * ((f_undisturbed aActs).length : Int)))), (9, .v (I 1))], []⟩) .nil (by kernel_rfl) ?_
            clear S; intro ac w β S
            refine RG.done rfl (nx_then ?_)
            refine wp_seq ?_
            refine RG.start ?_
            refine S.quiet (k := 4) (keep := [0, 4, 6, 8, 9]) (m := 0) (σ' := ⟨[(0, .v (slv (aActs).length paActs.1)), (4, .v (slv (f_undisturbed aActs).length q8.1)), (6, .v (slv ((f_marksAct (f_undisturbed aActs).length 1)).length q52.1)), (8, .v (I (1 + 6 * ((f_undisturbed aActs).length : Int)))), (9, .v (I (1 + 6 * ((f_marksAct (f_undisturbed aActs).length 1).length : Int))))], []⟩) (.cons (Q_call fun w hw => c_laws_heldActS w (f_marksAct (f_undisturbed aActs).length 1) q52 (rd_of o53.rn hw) 1 (by first | omega | (simp only [f_marksAct_len])) (by first | omega | (simp only [f_marksAct_len])) (by first | omega | (simp only [f_marksAct_len]))) .nil) (by kernel_rfl) ?_
            clear S; intro ac w β S
            refine RG.done rfl (nx_then ?_)
            refine wp_seq ?_
            refine wp_seq ?_
            refine RG.start ?_
            refine S.quiet (k := 2) (keep := [0, 4, 6, 8, 9, 50]) (m := 0) (σ' := ⟨[(0, .v (slv (aActs).length paActs.1)), (4, .v (slv (f_undisturbed aActs).length q8.1)), (6, .v (slv ((f_marksAct (f_undisturbed aActs).length 1)).length q52.1)), (8, .v (I (1 + 6 * ((f_undisturbed aActs).length : Int)))), (9, .v (I (1 + 6 * ((f_marksAct (f_undisturbed aActs).length 1).length : Int)))), (50, .v (B (decide ((1 + 6 * ((f_marksAct (f_undisturbed aActs).length 1).length : Int)) < 0))))], []⟩) .nil (by kernel_rfl) ?_
            clear S; intro ac w β S
            refine RG.done rfl (nx_then ?_)
            refine S.cond (e := (decide ((1 + 6 * ((f_marksAct (f_undisturbed aActs).length 1).length : Int)) < 0))) (by kernel_rfl) (fun h55 => ?_) (fun h55 => ?_)
            · have g56 : (1 + 6 * ((f_marksAct (f_undisturbed aActs).length 1).length : Int)) < 0 := of_decide_eq_true h55
              refine wp_seq ?_
              refine RG.start ?_
              refine S.quiet (k := 1) (keep := [2]) (m := 0) (σ' := ⟨[(2, .v (B false))], []⟩) .nil (by kernel_rfl) ?_
              clear S; intro ac w β S
              refine RG.done rfl (nx_then ?_)
              refine wp_ret (rt_then ?_)
              refine S.ret (vs := [B false]) (by kernel_rfl) ?_
              exact ⟨retB (show false = true by clear S; first | rfl | (exfalso; omega) | (exfalso; simp_all [f_marksTold_len, f_marksAct_len]; done) | (exfalso; simp_all [f_marksTold_len, f_marksAct_len]; omega)), S.chg⟩
            · have g57 : ¬ ((1 + 6 * ((f_marksAct (f_undisturbed aActs).length 1).length : Int)) < 0) := of_decide_eq_false h55
              refine wp_skip (nx_then ?_)
              refine wp_seq ?_
              refine wp_seq ?_
              refine RG.start ?_
              refine S.quiet (k := 3) (keep := [0, 4, 6, 8, 53]) (m := 0) (σ' := ⟨[(0, .v (slv (aActs).length paActs.1)), (4, .v (slv (f_undisturbed aActs).length q8.1)), (6, .v (slv ((f_marksAct (f_undisturbed aActs).length 1)).length q52.1)), (8, .v (I (1 + 6 * ((f_undisturbed aActs).length : Int)))), (53, .v (B ((1 + 6 * ((f_marksAct (f_undisturbed aActs).length 1).length : Int)) != (1 + 6 * ((f_undisturbed aActs).length : Int)))))], []⟩) .nil (by kernel_rfl) ?_
              clear S; intro ac w β S
              refine RG.done rfl (nx_then ?_)
              refine S.cond (e := ((1 + 6 * ((f_marksAct (f_undisturbed aActs).length 1).length : Int)) != (1 + 6 * ((f_undisturbed aActs).length : Int)))) (by kernel_rfl) (fun h58 => ?_) (fun h58 => ?_)
              · have g59 : ¬ ((1 + 6 * ((f_marksAct (f_undisturbed aActs).length 1).length : Int)) = (1 + 6 * ((f_undisturbed aActs).length : Int))) := bne_iff_ne.1 h58
                refine wp_seq ?_
                refine RG.start ?_
                refine S.quiet (k := 1) (keep := [2]) (m := 0) (σ' := ⟨[(2, .v (B false))], []⟩) .nil (by kernel_rfl) ?_
                clear S; intro ac w β S
                refine RG.done rfl (nx_then ?_)
                refine wp_ret (rt_then ?_)
                refine S.ret (vs := [B false]) (by kernel_rfl) ?_
                exact ⟨retB (show false = true by clear S; first | rfl | (exfalso; omega) | (exfalso; simp_all [f_marksTold_len, f_marksAct_len]; done) | (exfalso; simp_all [f_marksTold_len, f_marksAct_len]; omega)), S.chg⟩
              · have g60 : (1 + 6 * ((f_marksAct (f_undisturbed aActs).length 1).length : Int)) = (1 + 6 * ((f_undisturbed aActs).length : Int)) := ne_f h58
                refine wp_skip (nx_then ?_)
                refine wp_seq ?_
                refine RG.start ?_
                refine S.quiet (k := 1) (keep := [4, 6, 8, 54]) (m := 0) (σ' := ⟨[(4, .v (slv (f_undisturbed aActs).length q8.1)), (6, .v (slv ((f_marksAct (f_undisturbed aActs).length 1)).length q52.1)), (8, .v (I (1 + 6 * ((f_undisturbed aActs).length : Int)))), (54, .v (slv (aActs).length paActs.1))], []⟩) .nil (by kernel_rfl) ?_
                clear S; intro ac w β S
                refine S.call1 (r := aActs) (d := 55) (c_laws_toActS w aActs paActs (S.rd (S.arg hkaActs))) (by kernel_rfl) rfl ?_
                clear S; intro ac w N q61 F62 S up o63 d64
                have d65 : Disj F9 F62 := fun b x y => d64 b (o10.sub b x) y
                have d66 : Disj F19 F62 := fun b x y => d64 b (o53.sub b x) y
                replace o10 := o10.up up
                replace o53 := o53.up up
                clear up d64
                refine S.call1 (r := f_undisturbed aActs) (d := 56) (c_impl_Undisturbed w aActs q61 (S.rd o63.rn)) (by kernel_rfl) rfl ?_
                clear S; intro ac w N q67 F68 S up o69 d70
                have d71 : Disj F9 F68 := fun b x y => d70 b (o10.sub b x) y
                have d72 : Disj F19 F68 := fun b x y => d70 b (o53.sub b x) y
                have d73 : Disj F62 F68 := fun b x y => d70 b (o63.sub b x) y
                replace o10 := o10.up up
                replace o53 := o53.up up
                replace o63 := o63.up up
                clear up d70
                refine S.quiet (k := 1) (keep := [4, 6, 8, 10]) (m := 0) (σ' := ⟨[(4, .v (slv (f_undisturbed aActs).length q8.1)), (6, .v (slv ((f_marksAct (f_undisturbed aActs).length 1)).length q52.1)), (8, .v (I (1 + 6 * ((f_undisturbed aActs).length : Int)))), (10, .v (slv (f_undisturbed aActs).length q67.1))], []⟩) .nil (by kernel_rfl) ?_
                clear S; intro ac w β S
                refine RG.done rfl (nx_then ?_)
                refine wp_seq ?_
                refine wp_seq ?_
                refine RG.start ?_
                refine S.quiet (k := 4) (keep := [6, 8, 60]) (m := 0) (σ' := ⟨[(6, .v (slv ((f_marksAct (f_undisturbed aActs).length 1)).length q52.1)), (8, .v (I (1 + 6 * ((f_undisturbed aActs).length : Int)))), (60, .v (B (!(decide ((f_undisturbed aActs) = (f_undisturbed aActs))))))], []⟩) (.cons (Q_call fun w hw => c_laws_eqActS w (f_undisturbed aActs) q67 (rd_of o69.rn hw) (f_undisturbed aActs) q8 (rd_of o10.rn hw)) .nil) (by kernel_rfl) ?_
                clear S; intro ac w β S
                refine RG.done rfl (nx_then ?_)
                refine S.cond (e := (!(decide ((f_undisturbed aActs) = (f_undisturbed aActs))))) (by kernel_rfl) (fun h74 => ?_) (fun h74 => ?_)
                · have h75 : (decide ((f_undisturbed aActs) = (f_undisturbed aActs))) = false := not_t h74
                  have g76 := of_decide_eq_false h75
                  refine wp_seq ?_
                  refine RG.start ?_
                  refine S.quiet (k := 1) (keep := [2]) (m := 0) (σ' := ⟨[(2, .v (B false))], []⟩) .nil (by kernel_rfl) ?_
                  clear S; intro ac w β S
                  refine RG.done rfl (nx_then ?_)
                  refine wp_ret (rt_then ?_)
                  refine S.ret (vs := [B false]) (by kernel_rfl) ?_
                  exact ⟨retB (show false = true by clear S; first | rfl | (exfalso; omega) | (exfalso; simp_all [f_marksTold_len, f_marksAct_len]; done) | (exfalso; simp_all [f_marksTold_len, f_marksAct_len]; omega)), S.chg⟩
                · have h77 : (decide ((f_undisturbed aActs) = (f_undisturbed aActs))) = true := not_f h74
                  have g78 := of_decide_eq_true h77
                  refine wp_skip (nx_then ?_)
                  refine wp_seq ?_
                  refine RG.start ?_
                  refine S.quiet (k := 1) (keep := [6, 8, 9]) (m := 0) (σ' := ⟨[(6, .v (slv ((f_marksAct (f_undisturbed aActs).length 1)).length q52.1)), (8, .v (I (1 + 6 * ((f_undisturbed aActs).length : Int)))), (9, .v (I 1))], []⟩) .nil (by kernel_rfl) ?_
                  clear S; intro ac w β S
                  refine RG.done rfl (nx_then ?_)
                  refine wp_seq ?_
                  refine RG.start ?_
                  refine S.quiet (k := 4) (keep := [8, 9]) (m := 0) (σ' := ⟨[(8, .v (I (1 + 6 * ((f_undisturbed aActs).length : Int)))), (9, .v (I (1 + 6 * ((f_marksAct (f_undisturbed aActs).length 1).length : Int))))], []⟩) (.cons (Q_call fun w hw => c_laws_heldActS w (f_marksAct (f_undisturbed aActs).length 1) q52 (rd_of o53.rn hw) 1 (by first | omega | (simp only [f_marksAct_len])) (by first | omega | (simp only [f_marksAct_len])) (by first | omega | (simp only [f_marksAct_len]))) .nil) (by kernel_rfl) ?_
                  clear S; intro ac w β S
                  refine RG.done rfl (nx_then ?_)
                  refine wp_seq ?_
                  refine wp_seq ?_
                  refine RG.start ?_
                  refine S.quiet (k := 2) (keep := [8, 9, 65]) (m := 0) (σ' := ⟨[(8, .v (I (1 + 6 * ((f_undisturbed aActs).length : Int)))), (9, .v (I (1 + 6 * ((f_marksAct (f_undisturbed aActs).length 1).length : Int)))), (65, .v (B (decide ((1 + 6 * ((f_marksAct (f_undisturbed aActs).length 1).length : Int)) < 0))))], []⟩) .nil (by kernel_rfl) ?_
                  clear S; intro ac w β S
                  refine RG.done rfl (nx_then ?_)
                  refine S.cond (e := (decide ((1 + 6 * ((f_marksAct (f_undisturbed aActs).length 1).length : Int)) < 0))) (by kernel_rfl) (fun h79 => ?_) (fun h79 => ?_)
                  · have g80 : (1 + 6 * ((f_marksAct (f_undisturbed aActs).length 1).length : Int)) < 0 := of_decide_eq_true h79
                    refine wp_seq ?_
                    refine RG.start ?_
                    refine S.quiet (k := 1) (keep := [2]) (m := 0) (σ' := ⟨[(2, .v (B false))], []⟩) .nil (by kernel_rfl) ?_
                    clear S; intro ac w β S
                    refine RG.done rfl (nx_then ?_)
                    refine wp_ret (rt_then ?_)
                    refine S.ret (vs := [B false]) (by kernel_rfl) ?_
                    exact ⟨retB (show false = true by clear S; first | rfl | (exfalso; omega) | (exfalso; simp_all [f_marksTold_len, f_marksAct_len]; done) | (exfalso; simp_all [f_marksTold_len, f_marksAct_len]; omega)), S.chg⟩
                  · have g81 : ¬ ((1 + 6 * ((f_marksAct (f_undisturbed aActs).length 1).length : Int)) < 0) := of_decide_eq_false h79
                    refine wp_skip (nx_then ?_)
                    refine wp_seq ?_
                    refine wp_seq ?_
                    refine RG.start ?_
                    refine S.quiet (k := 3) (keep := [68]) (m := 0) (σ' := ⟨[(68, .v (B ((1 + 6 * ((f_marksAct (f_undisturbed aActs).length 1).length : Int)) != (1 + 6 * ((f_undisturbed aActs).length : Int)))))], []⟩) .nil (by kernel_rfl) ?_
                    clear S; intro ac w β S
                    refine RG.done rfl (nx_then ?_)
                    refine S.cond (e := ((1 + 6 * ((f_marksAct (f_undisturbed aActs).length 1).length : Int)) != (1 + 6 * ((f_undisturbed aActs).length : Int)))) (by kernel_rfl) (fun h82 => ?_) (fun h82 => ?_)
                    · have g83 : ¬ ((1 + 6 * ((f_marksAct (f_undisturbed aActs).length 1).length : Int)) = (1 + 6 * ((f_undisturbed aActs).length : Int))) := bne_iff_ne.1 h82
                      refine wp_seq ?_
                      refine RG.start ?_
                      refine S.quiet (k := 1) (keep := [2]) (m := 0) (σ' := ⟨[(2, .v (B false))], []⟩) .nil (by kernel_rfl) ?_
                      clear S; intro ac w β S
                      refine RG.done rfl (nx_then ?_)
                      refine wp_ret (rt_then ?_)
                      refine S.ret (vs := [B false]) (by kernel_rfl) ?_
                      exact ⟨retB (show false = true by clear S; first | rfl | (exfalso; omega) | (exfalso; simp_all [f_marksTold_len, f_marksAct_len]; done) | (exfalso; simp_all [f_marksTold_len, f_marksAct_len]; omega)), S.chg⟩
                    · have g84 : (1 + 6 * ((f_marksAct (f_undisturbed aActs).length 1).length : Int)) = (1 + 6 * ((f_undisturbed aActs).length : Int)) := ne_f h82
                      refine wp_skip (nx_then ?_)
                      refine wp_seq ?_
                      refine RG.start ?_
                      refine S.quiet (k := 1) (keep := [2]) (m := 0) (σ' := ⟨[(2, .v (B true))], []⟩) .nil (by kernel_rfl) ?_
                      clear S; intro ac w β S
                      refine RG.done rfl (nx_then ?_)
                      refine wp_ret ?_
                      refine S.ret (vs := [B true]) (by kernel_rfl) ?_
                      exact ⟨retB (show true = true by clear S; first | rfl | (exfalso; omega) | (exfalso; simp_all [f_marksTold_len, f_marksAct_len]; done) | (exfalso; simp_all [f_marksTold_len, f_marksAct_len]; omega)), S.chg⟩

set_option maxRecDepth 100000 in
theorem c_spec_InnerTold (w0 : World) (l : List TAct) (pl : LP TAct) (hl : GT.rd KK (Lt w0.heap.size) w0 l pl) (t : List TTold) (pt : LP TTold) (ht : GT.rd KK (Lt w0.heap.size) w0 t pt) : Calls Go.Proofs.Try.prog 29 [slv (l).length pl.1, slv (t).length pt.1].toArray w0 (Ret1 NoB w0 (f_innerTold l t : List TTold)) := by
  refine Calls.walk (args := [slv (l).length pl.1, slv (t).length pt.1]) NoB Go.Proofs.Try.func29 rfl rfl ?_
  intro ac β S
  have hlel : l.length ≤ 4194304 := LRd.le hl
  have hlet : t.length ≤ 4194304 := LRd.le ht
  refine wp_seq ?_
  refine RG.start ?_
  refine S.quiet (k := 1) (keep := [0, 1]) (m := 0) (σ' := ⟨[(0, .v (slv (l).length pl.1)), (1, .v (slv (t).length pt.1))], []⟩) .nil (by kernel_rfl) ?_
  clear S; intro ac w β S
  refine RG.done rfl (nx_then ?_)
  refine wp_seq ?_
  refine RG.start ?_
  refine S.bs0 (α := TTold) (d := 7) (by kernel_rfl) ?_
  clear S; intro ac w N q1 F2 S up o3 d4
  clear up d4
  refine S.quiet (k := 1) (keep := [0, 1, 5]) (m := 0) (σ' := ⟨[(0, .v (slv (l).length pl.1)), (1, .v (slv (t).length pt.1)), (5, .v (slv 0 q1.1))], []⟩) .nil (by kernel_rfl) ?_
  clear S; intro ac w β S
  refine RG.done rfl (nx_then ?_)
  refine wp_seq ?_
  refine wp_seq ?_
  refine RG.start ?_
  refine S.quiet (k := 1) (keep := [0, 1, 5, 6]) (m := 0) (σ' := ⟨[(0, .v (slv (l).length pl.1)), (1, .v (slv (t).length pt.1)), (5, .v (slv 0 q1.1)), (6, .v (I 0))], []⟩) .nil (by kernel_rfl) ?_
  clear S; intro ac w β S
  refine RG.done rfl (nx_then ?_)
  refine wp_block ?_
  replace S := S.prune (keep := [0, 1, 5, 6]) (m := 0) (σ' := ⟨[(0, .v (slv (l).length pl.1)), (1, .v (slv (t).length pt.1)), (5, .v (slv 0 q1.1)), (6, .v (I 0))], []⟩) (by kernel_rfl)
  refine wp_loop_down (fun mm ac w => ∃ (k : Nat) (acc : List TTold) (q5 : GT.Ptr (List TTold)) (F6 : Bl) (u : World) (N : Bl) (β : Nat → Nat), mm = l.length - k ∧ (k ≤ l.length) ∧ (k ≤ t.length) ∧ (acc = f_innerTold (l.take k) (t.take k)) ∧ St Go.Proofs.Try.prog Go.Proofs.Try.f29.ntmps w0 NoB u N β ⟨[(0, .v (slv (l).length pl.1)), (1, .v (slv (t).length pt.1)), (5, .v (slv (acc).length q5.1)), (6, .v (I (k : Int)))], []⟩ ac w ∧ Ow w0 NoB u N F6 acc q5) _ ⟨0, ([] : List TTold), q1, F2, _, _, _, rfl, (by first | omega | (simp; done) | (simp; omega)), (by first | omega | (simp; done) | (simp; omega)), (by simp [f_innerTold]), S.cast (by kernel_rfl), o3⟩ ?_
  clear S o3
  rintro mm ac w ⟨k, acc, q5, F6, u, N, β, rfl, hk, hk2, hacc, S, o7⟩
  have hlacc : acc.length ≤ k := by rw [hacc]; exact inner_len _ _ _ (by simp; omega)
  refine wp_seq ?_
  refine wp_seq ?_
  refine RG.start ?_
  refine S.quiet (k := 5) (keep := [0, 1, 5, 6, 12]) (m := 0) (σ' := ⟨[(0, .v (slv (l).length pl.1)), (1, .v (slv (t).length pt.1)), (5, .v (slv (acc).length q5.1)), (6, .v (I (k : Int))), (12, .v (B (decide ((k : Int) < ((l).length : Int)))))], []⟩) .nil (by kernel_rfl) ?_
  clear S; intro ac w β S
  rcases Bool.eq_false_or_eq_true (decide ((k : Int) < ((l).length : Int))) with h8 | h8 <;> rw [h8] at S
  · have g9 : (k : Int) < ((l).length : Int) := of_decide_eq_true h8
    refine S.quiet (k := 5) (keep := [0, 1, 5, 6, 17]) (m := 0) (σ' := ⟨[(0, .v (slv (l).length pl.1)), (1, .v (slv (t).length pt.1)), (5, .v (slv (acc).length q5.1)), (6, .v (I (k : Int))), (17, .v (B (decide ((k : Int) < ((t).length : Int)))))], []⟩) .nil (by kernel_rfl) ?_
    clear S; intro ac w β S
    refine RG.done rfl (nx_then ?_)
    refine S.cond (e := (decide ((k : Int) < ((t).length : Int)))) (by kernel_rfl) (fun h10 => ?_) (fun h10 => ?_)
    · have g11 : (k : Int) < ((t).length : Int) := of_decide_eq_true h10
      refine wp_skip (nx_then ?_)
      refine wp_seq ?_
      refine wp_block ?_
      refine wp_seq ?_
      refine RG.start ?_
      refine S.quiet (k := 7) (keep := [0, 1, 5, 6, 26]) (m := 0) (σ' := ⟨[(0, .v (slv (l).length pl.1)), (1, .v (slv (t).length pt.1)), (5, .v (slv (acc).length q5.1)), (6, .v (I (k : Int))), (26, .v (B (!(f_isOuter ((el l k).kind)))))], []⟩) (.cons (Q_idx (S.arg hl) (l := (l).length) (k := k) rfl rfl (by omega) Go.Proofs.Try.underlying41 (by kernel_rfl)) (.cons (Q_cell (S.arg hl) (t := 3) (k := k) (j := 0) (v := I ((el l k).kind)) (by omega) (by kernel_rfl) (by kernel_rfl)) (.cons (Q_call fun w hw => c_spec_IsOuter w ((el l k).kind)) .nil))) (by kernel_rfl) ?_
      clear S; intro ac w β S
      refine RG.done rfl (nx_then ?_)
      refine S.cond (e := (!(f_isOuter ((el l k).kind)))) (by kernel_rfl) (fun h12 => ?_) (fun h12 => ?_)
      · have h13 : (f_isOuter ((el l k).kind)) = false := not_t h12
        refine RG.start ?_
        refine S.quiet (k := 5) (keep := [0, 1, 6, 27, 31]) (m := 0) (σ' := ⟨[(0, .v (slv (l).length pl.1)), (1, .v (slv (t).length pt.1)), (6, .v (I (k : Int))), (27, .v (slv (acc).length q5.1)), (31, .v (GT.val (α := TTold) (el t k) ()))], []⟩) (.cons (Q_idx (S.arg ht) (l := (t).length) (k := k) rfl rfl (by omega) Go.Proofs.Try.underlying36 (by kernel_rfl)) (.cons (Q_el (S.arg ht) (t := 52) (k := k) (by omega) rfl (by kernel_rfl) (by kernel_rfl)) .nil)) (by kernel_rfl) ?_
        clear S; intro ac w β S
        refine S.bs1 (α := TTold) (x := (el t k)) (p := ()) (F := NoB) (LRd.el (S.arg ht) k (by omega)) (fun b h => False.elim h) (fun b h => False.elim h) (d := 32) (by kernel_rfl) ?_
        clear S; intro ac w N q14 F15 S up o16 d17
        have d18 : Disj F6 F15 := d17 _ (fun b _ h => False.elim h) o7.sub
        replace o7 := o7.up up
        clear up d17
        refine S.appFlat (α := TTold) o7 (o16.rn) (fun _ _ h => h) (by' := 16) (d := 33) (lx := (acc).length) (ly := 1) rfl rfl (by kernel_rfl) (show _ ≤ 4194304 by simp only [List.length_append, List.length_cons, List.length_nil]; omega) ?_
        clear S; intro ac w N q19 F20 S up o21 d22
        have d23 : Disj F15 F20 := d22 _ (Disj.symm d18) o16.sub
        replace o16 := o16.upF (Disj.symm d18) up
        clear up d22
        refine S.quiet (k := 1) (keep := [0, 1, 5, 6]) (m := 0) (σ' := ⟨[(0, .v (slv (l).length pl.1)), (1, .v (slv (t).length pt.1)), (5, .v (slv ((acc ++ [(el t k)])).length q19.1)), (6, .v (I (k : Int)))], []⟩) .nil (by kernel_rfl) ?_
        clear S; intro ac w β S
        refine RG.done rfl (nx_block (nx_then ?_))
        refine RG.start ?_
        refine S.quiet (k := 3) (keep := [0, 1, 5, 6]) (m := 0) (σ' := ⟨[(0, .v (slv (l).length pl.1)), (1, .v (slv (t).length pt.1)), (5, .v (slv ((acc ++ [(el t k)])).length q19.1)), (6, .v (I ((k : Int) + 1)))], []⟩) (.cons (Q_add (x := (k : Int)) (y := 1) ⟨by omega, by omega⟩) .nil) (by kernel_rfl) ?_
        clear S; intro ac w β S
        refine RG.done rfl (nx_then ?_)
        replace S := S.prune (keep := [0, 1, 5, 6]) (m := 0) (σ' := ⟨[(0, .v (slv (l).length pl.1)), (1, .v (slv (t).length pt.1)), (5, .v (slv ((acc ++ [(el t k)])).length q19.1)), (6, .v (I ((k : Int) + 1)))], []⟩) (by kernel_rfl)
        refine ⟨l.length - (k + 1), by omega, k + 1, (acc ++ [(el t k)]), q19, F20, _, _, _, rfl, ?_, ?_, ?_, S.cast (by kernel_rfl), o21⟩
        · clear S; first | omega | (simp [*]; done) | (simp [*]; omega)
        · clear S; first | omega | (simp [*]; done) | (simp [*]; omega)
        · clear S; rw [inner_step (by omega) (by omega)]; simp_all
      · have h24 : (f_isOuter ((el l k).kind)) = true := not_f h12
        refine wp_skip (nx_block (nx_then ?_))
        refine RG.start ?_
        refine S.quiet (k := 3) (keep := [0, 1, 5, 6]) (m := 0) (σ' := ⟨[(0, .v (slv (l).length pl.1)), (1, .v (slv (t).length pt.1)), (5, .v (slv (acc).length q5.1)), (6, .v (I ((k : Int) + 1)))], []⟩) (.cons (Q_add (x := (k : Int)) (y := 1) ⟨by omega, by omega⟩) .nil) (by kernel_rfl) ?_
        clear S; intro ac w β S
        refine RG.done rfl (nx_then ?_)
        replace S := S.prune (keep := [0, 1, 5, 6]) (m := 0) (σ' := ⟨[(0, .v (slv (l).length pl.1)), (1, .v (slv (t).length pt.1)), (5, .v (slv (acc).length q5.1)), (6, .v (I ((k : Int) + 1)))], []⟩) (by kernel_rfl)
        refine ⟨l.length - (k + 1), by omega, k + 1, acc, q5, F6, _, _, _, rfl, ?_, ?_, ?_, S.cast (by kernel_rfl), o7⟩
        · clear S; first | omega | (simp [*]; done) | (simp [*]; omega)
        · clear S; first | omega | (simp [*]; done) | (simp [*]; omega)
        · clear S; rw [inner_step (by omega) (by omega)]; simp_all
    · have g25 : ¬ ((k : Int) < ((t).length : Int)) := of_decide_eq_false h10
      refine wp_exit (ex_then (ex_then (ex_hit (nx_then ?_))))
      refine wp_seq ?_
      refine RG.start ?_
      refine S.quiet (k := 2) (keep := [4]) (m := 0) (σ' := ⟨[(4, .v (slv (acc).length q5.1))], []⟩) .nil (by kernel_rfl) ?_
      clear S; intro ac w β S
      refine RG.done rfl (nx_then ?_)
      refine wp_ret ?_
      refine S.ret (vs := [slv (acc).length q5.1]) (by kernel_rfl) ?_
      exact ret1_of S (show f_innerTold l t = acc by clear S; rw [hacc]; exact inner_end (by omega)) rfl o7
  · have g26 : ¬ ((k : Int) < ((l).length : Int)) := of_decide_eq_false h8
    refine S.quiet (k := 5) (keep := [0, 1, 5, 6, 17]) (m := 0) (σ' := ⟨[(0, .v (slv (l).length pl.1)), (1, .v (slv (t).length pt.1)), (5, .v (slv (acc).length q5.1)), (6, .v (I (k : Int))), (17, .v (B false))], []⟩) .nil (by kernel_rfl) ?_
    clear S; intro ac w β S
    refine RG.done rfl (nx_then ?_)
    refine S.cond (e := false) (by kernel_rfl) (fun hx => by cases hx) (fun _ => ?_)
    refine wp_exit (ex_then (ex_then (ex_hit (nx_then ?_))))
    refine wp_seq ?_
    refine RG.start ?_
    refine S.quiet (k := 2) (keep := [4]) (m := 0) (σ' := ⟨[(4, .v (slv (acc).length q5.1))], []⟩) .nil (by kernel_rfl) ?_
    clear S; intro ac w β S
    refine RG.done rfl (nx_then ?_)
    refine wp_ret ?_
    refine S.ret (vs := [slv (acc).length q5.1]) (by kernel_rfl) ?_
    exact ret1_of S (show f_innerTold l t = acc by clear S; rw [hacc]; exact inner_end (by omega)) rfl o7

set_option maxRecDepth 100000 in
theorem c_impl_InnerTold (w0 : World) (l : List TAct) (pl : LP TAct) (hl : GT.rd KK (Lt w0.heap.size) w0 l pl) (t : List TTold) (pt : LP TTold) (ht : GT.rd KK (Lt w0.heap.size) w0 t pt) : Calls Go.Proofs.Try.prog 30 [slv (l).length pl.1, slv (t).length pt.1].toArray w0 (Ret1 NoB w0 (f_innerTold l t : List TTold)) := by
  refine Calls.walk (args := [slv (l).length pl.1, slv (t).length pt.1]) NoB Go.Proofs.Try.func30 rfl rfl ?_
  intro ac β S
  have hlel : l.length ≤ 4194304 := LRd.le hl
  have hlet : t.length ≤ 4194304 := LRd.le ht
  refine wp_seq ?_
  refine RG.start ?_
  refine S.quiet (k := 1) (keep := [0, 1]) (m := 0) (σ' := ⟨[(0, .v (slv (l).length pl.1)), (1, .v (slv (t).length pt.1))], []⟩) .nil (by kernel_rfl) ?_
  clear S; intro ac w β S
  refine RG.done rfl (nx_then ?_)
  refine wp_seq ?_
  refine RG.start ?_
  refine S.bs0 (α := TTold) (d := 7) (by kernel_rfl) ?_
  clear S; intro ac w N q1 F2 S up o3 d4
  clear up d4
  refine S.quiet (k := 1) (keep := [0, 1, 5]) (m := 0) (σ' := ⟨[(0, .v (slv (l).length pl.1)), (1, .v (slv (t).length pt.1)), (5, .v (slv 0 q1.1))], []⟩) .nil (by kernel_rfl) ?_
  clear S; intro ac w β S
  refine RG.done rfl (nx_then ?_)
  refine wp_seq ?_
  refine wp_seq ?_
  refine RG.start ?_
  refine S.quiet (k := 1) (keep := [0, 1, 5, 6]) (m := 0) (σ' := ⟨[(0, .v (slv (l).length pl.1)), (1, .v (slv (t).length pt.1)), (5, .v (slv 0 q1.1)), (6, .v (I 0))], []⟩) .nil (by kernel_rfl) ?_
  clear S; intro ac w β S
  refine RG.done rfl (nx_then ?_)
  refine wp_block ?_
  replace S := S.prune (keep := [0, 1, 5, 6]) (m := 0) (σ' := ⟨[(0, .v (slv (l).length pl.1)), (1, .v (slv (t).length pt.1)), (5, .v (slv 0 q1.1)), (6, .v (I 0))], []⟩) (by kernel_rfl)
  refine wp_loop_down (fun mm ac w => ∃ (k : Nat) (acc : List TTold) (q5 : GT.Ptr (List TTold)) (F6 : Bl) (u : World) (N : Bl) (β : Nat → Nat), mm = l.length - k ∧ (k ≤ l.length) ∧ (k ≤ t.length) ∧ (acc = f_innerTold (l.take k) (t.take k)) ∧ St Go.Proofs.Try.prog Go.Proofs.Try.f30.ntmps w0 NoB u N β ⟨[(0, .v (slv (l).length pl.1)), (1, .v (slv (t).length pt.1)), (5, .v (slv (acc).length q5.1)), (6, .v (I (k : Int)))], []⟩ ac w ∧ Ow w0 NoB u N F6 acc q5) _ ⟨0, ([] : List TTold), q1, F2, _, _, _, rfl, (by first | omega | (simp; done) | (simp; omega)), (by first | omega | (simp; done) | (simp; omega)), (by simp [f_innerTold]), S.cast (by kernel_rfl), o3⟩ ?_
  clear S o3
  rintro mm ac w ⟨k, acc, q5, F6, u, N, β, rfl, hk, hk2, hacc, S, o7⟩
  have hlacc : acc.length ≤ k := by rw [hacc]; exact inner_len _ _ _ (by simp; omega)
  refine wp_seq ?_
  refine wp_seq ?_
  refine RG.start ?_
  refine S.quiet (k := 5) (keep := [0, 1, 5, 6, 12]) (m := 0) (σ' := ⟨[(0, .v (slv (l).length pl.1)), (1, .v (slv (t).length pt.1)), (5, .v (slv (acc).length q5.1)), (6, .v (I (k : Int))), (12, .v (B (decide ((k : Int) < ((l).length : Int)))))], []⟩) .nil (by kernel_rfl) ?_
  clear S; intro ac w β S
  rcases Bool.eq_false_or_eq_true (decide ((k : Int) < ((l).length : Int))) with h8 | h8 <;> rw [h8] at S
  · have g9 : (k : Int) < ((l).length : Int) := of_decide_eq_true h8
    refine S.quiet (k := 5) (keep := [0, 1, 5, 6, 17]) (m := 0) (σ' := ⟨[(0, .v (slv (l).length pl.1)), (1, .v (slv (t).length pt.1)), (5, .v (slv (acc).length q5.1)), (6, .v (I (k : Int))), (17, .v (B (decide ((k : Int) < ((t).length : Int)))))], []⟩) .nil (by kernel_rfl) ?_
    clear S; intro ac w β S
    refine RG.done rfl (nx_then ?_)
    refine S.cond (e := (decide ((k : Int) < ((t).length : Int)))) (by kernel_rfl) (fun h10 => ?_) (fun h10 => ?_)
    · have g11 : (k : Int) < ((t).length : Int) := of_decide_eq_true h10
      refine wp_skip (nx_then ?_)
      refine wp_seq ?_
      refine wp_block ?_
      refine wp_seq ?_
      refine RG.start ?_
      refine S.quiet (k := 7) (keep := [0, 1, 5, 6, 26]) (m := 0) (σ' := ⟨[(0, .v (slv (l).length pl.1)), (1, .v (slv (t).length pt.1)), (5, .v (slv (acc).length q5.1)), (6, .v (I (k : Int))), (26, .v (B (!(f_isOuter ((el l k).kind)))))], []⟩) (.cons (Q_idx (S.arg hl) (l := (l).length) (k := k) rfl rfl (by omega) Go.Proofs.Try.underlying41 (by kernel_rfl)) (.cons (Q_cell (S.arg hl) (t := 3) (k := k) (j := 0) (v := I ((el l k).kind)) (by omega) (by kernel_rfl) (by kernel_rfl)) (.cons (Q_call fun w hw => c_impl_IsOuter w ((el l k).kind)) .nil))) (by kernel_rfl) ?_
      clear S; intro ac w β S
      refine RG.done rfl (nx_then ?_)
      refine S.cond (e := (!(f_isOuter ((el l k).kind)))) (by kernel_rfl) (fun h12 => ?_) (fun h12 => ?_)
      · have h13 : (f_isOuter ((el l k).kind)) = false := not_t h12
        refine RG.start ?_
        refine S.quiet (k := 5) (keep := [0, 1, 6, 27, 31]) (m := 0) (σ' := ⟨[(0, .v (slv (l).length pl.1)), (1, .v (slv (t).length pt.1)), (6, .v (I (k : Int))), (27, .v (slv (acc).length q5.1)), (31, .v (GT.val (α := TTold) (el t k) ()))], []⟩) (.cons (Q_idx (S.arg ht) (l := (t).length) (k := k) rfl rfl (by omega) Go.Proofs.Try.underlying36 (by kernel_rfl)) (.cons (Q_el (S.arg ht) (t := 52) (k := k) (by omega) rfl (by kernel_rfl) (by kernel_rfl)) .nil)) (by kernel_rfl) ?_
        clear S; intro ac w β S
        refine S.bs1 (α := TTold) (x := (el t k)) (p := ()) (F := NoB) (LRd.el (S.arg ht) k (by omega)) (fun b h => False.elim h) (fun b h => False.elim h) (d := 32) (by kernel_rfl) ?_
        clear S; intro ac w N q14 F15 S up o16 d17
        have d18 : Disj F6 F15 := d17 _ (fun b _ h => False.elim h) o7.sub
        replace o7 := o7.up up
        clear up d17
        refine S.appFlat (α := TTold) o7 (o16.rn) (fun _ _ h => h) (by' := 16) (d := 33) (lx := (acc).length) (ly := 1) rfl rfl (by kernel_rfl) (show _ ≤ 4194304 by simp only [List.length_append, List.length_cons, List.length_nil]; omega) ?_
        clear S; intro ac w N q19 F20 S up o21 d22
        have d23 : Disj F15 F20 := d22 _ (Disj.symm d18) o16.sub
        replace o16 := o16.upF (Disj.symm d18) up
        clear up d22
        refine S.quiet (k := 1) (keep := [0, 1, 5, 6]) (m := 0) (σ' := ⟨[(0, .v (slv (l).length pl.1)), (1, .v (slv (t).length pt.1)), (5, .v (slv ((acc ++ [(el t k)])).length q19.1)), (6, .v (I (k : Int)))], []⟩) .nil (by kernel_rfl) ?_
        clear S; intro ac w β S
        refine RG.done rfl (nx_block (nx_then ?_))
        refine RG.start ?_
        refine S.quiet (k := 3) (keep := [0, 1, 5, 6]) (m := 0) (σ' := ⟨[(0, .v (slv (l).length pl.1)), (1, .v (slv (t).length pt.1)), (5, .v (slv ((acc ++ [(el t k)])).length q19.1)), (6, .v (I ((k : Int) + 1)))], []⟩) (.cons (Q_add (x := (k : Int)) (y := 1) ⟨by omega, by omega⟩) .nil) (by kernel_rfl) ?_
        clear S; intro ac w β S
        refine RG.done rfl (nx_then ?_)
        replace S := S.prune (keep := [0, 1, 5, 6]) (m := 0) (σ' := ⟨[(0, .v (slv (l).length pl.1)), (1, .v (slv (t).length pt.1)), (5, .v (slv ((acc ++ [(el t k)])).length q19.1)), (6, .v (I ((k : Int) + 1)))], []⟩) (by kernel_rfl)
        refine ⟨l.length - (k + 1), by omega, k + 1, (acc ++ [(el t k)]), q19, F20, _, _, _, rfl, ?_, ?_, ?_, S.cast (by kernel_rfl), o21⟩
        · clear S; first | omega | (simp [*]; done) | (simp [*]; omega)
        · clear S; first | omega | (simp [*]; done) | (simp [*]; omega)
        · clear S; rw [inner_step (by omega) (by omega)]; simp_all
      · have h24 : (f_isOuter ((el l k).kind)) = true := not_f h12
        refine wp_skip (nx_block (nx_then ?_))
        refine RG.start ?_
        refine S.quiet (k := 3) (keep := [0, 1, 5, 6]) (m := 0) (σ' := ⟨[(0, .v (slv (l).length pl.1)), (1, .v (slv (t).length pt.1)), (5, .v (slv (acc).length q5.1)), (6, .v (I ((k : Int) + 1)))], []⟩) (.cons (Q_add (x := (k : Int)) (y := 1) ⟨by omega, by omega⟩) .nil) (by kernel_rfl) ?_
        clear S; intro ac w β S
        refine RG.done rfl (nx_then ?_)
        replace S := S.prune (keep := [0, 1, 5, 6]) (m := 0) (σ' := ⟨[(0, .v (slv (l).length pl.1)), (1, .v (slv (t).length pt.1)), (5, .v (slv (acc).length q5.1)), (6, .v (I ((k : Int) + 1)))], []⟩) (by kernel_rfl)
        refine ⟨l.length - (k + 1), by omega, k + 1, acc, q5, F6, _, _, _, rfl, ?_, ?_, ?_, S.cast (by kernel_rfl), o7⟩
        · clear S; first | omega | (simp [*]; done) | (simp [*]; omega)
        · clear S; first | omega | (simp [*]; done) | (simp [*]; omega)
        · clear S; rw [inner_step (by omega) (by omega)]; simp_all
    · have g25 : ¬ ((k : Int) < ((t).length : Int)) := of_decide_eq_false h10
      refine wp_exit (ex_then (ex_then (ex_hit (nx_then ?_))))
      refine wp_seq ?_
      refine RG.start ?_
      refine S.quiet (k := 2) (keep := [4]) (m := 0) (σ' := ⟨[(4, .v (slv (acc).length q5.1))], []⟩) .nil (by kernel_rfl) ?_
      clear S; intro ac w β S
      refine RG.done rfl (nx_then ?_)
      refine wp_ret ?_
      refine S.ret (vs := [slv (acc).length q5.1]) (by kernel_rfl) ?_
      exact ret1_of S (show f_innerTold l t = acc by clear S; rw [hacc]; exact inner_end (by omega)) rfl o7
  · have g26 : ¬ ((k : Int) < ((l).length : Int)) := of_decide_eq_false h8
    refine S.quiet (k := 5) (keep := [0, 1, 5, 6, 17]) (m := 0) (σ' := ⟨[(0, .v (slv (l).length pl.1)), (1, .v (slv (t).length pt.1)), (5, .v (slv (acc).length q5.1)), (6, .v (I (k : Int))), (17, .v (B false))], []⟩) .nil (by kernel_rfl) ?_
    clear S; intro ac w β S
    refine RG.done rfl (nx_then ?_)
    refine S.cond (e := false) (by kernel_rfl) (fun hx => by cases hx) (fun _ => ?_)
    refine wp_exit (ex_then (ex_then (ex_hit (nx_then ?_))))
    refine wp_seq ?_
    refine RG.start ?_
    refine S.quiet (k := 2) (keep := [4]) (m := 0) (σ' := ⟨[(4, .v (slv (acc).length q5.1))], []⟩) .nil (by kernel_rfl) ?_
    clear S; intro ac w β S
    refine RG.done rfl (nx_then ?_)
    refine wp_ret ?_
    refine S.ret (vs := [slv (acc).length q5.1]) (by kernel_rfl) ?_
    exact ret1_of S (show f_innerTold l t = acc by clear S; rw [hacc]; exact inner_end (by omega)) rfl o7

set_option maxRecDepth 100000 in
theorem c_laws_markToldS (w0 : World) (a : List TTold) (pa : LP TTold) (F : Bl) (ha : GT.own KK F w0 a pa) (hF : ∀ b, F b → b < w0.heap.size) (k : Int) (pre0 : 0 ≤ k) (pre1 : k ≤ 4611686018427387904) : Calls Go.Proofs.Try.prog 31 [slv (a).length pa.1, I k].toArray w0 (RetM F w0 pa a (f_marksTold a.length k) (k + 2 * (a.length : Int))) := by
  refine Calls.walk (args := [slv (a).length pa.1, I k]) F Go.Proofs.Try.func31 rfl rfl ?_
  intro ac β S
  have oa : Ow w0 F w0 (Lt w0.heap.size) F a pa := ⟨ha, hF, fun b hb => .inr hb⟩
  have hlea : a.length ≤ 4194304 := LOwn.le ha
  refine wp_seq ?_
  refine RG.start ?_
  refine S.quiet (k := 1) (keep := [0, 1]) (m := 0) (σ' := ⟨[(0, .v (slv (a).length pa.1)), (1, .v (I k))], []⟩) .nil (by kernel_rfl) ?_
  clear S; intro ac w β S
  refine RG.done rfl (nx_then ?_)
  refine wp_seq ?_
  refine wp_seq ?_
  refine RG.start ?_
  refine S.quiet (k := 1) (keep := [0, 1, 5]) (m := 0) (σ' := ⟨[(0, .v (slv (a).length pa.1)), (1, .v (I k)), (5, .v (I 0))], []⟩) .nil (by kernel_rfl) ?_
  clear S; intro ac w β S
  refine RG.done rfl (nx_then ?_)
  refine wp_block ?_
  replace S := S.prune (keep := [0, 1, 5]) (m := 0) (σ' := ⟨[(0, .v (slv (a).length pa.1)), (1, .v (I k)), (5, .v (I 0))], []⟩) (by kernel_rfl)
  refine wp_loop_down (fun mm ac w => ∃ (i : Nat) (acc : List TTold) (j : Int) (q1 : GT.Ptr (List TTold)) (F2 : Bl) (u : World) (N : Bl) (β : Nat → Nat), mm = a.length - i ∧ (i ≤ a.length) ∧ (acc = f_marksTold i k ++ a.drop i) ∧ (j = k + 2 * (i : Int)) ∧ St Go.Proofs.Try.prog Go.Proofs.Try.f31.ntmps w0 F u N β ⟨[(0, .v (slv a.length q1.1)), (1, .v (I j)), (5, .v (I (i : Int)))], []⟩ ac w ∧ Ow w0 F u N F2 acc q1 ∧ q1.1 = pa.1 ∧ (∀ b, F2 b → F b)) _ ⟨0, a, k, pa, F, _, _, _, rfl, (by first | omega | (simp; done) | (simp; omega)), (by simp [f_marksTold]), (by simp), S.cast (by kernel_rfl), oa, rfl, (fun _ h => h)⟩ ?_
  clear S oa
  rintro mm ac w ⟨i, acc, j, q1, F2, u, N, β, rfl, hi, hacc, hj, S, o3, hq, hs⟩
  have hlacc : acc.length = a.length := by rw [hacc]; simp [f_marksTold]; omega
  refine wp_seq ?_
  refine wp_seq ?_
  refine RG.start ?_
  refine S.quiet (k := 4) (keep := [0, 1, 5, 9]) (m := 0) (σ' := ⟨[(0, .v (slv a.length q1.1)), (1, .v (I j)), (5, .v (I (i : Int))), (9, .v (B (decide ((i : Int) < (a.length : Int)))))], []⟩) .nil (by kernel_rfl) ?_
  clear S; intro ac w β S
  refine RG.done rfl (nx_then ?_)
  refine S.cond (e := (decide ((i : Int) < (a.length : Int)))) (by kernel_rfl) (fun h4 => ?_) (fun h4 => ?_)
  · have g5 : (i : Int) < (a.length : Int) := of_decide_eq_true h4
    refine wp_skip (nx_then ?_)
    refine wp_seq ?_
    refine wp_block ?_
    refine wp_seq ?_
    refine RG.start ?_
    refine S.quiet (k := 7) (keep := [0, 1, 5, 16, 18]) (m := 0) (σ' := ⟨[(0, .v (slv a.length q1.1)), (1, .v (I j)), (5, .v (I (i : Int))), (16, .v (B ((Int.tmod j 3) == 0))), (18, .v (pt q1.1.b (q1.1.off + i * 2)))], []⟩) (.cons (Q_rem (x := j) (y := 3) (by decide)) (.cons (Q_idx o3.rn (l := a.length) (k := i) (by rw [hacc]; simp [f_marksTold]; omega) rfl (by omega) Go.Proofs.Try.underlying36 (by kernel_rfl)) .nil)) (by kernel_rfl) ?_
    clear S; intro ac w β S
    have e6 : RTold (el acc i) := (LRd.el o3.rn i (by omega))
    refine S.setEl (α := TTold) o3 (t := 4) (v := B ((Int.tmod j 3) == 0)) (k := i) (j := 0) (off := q1.1.off + i * 2) (y := (⟨((Int.tmod j 3) == 0), (el acc i).n⟩ : TTold)) (q := ()) (Fy := NoB) (by kernel_rfl) (by kernel_rfl) (by omega) (by kernel_rfl) (by kernel_rfl) (Nat.le_of_ble_eq_true (by kernel_rfl)) (by kernel_rfl) (fun _ _ => ⟨NoB, (show RTold (⟨((Int.tmod j 3) == 0), (el acc i).n⟩ : TTold) from ⟨(RTold.n (d := (el acc i)) e6)⟩), fun _ h => False.elim h⟩) (fun b _ h => False.elim h) (fun b h => False.elim h) (fun b h => False.elim h) ?_
    clear S; intro w N F8 q9 S up o7 d10 s11
    have s12 : ∀ b, F8 b → F b := fun b h => (s11 b h).elim (hs b) (fun h => False.elim h)
    clear up d10 o3
    have l13 : (acc.set i (⟨((Int.tmod j 3) == 0), (el acc i).n⟩ : TTold)).length = (acc).length := List.length_set
    replace S := S.prune (keep := [0, 1, 5]) (m := 0) (σ' := ⟨[(0, .v (slv a.length q1.1)), (1, .v (I j)), (5, .v (I (i : Int)))], []⟩) (by kernel_rfl)
    refine RG.done rfl (nx_then ?_)
    refine wp_seq ?_
    refine RG.start ?_
    refine S.quiet (k := 3) (keep := [0, 1, 5]) (m := 0) (σ' := ⟨[(0, .v (slv a.length q1.1)), (1, .v (I (j + 1))), (5, .v (I (i : Int)))], []⟩) (.cons (Q_add (x := j) (y := 1) ⟨by omega, by omega⟩) .nil) (by kernel_rfl) ?_
    clear S; intro ac w β S
    refine RG.done rfl (nx_then ?_)
    refine wp_seq ?_
    refine RG.start ?_
    refine S.quiet (k := 5) (keep := [0, 1, 5, 23, 25]) (m := 0) (σ' := ⟨[(0, .v (slv a.length q1.1)), (1, .v (I (j + 1))), (5, .v (I (i : Int))), (23, .v (I (j + 1))), (25, .v (pt q1.1.b (q1.1.off + i * 2 + 1)))], []⟩) (.cons (Q_idx o7.rn (l := a.length) (k := i) (by rw [List.length_set]; exact (by rw [hacc]; simp [f_marksTold]; omega)) rfl (by omega) Go.Proofs.Try.underlying36 (by kernel_rfl)) .nil) (by kernel_rfl) ?_
    clear S; intro ac w β S
    refine S.setEl (α := TTold) o7 (t := 3) (v := I (j + 1)) (k := i) (j := 1) (off := q1.1.off + i * 2 + 1) (y := (⟨((Int.tmod j 3) == 0), (j + 1)⟩ : TTold)) (q := ()) (Fy := NoB) (by kernel_rfl) (by kernel_rfl) (by omega) (by kernel_rfl) (by kernel_rfl) (Nat.le_of_ble_eq_true (by kernel_rfl)) (by rw [el_set_self (show i < (acc).length by omega)]; kernel_rfl) (fun _ _ => ⟨NoB, (show RTold (⟨((Int.tmod j 3) == 0), (j + 1)⟩ : TTold) from ⟨(show In64 (j + 1) from ⟨by omega, by omega⟩)⟩), fun _ h => False.elim h⟩) (fun b _ h => False.elim h) (fun b h => False.elim h) (fun b h => False.elim h) ?_
    clear S; intro w N F15 q16 S up o14 d17 s18
    have s19 : ∀ b, F15 b → F b := fun b h => (s18 b h).elim (s12 b) (fun h => False.elim h)
    clear up d17 o7
    rw [List.set_set] at o14
    have l20 : (acc.set i (⟨((Int.tmod j 3) == 0), (j + 1)⟩ : TTold)).length = (acc).length := List.length_set
    replace S := S.prune (keep := [0, 1, 5]) (m := 0) (σ' := ⟨[(0, .v (slv a.length q1.1)), (1, .v (I (j + 1))), (5, .v (I (i : Int)))], []⟩) (by kernel_rfl)
    refine RG.done rfl (nx_then ?_)
    refine RG.start ?_
    refine S.quiet (k := 3) (keep := [0, 1, 5]) (m := 0) (σ' := ⟨[(0, .v (slv a.length q1.1)), (1, .v (I ((j + 1) + 1))), (5, .v (I (i : Int)))], []⟩) (.cons (Q_add (x := (j + 1)) (y := 1) ⟨by omega, by omega⟩) .nil) (by kernel_rfl) ?_
    clear S; intro ac w β S
    refine RG.done rfl (nx_block (nx_then ?_))
    refine RG.start ?_
    refine S.quiet (k := 3) (keep := [0, 1, 5]) (m := 0) (σ' := ⟨[(0, .v (slv a.length q1.1)), (1, .v (I ((j + 1) + 1))), (5, .v (I ((i : Int) + 1)))], []⟩) (.cons (Q_add (x := (i : Int)) (y := 1) ⟨by omega, by omega⟩) .nil) (by kernel_rfl) ?_
    clear S; intro ac w β S
    refine RG.done rfl (nx_then ?_)
    replace S := S.prune (keep := [0, 1, 5]) (m := 0) (σ' := ⟨[(0, .v (slv a.length q1.1)), (1, .v (I ((j + 1) + 1))), (5, .v (I ((i : Int) + 1)))], []⟩) (by kernel_rfl)
    refine ⟨a.length - (i + 1), by omega, i + 1, (acc.set i (⟨((Int.tmod j 3) == 0), (j + 1)⟩ : TTold)), ((j + 1) + 1), (q1.1, q16), F15, _, _, _, rfl, ?_, ?_, ?_, S.cast (by kernel_rfl), o14, hq, s19⟩
    · clear S; first | omega | (simp [*]; done) | (simp [*]; omega)
    · clear S; (have hlt : i < acc.length := (by omega)); rw [hacc, ← marksTold_step (by omega) hj]; (first | rfl | (simp [g_markTold, Int.add_assoc]; done))
    · clear S; omega
  · have g21 : ¬ ((i : Int) < (a.length : Int)) := of_decide_eq_false h4
    refine wp_exit (ex_then (ex_then (ex_hit (nx_then ?_))))
    refine wp_seq ?_
    refine RG.start ?_
    refine S.quiet (k := 2) (keep := [4]) (m := 0) (σ' := ⟨[(4, .v (I j))], []⟩) .nil (by kernel_rfl) ?_
    clear S; intro ac w β S
    refine RG.done rfl (nx_then ?_)
    refine wp_ret ?_
    refine S.ret (vs := [I j]) (by kernel_rfl) ?_
    exact retM_of S (show f_marksTold a.length k = acc by clear S; (have e : i = a.length := (by omega)); subst e; rw [hacc]; simp) (show k + 2 * (a.length : Int) = j by clear S; omega) (by show [slv _ _] = [slv _ _]; rw [hlacc, hq]) o3 hs

set_option maxRecDepth 100000 in
theorem c_laws_heldToldS (w0 : World) (a : List TTold) (pa : LP TTold) (ha : GT.rd KK (Lt w0.heap.size) w0 a pa) (k : Int) (pre0 : 0 ≤ k) (pre1 : k ≤ 4611686018427387904) (pre2 : a = f_marksTold a.length k) : Calls Go.Proofs.Try.prog 32 [slv (a).length pa.1, I k].toArray w0 (fun e w' => e = .returned (I (k + 2 * (a.length : Int))) ∧ Chg NoB w0 w') := by
  refine Calls.walk (args := [slv (a).length pa.1, I k]) NoB Go.Proofs.Try.func32 rfl rfl ?_
  intro ac β S
  have hlea : a.length ≤ 4194304 := LRd.le ha
  refine wp_seq ?_
  refine RG.start ?_
  refine S.quiet (k := 1) (keep := [0, 1]) (m := 0) (σ' := ⟨[(0, .v (slv (a).length pa.1)), (1, .v (I k))], []⟩) .nil (by kernel_rfl) ?_
  clear S; intro ac w β S
  refine RG.done rfl (nx_then ?_)
  refine wp_seq ?_
  refine wp_seq ?_
  refine RG.start ?_
  refine S.quiet (k := 1) (keep := [0, 1, 5]) (m := 0) (σ' := ⟨[(0, .v (slv (a).length pa.1)), (1, .v (I k)), (5, .v (I 0))], []⟩) .nil (by kernel_rfl) ?_
  clear S; intro ac w β S
  refine RG.done rfl (nx_then ?_)
  refine wp_block ?_
  replace S := S.prune (keep := [0, 1, 5]) (m := 0) (σ' := ⟨[(0, .v (slv (a).length pa.1)), (1, .v (I k)), (5, .v (I 0))], []⟩) (by kernel_rfl)
  refine wp_loop_down (fun mm ac w => ∃ (i : Nat) (j : Int)  (u : World) (N : Bl) (β : Nat → Nat), mm = a.length - i ∧ (i ≤ a.length) ∧ (j = k + 2 * (i : Int)) ∧ St Go.Proofs.Try.prog Go.Proofs.Try.f32.ntmps w0 NoB u N β ⟨[(0, .v (slv (a).length pa.1)), (1, .v (I j)), (5, .v (I (i : Int)))], []⟩ ac w) _ ⟨0, k, _, _, _, rfl, (by first | omega | (simp; done) | (simp; omega)), (by simp), S.cast (by kernel_rfl)⟩ ?_
  clear S
  rintro mm ac w ⟨i, j, u, N, β, rfl, hi, hj, S⟩
  have hel : i < a.length → el a i = g_markTold j := fun h => by rw [pre2, hj]; exact el_marksTold h
  refine wp_seq ?_
  refine wp_seq ?_
  refine RG.start ?_
  refine S.quiet (k := 4) (keep := [0, 1, 5, 9]) (m := 0) (σ' := ⟨[(0, .v (slv (a).length pa.1)), (1, .v (I j)), (5, .v (I (i : Int))), (9, .v (B (decide ((i : Int) < ((a).length : Int)))))], []⟩) .nil (by kernel_rfl) ?_
  clear S; intro ac w β S
  refine RG.done rfl (nx_then ?_)
  refine S.cond (e := (decide ((i : Int) < ((a).length : Int)))) (by kernel_rfl) (fun h1 => ?_) (fun h1 => ?_)
  · have g2 : (i : Int) < ((a).length : Int) := of_decide_eq_true h1
    refine wp_skip (nx_then ?_)
    refine wp_seq ?_
    refine wp_block ?_
    refine wp_seq ?_
    refine wp_seq ?_
    refine RG.start ?_
    refine S.quiet (k := 9) (keep := [0, 1, 5, 20]) (m := 0) (σ' := ⟨[(0, .v (slv (a).length pa.1)), (1, .v (I j)), (5, .v (I (i : Int))), (20, .v (B (!((el a i).ok == ((Int.tmod j 3) == 0)))))], []⟩) (.cons (Q_idx (S.arg ha) (l := (a).length) (k := i) rfl rfl (by omega) Go.Proofs.Try.underlying36 (by kernel_rfl)) (.cons (Q_cell (S.arg ha) (t := 4) (k := i) (j := 0) (v := B ((el a i).ok)) (by omega) (by kernel_rfl) (by kernel_rfl)) (.cons (Q_rem (x := j) (y := 3) (by decide)) .nil))) (by kernel_rfl) ?_
    clear S; intro ac w β S
    refine RG.done rfl (nx_then ?_)
    refine S.cond (e := (!((el a i).ok == ((Int.tmod j 3) == 0)))) (by kernel_rfl) (fun h3 => ?_) (fun h3 => ?_)
    · have h4 : ((el a i).ok == ((Int.tmod j 3) == 0)) = false := not_t h3
      refine wp_seq ?_
      refine RG.start ?_
      refine S.quiet (k := 1) (keep := [4]) (m := 0) (σ' := ⟨[(4, .v (I (-1)))], []⟩) .nil (by kernel_rfl) ?_
      clear S; intro ac w β S
      refine RG.done rfl (nx_then ?_)
      refine wp_ret (rt_then (rt_block (rt_then (rt_then (rt_block (rt_then ?_))))))
      refine S.ret (vs := [I (-1)]) (by kernel_rfl) ?_
      exact ⟨retI (show (-1) = k + 2 * (a.length : Int) by clear S; first | omega | (exfalso; (have hel := hel (by omega)); clear pre2; simp_all [g_markTold]; done) | (exfalso; (have hel := hel (by omega)); clear pre2; simp_all [g_markTold]; omega)), S.chg⟩
    · have h5 : ((el a i).ok == ((Int.tmod j 3) == 0)) = true := not_f h3
      refine wp_skip (nx_then ?_)
      refine wp_seq ?_
      refine RG.start ?_
      refine S.quiet (k := 3) (keep := [0, 1, 5]) (m := 0) (σ' := ⟨[(0, .v (slv (a).length pa.1)), (1, .v (I (j + 1))), (5, .v (I (i : Int)))], []⟩) (.cons (Q_add (x := j) (y := 1) ⟨by omega, by omega⟩) .nil) (by kernel_rfl) ?_
      clear S; intro ac w β S
      refine RG.done rfl (nx_then ?_)
      refine wp_seq ?_
      refine wp_seq ?_
      refine RG.start ?_
      refine S.quiet (k := 7) (keep := [0, 1, 5, 29]) (m := 0) (σ' := ⟨[(0, .v (slv (a).length pa.1)), (1, .v (I (j + 1))), (5, .v (I (i : Int))), (29, .v (B ((el a i).n != (j + 1))))], []⟩) (.cons (Q_idx (S.arg ha) (l := (a).length) (k := i) rfl rfl (by omega) Go.Proofs.Try.underlying36 (by kernel_rfl)) (.cons (Q_cell (S.arg ha) (t := 3) (k := i) (j := 1) (v := I ((el a i).n)) (by omega) (by kernel_rfl) (by kernel_rfl)) .nil)) (by kernel_rfl) ?_
      clear S; intro ac w β S
      refine RG.done rfl (nx_then ?_)
      refine S.cond (e := ((el a i).n != (j + 1))) (by kernel_rfl) (fun h6 => ?_) (fun h6 => ?_)
      · have g7 : ¬ ((el a i).n = (j + 1)) := bne_iff_ne.1 h6
        refine wp_seq ?_
        refine RG.start ?_
        refine S.quiet (k := 1) (keep := [4]) (m := 0) (σ' := ⟨[(4, .v (I (-1)))], []⟩) .nil (by kernel_rfl) ?_
        clear S; intro ac w β S
        refine RG.done rfl (nx_then ?_)
        refine wp_ret (rt_then (rt_block (rt_then (rt_then (rt_block (rt_then ?_))))))
        refine S.ret (vs := [I (-1)]) (by kernel_rfl) ?_
        exact ⟨retI (show (-1) = k + 2 * (a.length : Int) by clear S; first | omega | (exfalso; (have hel := hel (by omega)); clear pre2; simp_all [g_markTold]; done) | (exfalso; (have hel := hel (by omega)); clear pre2; simp_all [g_markTold]; omega)), S.chg⟩
      · have g8 : (el a i).n = (j + 1) := ne_f h6
        refine wp_skip (nx_then ?_)
        refine RG.start ?_
        refine S.quiet (k := 3) (keep := [0, 1, 5]) (m := 0) (σ' := ⟨[(0, .v (slv (a).length pa.1)), (1, .v (I ((j + 1) + 1))), (5, .v (I (i : Int)))], []⟩) (.cons (Q_add (x := (j + 1)) (y := 1) ⟨by omega, by omega⟩) .nil) (by kernel_rfl) ?_
        clear S; intro ac w β S
        refine RG.done rfl (nx_block (nx_then ?_))
        refine RG.start ?_
        refine S.quiet (k := 3) (keep := [0, 1, 5]) (m := 0) (σ' := ⟨[(0, .v (slv (a).length pa.1)), (1, .v (I ((j + 1) + 1))), (5, .v (I ((i : Int) + 1)))], []⟩) (.cons (Q_add (x := (i : Int)) (y := 1) ⟨by omega, by omega⟩) .nil) (by kernel_rfl) ?_
        clear S; intro ac w β S
        refine RG.done rfl (nx_then ?_)
        replace S := S.prune (keep := [0, 1, 5]) (m := 0) (σ' := ⟨[(0, .v (slv (a).length pa.1)), (1, .v (I ((j + 1) + 1))), (5, .v (I ((i : Int) + 1)))], []⟩) (by kernel_rfl)
        refine ⟨a.length - (i + 1), by omega, i + 1, ((j + 1) + 1), _, _, _, rfl, ?_, ?_, S.cast (by kernel_rfl)⟩
        · clear S; first | omega | (simp [*]; done) | (simp [*]; omega)
        · clear S; omega
  · have g9 : ¬ ((i : Int) < ((a).length : Int)) := of_decide_eq_false h1
    refine wp_exit (ex_then (ex_then (ex_hit (nx_then ?_))))
    refine wp_seq ?_
    refine RG.start ?_
    refine S.quiet (k := 2) (keep := [4]) (m := 0) (σ' := ⟨[(4, .v (I j))], []⟩) .nil (by kernel_rfl) ?_
    clear S; intro ac w β S
    refine RG.done rfl (nx_then ?_)
    refine wp_ret ?_
    refine S.ret (vs := [I j]) (by kernel_rfl) ?_
    exact ⟨retI (show j = k + 2 * (a.length : Int) by clear S; first | omega | (exfalso; (have hel := hel (by omega)); clear pre2; simp_all [g_markTold]; done) | (exfalso; (have hel := hel (by omega)); clear pre2; simp_all [g_markTold]; omega)), S.chg⟩

set_option maxRecDepth 100000 in
theorem c_laws_FnExactInnerTold (w0 : World) (aActs : List TAct) (paActs : LP TAct) (haActs : GT.rd KR (Lt w0.heap.size) w0 aActs paActs) (aTold : List TTold) (paTold : LP TTold) (haTold : GT.rd KR (Lt w0.heap.size) w0 aTold paTold) : Calls Go.Proofs.Try.prog 8 [slv (aActs).length paActs.1, slv (aTold).length paTold.1].toArray w0 (fun e w' => e = .returned (B true) ∧ Chg NoB w0 w') := by
  refine Calls.walk (args := [slv (aActs).length paActs.1, slv (aTold).length paTold.1]) NoB Go.Proofs.Try.func8 rfl rfl ?_
  intro ac β S
  have hleaActs : aActs.length ≤ 9223372036854775807 := LRd.le haActs
  have hleaTold : aTold.length ≤ 9223372036854775807 := LRd.le haTold
  refine wp_seq ?_
  refine RG.start ?_
  refine S.quiet (k := 1) (keep := [0, 1]) (m := 0) (σ' := ⟨[(0, .v (slv (aActs).length paActs.1)), (1, .v (slv (aTold).length paTold.1))], []⟩) .nil (by kernel_rfl) ?_
  clear S; intro ac w β S
  refine RG.done rfl (nx_then ?_)
  refine wp_seq ?_
  refine RG.start ?_
  refine S.quiet (k := 1) (keep := [0, 1, 5]) (m := 0) (σ' := ⟨[(0, .v (slv (aActs).length paActs.1)), (1, .v (slv (aTold).length paTold.1)), (5, .v (I 1048576))], []⟩) .nil (by kernel_rfl) ?_
  clear S; intro ac w β S
  refine RG.done rfl (nx_then ?_)
  refine wp_seq ?_
  refine RG.start ?_
  refine S.quiet (k := 4) (keep := [0, 1, 5]) (m := 0) (σ' := ⟨[(0, .v (slv (aActs).length paActs.1)), (1, .v (slv (aTold).length paTold.1)), (5, .v (I (f_sz aActs.length 1048576)))], []⟩) (.cons (Q_call fun w hw => c_laws_szActS w aActs paActs (rd_of (S.arg haActs) hw) 1048576 (by omega) (by omega)) .nil) (by kernel_rfl) ?_
  clear S; intro ac w β S
  refine RG.done rfl (nx_then ?_)
  refine wp_seq ?_
  refine wp_seq ?_
  refine RG.start ?_
  refine S.quiet (k := 2) (keep := [0, 1, 5, 18]) (m := 0) (σ' := ⟨[(0, .v (slv (aActs).length paActs.1)), (1, .v (slv (aTold).length paTold.1)), (5, .v (I (f_sz aActs.length 1048576))), (18, .v (B (decide ((f_sz aActs.length 1048576) < 0))))], []⟩) .nil (by kernel_rfl) ?_
  clear S; intro ac w β S
  refine RG.done rfl (nx_then ?_)
  refine S.cond (e := (decide ((f_sz aActs.length 1048576) < 0))) (by kernel_rfl) (fun h1 => ?_) (fun h1 => ?_)
  · have g2 : (f_sz aActs.length 1048576) < 0 := of_decide_eq_true h1
    refine wp_seq ?_
    refine RG.start ?_
    refine S.quiet (k := 1) (keep := [4]) (m := 0) (σ' := ⟨[(4, .v (B true))], []⟩) .nil (by kernel_rfl) ?_
    clear S; intro ac w β S
    refine RG.done rfl (nx_then ?_)
    refine wp_ret (rt_then ?_)
    refine S.ret (vs := [B true]) (by kernel_rfl) ?_
    exact ⟨retB (show true = true by clear S; first | rfl | (exfalso; omega) | (exfalso; simp_all [f_marksTold_len, f_marksAct_len]; done) | (exfalso; simp_all [f_marksTold_len, f_marksAct_len]; omega)), S.chg⟩
  · have g3 : ¬ ((f_sz aActs.length 1048576) < 0) := of_decide_eq_false h1
    have hbaActs := f_sz_bd aActs.length 1048576
    have hkaActs : GT.rd KK (Lt w0.heap.size) w0 aActs paActs := rd_cut haActs (show aActs.length ≤ 4194304 by omega) (fun i hi => LRd.el haActs i hi)
    have hcaActs : aActs.length ≤ 1048576 := by omega
    refine wp_skip (nx_then ?_)
    refine wp_seq ?_
    refine RG.start ?_
    refine S.quiet (k := 4) (keep := [0, 1, 5]) (m := 0) (σ' := ⟨[(0, .v (slv (aActs).length paActs.1)), (1, .v (slv (aTold).length paTold.1)), (5, .v (I (f_sz aTold.length (f_sz aActs.length 1048576))))], []⟩) (.cons (Q_call fun w hw => c_laws_szToldS w aTold paTold (rd_of (S.arg haTold) hw) (f_sz aActs.length 1048576) (by omega) (by omega)) .nil) (by kernel_rfl) ?_
    clear S; intro ac w β S
    refine RG.done rfl (nx_then ?_)
    refine wp_seq ?_
    refine wp_seq ?_
    refine RG.start ?_
    refine S.quiet (k := 2) (keep := [0, 1, 23]) (m := 0) (σ' := ⟨[(0, .v (slv (aActs).length paActs.1)), (1, .v (slv (aTold).length paTold.1)), (23, .v (B (decide ((f_sz aTold.length (f_sz aActs.length 1048576)) < 0))))], []⟩) .nil (by kernel_rfl) ?_
    clear S; intro ac w β S
    refine RG.done rfl (nx_then ?_)
    refine S.cond (e := (decide ((f_sz aTold.length (f_sz aActs.length 1048576)) < 0))) (by kernel_rfl) (fun h4 => ?_) (fun h4 => ?_)
    · have g5 : (f_sz aTold.length (f_sz aActs.length 1048576)) < 0 := of_decide_eq_true h4
      refine wp_seq ?_
      refine RG.start ?_
      refine S.quiet (k := 1) (keep := [4]) (m := 0) (σ' := ⟨[(4, .v (B true))], []⟩) .nil (by kernel_rfl) ?_
      clear S; intro ac w β S
      refine RG.done rfl (nx_then ?_)
      refine wp_ret (rt_then ?_)
      refine S.ret (vs := [B true]) (by kernel_rfl) ?_
      exact ⟨retB (show true = true by clear S; first | rfl | (exfalso; omega) | (exfalso; simp_all [f_marksTold_len, f_marksAct_len]; done) | (exfalso; simp_all [f_marksTold_len, f_marksAct_len]; omega)), S.chg⟩
    · have g6 : ¬ ((f_sz aTold.length (f_sz aActs.length 1048576)) < 0) := of_decide_eq_false h4
      have hbaTold := f_sz_bd aTold.length (f_sz aActs.length 1048576)
      have hkaTold : GT.rd KK (Lt w0.heap.size) w0 aTold paTold := rd_cut haTold (show aTold.length ≤ 4194304 by omega) (fun i hi => LRd.el haTold i hi)
      have hcaTold : aTold.length ≤ 1048576 := by omega
      refine wp_skip (nx_then ?_)
      refine wp_seq ?_
      refine RG.start ?_
      refine S.quiet (k := 1) (keep := [0, 1, 24]) (m := 0) (σ' := ⟨[(0, .v (slv (aActs).length paActs.1)), (1, .v (slv (aTold).length paTold.1)), (24, .v (slv (aActs).length paActs.1))], []⟩) .nil (by kernel_rfl) ?_
      clear S; intro ac w β S
      refine S.call1 (r := aActs) (d := 25) (c_laws_toActS w aActs paActs (S.rd (S.arg hkaActs))) (by kernel_rfl) rfl ?_
      clear S; intro ac w N q7 F8 S up o9 d10
      clear up d10
      refine S.quiet (k := 1) (keep := [0, 1, 25, 26]) (m := 0) (σ' := ⟨[(0, .v (slv (aActs).length paActs.1)), (1, .v (slv (aTold).length paTold.1)), (25, .v (slv (aActs).length q7.1)), (26, .v (slv (aTold).length paTold.1))], []⟩) .nil (by kernel_rfl) ?_
      clear S; intro ac w β S
      refine S.call1 (r := aTold) (d := 27) (c_laws_toToldS w aTold paTold (S.rd (S.arg hkaTold))) (by kernel_rfl) rfl ?_
      clear S; intro ac w N q11 F12 S up o13 d14
      have d15 : Disj F8 F12 := fun b x y => d14 b (o9.sub b x) y
      replace o9 := o9.up up
      clear up d14
      refine S.call1 (r := f_innerTold aActs aTold) (d := 28) (c_spec_InnerTold w aActs q7 (S.rd o9.rn) aTold q11 (S.rd o13.rn)) (by kernel_rfl) rfl ?_
      clear S; intro ac w N q16 F17 S up o18 d19
      have d20 : Disj F8 F17 := fun b x y => d19 b (o9.sub b x) y
      have d21 : Disj F12 F17 := fun b x y => d19 b (o13.sub b x) y
      replace o9 := o9.up up
      replace o13 := o13.up up
      clear up d19
      refine S.quiet (k := 1) (keep := [0, 1, 6]) (m := 0) (σ' := ⟨[(0, .v (slv (aActs).length paActs.1)), (1, .v (slv (aTold).length paTold.1)), (6, .v (slv (f_innerTold aActs aTold).length q16.1))], []⟩) .nil (by kernel_rfl) ?_
      clear S; intro ac w β S
      refine RG.done rfl (nx_then ?_)
      refine wp_seq ?_
      refine RG.start ?_
      refine S.quiet (k := 1) (keep := [0, 1, 6, 29]) (m := 0) (σ' := ⟨[(0, .v (slv (aActs).length paActs.1)), (1, .v (slv (aTold).length paTold.1)), (6, .v (slv (f_innerTold aActs aTold).length q16.1)), (29, .v (slv (aActs).length paActs.1))], []⟩) .nil (by kernel_rfl) ?_
      clear S; intro ac w β S
      refine S.call1 (r := aActs) (d := 30) (c_laws_toActS w aActs paActs (S.rd (S.arg hkaActs))) (by kernel_rfl) rfl ?_
      clear S; intro ac w N q22 F23 S up o24 d25
      have d26 : Disj F17 F23 := fun b x y => d25 b (o18.sub b x) y
      replace o18 := o18.up up
      clear up d25
      refine S.quiet (k := 1) (keep := [0, 1, 6, 7]) (m := 0) (σ' := ⟨[(0, .v (slv (aActs).length paActs.1)), (1, .v (slv (aTold).length paTold.1)), (6, .v (slv (f_innerTold aActs aTold).length q16.1)), (7, .v (slv (aActs).length q22.1))], []⟩) .nil (by kernel_rfl) ?_
      clear S; intro ac w β S
      refine RG.done rfl (nx_then ?_)
      refine wp_seq ?_
      refine RG.start ?_
      refine S.quiet (k := 1) (keep := [0, 1, 6, 7, 31]) (m := 0) (σ' := ⟨[(0, .v (slv (aActs).length paActs.1)), (1, .v (slv (aTold).length paTold.1)), (6, .v (slv (f_innerTold aActs aTold).length q16.1)), (7, .v (slv (aActs).length q22.1)), (31, .v (slv (aTold).length paTold.1))], []⟩) .nil (by kernel_rfl) ?_
      clear S; intro ac w β S
      refine S.call1 (r := aTold) (d := 32) (c_laws_toToldS w aTold paTold (S.rd (S.arg hkaTold))) (by kernel_rfl) rfl ?_
      clear S; intro ac w N q27 F28 S up o29 d30
      have d31 : Disj F17 F28 := fun b x y => d30 b (o18.sub b x) y
      have d32 : Disj F23 F28 := fun b x y => d30 b (o24.sub b x) y
      replace o18 := o18.up up
      replace o24 := o24.up up
      clear up d30
      refine S.quiet (k := 1) (keep := [0, 1, 6, 7, 8]) (m := 0) (σ' := ⟨[(0, .v (slv (aActs).length paActs.1)), (1, .v (slv (aTold).length paTold.1)), (6, .v (slv (f_innerTold aActs aTold).length q16.1)), (7, .v (slv (aActs).length q22.1)), (8, .v (slv (aTold).length q27.1))], []⟩) .nil (by kernel_rfl) ?_
      clear S; intro ac w β S
      refine RG.done rfl (nx_then ?_)
      refine wp_seq ?_
      refine RG.start ?_
      refine S.quiet (k := 2) (keep := [0, 1, 6, 7, 8, 33, 34]) (m := 0) (σ' := ⟨[(0, .v (slv (aActs).length paActs.1)), (1, .v (slv (aTold).length paTold.1)), (6, .v (slv (f_innerTold aActs aTold).length q16.1)), (7, .v (slv (aActs).length q22.1)), (8, .v (slv (aTold).length q27.1)), (33, .v (slv (aActs).length q22.1)), (34, .v (slv (aTold).length q27.1))], []⟩) .nil (by kernel_rfl) ?_
      clear S; intro ac w β S
      refine S.call1 (r := f_innerTold aActs aTold) (d := 35) (c_impl_InnerTold w aActs q22 (S.rd o24.rn) aTold q27 (S.rd o29.rn)) (by kernel_rfl) rfl ?_
      clear S; intro ac w N q33 F34 S up o35 d36
      have d37 : Disj F17 F34 := fun b x y => d36 b (o18.sub b x) y
      have d38 : Disj F23 F34 := fun b x y => d36 b (o24.sub b x) y
      have d39 : Disj F28 F34 := fun b x y => d36 b (o29.sub b x) y
      replace o18 := o18.up up
      replace o24 := o24.up up
      replace o29 := o29.up up
      clear up d36
      refine S.quiet (k := 1) (keep := [0, 1, 6, 7, 8, 9]) (m := 0) (σ' := ⟨[(0, .v (slv (aActs).length paActs.1)), (1, .v (slv (aTold).length paTold.1)), (6, .v (slv (f_innerTold aActs aTold).length q16.1)), (7, .v (slv (aActs).length q22.1)), (8, .v (slv (aTold).length q27.1)), (9, .v (slv (f_innerTold aActs aTold).length q33.1))], []⟩) .nil (by kernel_rfl) ?_
      clear S; intro ac w β S
      refine RG.done rfl (nx_then ?_)
      refine wp_seq ?_
      refine wp_seq ?_
      refine RG.start ?_
      refine S.quiet (k := 4) (keep := [0, 1, 6, 7, 8, 9, 39]) (m := 0) (σ' := ⟨[(0, .v (slv (aActs).length paActs.1)), (1, .v (slv (aTold).length paTold.1)), (6, .v (slv (f_innerTold aActs aTold).length q16.1)), (7, .v (slv (aActs).length q22.1)), (8, .v (slv (aTold).length q27.1)), (9, .v (slv (f_innerTold aActs aTold).length q33.1)), (39, .v (B (!(decide ((f_innerTold aActs aTold) = (f_innerTold aActs aTold))))))], []⟩) (.cons (Q_call fun w hw => c_laws_eqToldS w (f_innerTold aActs aTold) q33 (rd_of o35.rn hw) (f_innerTold aActs aTold) q16 (rd_of o18.rn hw)) .nil) (by kernel_rfl) ?_
      clear S; intro ac w β S
      refine RG.done rfl (nx_then ?_)
      refine S.cond (e := (!(decide ((f_innerTold aActs aTold) = (f_innerTold aActs aTold))))) (by kernel_rfl) (fun h40 => ?_) (fun h40 => ?_)
      · have h41 : (decide ((f_innerTold aActs aTold) = (f_innerTold aActs aTold))) = false := not_t h40
        have g42 := of_decide_eq_false h41
        refine wp_seq ?_
        refine RG.start ?_
        refine S.quiet (k := 1) (keep := [4]) (m := 0) (σ' := ⟨[(4, .v (B false))], []⟩) .nil (by kernel_rfl) ?_
        clear S; intro ac w β S
        refine RG.done rfl (nx_then ?_)
        refine wp_ret (rt_then ?_)
        refine S.ret (vs := [B false]) (by kernel_rfl) ?_
        exact ⟨retB (show false = true by clear S; first | rfl | (exfalso; omega) | (exfalso; simp_all [f_marksTold_len, f_marksAct_len]; done) | (exfalso; simp_all [f_marksTold_len, f_marksAct_len]; omega)), S.chg⟩
      · have h43 : (decide ((f_innerTold aActs aTold) = (f_innerTold aActs aTold))) = true := not_f h40
        have g44 := of_decide_eq_true h43
        refine wp_skip (nx_then ?_)
        refine wp_seq ?_
        refine wp_seq ?_
        refine RG.start ?_
        refine S.quiet (k := 2) (keep := [0, 1, 6, 7, 8, 9, 40, 41]) (m := 0) (σ' := ⟨[(0, .v (slv (aActs).length paActs.1)), (1, .v (slv (aTold).length paTold.1)), (6, .v (slv (f_innerTold aActs aTold).length q16.1)), (7, .v (slv (aActs).length q22.1)), (8, .v (slv (aTold).length q27.1)), (9, .v (slv (f_innerTold aActs aTold).length q33.1)), (40, .v (slv (aActs).length q22.1)), (41, .v (slv (aActs).length paActs.1))], []⟩) .nil (by kernel_rfl) ?_
        clear S; intro ac w β S
        refine S.call1 (r := aActs) (d := 42) (c_laws_toActS w aActs paActs (S.rd (S.arg hkaActs))) (by kernel_rfl) rfl ?_
        clear S; intro ac w N q45 F46 S up o47 d48
        have d49 : Disj F17 F46 := fun b x y => d48 b (o18.sub b x) y
        have d50 : Disj F23 F46 := fun b x y => d48 b (o24.sub b x) y
        have d51 : Disj F28 F46 := fun b x y => d48 b (o29.sub b x) y
        have d52 : Disj F34 F46 := fun b x y => d48 b (o35.sub b x) y
        replace o18 := o18.up up
        replace o24 := o24.up up
        replace o29 := o29.up up
        replace o35 := o35.up up
        clear up d48
        refine S.quiet (k := 2) (keep := [0, 1, 6, 7, 8, 9, 44]) (m := 0) (σ' := ⟨[(0, .v (slv (aActs).length paActs.1)), (1, .v (slv (aTold).length paTold.1)), (6, .v (slv (f_innerTold aActs aTold).length q16.1)), (7, .v (slv (aActs).length q22.1)), (8, .v (slv (aTold).length q27.1)), (9, .v (slv (f_innerTold aActs aTold).length q33.1)), (44, .v (B (!(decide (aActs = aActs)))))], []⟩) (.cons (Q_call fun w hw => c_laws_eqActS w aActs q22 (rd_of o24.rn hw) aActs q45 (rd_of o47.rn hw)) .nil) (by kernel_rfl) ?_
        clear S; intro ac w β S
        refine RG.done rfl (nx_then ?_)
        refine S.cond (e := (!(decide (aActs = aActs)))) (by kernel_rfl) (fun h53 => ?_) (fun h53 => ?_)
        · have h54 : (decide (aActs = aActs)) = false := not_t h53
          have g55 := of_decide_eq_false h54
          refine wp_seq ?_
          refine RG.start ?_
          refine S.quiet (k := 1) (keep := [4]) (m := 0) (σ' := ⟨[(4, .v (B false))], []⟩) .nil (by kernel_rfl) ?_
          clear S; intro ac w β S
          refine RG.done rfl (nx_then ?_)
          refine wp_ret (rt_then ?_)
          refine S.ret (vs := [B false]) (by kernel_rfl) ?_
          exact ⟨retB (show false = true by clear S; first | rfl | (exfalso; omega) | (exfalso; simp_all [f_marksTold_len, f_marksAct_len]; done) | (exfalso; simp_all [f_marksTold_len, f_marksAct_len]; omega)), S.chg⟩
        · have h56 : (decide (aActs = aActs)) = true := not_f h53
          have g57 := of_decide_eq_true h56
          refine wp_skip (nx_then ?_)
          refine wp_seq ?_
          refine wp_seq ?_
          refine RG.start ?_
          refine S.quiet (k := 2) (keep := [0, 1, 6, 7, 8, 9, 45, 46]) (m := 0) (σ' := ⟨[(0, .v (slv (aActs).length paActs.1)), (1, .v (slv (aTold).length paTold.1)), (6, .v (slv (f_innerTold aActs aTold).length q16.1)), (7, .v (slv (aActs).length q22.1)), (8, .v (slv (aTold).length q27.1)), (9, .v (slv (f_innerTold aActs aTold).length q33.1)), (45, .v (slv (aTold).length q27.1)), (46, .v (slv (aTold).length paTold.1))], []⟩) .nil (by kernel_rfl) ?_
          clear S; intro ac w β S
          refine S.call1 (r := aTold) (d := 47) (c_laws_toToldS w aTold paTold (S.rd (S.arg hkaTold))) (by kernel_rfl) rfl ?_
          clear S; intro ac w N q58 F59 S up o60 d61
          have d62 : Disj F17 F59 := fun b x y => d61 b (o18.sub b x) y
          have d63 : Disj F23 F59 := fun b x y => d61 b (o24.sub b x) y
          have d64 : Disj F28 F59 := fun b x y => d61 b (o29.sub b x) y
          have d65 : Disj F34 F59 := fun b x y => d61 b (o35.sub b x) y
          replace o18 := o18.up up
          replace o24 := o24.up up
          replace o29 := o29.up up
          replace o35 := o35.up up
          clear up d61
          refine S.quiet (k := 2) (keep := [0, 1, 6, 7, 8, 9, 49]) (m := 0) (σ' := ⟨[(0, .v (slv (aActs).length paActs.1)), (1, .v (slv (aTold).length paTold.1)), (6, .v (slv (f_innerTold aActs aTold).length q16.1)), (7, .v (slv (aActs).length q22.1)), (8, .v (slv (aTold).length q27.1)), (9, .v (slv (f_innerTold aActs aTold).length q33.1)), (49, .v (B (!(decide (aTold = aTold)))))], []⟩) (.cons (Q_call fun w hw => c_laws_eqToldS w aTold q27 (rd_of o29.rn hw) aTold q58 (rd_of o60.rn hw)) .nil) (by kernel_rfl) ?_
          clear S; intro ac w β S
          refine RG.done rfl (nx_then ?_)
          refine S.cond (e := (!(decide (aTold = aTold)))) (by kernel_rfl) (fun h66 => ?_) (fun h66 => ?_)
          · have h67 : (decide (aTold = aTold)) = false := not_t h66
            have g68 := of_decide_eq_false h67
            refine wp_seq ?_
            refine RG.start ?_
            refine S.quiet (k := 1) (keep := [4]) (m := 0) (σ' := ⟨[(4, .v (B false))], []⟩) .nil (by kernel_rfl) ?_
            clear S; intro ac w β S
            refine RG.done rfl (nx_then ?_)
            refine wp_ret (rt_then ?_)
            refine S.ret (vs := [B false]) (by kernel_rfl) ?_
            exact ⟨retB (show false = true by clear S; first | rfl | (exfalso; omega) | (exfalso; simp_all [f_marksTold_len, f_marksAct_len]; done) | (exfalso; simp_all [f_marksTold_len, f_marksAct_len]; omega)), S.chg⟩
          · have h69 : (decide (aTold = aTold)) = true := not_f h66
            have g70 := of_decide_eq_true h69
            refine wp_skip (nx_then ?_)
            refine wp_seq ?_
            refine RG.start ?_
            refine S.quiet (k := 1) (keep := [0, 1, 6, 7, 8, 9, 10]) (m := 0) (σ' := ⟨[(0, .v (slv (aActs).length paActs.1)), (1, .v (slv (aTold).length paTold.1)), (6, .v (slv (f_innerTold aActs aTold).length q16.1)), (7, .v (slv (aActs).length q22.1)), (8, .v (slv (aTold).length q27.1)), (9, .v (slv (f_innerTold aActs aTold).length q33.1)), (10, .v (I 1))], []⟩) .nil (by kernel_rfl) ?_
            clear S; intro ac w β S
            refine RG.done rfl (nx_then ?_)
            refine wp_seq ?_
            refine RG.start ?_
            refine S.quiet (k := 2) (keep := [0, 1, 6, 8, 9, 50, 51]) (m := 0) (σ' := ⟨[(0, .v (slv (aActs).length paActs.1)), (1, .v (slv (aTold).length paTold.1)), (6, .v (slv (f_innerTold aActs aTold).length q16.1)), (8, .v (slv (aTold).length q27.1)), (9, .v (slv (f_innerTold aActs aTold).length q33.1)), (50, .v (slv (aActs).length q22.1)), (51, .v (I 1))], []⟩) .nil (by kernel_rfl) ?_
            clear S; intro ac w β S
            refine S.callM (x' := f_marksAct aActs.length 1) (k' := 1 + 6 * (aActs.length : Int)) (d := 52) o24 (c_laws_markActS w aActs q22 F23 (S.ownw o24) (fun b hb => (S.sep b (o24.sub b hb)).1) 1 (by first | omega | (simp; omega)) (by first | omega | (simp; omega))) (by kernel_rfl) rfl ?_
            clear S; intro ac w N q71 S up o72 c73
            replace o18 := o18.upF d26 up
            replace o29 := o29.upF (Disj.symm d32) up
            replace o35 := o35.upF (Disj.symm d38) up
            clear up o24
            have hv : slv ((f_marksAct aActs.length 1)).length q71.1 = slv (aActs).length q22.1 := (List.cons.inj c73).1
            replace S := S.prune (keep := [0, 1, 6, 8, 9, 50, 51, 52]) (m := 0) (σ' := ⟨[(0, .v (slv (aActs).length paActs.1)), (1, .v (slv (aTold).length paTold.1)), (6, .v (slv (f_innerTold aActs aTold).length q16.1)), (8, .v (slv (aTold).length q27.1)), (9, .v (slv (f_innerTold aActs aTold).length q33.1)), (50, .v (slv (aActs).length q22.1)), (51, .v (I 1)), (52, .v (I (1 + 6 * (aActs.length : Int))))], []⟩) (by kernel_rfl)
            replace S := S.cast (σ' := ⟨[(0, .v (slv (aActs).length paActs.1)), (1, .v (slv (aTold).length paTold.1)), (6, .v (slv (f_innerTold aActs aTold).length q16.1)), (8, .v (slv (aTold).length q27.1)), (9, .v (slv (f_innerTold aActs aTold).length q33.1)), (50, .v (slv ((f_marksAct aActs.length 1)).length q71.1)), (51, .v (I 1)), (52, .v (I (1 + 6 * (aActs.length : Int))))], []⟩) (by rw [hv])
            clear hv
            clear c73
            refine S.quiet (k := 1) (keep := [0, 1, 6, 8, 9, 10]) (m := 0) (σ' := ⟨[(0, .v (slv (aActs).length paActs.1)), (1, .v (slv (aTold).length paTold.1)), (6, .v (slv (f_innerTold aActs aTold).length q16.1)), (8, .v (slv (aTold).length q27.1)), (9, .v (slv (f_innerTold aActs aTold).length q33.1)), (10, .v (I (1 + 6 * (aActs.length : Int))))], []⟩) .nil (by kernel_rfl) ?_
            clear S; intro ac w β S
            refine RG.done rfl (nx_then ?_)
            refine wp_seq ?_
            refine RG.start ?_
            refine S.quiet (k := 2) (keep := [0, 1, 6, 9, 53, 54]) (m := 0) (σ' := ⟨[(0, .v (slv (aActs).length paActs.1)), (1, .v (slv (aTold).length paTold.1)), (6, .v (slv (f_innerTold aActs aTold).length q16.1)), (9, .v (slv (f_innerTold aActs aTold).length q33.1)), (53, .v (slv (aTold).length q27.1)), (54, .v (I (1 + 6 * (aActs.length : Int))))], []⟩) .nil (by kernel_rfl) ?_
            clear S; intro ac w β S
            refine S.callM (x' := f_marksTold aTold.length (1 + 6 * (aActs.length : Int))) (k' := (1 + 6 * (aActs.length : Int)) + 2 * (aTold.length : Int)) (d := 55) o29 (c_laws_markToldS w aTold q27 F28 (S.ownw o29) (fun b hb => (S.sep b (o29.sub b hb)).1) (1 + 6 * (aActs.length : Int)) (by first | omega | (simp; omega)) (by first | omega | (simp; omega))) (by kernel_rfl) rfl ?_
            clear S; intro ac w N q74 S up o75 c76
            replace o18 := o18.upF d31 up
            replace o35 := o35.upF (Disj.symm d39) up
            clear up o29
            have hv : slv ((f_marksTold aTold.length (1 + 6 * (aActs.length : Int)))).length q74.1 = slv (aTold).length q27.1 := (List.cons.inj c76).1
            replace S := S.prune (keep := [0, 1, 6, 9, 53, 54, 55]) (m := 0) (σ' := ⟨[(0, .v (slv (aActs).length paActs.1)), (1, .v (slv (aTold).length paTold.1)), (6, .v (slv (f_innerTold aActs aTold).length q16.1)), (9, .v (slv (f_innerTold aActs aTold).length q33.1)), (53, .v (slv (aTold).length q27.1)), (54, .v (I (1 + 6 * (aActs.length : Int)))), (55, .v (I ((1 + 6 * (aActs.length : Int)) + 2 * (aTold.length : Int))))], []⟩) (by kernel_rfl)
            replace S := S.cast (σ' := ⟨[(0, .v (slv (aActs).length paActs.1)), (1, .v (slv (aTold).length paTold.1)), (6, .v (slv (f_innerTold aActs aTold).length q16.1)), (9, .v (slv (f_innerTold aActs aTold).length q33.1)), (53, .v (slv ((f_marksTold aTold.length (1 + 6 * (aActs.length : Int)))).length q74.1)), (54, .v (I (1 + 6 * (aActs.length : Int)))), (55, .v (I ((1 + 6 * (aActs.length : Int)) + 2 * (aTold.length : Int))))], []⟩) (by rw [hv])
            clear hv
            clear c76
            refine S.quiet (k := 1) (keep := [0, 1, 6, 9, 10]) (m := 0) (σ' := ⟨[(0, .v (slv (aActs).length paActs.1)), (1, .v (slv (aTold).length paTold.1)), (6, .v (slv (f_innerTold aActs aTold).length q16.1)), (9, .v (slv (f_innerTold aActs aTold).length q33.1)), (10, .v (I ((1 + 6 * (aActs.length : Int)) + 2 * (aTold.length : Int))))], []⟩) .nil (by kernel_rfl) ?_
            clear S; intro ac w β S
            refine RG.done rfl (nx_then ?_)
            refine wp_seq ?_
            refine wp_seq ?_
            refine RG.start ?_
            refine S.quiet (k := 3) (keep := [0, 1, 6, 9, 58]) (m := 0) (σ' := ⟨[(0, .v (slv (aActs).length paActs.1)), (1, .v (slv (aTold).length paTold.1)), (6, .v (slv (f_innerTold aActs aTold).length q16.1)), (9, .v (slv (f_innerTold aActs aTold).length q33.1)), (58, .v (B (decide (((1 + 6 * (aActs.length : Int)) + 2 * (aTold.length : Int)) < 0))))], []⟩) .nil (by kernel_rfl) ?_
            clear S; intro ac w β S
            rcases Bool.eq_false_or_eq_true (decide (((1 + 6 * (aActs.length : Int)) + 2 * (aTold.length : Int)) < 0)) with h77 | h77 <;> rw [h77] at S
            · have g78 : ((1 + 6 * (aActs.length : Int)) + 2 * (aTold.length : Int)) < 0 := of_decide_eq_true h77
              refine S.quiet (k := 5) (keep := [0, 1, 6, 9, 63]) (m := 0) (σ' := ⟨[(0, .v (slv (aActs).length paActs.1)), (1, .v (slv (aTold).length paTold.1)), (6, .v (slv (f_innerTold aActs aTold).length q16.1)), (9, .v (slv (f_innerTold aActs aTold).length q33.1)), (63, .v (B true))], []⟩) .nil (by kernel_rfl) ?_
              clear S; intro ac w β S
              refine RG.done rfl (nx_then ?_)
              refine S.cond (e := true) (by kernel_rfl) (fun _ => ?_) (fun hx => by cases hx)
              refine wp_seq ?_
              refine RG.start ?_
              refine S.quiet (k := 1) (keep := [4]) (m := 0) (σ' := ⟨[(4, .v (B false))], []⟩) .nil (by kernel_rfl) ?_
              clear S; intro ac w β S
              refine RG.done rfl (nx_then ?_)
              refine wp_ret (rt_then ?_)
              refine S.ret (vs := [B false]) (by kernel_rfl) ?_
              exact ⟨retB (show false = true by clear S; first | rfl | (exfalso; omega) | (exfalso; simp_all [f_marksTold_len, f_marksAct_len]; done) | (exfalso; simp_all [f_marksTold_len, f_marksAct_len]; omega)), S.chg⟩
            · have g79 : ¬ (((1 + 6 * (aActs.length : Int)) + 2 * (aTold.length : Int)) < 0) := of_decide_eq_false h77
              refine S.quiet (k := 5) (keep := [0, 1, 6, 9, 63]) (m := 0) (σ' := ⟨[(0, .v (slv (aActs).length paActs.1)), (1, .v (slv (aTold).length paTold.1)), (6, .v (slv (f_innerTold aActs aTold).length q16.1)), (9, .v (slv (f_innerTold aActs aTold).length q33.1)), (63, .v (B (!(decide ((f_innerTold aActs aTold) = (f_innerTold aActs aTold))))))], []⟩) (.cons (Q_call fun w hw => c_laws_eqToldS w (f_innerTold aActs aTold) q33 (rd_of o35.rn hw) (f_innerTold aActs aTold) q16 (rd_of o18.rn hw)) .nil) (by kernel_rfl) ?_
              clear S; intro ac w β S
              refine RG.done rfl (nx_then ?_)
              refine S.cond (e := (!(decide ((f_innerTold aActs aTold) = (f_innerTold aActs aTold))))) (by kernel_rfl) (fun h80 => ?_) (fun h80 => ?_)
              · have h81 : (decide ((f_innerTold aActs aTold) = (f_innerTold aActs aTold))) = false := not_t h80
                have g82 := of_decide_eq_false h81
                refine wp_seq ?_
                refine RG.start ?_
                refine S.quiet (k := 1) (keep := [4]) (m := 0) (σ' := ⟨[(4, .v (B false))], []⟩) .nil (by kernel_rfl) ?_
                clear S; intro ac w β S
                refine RG.done rfl (nx_then ?_)
                refine wp_ret (rt_then ?_)
                refine S.ret (vs := [B false]) (by kernel_rfl) ?_
                exact ⟨retB (show false = true by clear S; first | rfl | (exfalso; omega) | (exfalso; simp_all [f_marksTold_len, f_marksAct_len]; done) | (exfalso; simp_all [f_marksTold_len, f_marksAct_len]; omega)), S.chg⟩
              · have h83 : (decide ((f_innerTold aActs aTold) = (f_innerTold aActs aTold))) = true := not_f h80
                have g84 := of_decide_eq_true h83
                refine wp_skip (nx_then ?_)
                refine wp_seq ?_
                refine RG.start ?_
                refine S.quiet (k := 1) (keep := [0, 1, 6, 9, 11]) (m := 0) (σ' := ⟨[(0, .v (slv (aActs).length paActs.1)), (1, .v (slv (aTold).length paTold.1)), (6, .v (slv (f_innerTold aActs aTold).length q16.1)), (9, .v (slv (f_innerTold aActs aTold).length q33.1)), (11, .v (I 1))], []⟩) .nil (by kernel_rfl) ?_
                clear S; intro ac w β S
                refine RG.done rfl (nx_then ?_)
                refine wp_seq ?_
                refine RG.start ?_
                refine S.quiet (k := 2) (keep := [0, 1, 6, 9, 64, 65]) (m := 0) (σ' := ⟨[(0, .v (slv (aActs).length paActs.1)), (1, .v (slv (aTold).length paTold.1)), (6, .v (slv (f_innerTold aActs aTold).length q16.1)), (9, .v (slv (f_innerTold aActs aTold).length q33.1)), (64, .v (slv (f_innerTold aActs aTold).length q33.1)), (65, .v (I 1))], []⟩) .nil (by kernel_rfl) ?_
                clear S; intro ac w β S
                refine S.callM (x' := f_marksTold (f_innerTold aActs aTold).length 1) (k' := 1 + 2 * ((f_innerTold aActs aTold).length : Int)) (d := 66) o35 (c_laws_markToldS w (f_innerTold aActs aTold) q33 F34 (S.ownw o35) (fun b hb => (S.sep b (o35.sub b hb)).1) 1 (by first | omega | (simp; omega)) (by first | omega | (simp; omega))) (by kernel_rfl) rfl ?_
                clear S; intro ac w N q85 S up o86 c87
                replace o18 := o18.upF d37 up
                clear up o35
                have hv : slv ((f_marksTold (f_innerTold aActs aTold).length 1)).length q85.1 = slv (f_innerTold aActs aTold).length q33.1 := (List.cons.inj c87).1
                replace S := S.prune (keep := [0, 1, 6, 9, 64, 65, 66]) (m := 0) (σ' := ⟨[(0, .v (slv (aActs).length paActs.1)), (1, .v (slv (aTold).length paTold.1)), (6, .v (slv (f_innerTold aActs aTold).length q16.1)), (9, .v (slv (f_innerTold aActs aTold).length q33.1)), (64, .v (slv (f_innerTold aActs aTold).length q33.1)), (65, .v (I 1)), (66, .v (I (1 + 2 * ((f_innerTold aActs aTold).length : Int))))], []⟩) (by kernel_rfl)
                replace S := S.cast (σ' := ⟨[(0, .v (slv (aActs).length paActs.1)), (1, .v (slv (aTold).length paTold.1)), (6, .v (slv (f_innerTold aActs aTold).length q16.1)), (9, .v (slv ((f_marksTold (f_innerTold aActs aTold).length 1)).length q85.1)), (64, .v (slv ((f_marksTold (f_innerTold aActs aTold).length 1)).length q85.1)), (65, .v (I 1)), (66, .v (I (1 + 2 * ((f_innerTold aActs aTold).length : Int))))], []⟩) (by rw [hv])
                clear hv
                clear c87
                refine S.quiet (k := 1) (keep := [0, 1, 6, 9, 11]) (m := 0) (σ' := ⟨[(0, .v (slv (aActs).length paActs.1)), (1, .v (slv (aTold).length paTold.1)), (6, .v (slv (f_innerTold aActs aTold).length q16.1)), (9, .v (slv ((f_marksTold (f_innerTold aActs aTold).length 1)).length q85.1)), (11, .v (I (1 + 2 * ((f_innerTold aActs aTold).length : Int))))], []⟩) .nil (by kernel_rfl) ?_
                clear S; intro ac w β S
                refine RG.done rfl (nx_then ?_)
                refine wp_seq ?_
                refine RG.start ?_
                refine S.quiet (k := 1) (keep := [0, 1, 6, 9, 11, 12]) (m := 0) (σ' := ⟨[(0, .v (slv (aActs).length paActs.1)), (1, .v (slv (aTold).length paTold.1)), (6, .v (slv (f_innerTold aActs aTold).length q16.1)), (9, .v (slv ((f_marksTold (f_innerTold aActs aTold).length 1)).length q85.1)), (11, .v (I (1 + 2 * ((f_innerTold aActs aTold).length : Int)))), (12, .v (I 1))], []⟩) .nil (by kernel_rfl) ?_
                clear S; intro ac w β S
                refine RG.done rfl (nx_then ?_)
                refine wp_seq ?_
                refine RG.start ?_
                refine S.quiet (k := 4) (keep := [0, 1, 6, 9, 11, 12]) (m := 0) (σ' := ⟨[(0, .v (slv (aActs).length paActs.1)), (1, .v (slv (aTold).length paTold.1)), (6, .v (slv (f_innerTold aActs aTold).length q16.1)), (9, .v (slv ((f_marksTold (f_innerTold aActs aTold).length 1)).length q85.1)), (11, .v (I (1 + 2 * ((f_innerTold aActs aTold).length : Int)))), (12, .v (I (1 + 2 * ((f_marksTold (f_innerTold aActs aTold).length 1).length : Int))))], []⟩) (.cons (Q_call fun w hw => c_laws_heldToldS w (f_marksTold (f_innerTold aActs aTold).length 1) q85 (rd_of o86.rn hw) 1 (by first | omega | (simp only [f_marksTold_len])) (by first | omega | (simp only [f_marksTold_len])) (by first | omega | (simp only [f_marksTold_len]))) .nil) (by kernel_rfl) ?_
                clear S; intro ac w β S
                refine RG.done rfl (nx_then ?_)
                refine wp_seq ?_
                refine wp_seq ?_
                refine RG.start ?_
                refine S.quiet (k := 2) (keep := [0, 1, 6, 9, 11, 12, 71]) (m := 0) (σ' := ⟨[(0, .v (slv (aActs).length paActs.1)), (1, .v (slv (aTold).length paTold.1)), (6, .v (slv (f_innerTold aActs aTold).length q16.1)), (9, .v (slv ((f_marksTold (f_innerTold aActs aTold).length 1)).length q85.1)), (11, .v (I (1 + 2 * ((f_innerTold aActs aTold).length : Int)))), (12, .v (I (1 + 2 * ((f_marksTold (f_innerTold aActs aTold).length 1).length : Int)))), (71, .v (B (decide ((1 + 2 * ((f_marksTold (f_innerTold aActs aTold).length 1).length : Int)) < 0))))], []⟩) .nil (by kernel_rfl) ?_
                clear S; intro ac w β S
                refine RG.done rfl (nx_then ?_)
                refine S.cond (e := (decide ((1 + 2 * ((f_marksTold (f_innerTold aActs aTold).length 1).length : Int)) < 0))) (by kernel_rfl) (fun h88 => ?_) (fun h88 => ?_)
                · have g89 : (1 + 2 * ((f_marksTold (f_innerTold aActs aTold).length 1).length : Int)) < 0 := of_decide_eq_true h88
                  refine wp_seq ?_
                  refine RG.start ?_
                  refine S.quiet (k := 1) (keep := [4]) (m := 0) (σ' := ⟨[(4, .v (B false))], []⟩) .nil (by kernel_rfl) ?_
                  clear S; intro ac w β S
                  refine RG.done rfl (nx_then ?_)
                  refine wp_ret (rt_then ?_)
                  refine S.ret (vs := [B false]) (by kernel_rfl) ?_
                  exact ⟨retB (show false = true by clear S; first | rfl | (exfalso; omega) | (exfalso; simp_all [f_marksTold_len, f_marksAct_len]; done) | (exfalso; simp_all [f_marksTold_len, f_marksAct_len]; omega)), S.chg⟩
                · have g90 : ¬ ((1 + 2 * ((f_marksTold (f_innerTold aActs aTold).length 1).length : Int)) < 0) := of_decide_eq_false h88
                  refine wp_skip (nx_then ?_)
                  refine wp_seq ?_
                  refine wp_seq ?_
                  refine RG.start ?_
                  refine S.quiet (k := 3) (keep := [0, 1, 6, 9, 11, 74]) (m := 0) (σ' := ⟨[(0, .v (slv (aActs).length paActs.1)), (1, .v (slv (aTold).length paTold.1)), (6, .v (slv (f_innerTold aActs aTold).length q16.1)), (9, .v (slv ((f_marksTold (f_innerTold aActs aTold).length 1)).length q85.1)), (11, .v (I (1 + 2 * ((f_innerTold aActs aTold).length : Int)))), (74, .v (B ((1 + 2 * ((f_marksTold (f_innerTold aActs aTold).length 1).length : Int)) != (1 + 2 * ((f_innerTold aActs aTold).length : Int)))))], []⟩) .nil (by kernel_rfl) ?_
                  clear S; intro ac w β S
                  refine RG.done rfl (nx_then ?_)
                  refine S.cond (e := ((1 + 2 * ((f_marksTold (f_innerTold aActs aTold).length 1).length : Int)) != (1 + 2 * ((f_innerTold aActs aTold).length : Int)))) (by kernel_rfl) (fun h91 => ?_) (fun h91 => ?_)
                  · have g92 : ¬ ((1 + 2 * ((f_marksTold (f_innerTold aActs aTold).length 1).length : Int)) = (1 + 2 * ((f_innerTold aActs aTold).length : Int))) := bne_iff_ne.1 h91
                    refine wp_seq ?_
                    refine RG.start ?_
                    refine S.quiet (k := 1) (keep := [4]) (m := 0) (σ' := ⟨[(4, .v (B false))], []⟩) .nil (by kernel_rfl) ?_
                    clear S; intro ac w β S
                    refine RG.done rfl (nx_then ?_)
                    refine wp_ret (rt_then ?_)
                    refine S.ret (vs := [B false]) (by kernel_rfl) ?_
                    exact ⟨retB (show false = true by clear S; first | rfl | (exfalso; omega) | (exfalso; simp_all [f_marksTold_len, f_marksAct_len]; done) | (exfalso; simp_all [f_marksTold_len, f_marksAct_len]; omega)), S.chg⟩
                  · have g93 : (1 + 2 * ((f_marksTold (f_innerTold aActs aTold).length 1).length : Int)) = (1 + 2 * ((f_innerTold aActs aTold).length : Int)) := ne_f h91
                    refine wp_skip (nx_then ?_)
                    refine wp_seq ?_
                    refine RG.start ?_
                    refine S.quiet (k := 1) (keep := [1, 6, 9, 11, 75]) (m := 0) (σ' := ⟨[(1, .v (slv (aTold).length paTold.1)), (6, .v (slv (f_innerTold aActs aTold).length q16.1)), (9, .v (slv ((f_marksTold (f_innerTold aActs aTold).length 1)).length q85.1)), (11, .v (I (1 + 2 * ((f_innerTold aActs aTold).length : Int)))), (75, .v (slv (aActs).length paActs.1))], []⟩) .nil (by kernel_rfl) ?_
                    clear S; intro ac w β S
                    refine S.call1 (r := aActs) (d := 76) (c_laws_toActS w aActs paActs (S.rd (S.arg hkaActs))) (by kernel_rfl) rfl ?_
                    clear S; intro ac w N q94 F95 S up o96 d97
                    have d98 : Disj F17 F95 := fun b x y => d97 b (o18.sub b x) y
                    have d99 : Disj F34 F95 := fun b x y => d97 b (o86.sub b x) y
                    replace o18 := o18.up up
                    replace o86 := o86.up up
                    clear up d97
                    refine S.quiet (k := 1) (keep := [6, 9, 11, 76, 77]) (m := 0) (σ' := ⟨[(6, .v (slv (f_innerTold aActs aTold).length q16.1)), (9, .v (slv ((f_marksTold (f_innerTold aActs aTold).length 1)).length q85.1)), (11, .v (I (1 + 2 * ((f_innerTold aActs aTold).length : Int)))), (76, .v (slv (aActs).length q94.1)), (77, .v (slv (aTold).length paTold.1))], []⟩) .nil (by kernel_rfl) ?_
                    clear S; intro ac w β S
                    refine S.call1 (r := aTold) (d := 78) (c_laws_toToldS w aTold paTold (S.rd (S.arg hkaTold))) (by kernel_rfl) rfl ?_
                    clear S; intro ac w N q100 F101 S up o102 d103
                    have d104 : Disj F17 F101 := fun b x y => d103 b (o18.sub b x) y
                    have d105 : Disj F34 F101 := fun b x y => d103 b (o86.sub b x) y
                    have d106 : Disj F95 F101 := fun b x y => d103 b (o96.sub b x) y
                    replace o18 := o18.up up
                    replace o86 := o86.up up
                    replace o96 := o96.up up
                    clear up d103
                    refine S.call1 (r := f_innerTold aActs aTold) (d := 79) (c_impl_InnerTold w aActs q94 (S.rd o96.rn) aTold q100 (S.rd o102.rn)) (by kernel_rfl) rfl ?_
                    clear S; intro ac w N q107 F108 S up o109 d110
                    have d111 : Disj F17 F108 := fun b x y => d110 b (o18.sub b x) y
                    have d112 : Disj F34 F108 := fun b x y => d110 b (o86.sub b x) y
                    have d113 : Disj F95 F108 := fun b x y => d110 b (o96.sub b x) y
                    have d114 : Disj F101 F108 := fun b x y => d110 b (o102.sub b x) y
                    replace o18 := o18.up up
                    replace o86 := o86.up up
                    replace o96 := o96.up up
                    replace o102 := o102.up up
                    clear up d110
                    refine S.quiet (k := 1) (keep := [6, 9, 11, 13]) (m := 0) (σ' := ⟨[(6, .v (slv (f_innerTold aActs aTold).length q16.1)), (9, .v (slv ((f_marksTold (f_innerTold aActs aTold).length 1)).length q85.1)), (11, .v (I (1 + 2 * ((f_innerTold aActs aTold).length : Int)))), (13, .v (slv (f_innerTold aActs aTold).length q107.1))], []⟩) .nil (by kernel_rfl) ?_
                    clear S; intro ac w β S
                    refine RG.done rfl (nx_then ?_)
                    refine wp_seq ?_
                    refine wp_seq ?_
                    refine RG.start ?_
                    refine S.quiet (k := 4) (keep := [9, 11, 83]) (m := 0) (σ' := ⟨[(9, .v (slv ((f_marksTold (f_innerTold aActs aTold).length 1)).length q85.1)), (11, .v (I (1 + 2 * ((f_innerTold aActs aTold).length : Int)))), (83, .v (B (!(decide ((f_innerTold aActs aTold) = (f_innerTold aActs aTold))))))], []⟩) (.cons (Q_call fun w hw => c_laws_eqToldS w (f_innerTold aActs aTold) q107 (rd_of o109.rn hw) (f_innerTold aActs aTold) q16 (rd_of o18.rn hw)) .nil) (by kernel_rfl) ?_
                    clear S; intro ac w β S
                    refine RG.done rfl (nx_then ?_)
                    refine S.cond (e := (!(decide ((f_innerTold aActs aTold) = (f_innerTold aActs aTold))))) (by kernel_rfl) (fun h115 => ?_) (fun h115 => ?_)
                    · have h116 : (decide ((f_innerTold aActs aTold) = (f_innerTold aActs aTold))) = false := not_t h115
                      have g117 := of_decide_eq_false h116
                      refine wp_seq ?_
                      refine RG.start ?_
                      refine S.quiet (k := 1) (keep := [4]) (m := 0) (σ' := ⟨[(4, .v (B false))], []⟩) .nil (by kernel_rfl) ?_
                      clear S; intro ac w β S
                      refine RG.done rfl (nx_then ?_)
                      refine wp_ret (rt_then ?_)
                      refine S.ret (vs := [B false]) (by kernel_rfl) ?_
                      exact ⟨retB (show false = true by clear S; first | rfl | (exfalso; omega) | (exfalso; simp_all [f_marksTold_len, f_marksAct_len]; done) | (exfalso; simp_all [f_marksTold_len, f_marksAct_len]; omega)), S.chg⟩
                    · have h118 : (decide ((f_innerTold aActs aTold) = (f_innerTold aActs aTold))) = true := not_f h115
                      have g119 := of_decide_eq_true h118
                      refine wp_skip (nx_then ?_)
                      refine wp_seq ?_
                      refine RG.start ?_
                      refine S.quiet (k := 1) (keep := [9, 11, 12]) (m := 0) (σ' := ⟨[(9, .v (slv ((f_marksTold (f_innerTold aActs aTold).length 1)).length q85.1)), (11, .v (I (1 + 2 * ((f_innerTold aActs aTold).length : Int)))), (12, .v (I 1))], []⟩) .nil (by kernel_rfl) ?_
                      clear S; intro ac w β S
                      refine RG.done rfl (nx_then ?_)
                      refine wp_seq ?_
                      refine RG.start ?_
                      refine S.quiet (k := 4) (keep := [11, 12]) (m := 0) (σ' := ⟨[(11, .v (I (1 + 2 * ((f_innerTold aActs aTold).length : Int)))), (12, .v (I (1 + 2 * ((f_marksTold (f_innerTold aActs aTold).length 1).length : Int))))], []⟩) (.cons (Q_call fun w hw => c_laws_heldToldS w (f_marksTold (f_innerTold aActs aTold).length 1) q85 (rd_of o86.rn hw) 1 (by first | omega | (simp only [f_marksTold_len])) (by first | omega | (simp only [f_marksTold_len])) (by first | omega | (simp only [f_marksTold_len]))) .nil) (by kernel_rfl) ?_
                      clear S; intro ac w β S
                      refine RG.done rfl (nx_then ?_)
                      refine wp_seq ?_
                      refine wp_seq ?_
                      refine RG.start ?_
                      refine S.quiet (k := 2) (keep := [11, 12, 88]) (m := 0) (σ' := ⟨[(11, .v (I (1 + 2 * ((f_innerTold aActs aTold).length : Int)))), (12, .v (I (1 + 2 * ((f_marksTold (f_innerTold aActs aTold).length 1).length : Int)))), (88, .v (B (decide ((1 + 2 * ((f_marksTold (f_innerTold aActs aTold).length 1).length : Int)) < 0))))], []⟩) .nil (by kernel_rfl) ?_
                      clear S; intro ac w β S
                      refine RG.done rfl (nx_then ?_)
                      refine S.cond (e := (decide ((1 + 2 * ((f_marksTold (f_innerTold aActs aTold).length 1).length : Int)) < 0))) (by kernel_rfl) (fun h120 => ?_) (fun h120 => ?_)
                      · have g121 : (1 + 2 * ((f_marksTold (f_innerTold aActs aTold).length 1).length : Int)) < 0 := of_decide_eq_true h120
                        refine wp_seq ?_
                        refine RG.start ?_
                        refine S.quiet (k := 1) (keep := [4]) (m := 0) (σ' := ⟨[(4, .v (B false))], []⟩) .nil (by kernel_rfl) ?_
                        clear S; intro ac w β S
                        refine RG.done rfl (nx_then ?_)
                        refine wp_ret (rt_then ?_)
                        refine S.ret (vs := [B false]) (by kernel_rfl) ?_
                        exact ⟨retB (show false = true by clear S; first | rfl | (exfalso; omega) | (exfalso; simp_all [f_marksTold_len, f_marksAct_len]; done) | (exfalso; simp_all [f_marksTold_len, f_marksAct_len]; omega)), S.chg⟩
                      · have g122 : ¬ ((1 + 2 * ((f_marksTold (f_innerTold aActs aTold).length 1).length : Int)) < 0) := of_decide_eq_false h120
                        refine wp_skip (nx_then ?_)
                        refine wp_seq ?_
                        refine wp_seq ?_
                        refine RG.start ?_
                        refine S.quiet (k := 3) (keep := [91]) (m := 0) (σ' := ⟨[(91, .v (B ((1 + 2 * ((f_marksTold (f_innerTold aActs aTold).length 1).length : Int)) != (1 + 2 * ((f_innerTold aActs aTold).length : Int)))))], []⟩) .nil (by kernel_rfl) ?_
                        clear S; intro ac w β S
                        refine RG.done rfl (nx_then ?_)
                        refine S.cond (e := ((1 + 2 * ((f_marksTold (f_innerTold aActs aTold).length 1).length : Int)) != (1 + 2 * ((f_innerTold aActs aTold).length : Int)))) (by kernel_rfl) (fun h123 => ?_) (fun h123 => ?_)
                        · have g124 : ¬ ((1 + 2 * ((f_marksTold (f_innerTold aActs aTold).length 1).length : Int)) = (1 + 2 * ((f_innerTold aActs aTold).length : Int))) := bne_iff_ne.1 h123
                          refine wp_seq ?_
                          refine RG.start ?_
                          refine S.quiet (k := 1) (keep := [4]) (m := 0) (σ' := ⟨[(4, .v (B false))], []⟩) .nil (by kernel_rfl) ?_
                          clear S; intro ac w β S
                          refine RG.done rfl (nx_then ?_)
                          refine wp_ret (rt_then ?_)
                          refine S.ret (vs := [B false]) (by kernel_rfl) ?_
                          exact ⟨retB (show false = true by clear S; first | rfl | (exfalso; omega) | (exfalso; simp_all [f_marksTold_len, f_marksAct_len]; done) | (exfalso; simp_all [f_marksTold_len, f_marksAct_len]; omega)), S.chg⟩
                        · have g125 : (1 + 2 * ((f_marksTold (f_innerTold aActs aTold).length 1).length : Int)) = (1 + 2 * ((f_innerTold aActs aTold).length : Int)) := ne_f h123
                          refine wp_skip (nx_then ?_)
                          refine wp_seq ?_
                          refine RG.start ?_
                          refine S.quiet (k := 1) (keep := [4]) (m := 0) (σ' := ⟨[(4, .v (B true))], []⟩) .nil (by kernel_rfl) ?_
                          clear S; intro ac w β S
                          refine RG.done rfl (nx_then ?_)
                          refine wp_ret ?_
                          refine S.ret (vs := [B true]) (by kernel_rfl) ?_
                          exact ⟨retB (show true = true by clear S; first | rfl | (exfalso; omega) | (exfalso; simp_all [f_marksTold_len, f_marksAct_len]; done) | (exfalso; simp_all [f_marksTold_len, f_marksAct_len]; omega)), S.chg⟩

end Go.Proofs.Ytggafkimpmcefaa
