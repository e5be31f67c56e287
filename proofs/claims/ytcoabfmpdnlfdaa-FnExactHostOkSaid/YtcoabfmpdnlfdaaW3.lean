/- The walks: what each function that the laws reach computes (part 3). -/
import Derived.Test.YtcoabfmpdnlfdaaW2
import Derived.Test.YtcoabfmpdnlfdaaProg
import Derived.KernelRfl
namespace Go.Proofs.Ytcoabfmpdnlfdaa
open Go
set_option linter.unusedVariables false
set_option linter.unusedSimpArgs false

set_option maxRecDepth 100000 in
theorem c_impl_InsOk (w0 : World) (i : TIns) : Calls Go.Proofs.Try.prog 186 [GT.val (α := TIns) i ()].toArray w0 (fun e w' => e = .returned (B (f_insOk i)) ∧ Chg NoB w0 w') := by
  refine Calls.walk (args := [GT.val (α := TIns) i ()]) NoB Go.Proofs.Try.func186 rfl rfl ?_
  intro ac β S
  refine wp_seq ?_
  refine RG.start ?_
  refine S.quiet (k := 2) (keep := [1]) (m := 1) (σ' := ⟨[(1, .p 0 0)], [GT.cells (α := TIns) i ()]⟩) .nil (by kernel_rfl) ?_
  clear S; intro ac w β S
  refine RG.done rfl (nx_then ?_)
  refine wp_seq ?_
  refine wp_seq ?_
  refine RG.start ?_
  refine S.quiet (k := 2) (keep := [1, 4]) (m := 1) (σ' := ⟨[(1, .p 0 0), (4, .v (I i.opc))], [GT.cells (α := TIns) i ()]⟩) .nil (by kernel_rfl) ?_
  clear S; intro ac w β S
  refine RG.done rfl (nx_then ?_)
  refine wp_block ?_
  refine wp_seq ?_
  refine wp_seq ?_
  refine RG.start ?_
  refine S.quiet (k := 2) (keep := [1, 4, 5]) (m := 1) (σ' := ⟨[(1, .p 0 0), (4, .v (I i.opc)), (5, .v (B (i.opc == 1)))], [GT.cells (α := TIns) i ()]⟩) .nil (by kernel_rfl) ?_
  clear S; intro ac w β S
  refine RG.done rfl (nx_then ?_)
  refine S.cond (e := (i.opc == 1)) (by kernel_rfl) (fun h1 => ?_) (fun h1 => ?_)
  · rw [h1] at S
    have g2 : i.opc = 1 := eq_of_beq h1
    refine wp_skip (nx_then ?_)
    refine S.cond (e := true) (by kernel_rfl) (fun _ => ?_) (fun hx => by cases hx)
    refine wp_seq ?_
    refine RG.start ?_
    refine S.quiet (k := 4) (keep := [2]) (m := 0) (σ' := ⟨[(2, .v (B (f_within i.x 0 99)))], []⟩) (.cons (Q_call fun w hw => c_impl_within w i.x 0 99) .nil) (by kernel_rfl) ?_
    clear S; intro ac w β S
    refine RG.done rfl (nx_then ?_)
    refine wp_ret (rt_block (rt_then ?_))
    refine S.ret (vs := [B (f_within i.x 0 99)]) (by kernel_rfl) ?_
    exact ⟨retB (show (f_within i.x 0 99) = f_insOk i by clear S; first | rfl | (simp [f_insOk, *]; done) | (simp [f_insOk, *]; omega) | (simp_all [f_insOk]; done) | (simp_all [f_insOk]; omega)), S.chg⟩
  · have g3 : ¬ (i.opc = 1) := ne_of_beq_false h1
    refine wp_seq ?_
    refine RG.start ?_
    refine S.quiet (k := 2) (keep := [1, 4, 5]) (m := 1) (σ' := ⟨[(1, .p 0 0), (4, .v (I i.opc)), (5, .v (B (i.opc == 2)))], [GT.cells (α := TIns) i ()]⟩) .nil (by kernel_rfl) ?_
    clear S; intro ac w β S
    refine RG.done rfl (nx_then ?_)
    refine S.cond (e := (i.opc == 2)) (by kernel_rfl) (fun h4 => ?_) (fun h4 => ?_)
    · rw [h4] at S
      have g5 : i.opc = 2 := eq_of_beq h4
      refine wp_skip (nx_then ?_)
      refine S.cond (e := true) (by kernel_rfl) (fun _ => ?_) (fun hx => by cases hx)
      refine wp_seq ?_
      refine RG.start ?_
      refine S.quiet (k := 4) (keep := [2]) (m := 0) (σ' := ⟨[(2, .v (B (f_within i.x 0 99)))], []⟩) (.cons (Q_call fun w hw => c_impl_within w i.x 0 99) .nil) (by kernel_rfl) ?_
      clear S; intro ac w β S
      refine RG.done rfl (nx_then ?_)
      refine wp_ret (rt_block (rt_then ?_))
      refine S.ret (vs := [B (f_within i.x 0 99)]) (by kernel_rfl) ?_
      exact ⟨retB (show (f_within i.x 0 99) = f_insOk i by clear S; first | rfl | (simp [f_insOk, *]; done) | (simp [f_insOk, *]; omega) | (simp_all [f_insOk]; done) | (simp_all [f_insOk]; omega)), S.chg⟩
    · have g6 : ¬ (i.opc = 2) := ne_of_beq_false h4
      refine wp_seq ?_
      refine RG.start ?_
      refine S.quiet (k := 2) (keep := [1, 4, 5]) (m := 1) (σ' := ⟨[(1, .p 0 0), (4, .v (I i.opc)), (5, .v (B (i.opc == 5)))], [GT.cells (α := TIns) i ()]⟩) .nil (by kernel_rfl) ?_
      clear S; intro ac w β S
      refine RG.done rfl (nx_then ?_)
      refine S.cond (e := (i.opc == 5)) (by kernel_rfl) (fun h7 => ?_) (fun h7 => ?_)
      · rw [h7] at S
        have g8 : i.opc = 5 := eq_of_beq h7
        refine wp_skip (nx_then ?_)
        refine S.cond (e := true) (by kernel_rfl) (fun _ => ?_) (fun hx => by cases hx)
        refine wp_seq ?_
        refine RG.start ?_
        refine S.quiet (k := 4) (keep := [2]) (m := 0) (σ' := ⟨[(2, .v (B (f_within i.x 0 99)))], []⟩) (.cons (Q_call fun w hw => c_impl_within w i.x 0 99) .nil) (by kernel_rfl) ?_
        clear S; intro ac w β S
        refine RG.done rfl (nx_then ?_)
        refine wp_ret (rt_block (rt_then ?_))
        refine S.ret (vs := [B (f_within i.x 0 99)]) (by kernel_rfl) ?_
        exact ⟨retB (show (f_within i.x 0 99) = f_insOk i by clear S; first | rfl | (simp [f_insOk, *]; done) | (simp [f_insOk, *]; omega) | (simp_all [f_insOk]; done) | (simp_all [f_insOk]; omega)), S.chg⟩
      · have g9 : ¬ (i.opc = 5) := ne_of_beq_false h7
        refine RG.start ?_
        refine S.quiet (k := 2) (keep := [1, 4, 5]) (m := 1) (σ' := ⟨[(1, .p 0 0), (4, .v (I i.opc)), (5, .v (B (i.opc == 6)))], [GT.cells (α := TIns) i ()]⟩) .nil (by kernel_rfl) ?_
        clear S; intro ac w β S
        refine RG.done rfl (nx_then ?_)
        refine S.cond (e := (i.opc == 6)) (by kernel_rfl) (fun h10 => ?_) (fun h10 => ?_)
        · have g11 : i.opc = 6 := eq_of_beq h10
          refine wp_seq ?_
          refine RG.start ?_
          refine S.quiet (k := 4) (keep := [2]) (m := 0) (σ' := ⟨[(2, .v (B (f_within i.x 0 99)))], []⟩) (.cons (Q_call fun w hw => c_impl_within w i.x 0 99) .nil) (by kernel_rfl) ?_
          clear S; intro ac w β S
          refine RG.done rfl (nx_then ?_)
          refine wp_ret (rt_block (rt_then ?_))
          refine S.ret (vs := [B (f_within i.x 0 99)]) (by kernel_rfl) ?_
          exact ⟨retB (show (f_within i.x 0 99) = f_insOk i by clear S; first | rfl | (simp [f_insOk, *]; done) | (simp [f_insOk, *]; omega) | (simp_all [f_insOk]; done) | (simp_all [f_insOk]; omega)), S.chg⟩
        · have g12 : ¬ (i.opc = 6) := ne_of_beq_false h10
          refine wp_seq ?_
          refine wp_seq ?_
          refine RG.start ?_
          refine S.quiet (k := 2) (keep := [1, 4, 13]) (m := 1) (σ' := ⟨[(1, .p 0 0), (4, .v (I i.opc)), (13, .v (B (i.opc == 3)))], [GT.cells (α := TIns) i ()]⟩) .nil (by kernel_rfl) ?_
          clear S; intro ac w β S
          refine RG.done rfl (nx_then ?_)
          refine S.cond (e := (i.opc == 3)) (by kernel_rfl) (fun h13 => ?_) (fun h13 => ?_)
          · rw [h13] at S
            have g14 : i.opc = 3 := eq_of_beq h13
            refine wp_skip (nx_then ?_)
            refine S.cond (e := true) (by kernel_rfl) (fun _ => ?_) (fun hx => by cases hx)
            refine wp_seq ?_
            refine RG.start ?_
            refine S.quiet (k := 4) (keep := [2]) (m := 0) (σ' := ⟨[(2, .v (B (f_within i.x 0 15)))], []⟩) (.cons (Q_call fun w hw => c_impl_within w i.x 0 15) .nil) (by kernel_rfl) ?_
            clear S; intro ac w β S
            refine RG.done rfl (nx_then ?_)
            refine wp_ret (rt_block (rt_then ?_))
            refine S.ret (vs := [B (f_within i.x 0 15)]) (by kernel_rfl) ?_
            exact ⟨retB (show (f_within i.x 0 15) = f_insOk i by clear S; first | rfl | (simp [f_insOk, *]; done) | (simp [f_insOk, *]; omega) | (simp_all [f_insOk]; done) | (simp_all [f_insOk]; omega)), S.chg⟩
          · have g15 : ¬ (i.opc = 3) := ne_of_beq_false h13
            refine RG.start ?_
            refine S.quiet (k := 2) (keep := [1, 4, 13]) (m := 1) (σ' := ⟨[(1, .p 0 0), (4, .v (I i.opc)), (13, .v (B (i.opc == 4)))], [GT.cells (α := TIns) i ()]⟩) .nil (by kernel_rfl) ?_
            clear S; intro ac w β S
            refine RG.done rfl (nx_then ?_)
            refine S.cond (e := (i.opc == 4)) (by kernel_rfl) (fun h16 => ?_) (fun h16 => ?_)
            · have g17 : i.opc = 4 := eq_of_beq h16
              refine wp_seq ?_
              refine RG.start ?_
              refine S.quiet (k := 4) (keep := [2]) (m := 0) (σ' := ⟨[(2, .v (B (f_within i.x 0 15)))], []⟩) (.cons (Q_call fun w hw => c_impl_within w i.x 0 15) .nil) (by kernel_rfl) ?_
              clear S; intro ac w β S
              refine RG.done rfl (nx_then ?_)
              refine wp_ret (rt_block (rt_then ?_))
              refine S.ret (vs := [B (f_within i.x 0 15)]) (by kernel_rfl) ?_
              exact ⟨retB (show (f_within i.x 0 15) = f_insOk i by clear S; first | rfl | (simp [f_insOk, *]; done) | (simp [f_insOk, *]; omega) | (simp_all [f_insOk]; done) | (simp_all [f_insOk]; omega)), S.chg⟩
            · have g18 : ¬ (i.opc = 4) := ne_of_beq_false h16
              refine wp_seq ?_
              refine RG.start ?_
              refine S.quiet (k := 2) (keep := [1, 4, 19]) (m := 1) (σ' := ⟨[(1, .p 0 0), (4, .v (I i.opc)), (19, .v (B (i.opc == 7)))], [GT.cells (α := TIns) i ()]⟩) .nil (by kernel_rfl) ?_
              clear S; intro ac w β S
              refine RG.done rfl (nx_then ?_)
              refine S.cond (e := (i.opc == 7)) (by kernel_rfl) (fun h19 => ?_) (fun h19 => ?_)
              · have g20 : i.opc = 7 := eq_of_beq h19
                refine wp_seq ?_
                refine RG.start ?_
                refine S.quiet (k := 4) (keep := [2]) (m := 0) (σ' := ⟨[(2, .v (B (i.x == 0)))], []⟩) .nil (by kernel_rfl) ?_
                clear S; intro ac w β S
                refine RG.done rfl (nx_then ?_)
                refine wp_ret (rt_block (rt_then ?_))
                refine S.ret (vs := [B (i.x == 0)]) (by kernel_rfl) ?_
                exact ⟨retB (show (i.x == 0) = f_insOk i by clear S; first | rfl | (simp [f_insOk, *]; done) | (simp [f_insOk, *]; omega) | (simp_all [f_insOk]; done) | (simp_all [f_insOk]; omega)), S.chg⟩
              · have g21 : ¬ (i.opc = 7) := ne_of_beq_false h19
                refine wp_seq ?_
                refine RG.start ?_
                refine S.quiet (k := 2) (keep := [1, 24]) (m := 1) (σ' := ⟨[(1, .p 0 0), (24, .v (B (i.opc == 8)))], [GT.cells (α := TIns) i ()]⟩) .nil (by kernel_rfl) ?_
                clear S; intro ac w β S
                refine RG.done rfl (nx_then ?_)
                refine S.cond (e := (i.opc == 8)) (by kernel_rfl) (fun h22 => ?_) (fun h22 => ?_)
                · have g23 : i.opc = 8 := eq_of_beq h22
                  refine wp_seq ?_
                  refine RG.start ?_
                  refine S.quiet (k := 4) (keep := [2]) (m := 0) (σ' := ⟨[(2, .v (B (f_within i.x 0 11)))], []⟩) (.cons (Q_call fun w hw => c_impl_within w i.x 0 11) .nil) (by kernel_rfl) ?_
                  clear S; intro ac w β S
                  refine RG.done rfl (nx_then ?_)
                  refine wp_ret (rt_block (rt_then ?_))
                  refine S.ret (vs := [B (f_within i.x 0 11)]) (by kernel_rfl) ?_
                  exact ⟨retB (show (f_within i.x 0 11) = f_insOk i by clear S; first | rfl | (simp [f_insOk, *]; done) | (simp [f_insOk, *]; omega) | (simp_all [f_insOk]; done) | (simp_all [f_insOk]; omega)), S.chg⟩
                · have g24 : ¬ (i.opc = 8) := ne_of_beq_false h22
                  refine wp_skip (nx_block (nx_then ?_))
                  refine wp_seq ?_
                  refine RG.start ?_
                  refine S.quiet (k := 1) (keep := [2]) (m := 0) (σ' := ⟨[(2, .v (B false))], []⟩) .nil (by kernel_rfl) ?_
                  clear S; intro ac w β S
                  refine RG.done rfl (nx_then ?_)
                  refine wp_ret ?_
                  refine S.ret (vs := [B false]) (by kernel_rfl) ?_
                  exact ⟨retB (show false = f_insOk i by clear S; first | rfl | (simp [f_insOk, *]; done) | (simp [f_insOk, *]; omega) | (simp_all [f_insOk]; done) | (simp_all [f_insOk]; omega)), S.chg⟩

set_option maxRecDepth 100000 in
theorem c_impl_ProgOk (w0 : World) (p : List TIns) (pp : LP TIns) (hp : GT.rd KK (Lt w0.heap.size) w0 p pp) : Calls Go.Proofs.Try.prog 168 [slv (p).length pp.1].toArray w0 (fun e w' => e = .returned (B (f_progOk p)) ∧ Chg NoB w0 w') := by
  refine Calls.walk (args := [slv (p).length pp.1]) NoB Go.Proofs.Try.func168 rfl rfl ?_
  intro ac β S
  have hlep : p.length ≤ 4194304 := LRd.le hp
  refine wp_seq ?_
  refine RG.start ?_
  refine S.quiet (k := 1) (keep := [0]) (m := 0) (σ' := ⟨[(0, .v (slv (p).length pp.1))], []⟩) .nil (by kernel_rfl) ?_
  clear S; intro ac w β S
  refine RG.done rfl (nx_then ?_)
  refine wp_seq ?_
  refine wp_seq ?_
  refine RG.start ?_
  refine S.quiet (k := 3) (keep := [0, 5, 6, 7]) (m := 0) (σ' := ⟨[(0, .v (slv (p).length pp.1)), (5, .v (slv (p).length pp.1)), (6, .v (I ((p).length : Int))), (7, .v (I 0))], []⟩) .nil (by kernel_rfl) ?_
  clear S; intro ac w β S
  refine RG.done rfl (nx_then ?_)
  refine wp_block ?_
  replace S := S.prune (keep := [0, 5, 6, 7]) (m := 0) (σ' := ⟨[(0, .v (slv (p).length pp.1)), (5, .v (slv (p).length pp.1)), (6, .v (I ((p).length : Int))), (7, .v (I 0))], []⟩) (by kernel_rfl)
  refine wp_loop_down (fun mm ac w => ∃ (k : Nat)  (u : World) (N : Bl) (β : Nat → Nat), mm = (p).length - k ∧ (k ≤ (p).length) ∧ (((p).take k).all f_insOk = true) ∧ St Go.Proofs.Try.prog Go.Proofs.Try.f168.ntmps w0 NoB u N β ⟨[(0, .v (slv (p).length pp.1)), (5, .v (slv (p).length pp.1)), (6, .v (I ((p).length : Int))), (7, .v (I (k : Int)))], []⟩ ac w) _ ⟨0, _, _, _, rfl, (by first | omega | (simp; done) | (simp; omega)), (by simp), S.cast (by kernel_rfl)⟩ ?_
  clear S
  rintro mm ac w ⟨k, u, N, β, rfl, hk, he, S⟩
  refine wp_seq ?_
  refine RG.start ?_
  refine S.quiet (k := 1) (keep := [0, 5, 6, 7, 8]) (m := 0) (σ' := ⟨[(0, .v (slv (p).length pp.1)), (5, .v (slv (p).length pp.1)), (6, .v (I ((p).length : Int))), (7, .v (I (k : Int))), (8, .v (B (decide ((k : Int) < ((p).length : Int)))))], []⟩) .nil (by kernel_rfl) ?_
  clear S; intro ac w β S
  refine RG.done rfl (nx_then ?_)
  refine wp_seq ?_
  refine S.cond (e := (decide ((k : Int) < ((p).length : Int)))) (by kernel_rfl) (fun h1 => ?_) (fun h1 => ?_)
  · have g2 : (k : Int) < ((p).length : Int) := of_decide_eq_true h1
    refine wp_skip (nx_then ?_)
    refine wp_seq ?_
    refine wp_block ?_
    refine wp_seq ?_
    refine RG.start ?_
    refine S.quiet (k := 4) (keep := [0, 4, 5, 6, 7]) (m := 1) (σ' := ⟨[(0, .v (slv (p).length pp.1)), (4, .p 0 0), (5, .v (slv (p).length pp.1)), (6, .v (I ((p).length : Int))), (7, .v (I (k : Int)))], [GT.cells (α := TIns) (el p k) ()]⟩) (.cons (Q_idx (S.arg hp) (l := (p).length) (k := k) (i := (k : Int)) rfl rfl (by omega) Go.Proofs.Try.underlying97 (by kernel_rfl)) (.cons (Q_el (S.arg hp) (t := 143) (k := k) (by omega) rfl (by kernel_rfl) (by kernel_rfl)) .nil)) (by kernel_rfl) ?_
    clear S; intro ac w β S
    refine RG.done rfl (nx_then ?_)
    refine wp_seq ?_
    refine RG.start ?_
    refine S.quiet (k := 3) (keep := [0, 5, 6, 7, 13]) (m := 0) (σ' := ⟨[(0, .v (slv (p).length pp.1)), (5, .v (slv (p).length pp.1)), (6, .v (I ((p).length : Int))), (7, .v (I (k : Int))), (13, .v (B (!(f_insOk (el p k)))))], []⟩) (.cons (Q_call fun w hw => c_impl_InsOk w (el p k)) .nil) (by kernel_rfl) ?_
    clear S; intro ac w β S
    refine RG.done rfl (nx_then ?_)
    refine S.cond (e := (!(f_insOk (el p k)))) (by kernel_rfl) (fun h3 => ?_) (fun h3 => ?_)
    · have h4 : (f_insOk (el p k)) = false := not_t h3
      refine wp_seq ?_
      refine RG.start ?_
      refine S.quiet (k := 1) (keep := [2]) (m := 0) (σ' := ⟨[(2, .v (B false))], []⟩) .nil (by kernel_rfl) ?_
      clear S; intro ac w β S
      refine RG.done rfl (nx_then ?_)
      refine wp_ret (rt_block (rt_then (rt_then (rt_block (rt_then ?_)))))
      refine S.ret (vs := [B false]) (by kernel_rfl) ?_
      exact ⟨retB (show false = f_progOk p by clear S; (first | rfl | (unfold f_progOk; rw [all_end (by omega) he]; simp; done) | (unfold f_progOk; rw [all_bad (k := k) (by omega) (by first | assumption | (simp_all <;> fail))]; simp; done) | (unfold f_progOk; rw [all_end (by omega) he]; simp [*]; done) | (unfold f_progOk; rw [all_end (by omega) he]; simp; omega))), S.chg⟩
    · have h5 : (f_insOk (el p k)) = true := not_f h3
      refine wp_skip (nx_block (nx_then ?_))
      refine RG.start ?_
      refine S.quiet (k := 2) (keep := [0, 5, 6, 7]) (m := 0) (σ' := ⟨[(0, .v (slv (p).length pp.1)), (5, .v (slv (p).length pp.1)), (6, .v (I ((p).length : Int))), (7, .v (I ((k : Int) + 1)))], []⟩) (.cons (Q_add (x := (k : Int)) (y := 1) ⟨by omega, by omega⟩) .nil) (by kernel_rfl) ?_
      clear S; intro ac w β S
      refine RG.done rfl (nx_then ?_)
      replace S := S.prune (keep := [0, 5, 6, 7]) (m := 0) (σ' := ⟨[(0, .v (slv (p).length pp.1)), (5, .v (slv (p).length pp.1)), (6, .v (I ((p).length : Int))), (7, .v (I ((k : Int) + 1)))], []⟩) (by kernel_rfl)
      refine ⟨(p).length - (k + 1), by omega, k + 1, _, _, _, rfl, ?_, ?_, S.cast (by kernel_rfl)⟩
      · clear S; first | omega | (simp [*]; done) | (simp [*]; omega)
      · clear S; exact all_step (by omega) he (by first | assumption | (simp only [f_slotOk, f_within] at *; simp_all; done) | (simp_all; done) | (simp_all; omega))
  · have g6 : ¬ ((k : Int) < ((p).length : Int)) := of_decide_eq_false h1
    refine wp_exit (ex_then (ex_then (ex_hit (nx_then ?_))))
    refine wp_seq ?_
    refine RG.start ?_
    refine S.quiet (k := 4) (keep := [2]) (m := 0) (σ' := ⟨[(2, .v (B (f_within ((p).length : Int) 1 12)))], []⟩) (.cons (Q_call fun w hw => c_impl_within w ((p).length : Int) 1 12) .nil) (by kernel_rfl) ?_
    clear S; intro ac w β S
    refine RG.done rfl (nx_then ?_)
    refine wp_ret ?_
    refine S.ret (vs := [B (f_within ((p).length : Int) 1 12)]) (by kernel_rfl) ?_
    exact ⟨retB (show (f_within ((p).length : Int) 1 12) = f_progOk p by clear S; (first | rfl | (unfold f_progOk; rw [all_end (by omega) he]; simp; done) | (unfold f_progOk; rw [all_bad (k := k) (by omega) (by first | assumption | (simp_all <;> fail))]; simp; done) | (unfold f_progOk; rw [all_end (by omega) he]; simp [*]; done) | (unfold f_progOk; rw [all_end (by omega) he]; simp; omega))), S.chg⟩

set_option maxRecDepth 100000 in
theorem c_impl_CtlFaults (w0 : World) (c : TCtl) : Calls Go.Proofs.Try.prog 187 [GT.val (α := TCtl) c ()].toArray w0 (Ret1 NoB w0 (f_ctlFaults c : List Int)) := by
  refine Calls.walk (args := [GT.val (α := TCtl) c ()]) NoB Go.Proofs.Try.func187 rfl rfl ?_
  intro ac β S
  refine wp_seq ?_
  refine RG.start ?_
  refine S.quiet (k := 2) (keep := [1]) (m := 1) (σ' := ⟨[(1, .p 0 0)], [GT.cells (α := TCtl) c ()]⟩) .nil (by kernel_rfl) ?_
  clear S; intro ac w β S
  refine RG.done rfl (nx_then ?_)
  refine wp_seq ?_
  refine RG.start ?_
  refine RG.op rfl (S.bs0 (α := Int) (d := 4) (by kernel_rfl) ?_)
  clear S; intro ac w N q1 F2 S up o3 d4
  clear up d4
  refine S.quiet (k := 1) (keep := [1, 3]) (m := 1) (σ' := ⟨[(1, .p 0 0), (3, .v (slv 0 q1.1))], [GT.cells (α := TCtl) c ()]⟩) .nil (by kernel_rfl) ?_
  clear S; intro ac w β S
  refine RG.done rfl (nx_then ?_)
  refine wp_seq ?_
  refine wp_seq ?_
  refine RG.start ?_
  refine S.quiet (k := 4) (keep := [1, 3, 8]) (m := 1) (σ' := ⟨[(1, .p 0 0), (3, .v (slv 0 q1.1)), (8, .v (B (!(f_within c.traps 0 3))))], [GT.cells (α := TCtl) c ()]⟩) (.cons (Q_call fun w hw => c_impl_within w c.traps 0 3) .nil) (by kernel_rfl) ?_
  clear S; intro ac w β S
  refine RG.done rfl (nx_then ?_)
  refine S.cond (e := (!(f_within c.traps 0 3))) (by kernel_rfl) (fun h5 => ?_) (fun h5 => ?_)
  · have h6 : (f_within c.traps 0 3) = false := not_t h5
    have g7 := within_f h6
    refine RG.start ?_
    refine S.quiet (k := 1) (keep := [1, 9]) (m := 1) (σ' := ⟨[(1, .p 0 0), (9, .v (slv 0 q1.1))], [GT.cells (α := TCtl) c ()]⟩) .nil (by kernel_rfl) ?_
    clear S; intro ac w β S
    refine RG.op rfl (S.bs1 (α := Int) (x := 1) (p := ()) (F := NoB) (show In64 1 from ⟨by decide, by decide⟩) (fun b h => False.elim h) (fun b h => False.elim h) (d := 10) (by kernel_rfl) ?_)
    clear S; intro ac w N q8 F9 S up o10 d11
    have d12 : Disj F2 F9 := d11 _ (fun b _ h => False.elim h) o3.sub
    replace o3 := o3.up up
    clear up d11
    refine RG.op rfl (S.appFlat (α := Int) o3 (o10.rn) (fun _ _ h => h) (by' := 8) (d := 11) (lx := 0) (ly := 1) rfl rfl (by kernel_rfl) (show _ ≤ 4194304 by simp only [List.length_append, List.length_cons, List.length_nil]; omega) ?_)
    clear S; intro ac w N q13 F14 S up o15 d16
    have d17 : Disj F9 F14 := d16 _ (Disj.symm d12) o10.sub
    replace o10 := o10.upF (Disj.symm d12) up
    clear up d16
    refine S.quiet (k := 1) (keep := [1, 3]) (m := 1) (σ' := ⟨[(1, .p 0 0), (3, .v (slv ((([] : List Int) ++ [1])).length q13.1))], [GT.cells (α := TCtl) c ()]⟩) .nil (by kernel_rfl) ?_
    clear S; intro ac w β S
    refine RG.done rfl (nx_then ?_)
    refine wp_seq ?_
    refine wp_seq ?_
    refine RG.start ?_
    refine S.quiet (k := 4) (keep := [1, 3, 15]) (m := 1) (σ' := ⟨[(1, .p 0 0), (3, .v (slv ((([] : List Int) ++ [1])).length q13.1)), (15, .v (B (!(f_within c.post 0 255))))], [GT.cells (α := TCtl) c ()]⟩) (.cons (Q_call fun w hw => c_impl_within w c.post 0 255) .nil) (by kernel_rfl) ?_
    clear S; intro ac w β S
    refine RG.done rfl (nx_then ?_)
    refine S.cond (e := (!(f_within c.post 0 255))) (by kernel_rfl) (fun h18 => ?_) (fun h18 => ?_)
    · have h19 : (f_within c.post 0 255) = false := not_t h18
      have g20 := within_f h19
      refine RG.start ?_
      refine S.quiet (k := 1) (keep := [1, 16]) (m := 1) (σ' := ⟨[(1, .p 0 0), (16, .v (slv ((([] : List Int) ++ [1])).length q13.1))], [GT.cells (α := TCtl) c ()]⟩) .nil (by kernel_rfl) ?_
      clear S; intro ac w β S
      refine RG.op rfl (S.bs1 (α := Int) (x := 2) (p := ()) (F := NoB) (show In64 2 from ⟨by decide, by decide⟩) (fun b h => False.elim h) (fun b h => False.elim h) (d := 17) (by kernel_rfl) ?_)
      clear S; intro ac w N q21 F22 S up o23 d24
      have d25 : Disj F14 F22 := d24 _ (fun b _ h => False.elim h) o15.sub
      replace o15 := o15.up up
      clear up d24
      refine RG.op rfl (S.appFlat (α := Int) o15 (o23.rn) (fun _ _ h => h) (by' := 8) (d := 18) (lx := ((([] : List Int) ++ [1])).length) (ly := 1) rfl rfl (by kernel_rfl) (show _ ≤ 4194304 by simp only [List.length_append, List.length_cons, List.length_nil]; omega) ?_)
      clear S; intro ac w N q26 F27 S up o28 d29
      have d30 : Disj F22 F27 := d29 _ (Disj.symm d25) o23.sub
      replace o23 := o23.upF (Disj.symm d25) up
      clear up d29
      refine S.quiet (k := 1) (keep := [1, 3]) (m := 1) (σ' := ⟨[(1, .p 0 0), (3, .v (slv (((([] : List Int) ++ [1]) ++ [2])).length q26.1))], [GT.cells (α := TCtl) c ()]⟩) .nil (by kernel_rfl) ?_
      clear S; intro ac w β S
      refine RG.done rfl (nx_then ?_)
      refine wp_seq ?_
      refine wp_seq ?_
      refine RG.start ?_
      refine S.quiet (k := 4) (keep := [1, 3, 22]) (m := 1) (σ' := ⟨[(1, .p 0 0), (3, .v (slv (((([] : List Int) ++ [1]) ++ [2])).length q26.1)), (22, .v (B (c.post != 0)))], [GT.cells (α := TCtl) c ()]⟩) .nil (by kernel_rfl) ?_
      clear S; intro ac w β S
      rcases Bool.eq_false_or_eq_true (c.post != 0) with h31 | h31 <;> rw [h31] at S
      · have g32 : ¬ (c.post = 0) := bne_iff_ne.1 h31
        refine S.quiet (k := 4) (keep := [1, 3, 26]) (m := 1) (σ' := ⟨[(1, .p 0 0), (3, .v (slv (((([] : List Int) ++ [1]) ++ [2])).length q26.1)), (26, .v (B (!c.opn)))], [GT.cells (α := TCtl) c ()]⟩) .nil (by kernel_rfl) ?_
        clear S; intro ac w β S
        refine RG.done rfl (nx_then ?_)
        refine S.cond (e := (!c.opn)) (by kernel_rfl) (fun h33 => ?_) (fun h33 => ?_)
        · have h34 : c.opn = false := not_t h33
          refine RG.start ?_
          refine S.quiet (k := 1) (keep := [1, 27]) (m := 1) (σ' := ⟨[(1, .p 0 0), (27, .v (slv (((([] : List Int) ++ [1]) ++ [2])).length q26.1))], [GT.cells (α := TCtl) c ()]⟩) .nil (by kernel_rfl) ?_
          clear S; intro ac w β S
          refine RG.op rfl (S.bs1 (α := Int) (x := 3) (p := ()) (F := NoB) (show In64 3 from ⟨by decide, by decide⟩) (fun b h => False.elim h) (fun b h => False.elim h) (d := 28) (by kernel_rfl) ?_)
          clear S; intro ac w N q35 F36 S up o37 d38
          have d39 : Disj F27 F36 := d38 _ (fun b _ h => False.elim h) o28.sub
          replace o28 := o28.up up
          clear up d38
          refine RG.op rfl (S.appFlat (α := Int) o28 (o37.rn) (fun _ _ h => h) (by' := 8) (d := 29) (lx := (((([] : List Int) ++ [1]) ++ [2])).length) (ly := 1) rfl rfl (by kernel_rfl) (show _ ≤ 4194304 by simp only [List.length_append, List.length_cons, List.length_nil]; omega) ?_)
          clear S; intro ac w N q40 F41 S up o42 d43
          have d44 : Disj F36 F41 := d43 _ (Disj.symm d39) o37.sub
          replace o37 := o37.upF (Disj.symm d39) up
          clear up d43
          refine S.quiet (k := 1) (keep := [1, 3]) (m := 1) (σ' := ⟨[(1, .p 0 0), (3, .v (slv ((((([] : List Int) ++ [1]) ++ [2]) ++ [3])).length q40.1))], [GT.cells (α := TCtl) c ()]⟩) .nil (by kernel_rfl) ?_
          clear S; intro ac w β S
          refine RG.done rfl (nx_then ?_)
          refine wp_seq ?_
          refine wp_seq ?_
          refine RG.start ?_
          refine S.quiet (k := 4) (keep := [1, 3, 33]) (m := 1) (σ' := ⟨[(1, .p 0 0), (3, .v (slv ((((([] : List Int) ++ [1]) ++ [2]) ++ [3])).length q40.1)), (33, .v (B (c.traps == 2)))], [GT.cells (α := TCtl) c ()]⟩) .nil (by kernel_rfl) ?_
          clear S; intro ac w β S
          rcases Bool.eq_false_or_eq_true (c.traps == 2) with h45 | h45 <;> rw [h45] at S
          · have g46 : c.traps = 2 := eq_of_beq h45
            refine S.quiet (k := 4) (keep := [3, 37]) (m := 0) (σ' := ⟨[(3, .v (slv ((((([] : List Int) ++ [1]) ++ [2]) ++ [3])).length q40.1)), (37, .v (B (c.post != 0)))], []⟩) .nil (by kernel_rfl) ?_
            clear S; intro ac w β S
            refine RG.done rfl (nx_then ?_)
            refine S.cond (e := (c.post != 0)) (by kernel_rfl) (fun h47 => ?_) (fun h47 => ?_)
            · have g48 : ¬ (c.post = 0) := bne_iff_ne.1 h47
              refine RG.start ?_
              refine S.quiet (k := 1) (keep := [38]) (m := 0) (σ' := ⟨[(38, .v (slv ((((([] : List Int) ++ [1]) ++ [2]) ++ [3])).length q40.1))], []⟩) .nil (by kernel_rfl) ?_
              clear S; intro ac w β S
              refine RG.op rfl (S.bs1 (α := Int) (x := 4) (p := ()) (F := NoB) (show In64 4 from ⟨by decide, by decide⟩) (fun b h => False.elim h) (fun b h => False.elim h) (d := 39) (by kernel_rfl) ?_)
              clear S; intro ac w N q49 F50 S up o51 d52
              have d53 : Disj F41 F50 := d52 _ (fun b _ h => False.elim h) o42.sub
              replace o42 := o42.up up
              clear up d52
              refine RG.op rfl (S.appFlat (α := Int) o42 (o51.rn) (fun _ _ h => h) (by' := 8) (d := 40) (lx := ((((([] : List Int) ++ [1]) ++ [2]) ++ [3])).length) (ly := 1) rfl rfl (by kernel_rfl) (show _ ≤ 4194304 by simp only [List.length_append, List.length_cons, List.length_nil]; omega) ?_)
              clear S; intro ac w N q54 F55 S up o56 d57
              have d58 : Disj F50 F55 := d57 _ (Disj.symm d53) o51.sub
              replace o51 := o51.upF (Disj.symm d53) up
              clear up d57
              refine S.quiet (k := 1) (keep := [3]) (m := 0) (σ' := ⟨[(3, .v (slv (((((([] : List Int) ++ [1]) ++ [2]) ++ [3]) ++ [4])).length q54.1))], []⟩) .nil (by kernel_rfl) ?_
              clear S; intro ac w β S
              refine RG.done rfl (nx_then ?_)
              refine wp_seq ?_
              refine RG.start ?_
              refine S.quiet (k := 2) (keep := [2]) (m := 0) (σ' := ⟨[(2, .v (slv (((((([] : List Int) ++ [1]) ++ [2]) ++ [3]) ++ [4])).length q54.1))], []⟩) .nil (by kernel_rfl) ?_
              clear S; intro ac w β S
              refine RG.done rfl (nx_then ?_)
              refine wp_ret ?_
              refine S.ret (vs := [slv (((((([] : List Int) ++ [1]) ++ [2]) ++ [3]) ++ [4])).length q54.1]) (by kernel_rfl) ?_
              exact ret1_of S (show f_ctlFaults c = ((((([] : List Int) ++ [1]) ++ [2]) ++ [3]) ++ [4]) by clear S; (unfold f_ctlFaults; (repeat' split) <;> first | rfl | (exfalso; simp_all; done) | (exfalso; omega))) rfl o56
            · have g59 : c.post = 0 := ne_f h47
              refine wp_skip (nx_then ?_)
              refine wp_seq ?_
              refine RG.start ?_
              refine S.quiet (k := 2) (keep := [2]) (m := 0) (σ' := ⟨[(2, .v (slv ((((([] : List Int) ++ [1]) ++ [2]) ++ [3])).length q40.1))], []⟩) .nil (by kernel_rfl) ?_
              clear S; intro ac w β S
              refine RG.done rfl (nx_then ?_)
              refine wp_ret ?_
              refine S.ret (vs := [slv ((((([] : List Int) ++ [1]) ++ [2]) ++ [3])).length q40.1]) (by kernel_rfl) ?_
              exact ret1_of S (show f_ctlFaults c = (((([] : List Int) ++ [1]) ++ [2]) ++ [3]) by clear S; (unfold f_ctlFaults; (repeat' split) <;> first | rfl | (exfalso; simp_all; done) | (exfalso; omega))) rfl o42
          · have g60 : ¬ (c.traps = 2) := ne_of_beq_false h45
            refine S.quiet (k := 4) (keep := [3, 37]) (m := 0) (σ' := ⟨[(3, .v (slv ((((([] : List Int) ++ [1]) ++ [2]) ++ [3])).length q40.1)), (37, .v (B false))], []⟩) .nil (by kernel_rfl) ?_
            clear S; intro ac w β S
            refine RG.done rfl (nx_then ?_)
            refine S.cond (e := false) (by kernel_rfl) (fun hx => by cases hx) (fun _ => ?_)
            refine wp_skip (nx_then ?_)
            refine wp_seq ?_
            refine RG.start ?_
            refine S.quiet (k := 2) (keep := [2]) (m := 0) (σ' := ⟨[(2, .v (slv ((((([] : List Int) ++ [1]) ++ [2]) ++ [3])).length q40.1))], []⟩) .nil (by kernel_rfl) ?_
            clear S; intro ac w β S
            refine RG.done rfl (nx_then ?_)
            refine wp_ret ?_
            refine S.ret (vs := [slv ((((([] : List Int) ++ [1]) ++ [2]) ++ [3])).length q40.1]) (by kernel_rfl) ?_
            exact ret1_of S (show f_ctlFaults c = (((([] : List Int) ++ [1]) ++ [2]) ++ [3]) by clear S; (unfold f_ctlFaults; (repeat' split) <;> first | rfl | (exfalso; simp_all; done) | (exfalso; omega))) rfl o42
        · have h61 : c.opn = true := not_f h33
          refine wp_skip (nx_then ?_)
          refine wp_seq ?_
          refine wp_seq ?_
          refine RG.start ?_
          refine S.quiet (k := 4) (keep := [1, 3, 33]) (m := 1) (σ' := ⟨[(1, .p 0 0), (3, .v (slv (((([] : List Int) ++ [1]) ++ [2])).length q26.1)), (33, .v (B (c.traps == 2)))], [GT.cells (α := TCtl) c ()]⟩) .nil (by kernel_rfl) ?_
          clear S; intro ac w β S
          rcases Bool.eq_false_or_eq_true (c.traps == 2) with h62 | h62 <;> rw [h62] at S
          · have g63 : c.traps = 2 := eq_of_beq h62
            refine S.quiet (k := 4) (keep := [3, 37]) (m := 0) (σ' := ⟨[(3, .v (slv (((([] : List Int) ++ [1]) ++ [2])).length q26.1)), (37, .v (B (c.post != 0)))], []⟩) .nil (by kernel_rfl) ?_
            clear S; intro ac w β S
            refine RG.done rfl (nx_then ?_)
            refine S.cond (e := (c.post != 0)) (by kernel_rfl) (fun h64 => ?_) (fun h64 => ?_)
            · have g65 : ¬ (c.post = 0) := bne_iff_ne.1 h64
              refine RG.start ?_
              refine S.quiet (k := 1) (keep := [38]) (m := 0) (σ' := ⟨[(38, .v (slv (((([] : List Int) ++ [1]) ++ [2])).length q26.1))], []⟩) .nil (by kernel_rfl) ?_
              clear S; intro ac w β S
              refine RG.op rfl (S.bs1 (α := Int) (x := 4) (p := ()) (F := NoB) (show In64 4 from ⟨by decide, by decide⟩) (fun b h => False.elim h) (fun b h => False.elim h) (d := 39) (by kernel_rfl) ?_)
              clear S; intro ac w N q66 F67 S up o68 d69
              have d70 : Disj F27 F67 := d69 _ (fun b _ h => False.elim h) o28.sub
              replace o28 := o28.up up
              clear up d69
              refine RG.op rfl (S.appFlat (α := Int) o28 (o68.rn) (fun _ _ h => h) (by' := 8) (d := 40) (lx := (((([] : List Int) ++ [1]) ++ [2])).length) (ly := 1) rfl rfl (by kernel_rfl) (show _ ≤ 4194304 by simp only [List.length_append, List.length_cons, List.length_nil]; omega) ?_)
              clear S; intro ac w N q71 F72 S up o73 d74
              have d75 : Disj F67 F72 := d74 _ (Disj.symm d70) o68.sub
              replace o68 := o68.upF (Disj.symm d70) up
              clear up d74
              refine S.quiet (k := 1) (keep := [3]) (m := 0) (σ' := ⟨[(3, .v (slv ((((([] : List Int) ++ [1]) ++ [2]) ++ [4])).length q71.1))], []⟩) .nil (by kernel_rfl) ?_
              clear S; intro ac w β S
              refine RG.done rfl (nx_then ?_)
              refine wp_seq ?_
              refine RG.start ?_
              refine S.quiet (k := 2) (keep := [2]) (m := 0) (σ' := ⟨[(2, .v (slv ((((([] : List Int) ++ [1]) ++ [2]) ++ [4])).length q71.1))], []⟩) .nil (by kernel_rfl) ?_
              clear S; intro ac w β S
              refine RG.done rfl (nx_then ?_)
              refine wp_ret ?_
              refine S.ret (vs := [slv ((((([] : List Int) ++ [1]) ++ [2]) ++ [4])).length q71.1]) (by kernel_rfl) ?_
              exact ret1_of S (show f_ctlFaults c = (((([] : List Int) ++ [1]) ++ [2]) ++ [4]) by clear S; (unfold f_ctlFaults; (repeat' split) <;> first | rfl | (exfalso; simp_all; done) | (exfalso; omega))) rfl o73
            · have g76 : c.post = 0 := ne_f h64
              refine wp_skip (nx_then ?_)
              refine wp_seq ?_
              refine RG.start ?_
              refine S.quiet (k := 2) (keep := [2]) (m := 0) (σ' := ⟨[(2, .v (slv (((([] : List Int) ++ [1]) ++ [2])).length q26.1))], []⟩) .nil (by kernel_rfl) ?_
              clear S; intro ac w β S
              refine RG.done rfl (nx_then ?_)
              refine wp_ret ?_
              refine S.ret (vs := [slv (((([] : List Int) ++ [1]) ++ [2])).length q26.1]) (by kernel_rfl) ?_
              exact ret1_of S (show f_ctlFaults c = ((([] : List Int) ++ [1]) ++ [2]) by clear S; (unfold f_ctlFaults; (repeat' split) <;> first | rfl | (exfalso; simp_all; done) | (exfalso; omega))) rfl o28
          · have g77 : ¬ (c.traps = 2) := ne_of_beq_false h62
            refine S.quiet (k := 4) (keep := [3, 37]) (m := 0) (σ' := ⟨[(3, .v (slv (((([] : List Int) ++ [1]) ++ [2])).length q26.1)), (37, .v (B false))], []⟩) .nil (by kernel_rfl) ?_
            clear S; intro ac w β S
            refine RG.done rfl (nx_then ?_)
            refine S.cond (e := false) (by kernel_rfl) (fun hx => by cases hx) (fun _ => ?_)
            refine wp_skip (nx_then ?_)
            refine wp_seq ?_
            refine RG.start ?_
            refine S.quiet (k := 2) (keep := [2]) (m := 0) (σ' := ⟨[(2, .v (slv (((([] : List Int) ++ [1]) ++ [2])).length q26.1))], []⟩) .nil (by kernel_rfl) ?_
            clear S; intro ac w β S
            refine RG.done rfl (nx_then ?_)
            refine wp_ret ?_
            refine S.ret (vs := [slv (((([] : List Int) ++ [1]) ++ [2])).length q26.1]) (by kernel_rfl) ?_
            exact ret1_of S (show f_ctlFaults c = ((([] : List Int) ++ [1]) ++ [2]) by clear S; (unfold f_ctlFaults; (repeat' split) <;> first | rfl | (exfalso; simp_all; done) | (exfalso; omega))) rfl o28
      · have g78 : c.post = 0 := ne_f h31
        refine S.quiet (k := 4) (keep := [1, 3, 26]) (m := 1) (σ' := ⟨[(1, .p 0 0), (3, .v (slv (((([] : List Int) ++ [1]) ++ [2])).length q26.1)), (26, .v (B false))], [GT.cells (α := TCtl) c ()]⟩) .nil (by kernel_rfl) ?_
        clear S; intro ac w β S
        refine RG.done rfl (nx_then ?_)
        refine S.cond (e := false) (by kernel_rfl) (fun hx => by cases hx) (fun _ => ?_)
        refine wp_skip (nx_then ?_)
        refine wp_seq ?_
        refine wp_seq ?_
        refine RG.start ?_
        refine S.quiet (k := 4) (keep := [1, 3, 33]) (m := 1) (σ' := ⟨[(1, .p 0 0), (3, .v (slv (((([] : List Int) ++ [1]) ++ [2])).length q26.1)), (33, .v (B (c.traps == 2)))], [GT.cells (α := TCtl) c ()]⟩) .nil (by kernel_rfl) ?_
        clear S; intro ac w β S
        rcases Bool.eq_false_or_eq_true (c.traps == 2) with h79 | h79 <;> rw [h79] at S
        · have g80 : c.traps = 2 := eq_of_beq h79
          refine S.quiet (k := 4) (keep := [3, 37]) (m := 0) (σ' := ⟨[(3, .v (slv (((([] : List Int) ++ [1]) ++ [2])).length q26.1)), (37, .v (B (c.post != 0)))], []⟩) .nil (by kernel_rfl) ?_
          clear S; intro ac w β S
          refine RG.done rfl (nx_then ?_)
          refine S.cond (e := (c.post != 0)) (by kernel_rfl) (fun h81 => ?_) (fun h81 => ?_)
          · have g82 : ¬ (c.post = 0) := bne_iff_ne.1 h81
            refine RG.start ?_
            refine S.quiet (k := 1) (keep := [38]) (m := 0) (σ' := ⟨[(38, .v (slv (((([] : List Int) ++ [1]) ++ [2])).length q26.1))], []⟩) .nil (by kernel_rfl) ?_
            clear S; intro ac w β S
            refine RG.op rfl (S.bs1 (α := Int) (x := 4) (p := ()) (F := NoB) (show In64 4 from ⟨by decide, by decide⟩) (fun b h => False.elim h) (fun b h => False.elim h) (d := 39) (by kernel_rfl) ?_)
            clear S; intro ac w N q83 F84 S up o85 d86
            have d87 : Disj F27 F84 := d86 _ (fun b _ h => False.elim h) o28.sub
            replace o28 := o28.up up
            clear up d86
            refine RG.op rfl (S.appFlat (α := Int) o28 (o85.rn) (fun _ _ h => h) (by' := 8) (d := 40) (lx := (((([] : List Int) ++ [1]) ++ [2])).length) (ly := 1) rfl rfl (by kernel_rfl) (show _ ≤ 4194304 by simp only [List.length_append, List.length_cons, List.length_nil]; omega) ?_)
            clear S; intro ac w N q88 F89 S up o90 d91
            have d92 : Disj F84 F89 := d91 _ (Disj.symm d87) o85.sub
            replace o85 := o85.upF (Disj.symm d87) up
            clear up d91
            refine S.quiet (k := 1) (keep := [3]) (m := 0) (σ' := ⟨[(3, .v (slv ((((([] : List Int) ++ [1]) ++ [2]) ++ [4])).length q88.1))], []⟩) .nil (by kernel_rfl) ?_
            clear S; intro ac w β S
            refine RG.done rfl (nx_then ?_)
            refine wp_seq ?_
            refine RG.start ?_
            refine S.quiet (k := 2) (keep := [2]) (m := 0) (σ' := ⟨[(2, .v (slv ((((([] : List Int) ++ [1]) ++ [2]) ++ [4])).length q88.1))], []⟩) .nil (by kernel_rfl) ?_
            clear S; intro ac w β S
            refine RG.done rfl (nx_then ?_)
            refine wp_ret ?_
            refine S.ret (vs := [slv ((((([] : List Int) ++ [1]) ++ [2]) ++ [4])).length q88.1]) (by kernel_rfl) ?_
            exact ret1_of S (show f_ctlFaults c = (((([] : List Int) ++ [1]) ++ [2]) ++ [4]) by clear S; (unfold f_ctlFaults; (repeat' split) <;> first | rfl | (exfalso; simp_all; done) | (exfalso; omega))) rfl o90
          · have g93 : c.post = 0 := ne_f h81
            refine wp_skip (nx_then ?_)
            refine wp_seq ?_
            refine RG.start ?_
            refine S.quiet (k := 2) (keep := [2]) (m := 0) (σ' := ⟨[(2, .v (slv (((([] : List Int) ++ [1]) ++ [2])).length q26.1))], []⟩) .nil (by kernel_rfl) ?_
            clear S; intro ac w β S
            refine RG.done rfl (nx_then ?_)
            refine wp_ret ?_
            refine S.ret (vs := [slv (((([] : List Int) ++ [1]) ++ [2])).length q26.1]) (by kernel_rfl) ?_
            exact ret1_of S (show f_ctlFaults c = ((([] : List Int) ++ [1]) ++ [2]) by clear S; (unfold f_ctlFaults; (repeat' split) <;> first | rfl | (exfalso; simp_all; done) | (exfalso; omega))) rfl o28
        · have g94 : ¬ (c.traps = 2) := ne_of_beq_false h79
          refine S.quiet (k := 4) (keep := [3, 37]) (m := 0) (σ' := ⟨[(3, .v (slv (((([] : List Int) ++ [1]) ++ [2])).length q26.1)), (37, .v (B false))], []⟩) .nil (by kernel_rfl) ?_
          clear S; intro ac w β S
          refine RG.done rfl (nx_then ?_)
          refine S.cond (e := false) (by kernel_rfl) (fun hx => by cases hx) (fun _ => ?_)
          refine wp_skip (nx_then ?_)
          refine wp_seq ?_
          refine RG.start ?_
          refine S.quiet (k := 2) (keep := [2]) (m := 0) (σ' := ⟨[(2, .v (slv (((([] : List Int) ++ [1]) ++ [2])).length q26.1))], []⟩) .nil (by kernel_rfl) ?_
          clear S; intro ac w β S
          refine RG.done rfl (nx_then ?_)
          refine wp_ret ?_
          refine S.ret (vs := [slv (((([] : List Int) ++ [1]) ++ [2])).length q26.1]) (by kernel_rfl) ?_
          exact ret1_of S (show f_ctlFaults c = ((([] : List Int) ++ [1]) ++ [2]) by clear S; (unfold f_ctlFaults; (repeat' split) <;> first | rfl | (exfalso; simp_all; done) | (exfalso; omega))) rfl o28
    · have h95 : (f_within c.post 0 255) = true := not_f h18
      have g96 := within_t h95
      refine wp_skip (nx_then ?_)
      refine wp_seq ?_
      refine wp_seq ?_
      refine RG.start ?_
      refine S.quiet (k := 4) (keep := [1, 3, 22]) (m := 1) (σ' := ⟨[(1, .p 0 0), (3, .v (slv ((([] : List Int) ++ [1])).length q13.1)), (22, .v (B (c.post != 0)))], [GT.cells (α := TCtl) c ()]⟩) .nil (by kernel_rfl) ?_
      clear S; intro ac w β S
      rcases Bool.eq_false_or_eq_true (c.post != 0) with h97 | h97 <;> rw [h97] at S
      · have g98 : ¬ (c.post = 0) := bne_iff_ne.1 h97
        refine S.quiet (k := 4) (keep := [1, 3, 26]) (m := 1) (σ' := ⟨[(1, .p 0 0), (3, .v (slv ((([] : List Int) ++ [1])).length q13.1)), (26, .v (B (!c.opn)))], [GT.cells (α := TCtl) c ()]⟩) .nil (by kernel_rfl) ?_
        clear S; intro ac w β S
        refine RG.done rfl (nx_then ?_)
        refine S.cond (e := (!c.opn)) (by kernel_rfl) (fun h99 => ?_) (fun h99 => ?_)
        · have h100 : c.opn = false := not_t h99
          refine RG.start ?_
          refine S.quiet (k := 1) (keep := [1, 27]) (m := 1) (σ' := ⟨[(1, .p 0 0), (27, .v (slv ((([] : List Int) ++ [1])).length q13.1))], [GT.cells (α := TCtl) c ()]⟩) .nil (by kernel_rfl) ?_
          clear S; intro ac w β S
          refine RG.op rfl (S.bs1 (α := Int) (x := 3) (p := ()) (F := NoB) (show In64 3 from ⟨by decide, by decide⟩) (fun b h => False.elim h) (fun b h => False.elim h) (d := 28) (by kernel_rfl) ?_)
          clear S; intro ac w N q101 F102 S up o103 d104
          have d105 : Disj F14 F102 := d104 _ (fun b _ h => False.elim h) o15.sub
          replace o15 := o15.up up
          clear up d104
          refine RG.op rfl (S.appFlat (α := Int) o15 (o103.rn) (fun _ _ h => h) (by' := 8) (d := 29) (lx := ((([] : List Int) ++ [1])).length) (ly := 1) rfl rfl (by kernel_rfl) (show _ ≤ 4194304 by simp only [List.length_append, List.length_cons, List.length_nil]; omega) ?_)
          clear S; intro ac w N q106 F107 S up o108 d109
          have d110 : Disj F102 F107 := d109 _ (Disj.symm d105) o103.sub
          replace o103 := o103.upF (Disj.symm d105) up
          clear up d109
          refine S.quiet (k := 1) (keep := [1, 3]) (m := 1) (σ' := ⟨[(1, .p 0 0), (3, .v (slv (((([] : List Int) ++ [1]) ++ [3])).length q106.1))], [GT.cells (α := TCtl) c ()]⟩) .nil (by kernel_rfl) ?_
          clear S; intro ac w β S
          refine RG.done rfl (nx_then ?_)
          refine wp_seq ?_
          refine wp_seq ?_
          refine RG.start ?_
          refine S.quiet (k := 4) (keep := [1, 3, 33]) (m := 1) (σ' := ⟨[(1, .p 0 0), (3, .v (slv (((([] : List Int) ++ [1]) ++ [3])).length q106.1)), (33, .v (B (c.traps == 2)))], [GT.cells (α := TCtl) c ()]⟩) .nil (by kernel_rfl) ?_
          clear S; intro ac w β S
          rcases Bool.eq_false_or_eq_true (c.traps == 2) with h111 | h111 <;> rw [h111] at S
          · have g112 : c.traps = 2 := eq_of_beq h111
            refine S.quiet (k := 4) (keep := [3, 37]) (m := 0) (σ' := ⟨[(3, .v (slv (((([] : List Int) ++ [1]) ++ [3])).length q106.1)), (37, .v (B (c.post != 0)))], []⟩) .nil (by kernel_rfl) ?_
            clear S; intro ac w β S
            refine RG.done rfl (nx_then ?_)
            refine S.cond (e := (c.post != 0)) (by kernel_rfl) (fun h113 => ?_) (fun h113 => ?_)
            · have g114 : ¬ (c.post = 0) := bne_iff_ne.1 h113
              refine RG.start ?_
              refine S.quiet (k := 1) (keep := [38]) (m := 0) (σ' := ⟨[(38, .v (slv (((([] : List Int) ++ [1]) ++ [3])).length q106.1))], []⟩) .nil (by kernel_rfl) ?_
              clear S; intro ac w β S
              refine RG.op rfl (S.bs1 (α := Int) (x := 4) (p := ()) (F := NoB) (show In64 4 from ⟨by decide, by decide⟩) (fun b h => False.elim h) (fun b h => False.elim h) (d := 39) (by kernel_rfl) ?_)
              clear S; intro ac w N q115 F116 S up o117 d118
              have d119 : Disj F107 F116 := d118 _ (fun b _ h => False.elim h) o108.sub
              replace o108 := o108.up up
              clear up d118
              refine RG.op rfl (S.appFlat (α := Int) o108 (o117.rn) (fun _ _ h => h) (by' := 8) (d := 40) (lx := (((([] : List Int) ++ [1]) ++ [3])).length) (ly := 1) rfl rfl (by kernel_rfl) (show _ ≤ 4194304 by simp only [List.length_append, List.length_cons, List.length_nil]; omega) ?_)
              clear S; intro ac w N q120 F121 S up o122 d123
              have d124 : Disj F116 F121 := d123 _ (Disj.symm d119) o117.sub
              replace o117 := o117.upF (Disj.symm d119) up
              clear up d123
              refine S.quiet (k := 1) (keep := [3]) (m := 0) (σ' := ⟨[(3, .v (slv ((((([] : List Int) ++ [1]) ++ [3]) ++ [4])).length q120.1))], []⟩) .nil (by kernel_rfl) ?_
              clear S; intro ac w β S
              refine RG.done rfl (nx_then ?_)
              refine wp_seq ?_
              refine RG.start ?_
              refine S.quiet (k := 2) (keep := [2]) (m := 0) (σ' := ⟨[(2, .v (slv ((((([] : List Int) ++ [1]) ++ [3]) ++ [4])).length q120.1))], []⟩) .nil (by kernel_rfl) ?_
              clear S; intro ac w β S
              refine RG.done rfl (nx_then ?_)
              refine wp_ret ?_
              refine S.ret (vs := [slv ((((([] : List Int) ++ [1]) ++ [3]) ++ [4])).length q120.1]) (by kernel_rfl) ?_
              exact ret1_of S (show f_ctlFaults c = (((([] : List Int) ++ [1]) ++ [3]) ++ [4]) by clear S; (unfold f_ctlFaults; (repeat' split) <;> first | rfl | (exfalso; simp_all; done) | (exfalso; omega))) rfl o122
            · have g125 : c.post = 0 := ne_f h113
              refine wp_skip (nx_then ?_)
              refine wp_seq ?_
              refine RG.start ?_
              refine S.quiet (k := 2) (keep := [2]) (m := 0) (σ' := ⟨[(2, .v (slv (((([] : List Int) ++ [1]) ++ [3])).length q106.1))], []⟩) .nil (by kernel_rfl) ?_
              clear S; intro ac w β S
              refine RG.done rfl (nx_then ?_)
              refine wp_ret ?_
              refine S.ret (vs := [slv (((([] : List Int) ++ [1]) ++ [3])).length q106.1]) (by kernel_rfl) ?_
              exact ret1_of S (show f_ctlFaults c = ((([] : List Int) ++ [1]) ++ [3]) by clear S; (unfold f_ctlFaults; (repeat' split) <;> first | rfl | (exfalso; simp_all; done) | (exfalso; omega))) rfl o108
          · have g126 : ¬ (c.traps = 2) := ne_of_beq_false h111
            refine S.quiet (k := 4) (keep := [3, 37]) (m := 0) (σ' := ⟨[(3, .v (slv (((([] : List Int) ++ [1]) ++ [3])).length q106.1)), (37, .v (B false))], []⟩) .nil (by kernel_rfl) ?_
            clear S; intro ac w β S
            refine RG.done rfl (nx_then ?_)
            refine S.cond (e := false) (by kernel_rfl) (fun hx => by cases hx) (fun _ => ?_)
            refine wp_skip (nx_then ?_)
            refine wp_seq ?_
            refine RG.start ?_
            refine S.quiet (k := 2) (keep := [2]) (m := 0) (σ' := ⟨[(2, .v (slv (((([] : List Int) ++ [1]) ++ [3])).length q106.1))], []⟩) .nil (by kernel_rfl) ?_
            clear S; intro ac w β S
            refine RG.done rfl (nx_then ?_)
            refine wp_ret ?_
            refine S.ret (vs := [slv (((([] : List Int) ++ [1]) ++ [3])).length q106.1]) (by kernel_rfl) ?_
            exact ret1_of S (show f_ctlFaults c = ((([] : List Int) ++ [1]) ++ [3]) by clear S; (unfold f_ctlFaults; (repeat' split) <;> first | rfl | (exfalso; simp_all; done) | (exfalso; omega))) rfl o108
        · have h127 : c.opn = true := not_f h99
          refine wp_skip (nx_then ?_)
          refine wp_seq ?_
          refine wp_seq ?_
          refine RG.start ?_
          refine S.quiet (k := 4) (keep := [1, 3, 33]) (m := 1) (σ' := ⟨[(1, .p 0 0), (3, .v (slv ((([] : List Int) ++ [1])).length q13.1)), (33, .v (B (c.traps == 2)))], [GT.cells (α := TCtl) c ()]⟩) .nil (by kernel_rfl) ?_
          clear S; intro ac w β S
          rcases Bool.eq_false_or_eq_true (c.traps == 2) with h128 | h128 <;> rw [h128] at S
          · have g129 : c.traps = 2 := eq_of_beq h128
            refine S.quiet (k := 4) (keep := [3, 37]) (m := 0) (σ' := ⟨[(3, .v (slv ((([] : List Int) ++ [1])).length q13.1)), (37, .v (B (c.post != 0)))], []⟩) .nil (by kernel_rfl) ?_
            clear S; intro ac w β S
            refine RG.done rfl (nx_then ?_)
            refine S.cond (e := (c.post != 0)) (by kernel_rfl) (fun h130 => ?_) (fun h130 => ?_)
            · have g131 : ¬ (c.post = 0) := bne_iff_ne.1 h130
              refine RG.start ?_
              refine S.quiet (k := 1) (keep := [38]) (m := 0) (σ' := ⟨[(38, .v (slv ((([] : List Int) ++ [1])).length q13.1))], []⟩) .nil (by kernel_rfl) ?_
              clear S; intro ac w β S
              refine RG.op rfl (S.bs1 (α := Int) (x := 4) (p := ()) (F := NoB) (show In64 4 from ⟨by decide, by decide⟩) (fun b h => False.elim h) (fun b h => False.elim h) (d := 39) (by kernel_rfl) ?_)
              clear S; intro ac w N q132 F133 S up o134 d135
              have d136 : Disj F14 F133 := d135 _ (fun b _ h => False.elim h) o15.sub
              replace o15 := o15.up up
              clear up d135
              refine RG.op rfl (S.appFlat (α := Int) o15 (o134.rn) (fun _ _ h => h) (by' := 8) (d := 40) (lx := ((([] : List Int) ++ [1])).length) (ly := 1) rfl rfl (by kernel_rfl) (show _ ≤ 4194304 by simp only [List.length_append, List.length_cons, List.length_nil]; omega) ?_)
              clear S; intro ac w N q137 F138 S up o139 d140
              have d141 : Disj F133 F138 := d140 _ (Disj.symm d136) o134.sub
              replace o134 := o134.upF (Disj.symm d136) up
              clear up d140
              refine S.quiet (k := 1) (keep := [3]) (m := 0) (σ' := ⟨[(3, .v (slv (((([] : List Int) ++ [1]) ++ [4])).length q137.1))], []⟩) .nil (by kernel_rfl) ?_
              clear S; intro ac w β S
              refine RG.done rfl (nx_then ?_)
              refine wp_seq ?_
              refine RG.start ?_
              refine S.quiet (k := 2) (keep := [2]) (m := 0) (σ' := ⟨[(2, .v (slv (((([] : List Int) ++ [1]) ++ [4])).length q137.1))], []⟩) .nil (by kernel_rfl) ?_
              clear S; intro ac w β S
              refine RG.done rfl (nx_then ?_)
              refine wp_ret ?_
              refine S.ret (vs := [slv (((([] : List Int) ++ [1]) ++ [4])).length q137.1]) (by kernel_rfl) ?_
              exact ret1_of S (show f_ctlFaults c = ((([] : List Int) ++ [1]) ++ [4]) by clear S; (unfold f_ctlFaults; (repeat' split) <;> first | rfl | (exfalso; simp_all; done) | (exfalso; omega))) rfl o139
            · have g142 : c.post = 0 := ne_f h130
              refine wp_skip (nx_then ?_)
              refine wp_seq ?_
              refine RG.start ?_
              refine S.quiet (k := 2) (keep := [2]) (m := 0) (σ' := ⟨[(2, .v (slv ((([] : List Int) ++ [1])).length q13.1))], []⟩) .nil (by kernel_rfl) ?_
              clear S; intro ac w β S
              refine RG.done rfl (nx_then ?_)
              refine wp_ret ?_
              refine S.ret (vs := [slv ((([] : List Int) ++ [1])).length q13.1]) (by kernel_rfl) ?_
              exact ret1_of S (show f_ctlFaults c = (([] : List Int) ++ [1]) by clear S; (unfold f_ctlFaults; (repeat' split) <;> first | rfl | (exfalso; simp_all; done) | (exfalso; omega))) rfl o15
          · have g143 : ¬ (c.traps = 2) := ne_of_beq_false h128
            refine S.quiet (k := 4) (keep := [3, 37]) (m := 0) (σ' := ⟨[(3, .v (slv ((([] : List Int) ++ [1])).length q13.1)), (37, .v (B false))], []⟩) .nil (by kernel_rfl) ?_
            clear S; intro ac w β S
            refine RG.done rfl (nx_then ?_)
            refine S.cond (e := false) (by kernel_rfl) (fun hx => by cases hx) (fun _ => ?_)
            refine wp_skip (nx_then ?_)
            refine wp_seq ?_
            refine RG.start ?_
            refine S.quiet (k := 2) (keep := [2]) (m := 0) (σ' := ⟨[(2, .v (slv ((([] : List Int) ++ [1])).length q13.1))], []⟩) .nil (by kernel_rfl) ?_
            clear S; intro ac w β S
            refine RG.done rfl (nx_then ?_)
            refine wp_ret ?_
            refine S.ret (vs := [slv ((([] : List Int) ++ [1])).length q13.1]) (by kernel_rfl) ?_
            exact ret1_of S (show f_ctlFaults c = (([] : List Int) ++ [1]) by clear S; (unfold f_ctlFaults; (repeat' split) <;> first | rfl | (exfalso; simp_all; done) | (exfalso; omega))) rfl o15
      · have g144 : c.post = 0 := ne_f h97
        refine S.quiet (k := 4) (keep := [1, 3, 26]) (m := 1) (σ' := ⟨[(1, .p 0 0), (3, .v (slv ((([] : List Int) ++ [1])).length q13.1)), (26, .v (B false))], [GT.cells (α := TCtl) c ()]⟩) .nil (by kernel_rfl) ?_
        clear S; intro ac w β S
        refine RG.done rfl (nx_then ?_)
        refine S.cond (e := false) (by kernel_rfl) (fun hx => by cases hx) (fun _ => ?_)
        refine wp_skip (nx_then ?_)
        refine wp_seq ?_
        refine wp_seq ?_
        refine RG.start ?_
        refine S.quiet (k := 4) (keep := [1, 3, 33]) (m := 1) (σ' := ⟨[(1, .p 0 0), (3, .v (slv ((([] : List Int) ++ [1])).length q13.1)), (33, .v (B (c.traps == 2)))], [GT.cells (α := TCtl) c ()]⟩) .nil (by kernel_rfl) ?_
        clear S; intro ac w β S
        rcases Bool.eq_false_or_eq_true (c.traps == 2) with h145 | h145 <;> rw [h145] at S
        · have g146 : c.traps = 2 := eq_of_beq h145
          refine S.quiet (k := 4) (keep := [3, 37]) (m := 0) (σ' := ⟨[(3, .v (slv ((([] : List Int) ++ [1])).length q13.1)), (37, .v (B (c.post != 0)))], []⟩) .nil (by kernel_rfl) ?_
          clear S; intro ac w β S
          refine RG.done rfl (nx_then ?_)
          refine S.cond (e := (c.post != 0)) (by kernel_rfl) (fun h147 => ?_) (fun h147 => ?_)
          · have g148 : ¬ (c.post = 0) := bne_iff_ne.1 h147
            refine RG.start ?_
            refine S.quiet (k := 1) (keep := [38]) (m := 0) (σ' := ⟨[(38, .v (slv ((([] : List Int) ++ [1])).length q13.1))], []⟩) .nil (by kernel_rfl) ?_
            clear S; intro ac w β S
            refine RG.op rfl (S.bs1 (α := Int) (x := 4) (p := ()) (F := NoB) (show In64 4 from ⟨by decide, by decide⟩) (fun b h => False.elim h) (fun b h => False.elim h) (d := 39) (by kernel_rfl) ?_)
            clear S; intro ac w N q149 F150 S up o151 d152
            have d153 : Disj F14 F150 := d152 _ (fun b _ h => False.elim h) o15.sub
            replace o15 := o15.up up
            clear up d152
            refine RG.op rfl (S.appFlat (α := Int) o15 (o151.rn) (fun _ _ h => h) (by' := 8) (d := 40) (lx := ((([] : List Int) ++ [1])).length) (ly := 1) rfl rfl (by kernel_rfl) (show _ ≤ 4194304 by simp only [List.length_append, List.length_cons, List.length_nil]; omega) ?_)
            clear S; intro ac w N q154 F155 S up o156 d157
            have d158 : Disj F150 F155 := d157 _ (Disj.symm d153) o151.sub
            replace o151 := o151.upF (Disj.symm d153) up
            clear up d157
            refine S.quiet (k := 1) (keep := [3]) (m := 0) (σ' := ⟨[(3, .v (slv (((([] : List Int) ++ [1]) ++ [4])).length q154.1))], []⟩) .nil (by kernel_rfl) ?_
            clear S; intro ac w β S
            refine RG.done rfl (nx_then ?_)
            refine wp_seq ?_
            refine RG.start ?_
            refine S.quiet (k := 2) (keep := [2]) (m := 0) (σ' := ⟨[(2, .v (slv (((([] : List Int) ++ [1]) ++ [4])).length q154.1))], []⟩) .nil (by kernel_rfl) ?_
            clear S; intro ac w β S
            refine RG.done rfl (nx_then ?_)
            refine wp_ret ?_
            refine S.ret (vs := [slv (((([] : List Int) ++ [1]) ++ [4])).length q154.1]) (by kernel_rfl) ?_
            exact ret1_of S (show f_ctlFaults c = ((([] : List Int) ++ [1]) ++ [4]) by clear S; (unfold f_ctlFaults; (repeat' split) <;> first | rfl | (exfalso; simp_all; done) | (exfalso; omega))) rfl o156
          · have g159 : c.post = 0 := ne_f h147
            refine wp_skip (nx_then ?_)
            refine wp_seq ?_
            refine RG.start ?_
            refine S.quiet (k := 2) (keep := [2]) (m := 0) (σ' := ⟨[(2, .v (slv ((([] : List Int) ++ [1])).length q13.1))], []⟩) .nil (by kernel_rfl) ?_
            clear S; intro ac w β S
            refine RG.done rfl (nx_then ?_)
            refine wp_ret ?_
            refine S.ret (vs := [slv ((([] : List Int) ++ [1])).length q13.1]) (by kernel_rfl) ?_
            exact ret1_of S (show f_ctlFaults c = (([] : List Int) ++ [1]) by clear S; (unfold f_ctlFaults; (repeat' split) <;> first | rfl | (exfalso; simp_all; done) | (exfalso; omega))) rfl o15
        · have g160 : ¬ (c.traps = 2) := ne_of_beq_false h145
          refine S.quiet (k := 4) (keep := [3, 37]) (m := 0) (σ' := ⟨[(3, .v (slv ((([] : List Int) ++ [1])).length q13.1)), (37, .v (B false))], []⟩) .nil (by kernel_rfl) ?_
          clear S; intro ac w β S
          refine RG.done rfl (nx_then ?_)
          refine S.cond (e := false) (by kernel_rfl) (fun hx => by cases hx) (fun _ => ?_)
          refine wp_skip (nx_then ?_)
          refine wp_seq ?_
          refine RG.start ?_
          refine S.quiet (k := 2) (keep := [2]) (m := 0) (σ' := ⟨[(2, .v (slv ((([] : List Int) ++ [1])).length q13.1))], []⟩) .nil (by kernel_rfl) ?_
          clear S; intro ac w β S
          refine RG.done rfl (nx_then ?_)
          refine wp_ret ?_
          refine S.ret (vs := [slv ((([] : List Int) ++ [1])).length q13.1]) (by kernel_rfl) ?_
          exact ret1_of S (show f_ctlFaults c = (([] : List Int) ++ [1]) by clear S; (unfold f_ctlFaults; (repeat' split) <;> first | rfl | (exfalso; simp_all; done) | (exfalso; omega))) rfl o15
  · have h161 : (f_within c.traps 0 3) = true := not_f h5
    have g162 := within_t h161
    refine wp_skip (nx_then ?_)
    refine wp_seq ?_
    refine wp_seq ?_
    refine RG.start ?_
    refine S.quiet (k := 4) (keep := [1, 3, 15]) (m := 1) (σ' := ⟨[(1, .p 0 0), (3, .v (slv 0 q1.1)), (15, .v (B (!(f_within c.post 0 255))))], [GT.cells (α := TCtl) c ()]⟩) (.cons (Q_call fun w hw => c_impl_within w c.post 0 255) .nil) (by kernel_rfl) ?_
    clear S; intro ac w β S
    refine RG.done rfl (nx_then ?_)
    refine S.cond (e := (!(f_within c.post 0 255))) (by kernel_rfl) (fun h163 => ?_) (fun h163 => ?_)
    · have h164 : (f_within c.post 0 255) = false := not_t h163
      have g165 := within_f h164
      refine RG.start ?_
      refine S.quiet (k := 1) (keep := [1, 16]) (m := 1) (σ' := ⟨[(1, .p 0 0), (16, .v (slv 0 q1.1))], [GT.cells (α := TCtl) c ()]⟩) .nil (by kernel_rfl) ?_
      clear S; intro ac w β S
      refine RG.op rfl (S.bs1 (α := Int) (x := 2) (p := ()) (F := NoB) (show In64 2 from ⟨by decide, by decide⟩) (fun b h => False.elim h) (fun b h => False.elim h) (d := 17) (by kernel_rfl) ?_)
      clear S; intro ac w N q166 F167 S up o168 d169
      have d170 : Disj F2 F167 := d169 _ (fun b _ h => False.elim h) o3.sub
      replace o3 := o3.up up
      clear up d169
      refine RG.op rfl (S.appFlat (α := Int) o3 (o168.rn) (fun _ _ h => h) (by' := 8) (d := 18) (lx := 0) (ly := 1) rfl rfl (by kernel_rfl) (show _ ≤ 4194304 by simp only [List.length_append, List.length_cons, List.length_nil]; omega) ?_)
      clear S; intro ac w N q171 F172 S up o173 d174
      have d175 : Disj F167 F172 := d174 _ (Disj.symm d170) o168.sub
      replace o168 := o168.upF (Disj.symm d170) up
      clear up d174
      refine S.quiet (k := 1) (keep := [1, 3]) (m := 1) (σ' := ⟨[(1, .p 0 0), (3, .v (slv ((([] : List Int) ++ [2])).length q171.1))], [GT.cells (α := TCtl) c ()]⟩) .nil (by kernel_rfl) ?_
      clear S; intro ac w β S
      refine RG.done rfl (nx_then ?_)
      refine wp_seq ?_
      refine wp_seq ?_
      refine RG.start ?_
      refine S.quiet (k := 4) (keep := [1, 3, 22]) (m := 1) (σ' := ⟨[(1, .p 0 0), (3, .v (slv ((([] : List Int) ++ [2])).length q171.1)), (22, .v (B (c.post != 0)))], [GT.cells (α := TCtl) c ()]⟩) .nil (by kernel_rfl) ?_
      clear S; intro ac w β S
      rcases Bool.eq_false_or_eq_true (c.post != 0) with h176 | h176 <;> rw [h176] at S
      · have g177 : ¬ (c.post = 0) := bne_iff_ne.1 h176
        refine S.quiet (k := 4) (keep := [1, 3, 26]) (m := 1) (σ' := ⟨[(1, .p 0 0), (3, .v (slv ((([] : List Int) ++ [2])).length q171.1)), (26, .v (B (!c.opn)))], [GT.cells (α := TCtl) c ()]⟩) .nil (by kernel_rfl) ?_
        clear S; intro ac w β S
        refine RG.done rfl (nx_then ?_)
        refine S.cond (e := (!c.opn)) (by kernel_rfl) (fun h178 => ?_) (fun h178 => ?_)
        · have h179 : c.opn = false := not_t h178
          refine RG.start ?_
          refine S.quiet (k := 1) (keep := [1, 27]) (m := 1) (σ' := ⟨[(1, .p 0 0), (27, .v (slv ((([] : List Int) ++ [2])).length q171.1))], [GT.cells (α := TCtl) c ()]⟩) .nil (by kernel_rfl) ?_
          clear S; intro ac w β S
          refine RG.op rfl (S.bs1 (α := Int) (x := 3) (p := ()) (F := NoB) (show In64 3 from ⟨by decide, by decide⟩) (fun b h => False.elim h) (fun b h => False.elim h) (d := 28) (by kernel_rfl) ?_)
          clear S; intro ac w N q180 F181 S up o182 d183
          have d184 : Disj F172 F181 := d183 _ (fun b _ h => False.elim h) o173.sub
          replace o173 := o173.up up
          clear up d183
          refine RG.op rfl (S.appFlat (α := Int) o173 (o182.rn) (fun _ _ h => h) (by' := 8) (d := 29) (lx := ((([] : List Int) ++ [2])).length) (ly := 1) rfl rfl (by kernel_rfl) (show _ ≤ 4194304 by simp only [List.length_append, List.length_cons, List.length_nil]; omega) ?_)
          clear S; intro ac w N q185 F186 S up o187 d188
          have d189 : Disj F181 F186 := d188 _ (Disj.symm d184) o182.sub
          replace o182 := o182.upF (Disj.symm d184) up
          clear up d188
          refine S.quiet (k := 1) (keep := [1, 3]) (m := 1) (σ' := ⟨[(1, .p 0 0), (3, .v (slv (((([] : List Int) ++ [2]) ++ [3])).length q185.1))], [GT.cells (α := TCtl) c ()]⟩) .nil (by kernel_rfl) ?_
          clear S; intro ac w β S
          refine RG.done rfl (nx_then ?_)
          refine wp_seq ?_
          refine wp_seq ?_
          refine RG.start ?_
          refine S.quiet (k := 4) (keep := [1, 3, 33]) (m := 1) (σ' := ⟨[(1, .p 0 0), (3, .v (slv (((([] : List Int) ++ [2]) ++ [3])).length q185.1)), (33, .v (B (c.traps == 2)))], [GT.cells (α := TCtl) c ()]⟩) .nil (by kernel_rfl) ?_
          clear S; intro ac w β S
          rcases Bool.eq_false_or_eq_true (c.traps == 2) with h190 | h190 <;> rw [h190] at S
          · have g191 : c.traps = 2 := eq_of_beq h190
            refine S.quiet (k := 4) (keep := [3, 37]) (m := 0) (σ' := ⟨[(3, .v (slv (((([] : List Int) ++ [2]) ++ [3])).length q185.1)), (37, .v (B (c.post != 0)))], []⟩) .nil (by kernel_rfl) ?_
            clear S; intro ac w β S
            refine RG.done rfl (nx_then ?_)
            refine S.cond (e := (c.post != 0)) (by kernel_rfl) (fun h192 => ?_) (fun h192 => ?_)
            · have g193 : ¬ (c.post = 0) := bne_iff_ne.1 h192
              refine RG.start ?_
              refine S.quiet (k := 1) (keep := [38]) (m := 0) (σ' := ⟨[(38, .v (slv (((([] : List Int) ++ [2]) ++ [3])).length q185.1))], []⟩) .nil (by kernel_rfl) ?_
              clear S; intro ac w β S
              refine RG.op rfl (S.bs1 (α := Int) (x := 4) (p := ()) (F := NoB) (show In64 4 from ⟨by decide, by decide⟩) (fun b h => False.elim h) (fun b h => False.elim h) (d := 39) (by kernel_rfl) ?_)
              clear S; intro ac w N q194 F195 S up o196 d197
              have d198 : Disj F186 F195 := d197 _ (fun b _ h => False.elim h) o187.sub
              replace o187 := o187.up up
              clear up d197
              refine RG.op rfl (S.appFlat (α := Int) o187 (o196.rn) (fun _ _ h => h) (by' := 8) (d := 40) (lx := (((([] : List Int) ++ [2]) ++ [3])).length) (ly := 1) rfl rfl (by kernel_rfl) (show _ ≤ 4194304 by simp only [List.length_append, List.length_cons, List.length_nil]; omega) ?_)
              clear S; intro ac w N q199 F200 S up o201 d202
              have d203 : Disj F195 F200 := d202 _ (Disj.symm d198) o196.sub
              replace o196 := o196.upF (Disj.symm d198) up
              clear up d202
              refine S.quiet (k := 1) (keep := [3]) (m := 0) (σ' := ⟨[(3, .v (slv ((((([] : List Int) ++ [2]) ++ [3]) ++ [4])).length q199.1))], []⟩) .nil (by kernel_rfl) ?_
              clear S; intro ac w β S
              refine RG.done rfl (nx_then ?_)
              refine wp_seq ?_
              refine RG.start ?_
              refine S.quiet (k := 2) (keep := [2]) (m := 0) (σ' := ⟨[(2, .v (slv ((((([] : List Int) ++ [2]) ++ [3]) ++ [4])).length q199.1))], []⟩) .nil (by kernel_rfl) ?_
              clear S; intro ac w β S
              refine RG.done rfl (nx_then ?_)
              refine wp_ret ?_
              refine S.ret (vs := [slv ((((([] : List Int) ++ [2]) ++ [3]) ++ [4])).length q199.1]) (by kernel_rfl) ?_
              exact ret1_of S (show f_ctlFaults c = (((([] : List Int) ++ [2]) ++ [3]) ++ [4]) by clear S; (unfold f_ctlFaults; (repeat' split) <;> first | rfl | (exfalso; simp_all; done) | (exfalso; omega))) rfl o201
            · have g204 : c.post = 0 := ne_f h192
              refine wp_skip (nx_then ?_)
              refine wp_seq ?_
              refine RG.start ?_
              refine S.quiet (k := 2) (keep := [2]) (m := 0) (σ' := ⟨[(2, .v (slv (((([] : List Int) ++ [2]) ++ [3])).length q185.1))], []⟩) .nil (by kernel_rfl) ?_
              clear S; intro ac w β S
              refine RG.done rfl (nx_then ?_)
              refine wp_ret ?_
              refine S.ret (vs := [slv (((([] : List Int) ++ [2]) ++ [3])).length q185.1]) (by kernel_rfl) ?_
              exact ret1_of S (show f_ctlFaults c = ((([] : List Int) ++ [2]) ++ [3]) by clear S; (unfold f_ctlFaults; (repeat' split) <;> first | rfl | (exfalso; simp_all; done) | (exfalso; omega))) rfl o187
          · have g205 : ¬ (c.traps = 2) := ne_of_beq_false h190
            refine S.quiet (k := 4) (keep := [3, 37]) (m := 0) (σ' := ⟨[(3, .v (slv (((([] : List Int) ++ [2]) ++ [3])).length q185.1)), (37, .v (B false))], []⟩) .nil (by kernel_rfl) ?_
            clear S; intro ac w β S
            refine RG.done rfl (nx_then ?_)
            refine S.cond (e := false) (by kernel_rfl) (fun hx => by cases hx) (fun _ => ?_)
            refine wp_skip (nx_then ?_)
            refine wp_seq ?_
            refine RG.start ?_
            refine S.quiet (k := 2) (keep := [2]) (m := 0) (σ' := ⟨[(2, .v (slv (((([] : List Int) ++ [2]) ++ [3])).length q185.1))], []⟩) .nil (by kernel_rfl) ?_
            clear S; intro ac w β S
            refine RG.done rfl (nx_then ?_)
            refine wp_ret ?_
            refine S.ret (vs := [slv (((([] : List Int) ++ [2]) ++ [3])).length q185.1]) (by kernel_rfl) ?_
            exact ret1_of S (show f_ctlFaults c = ((([] : List Int) ++ [2]) ++ [3]) by clear S; (unfold f_ctlFaults; (repeat' split) <;> first | rfl | (exfalso; simp_all; done) | (exfalso; omega))) rfl o187
        · have h206 : c.opn = true := not_f h178
          refine wp_skip (nx_then ?_)
          refine wp_seq ?_
          refine wp_seq ?_
          refine RG.start ?_
          refine S.quiet (k := 4) (keep := [1, 3, 33]) (m := 1) (σ' := ⟨[(1, .p 0 0), (3, .v (slv ((([] : List Int) ++ [2])).length q171.1)), (33, .v (B (c.traps == 2)))], [GT.cells (α := TCtl) c ()]⟩) .nil (by kernel_rfl) ?_
          clear S; intro ac w β S
          rcases Bool.eq_false_or_eq_true (c.traps == 2) with h207 | h207 <;> rw [h207] at S
          · have g208 : c.traps = 2 := eq_of_beq h207
            refine S.quiet (k := 4) (keep := [3, 37]) (m := 0) (σ' := ⟨[(3, .v (slv ((([] : List Int) ++ [2])).length q171.1)), (37, .v (B (c.post != 0)))], []⟩) .nil (by kernel_rfl) ?_
            clear S; intro ac w β S
            refine RG.done rfl (nx_then ?_)
            refine S.cond (e := (c.post != 0)) (by kernel_rfl) (fun h209 => ?_) (fun h209 => ?_)
            · have g210 : ¬ (c.post = 0) := bne_iff_ne.1 h209
              refine RG.start ?_
              refine S.quiet (k := 1) (keep := [38]) (m := 0) (σ' := ⟨[(38, .v (slv ((([] : List Int) ++ [2])).length q171.1))], []⟩) .nil (by kernel_rfl) ?_
              clear S; intro ac w β S
              refine RG.op rfl (S.bs1 (α := Int) (x := 4) (p := ()) (F := NoB) (show In64 4 from ⟨by decide, by decide⟩) (fun b h => False.elim h) (fun b h => False.elim h) (d := 39) (by kernel_rfl) ?_)
              clear S; intro ac w N q211 F212 S up o213 d214
              have d215 : Disj F172 F212 := d214 _ (fun b _ h => False.elim h) o173.sub
              replace o173 := o173.up up
              clear up d214
              refine RG.op rfl (S.appFlat (α := Int) o173 (o213.rn) (fun _ _ h => h) (by' := 8) (d := 40) (lx := ((([] : List Int) ++ [2])).length) (ly := 1) rfl rfl (by kernel_rfl) (show _ ≤ 4194304 by simp only [List.length_append, List.length_cons, List.length_nil]; omega) ?_)
              clear S; intro ac w N q216 F217 S up o218 d219
              have d220 : Disj F212 F217 := d219 _ (Disj.symm d215) o213.sub
              replace o213 := o213.upF (Disj.symm d215) up
              clear up d219
              refine S.quiet (k := 1) (keep := [3]) (m := 0) (σ' := ⟨[(3, .v (slv (((([] : List Int) ++ [2]) ++ [4])).length q216.1))], []⟩) .nil (by kernel_rfl) ?_
              clear S; intro ac w β S
              refine RG.done rfl (nx_then ?_)
              refine wp_seq ?_
              refine RG.start ?_
              refine S.quiet (k := 2) (keep := [2]) (m := 0) (σ' := ⟨[(2, .v (slv (((([] : List Int) ++ [2]) ++ [4])).length q216.1))], []⟩) .nil (by kernel_rfl) ?_
              clear S; intro ac w β S
              refine RG.done rfl (nx_then ?_)
              refine wp_ret ?_
              refine S.ret (vs := [slv (((([] : List Int) ++ [2]) ++ [4])).length q216.1]) (by kernel_rfl) ?_
              exact ret1_of S (show f_ctlFaults c = ((([] : List Int) ++ [2]) ++ [4]) by clear S; (unfold f_ctlFaults; (repeat' split) <;> first | rfl | (exfalso; simp_all; done) | (exfalso; omega))) rfl o218
            · have g221 : c.post = 0 := ne_f h209
              refine wp_skip (nx_then ?_)
              refine wp_seq ?_
              refine RG.start ?_
              refine S.quiet (k := 2) (keep := [2]) (m := 0) (σ' := ⟨[(2, .v (slv ((([] : List Int) ++ [2])).length q171.1))], []⟩) .nil (by kernel_rfl) ?_
              clear S; intro ac w β S
              refine RG.done rfl (nx_then ?_)
              refine wp_ret ?_
              refine S.ret (vs := [slv ((([] : List Int) ++ [2])).length q171.1]) (by kernel_rfl) ?_
              exact ret1_of S (show f_ctlFaults c = (([] : List Int) ++ [2]) by clear S; (unfold f_ctlFaults; (repeat' split) <;> first | rfl | (exfalso; simp_all; done) | (exfalso; omega))) rfl o173
          · have g222 : ¬ (c.traps = 2) := ne_of_beq_false h207
            refine S.quiet (k := 4) (keep := [3, 37]) (m := 0) (σ' := ⟨[(3, .v (slv ((([] : List Int) ++ [2])).length q171.1)), (37, .v (B false))], []⟩) .nil (by kernel_rfl) ?_
            clear S; intro ac w β S
            refine RG.done rfl (nx_then ?_)
            refine S.cond (e := false) (by kernel_rfl) (fun hx => by cases hx) (fun _ => ?_)
            refine wp_skip (nx_then ?_)
            refine wp_seq ?_
            refine RG.start ?_
            refine S.quiet (k := 2) (keep := [2]) (m := 0) (σ' := ⟨[(2, .v (slv ((([] : List Int) ++ [2])).length q171.1))], []⟩) .nil (by kernel_rfl) ?_
            clear S; intro ac w β S
            refine RG.done rfl (nx_then ?_)
            refine wp_ret ?_
            refine S.ret (vs := [slv ((([] : List Int) ++ [2])).length q171.1]) (by kernel_rfl) ?_
            exact ret1_of S (show f_ctlFaults c = (([] : List Int) ++ [2]) by clear S; (unfold f_ctlFaults; (repeat' split) <;> first | rfl | (exfalso; simp_all; done) | (exfalso; omega))) rfl o173
      · have g223 : c.post = 0 := ne_f h176
        refine S.quiet (k := 4) (keep := [1, 3, 26]) (m := 1) (σ' := ⟨[(1, .p 0 0), (3, .v (slv ((([] : List Int) ++ [2])).length q171.1)), (26, .v (B false))], [GT.cells (α := TCtl) c ()]⟩) .nil (by kernel_rfl) ?_
        clear S; intro ac w β S
        refine RG.done rfl (nx_then ?_)
        refine S.cond (e := false) (by kernel_rfl) (fun hx => by cases hx) (fun _ => ?_)
        refine wp_skip (nx_then ?_)
        refine wp_seq ?_
        refine wp_seq ?_
        refine RG.start ?_
        refine S.quiet (k := 4) (keep := [1, 3, 33]) (m := 1) (σ' := ⟨[(1, .p 0 0), (3, .v (slv ((([] : List Int) ++ [2])).length q171.1)), (33, .v (B (c.traps == 2)))], [GT.cells (α := TCtl) c ()]⟩) .nil (by kernel_rfl) ?_
        clear S; intro ac w β S
        rcases Bool.eq_false_or_eq_true (c.traps == 2) with h224 | h224 <;> rw [h224] at S
        · have g225 : c.traps = 2 := eq_of_beq h224
          refine S.quiet (k := 4) (keep := [3, 37]) (m := 0) (σ' := ⟨[(3, .v (slv ((([] : List Int) ++ [2])).length q171.1)), (37, .v (B (c.post != 0)))], []⟩) .nil (by kernel_rfl) ?_
          clear S; intro ac w β S
          refine RG.done rfl (nx_then ?_)
          refine S.cond (e := (c.post != 0)) (by kernel_rfl) (fun h226 => ?_) (fun h226 => ?_)
          · have g227 : ¬ (c.post = 0) := bne_iff_ne.1 h226
            refine RG.start ?_
            refine S.quiet (k := 1) (keep := [38]) (m := 0) (σ' := ⟨[(38, .v (slv ((([] : List Int) ++ [2])).length q171.1))], []⟩) .nil (by kernel_rfl) ?_
            clear S; intro ac w β S
            refine RG.op rfl (S.bs1 (α := Int) (x := 4) (p := ()) (F := NoB) (show In64 4 from ⟨by decide, by decide⟩) (fun b h => False.elim h) (fun b h => False.elim h) (d := 39) (by kernel_rfl) ?_)
            clear S; intro ac w N q228 F229 S up o230 d231
            have d232 : Disj F172 F229 := d231 _ (fun b _ h => False.elim h) o173.sub
            replace o173 := o173.up up
            clear up d231
            refine RG.op rfl (S.appFlat (α := Int) o173 (o230.rn) (fun _ _ h => h) (by' := 8) (d := 40) (lx := ((([] : List Int) ++ [2])).length) (ly := 1) rfl rfl (by kernel_rfl) (show _ ≤ 4194304 by simp only [List.length_append, List.length_cons, List.length_nil]; omega) ?_)
            clear S; intro ac w N q233 F234 S up o235 d236
            have d237 : Disj F229 F234 := d236 _ (Disj.symm d232) o230.sub
            replace o230 := o230.upF (Disj.symm d232) up
            clear up d236
            refine S.quiet (k := 1) (keep := [3]) (m := 0) (σ' := ⟨[(3, .v (slv (((([] : List Int) ++ [2]) ++ [4])).length q233.1))], []⟩) .nil (by kernel_rfl) ?_
            clear S; intro ac w β S
            refine RG.done rfl (nx_then ?_)
            refine wp_seq ?_
            refine RG.start ?_
            refine S.quiet (k := 2) (keep := [2]) (m := 0) (σ' := ⟨[(2, .v (slv (((([] : List Int) ++ [2]) ++ [4])).length q233.1))], []⟩) .nil (by kernel_rfl) ?_
            clear S; intro ac w β S
            refine RG.done rfl (nx_then ?_)
            refine wp_ret ?_
            refine S.ret (vs := [slv (((([] : List Int) ++ [2]) ++ [4])).length q233.1]) (by kernel_rfl) ?_
            exact ret1_of S (show f_ctlFaults c = ((([] : List Int) ++ [2]) ++ [4]) by clear S; (unfold f_ctlFaults; (repeat' split) <;> first | rfl | (exfalso; simp_all; done) | (exfalso; omega))) rfl o235
          · have g238 : c.post = 0 := ne_f h226
            refine wp_skip (nx_then ?_)
            refine wp_seq ?_
            refine RG.start ?_
            refine S.quiet (k := 2) (keep := [2]) (m := 0) (σ' := ⟨[(2, .v (slv ((([] : List Int) ++ [2])).length q171.1))], []⟩) .nil (by kernel_rfl) ?_
            clear S; intro ac w β S
            refine RG.done rfl (nx_then ?_)
            refine wp_ret ?_
            refine S.ret (vs := [slv ((([] : List Int) ++ [2])).length q171.1]) (by kernel_rfl) ?_
            exact ret1_of S (show f_ctlFaults c = (([] : List Int) ++ [2]) by clear S; (unfold f_ctlFaults; (repeat' split) <;> first | rfl | (exfalso; simp_all; done) | (exfalso; omega))) rfl o173
        · have g239 : ¬ (c.traps = 2) := ne_of_beq_false h224
          refine S.quiet (k := 4) (keep := [3, 37]) (m := 0) (σ' := ⟨[(3, .v (slv ((([] : List Int) ++ [2])).length q171.1)), (37, .v (B false))], []⟩) .nil (by kernel_rfl) ?_
          clear S; intro ac w β S
          refine RG.done rfl (nx_then ?_)
          refine S.cond (e := false) (by kernel_rfl) (fun hx => by cases hx) (fun _ => ?_)
          refine wp_skip (nx_then ?_)
          refine wp_seq ?_
          refine RG.start ?_
          refine S.quiet (k := 2) (keep := [2]) (m := 0) (σ' := ⟨[(2, .v (slv ((([] : List Int) ++ [2])).length q171.1))], []⟩) .nil (by kernel_rfl) ?_
          clear S; intro ac w β S
          refine RG.done rfl (nx_then ?_)
          refine wp_ret ?_
          refine S.ret (vs := [slv ((([] : List Int) ++ [2])).length q171.1]) (by kernel_rfl) ?_
          exact ret1_of S (show f_ctlFaults c = (([] : List Int) ++ [2]) by clear S; (unfold f_ctlFaults; (repeat' split) <;> first | rfl | (exfalso; simp_all; done) | (exfalso; omega))) rfl o173
    · have h240 : (f_within c.post 0 255) = true := not_f h163
      have g241 := within_t h240
      refine wp_skip (nx_then ?_)
      refine wp_seq ?_
      refine wp_seq ?_
      refine RG.start ?_
      refine S.quiet (k := 4) (keep := [1, 3, 22]) (m := 1) (σ' := ⟨[(1, .p 0 0), (3, .v (slv 0 q1.1)), (22, .v (B (c.post != 0)))], [GT.cells (α := TCtl) c ()]⟩) .nil (by kernel_rfl) ?_
      clear S; intro ac w β S
      rcases Bool.eq_false_or_eq_true (c.post != 0) with h242 | h242 <;> rw [h242] at S
      · have g243 : ¬ (c.post = 0) := bne_iff_ne.1 h242
        refine S.quiet (k := 4) (keep := [1, 3, 26]) (m := 1) (σ' := ⟨[(1, .p 0 0), (3, .v (slv 0 q1.1)), (26, .v (B (!c.opn)))], [GT.cells (α := TCtl) c ()]⟩) .nil (by kernel_rfl) ?_
        clear S; intro ac w β S
        refine RG.done rfl (nx_then ?_)
        refine S.cond (e := (!c.opn)) (by kernel_rfl) (fun h244 => ?_) (fun h244 => ?_)
        · have h245 : c.opn = false := not_t h244
          refine RG.start ?_
          refine S.quiet (k := 1) (keep := [1, 27]) (m := 1) (σ' := ⟨[(1, .p 0 0), (27, .v (slv 0 q1.1))], [GT.cells (α := TCtl) c ()]⟩) .nil (by kernel_rfl) ?_
          clear S; intro ac w β S
          refine RG.op rfl (S.bs1 (α := Int) (x := 3) (p := ()) (F := NoB) (show In64 3 from ⟨by decide, by decide⟩) (fun b h => False.elim h) (fun b h => False.elim h) (d := 28) (by kernel_rfl) ?_)
          clear S; intro ac w N q246 F247 S up o248 d249
          have d250 : Disj F2 F247 := d249 _ (fun b _ h => False.elim h) o3.sub
          replace o3 := o3.up up
          clear up d249
          refine RG.op rfl (S.appFlat (α := Int) o3 (o248.rn) (fun _ _ h => h) (by' := 8) (d := 29) (lx := 0) (ly := 1) rfl rfl (by kernel_rfl) (show _ ≤ 4194304 by simp only [List.length_append, List.length_cons, List.length_nil]; omega) ?_)
          clear S; intro ac w N q251 F252 S up o253 d254
          have d255 : Disj F247 F252 := d254 _ (Disj.symm d250) o248.sub
          replace o248 := o248.upF (Disj.symm d250) up
          clear up d254
          refine S.quiet (k := 1) (keep := [1, 3]) (m := 1) (σ' := ⟨[(1, .p 0 0), (3, .v (slv ((([] : List Int) ++ [3])).length q251.1))], [GT.cells (α := TCtl) c ()]⟩) .nil (by kernel_rfl) ?_
          clear S; intro ac w β S
          refine RG.done rfl (nx_then ?_)
          refine wp_seq ?_
          refine wp_seq ?_
          refine RG.start ?_
          refine S.quiet (k := 4) (keep := [1, 3, 33]) (m := 1) (σ' := ⟨[(1, .p 0 0), (3, .v (slv ((([] : List Int) ++ [3])).length q251.1)), (33, .v (B (c.traps == 2)))], [GT.cells (α := TCtl) c ()]⟩) .nil (by kernel_rfl) ?_
          clear S; intro ac w β S
          rcases Bool.eq_false_or_eq_true (c.traps == 2) with h256 | h256 <;> rw [h256] at S
          · have g257 : c.traps = 2 := eq_of_beq h256
            refine S.quiet (k := 4) (keep := [3, 37]) (m := 0) (σ' := ⟨[(3, .v (slv ((([] : List Int) ++ [3])).length q251.1)), (37, .v (B (c.post != 0)))], []⟩) .nil (by kernel_rfl) ?_
            clear S; intro ac w β S
            refine RG.done rfl (nx_then ?_)
            refine S.cond (e := (c.post != 0)) (by kernel_rfl) (fun h258 => ?_) (fun h258 => ?_)
            · have g259 : ¬ (c.post = 0) := bne_iff_ne.1 h258
              refine RG.start ?_
              refine S.quiet (k := 1) (keep := [38]) (m := 0) (σ' := ⟨[(38, .v (slv ((([] : List Int) ++ [3])).length q251.1))], []⟩) .nil (by kernel_rfl) ?_
              clear S; intro ac w β S
              refine RG.op rfl (S.bs1 (α := Int) (x := 4) (p := ()) (F := NoB) (show In64 4 from ⟨by decide, by decide⟩) (fun b h => False.elim h) (fun b h => False.elim h) (d := 39) (by kernel_rfl) ?_)
              clear S; intro ac w N q260 F261 S up o262 d263
              have d264 : Disj F252 F261 := d263 _ (fun b _ h => False.elim h) o253.sub
              replace o253 := o253.up up
              clear up d263
              refine RG.op rfl (S.appFlat (α := Int) o253 (o262.rn) (fun _ _ h => h) (by' := 8) (d := 40) (lx := ((([] : List Int) ++ [3])).length) (ly := 1) rfl rfl (by kernel_rfl) (show _ ≤ 4194304 by simp only [List.length_append, List.length_cons, List.length_nil]; omega) ?_)
              clear S; intro ac w N q265 F266 S up o267 d268
              have d269 : Disj F261 F266 := d268 _ (Disj.symm d264) o262.sub
              replace o262 := o262.upF (Disj.symm d264) up
              clear up d268
              refine S.quiet (k := 1) (keep := [3]) (m := 0) (σ' := ⟨[(3, .v (slv (((([] : List Int) ++ [3]) ++ [4])).length q265.1))], []⟩) .nil (by kernel_rfl) ?_
              clear S; intro ac w β S
              refine RG.done rfl (nx_then ?_)
              refine wp_seq ?_
              refine RG.start ?_
              refine S.quiet (k := 2) (keep := [2]) (m := 0) (σ' := ⟨[(2, .v (slv (((([] : List Int) ++ [3]) ++ [4])).length q265.1))], []⟩) .nil (by kernel_rfl) ?_
              clear S; intro ac w β S
              refine RG.done rfl (nx_then ?_)
              refine wp_ret ?_
              refine S.ret (vs := [slv (((([] : List Int) ++ [3]) ++ [4])).length q265.1]) (by kernel_rfl) ?_
              exact ret1_of S (show f_ctlFaults c = ((([] : List Int) ++ [3]) ++ [4]) by clear S; (unfold f_ctlFaults; (repeat' split) <;> first | rfl | (exfalso; simp_all; done) | (exfalso; omega))) rfl o267
            · have g270 : c.post = 0 := ne_f h258
              refine wp_skip (nx_then ?_)
              refine wp_seq ?_
              refine RG.start ?_
              refine S.quiet (k := 2) (keep := [2]) (m := 0) (σ' := ⟨[(2, .v (slv ((([] : List Int) ++ [3])).length q251.1))], []⟩) .nil (by kernel_rfl) ?_
              clear S; intro ac w β S
              refine RG.done rfl (nx_then ?_)
              refine wp_ret ?_
              refine S.ret (vs := [slv ((([] : List Int) ++ [3])).length q251.1]) (by kernel_rfl) ?_
              exact ret1_of S (show f_ctlFaults c = (([] : List Int) ++ [3]) by clear S; (unfold f_ctlFaults; (repeat' split) <;> first | rfl | (exfalso; simp_all; done) | (exfalso; omega))) rfl o253
          · have g271 : ¬ (c.traps = 2) := ne_of_beq_false h256
            refine S.quiet (k := 4) (keep := [3, 37]) (m := 0) (σ' := ⟨[(3, .v (slv ((([] : List Int) ++ [3])).length q251.1)), (37, .v (B false))], []⟩) .nil (by kernel_rfl) ?_
            clear S; intro ac w β S
            refine RG.done rfl (nx_then ?_)
            refine S.cond (e := false) (by kernel_rfl) (fun hx => by cases hx) (fun _ => ?_)
            refine wp_skip (nx_then ?_)
            refine wp_seq ?_
            refine RG.start ?_
            refine S.quiet (k := 2) (keep := [2]) (m := 0) (σ' := ⟨[(2, .v (slv ((([] : List Int) ++ [3])).length q251.1))], []⟩) .nil (by kernel_rfl) ?_
            clear S; intro ac w β S
            refine RG.done rfl (nx_then ?_)
            refine wp_ret ?_
            refine S.ret (vs := [slv ((([] : List Int) ++ [3])).length q251.1]) (by kernel_rfl) ?_
            exact ret1_of S (show f_ctlFaults c = (([] : List Int) ++ [3]) by clear S; (unfold f_ctlFaults; (repeat' split) <;> first | rfl | (exfalso; simp_all; done) | (exfalso; omega))) rfl o253
        · have h272 : c.opn = true := not_f h244
          refine wp_skip (nx_then ?_)
          refine wp_seq ?_
          refine wp_seq ?_
          refine RG.start ?_
          refine S.quiet (k := 4) (keep := [1, 3, 33]) (m := 1) (σ' := ⟨[(1, .p 0 0), (3, .v (slv 0 q1.1)), (33, .v (B (c.traps == 2)))], [GT.cells (α := TCtl) c ()]⟩) .nil (by kernel_rfl) ?_
          clear S; intro ac w β S
          rcases Bool.eq_false_or_eq_true (c.traps == 2) with h273 | h273 <;> rw [h273] at S
          · have g274 : c.traps = 2 := eq_of_beq h273
            refine S.quiet (k := 4) (keep := [3, 37]) (m := 0) (σ' := ⟨[(3, .v (slv 0 q1.1)), (37, .v (B (c.post != 0)))], []⟩) .nil (by kernel_rfl) ?_
            clear S; intro ac w β S
            refine RG.done rfl (nx_then ?_)
            refine S.cond (e := (c.post != 0)) (by kernel_rfl) (fun h275 => ?_) (fun h275 => ?_)
            · have g276 : ¬ (c.post = 0) := bne_iff_ne.1 h275
              refine RG.start ?_
              refine S.quiet (k := 1) (keep := [38]) (m := 0) (σ' := ⟨[(38, .v (slv 0 q1.1))], []⟩) .nil (by kernel_rfl) ?_
              clear S; intro ac w β S
              refine RG.op rfl (S.bs1 (α := Int) (x := 4) (p := ()) (F := NoB) (show In64 4 from ⟨by decide, by decide⟩) (fun b h => False.elim h) (fun b h => False.elim h) (d := 39) (by kernel_rfl) ?_)
              clear S; intro ac w N q277 F278 S up o279 d280
              have d281 : Disj F2 F278 := d280 _ (fun b _ h => False.elim h) o3.sub
              replace o3 := o3.up up
              clear up d280
              refine RG.op rfl (S.appFlat (α := Int) o3 (o279.rn) (fun _ _ h => h) (by' := 8) (d := 40) (lx := 0) (ly := 1) rfl rfl (by kernel_rfl) (show _ ≤ 4194304 by simp only [List.length_append, List.length_cons, List.length_nil]; omega) ?_)
              clear S; intro ac w N q282 F283 S up o284 d285
              have d286 : Disj F278 F283 := d285 _ (Disj.symm d281) o279.sub
              replace o279 := o279.upF (Disj.symm d281) up
              clear up d285
              refine S.quiet (k := 1) (keep := [3]) (m := 0) (σ' := ⟨[(3, .v (slv ((([] : List Int) ++ [4])).length q282.1))], []⟩) .nil (by kernel_rfl) ?_
              clear S; intro ac w β S
              refine RG.done rfl (nx_then ?_)
              refine wp_seq ?_
              refine RG.start ?_
              refine S.quiet (k := 2) (keep := [2]) (m := 0) (σ' := ⟨[(2, .v (slv ((([] : List Int) ++ [4])).length q282.1))], []⟩) .nil (by kernel_rfl) ?_
              clear S; intro ac w β S
              refine RG.done rfl (nx_then ?_)
              refine wp_ret ?_
              refine S.ret (vs := [slv ((([] : List Int) ++ [4])).length q282.1]) (by kernel_rfl) ?_
              exact ret1_of S (show f_ctlFaults c = (([] : List Int) ++ [4]) by clear S; (unfold f_ctlFaults; (repeat' split) <;> first | rfl | (exfalso; simp_all; done) | (exfalso; omega))) rfl o284
            · have g287 : c.post = 0 := ne_f h275
              refine wp_skip (nx_then ?_)
              refine wp_seq ?_
              refine RG.start ?_
              refine S.quiet (k := 2) (keep := [2]) (m := 0) (σ' := ⟨[(2, .v (slv 0 q1.1))], []⟩) .nil (by kernel_rfl) ?_
              clear S; intro ac w β S
              refine RG.done rfl (nx_then ?_)
              refine wp_ret ?_
              refine S.ret (vs := [slv 0 q1.1]) (by kernel_rfl) ?_
              exact ret1_of S (show f_ctlFaults c = ([] : List Int) by clear S; (unfold f_ctlFaults; (repeat' split) <;> first | rfl | (exfalso; simp_all; done) | (exfalso; omega))) (by rw [show 0 = (([] : List Int)).length from rfl]; rfl) o3
          · have g288 : ¬ (c.traps = 2) := ne_of_beq_false h273
            refine S.quiet (k := 4) (keep := [3, 37]) (m := 0) (σ' := ⟨[(3, .v (slv 0 q1.1)), (37, .v (B false))], []⟩) .nil (by kernel_rfl) ?_
            clear S; intro ac w β S
            refine RG.done rfl (nx_then ?_)
            refine S.cond (e := false) (by kernel_rfl) (fun hx => by cases hx) (fun _ => ?_)
            refine wp_skip (nx_then ?_)
            refine wp_seq ?_
            refine RG.start ?_
            refine S.quiet (k := 2) (keep := [2]) (m := 0) (σ' := ⟨[(2, .v (slv 0 q1.1))], []⟩) .nil (by kernel_rfl) ?_
            clear S; intro ac w β S
            refine RG.done rfl (nx_then ?_)
            refine wp_ret ?_
            refine S.ret (vs := [slv 0 q1.1]) (by kernel_rfl) ?_
            exact ret1_of S (show f_ctlFaults c = ([] : List Int) by clear S; (unfold f_ctlFaults; (repeat' split) <;> first | rfl | (exfalso; simp_all; done) | (exfalso; omega))) (by rw [show 0 = (([] : List Int)).length from rfl]; rfl) o3
      · have g289 : c.post = 0 := ne_f h242
        refine S.quiet (k := 4) (keep := [1, 3, 26]) (m := 1) (σ' := ⟨[(1, .p 0 0), (3, .v (slv 0 q1.1)), (26, .v (B false))], [GT.cells (α := TCtl) c ()]⟩) .nil (by kernel_rfl) ?_
        clear S; intro ac w β S
        refine RG.done rfl (nx_then ?_)
        refine S.cond (e := false) (by kernel_rfl) (fun hx => by cases hx) (fun _ => ?_)
        refine wp_skip (nx_then ?_)
        refine wp_seq ?_
        refine wp_seq ?_
        refine RG.start ?_
        refine S.quiet (k := 4) (keep := [1, 3, 33]) (m := 1) (σ' := ⟨[(1, .p 0 0), (3, .v (slv 0 q1.1)), (33, .v (B (c.traps == 2)))], [GT.cells (α := TCtl) c ()]⟩) .nil (by kernel_rfl) ?_
        clear S; intro ac w β S
        rcases Bool.eq_false_or_eq_true (c.traps == 2) with h290 | h290 <;> rw [h290] at S
        · have g291 : c.traps = 2 := eq_of_beq h290
          refine S.quiet (k := 4) (keep := [3, 37]) (m := 0) (σ' := ⟨[(3, .v (slv 0 q1.1)), (37, .v (B (c.post != 0)))], []⟩) .nil (by kernel_rfl) ?_
          clear S; intro ac w β S
          refine RG.done rfl (nx_then ?_)
          refine S.cond (e := (c.post != 0)) (by kernel_rfl) (fun h292 => ?_) (fun h292 => ?_)
          · have g293 : ¬ (c.post = 0) := bne_iff_ne.1 h292
            refine RG.start ?_
            refine S.quiet (k := 1) (keep := [38]) (m := 0) (σ' := ⟨[(38, .v (slv 0 q1.1))], []⟩) .nil (by kernel_rfl) ?_
            clear S; intro ac w β S
            refine RG.op rfl (S.bs1 (α := Int) (x := 4) (p := ()) (F := NoB) (show In64 4 from ⟨by decide, by decide⟩) (fun b h => False.elim h) (fun b h => False.elim h) (d := 39) (by kernel_rfl) ?_)
            clear S; intro ac w N q294 F295 S up o296 d297
            have d298 : Disj F2 F295 := d297 _ (fun b _ h => False.elim h) o3.sub
            replace o3 := o3.up up
            clear up d297
            refine RG.op rfl (S.appFlat (α := Int) o3 (o296.rn) (fun _ _ h => h) (by' := 8) (d := 40) (lx := 0) (ly := 1) rfl rfl (by kernel_rfl) (show _ ≤ 4194304 by simp only [List.length_append, List.length_cons, List.length_nil]; omega) ?_)
            clear S; intro ac w N q299 F300 S up o301 d302
            have d303 : Disj F295 F300 := d302 _ (Disj.symm d298) o296.sub
            replace o296 := o296.upF (Disj.symm d298) up
            clear up d302
            refine S.quiet (k := 1) (keep := [3]) (m := 0) (σ' := ⟨[(3, .v (slv ((([] : List Int) ++ [4])).length q299.1))], []⟩) .nil (by kernel_rfl) ?_
            clear S; intro ac w β S
            refine RG.done rfl (nx_then ?_)
            refine wp_seq ?_
            refine RG.start ?_
            refine S.quiet (k := 2) (keep := [2]) (m := 0) (σ' := ⟨[(2, .v (slv ((([] : List Int) ++ [4])).length q299.1))], []⟩) .nil (by kernel_rfl) ?_
            clear S; intro ac w β S
            refine RG.done rfl (nx_then ?_)
            refine wp_ret ?_
            refine S.ret (vs := [slv ((([] : List Int) ++ [4])).length q299.1]) (by kernel_rfl) ?_
            exact ret1_of S (show f_ctlFaults c = (([] : List Int) ++ [4]) by clear S; (unfold f_ctlFaults; (repeat' split) <;> first | rfl | (exfalso; simp_all; done) | (exfalso; omega))) rfl o301
          · have g304 : c.post = 0 := ne_f h292
            refine wp_skip (nx_then ?_)
            refine wp_seq ?_
            refine RG.start ?_
            refine S.quiet (k := 2) (keep := [2]) (m := 0) (σ' := ⟨[(2, .v (slv 0 q1.1))], []⟩) .nil (by kernel_rfl) ?_
            clear S; intro ac w β S
            refine RG.done rfl (nx_then ?_)
            refine wp_ret ?_
            refine S.ret (vs := [slv 0 q1.1]) (by kernel_rfl) ?_
            exact ret1_of S (show f_ctlFaults c = ([] : List Int) by clear S; (unfold f_ctlFaults; (repeat' split) <;> first | rfl | (exfalso; simp_all; done) | (exfalso; omega))) (by rw [show 0 = (([] : List Int)).length from rfl]; rfl) o3
        · have g305 : ¬ (c.traps = 2) := ne_of_beq_false h290
          refine S.quiet (k := 4) (keep := [3, 37]) (m := 0) (σ' := ⟨[(3, .v (slv 0 q1.1)), (37, .v (B false))], []⟩) .nil (by kernel_rfl) ?_
          clear S; intro ac w β S
          refine RG.done rfl (nx_then ?_)
          refine S.cond (e := false) (by kernel_rfl) (fun hx => by cases hx) (fun _ => ?_)
          refine wp_skip (nx_then ?_)
          refine wp_seq ?_
          refine RG.start ?_
          refine S.quiet (k := 2) (keep := [2]) (m := 0) (σ' := ⟨[(2, .v (slv 0 q1.1))], []⟩) .nil (by kernel_rfl) ?_
          clear S; intro ac w β S
          refine RG.done rfl (nx_then ?_)
          refine wp_ret ?_
          refine S.ret (vs := [slv 0 q1.1]) (by kernel_rfl) ?_
          exact ret1_of S (show f_ctlFaults c = ([] : List Int) by clear S; (unfold f_ctlFaults; (repeat' split) <;> first | rfl | (exfalso; simp_all; done) | (exfalso; omega))) (by rw [show 0 = (([] : List Int)).length from rfl]; rfl) o3

set_option maxRecDepth 100000 in
theorem c_impl_CtlOk (w0 : World) (c : TCtl) : Calls Go.Proofs.Try.prog 169 [GT.val (α := TCtl) c ()].toArray w0 (fun e w' => e = .returned (B (f_ctlOk c)) ∧ Chg NoB w0 w') := by
  refine Calls.walk (args := [GT.val (α := TCtl) c ()]) NoB Go.Proofs.Try.func169 rfl rfl ?_
  intro ac β S
  refine wp_seq ?_
  refine RG.start ?_
  refine S.quiet (k := 2) (keep := [1]) (m := 1) (σ' := ⟨[(1, .p 0 0)], [GT.cells (α := TCtl) c ()]⟩) .nil (by kernel_rfl) ?_
  clear S; intro ac w β S
  refine RG.done rfl (nx_then ?_)
  refine wp_seq ?_
  refine RG.start ?_
  refine S.quiet (k := 1) (keep := [3]) (m := 0) (σ' := ⟨[(3, .v (GT.val (α := TCtl) c ()))], []⟩) .nil (by kernel_rfl) ?_
  clear S; intro ac w β S
  refine RG.op rfl (S.call1 (r := f_ctlFaults c) (d := 4) (c_impl_CtlFaults w c) (by kernel_rfl) rfl ?_)
  clear S; intro ac w N q1 F2 S up o3 d4
  clear up d4
  refine S.quiet (k := 3) (keep := [2]) (m := 0) (σ' := ⟨[(2, .v (B ((((f_ctlFaults c)).length : Int) == 0)))], []⟩) .nil (by kernel_rfl) ?_
  clear S; intro ac w β S
  refine RG.done rfl (nx_then ?_)
  refine wp_ret ?_
  refine S.ret (vs := [B ((((f_ctlFaults c)).length : Int) == 0)]) (by kernel_rfl) ?_
  exact ⟨retB (show ((((f_ctlFaults c)).length : Int) == 0) = f_ctlOk c by clear S; first | rfl | (simp [f_ctlOk, *]; done) | (simp [f_ctlOk, *]; omega) | (simp_all [f_ctlOk]; done) | (simp_all [f_ctlOk]; omega)), S.chg⟩

set_option maxRecDepth 100000 in
theorem c_impl_ExitOk (w0 : World) (x : TExit) : Calls Go.Proofs.Try.prog 170 [GT.val (α := TExit) x ()].toArray w0 (fun e w' => e = .returned (B (f_exitOk x)) ∧ Chg NoB w0 w') := by
  refine Calls.walk (args := [GT.val (α := TExit) x ()]) NoB Go.Proofs.Try.func170 rfl rfl ?_
  intro ac β S
  refine wp_seq ?_
  refine RG.start ?_
  refine S.quiet (k := 2) (keep := [1]) (m := 1) (σ' := ⟨[(1, .p 0 0)], [GT.cells (α := TExit) x ()]⟩) .nil (by kernel_rfl) ?_
  clear S; intro ac w β S
  refine RG.done rfl (nx_then ?_)
  refine wp_seq ?_
  refine wp_seq ?_
  refine RG.start ?_
  refine S.quiet (k := 2) (keep := [1, 4]) (m := 1) (σ' := ⟨[(1, .p 0 0), (4, .v (I x.kind))], [GT.cells (α := TExit) x ()]⟩) .nil (by kernel_rfl) ?_
  clear S; intro ac w β S
  refine RG.done rfl (nx_then ?_)
  refine wp_block ?_
  refine wp_seq ?_
  refine wp_seq ?_
  refine RG.start ?_
  refine S.quiet (k := 2) (keep := [1, 4, 5]) (m := 1) (σ' := ⟨[(1, .p 0 0), (4, .v (I x.kind)), (5, .v (B (x.kind == 0)))], [GT.cells (α := TExit) x ()]⟩) .nil (by kernel_rfl) ?_
  clear S; intro ac w β S
  refine RG.done rfl (nx_then ?_)
  refine S.cond (e := (x.kind == 0)) (by kernel_rfl) (fun h1 => ?_) (fun h1 => ?_)
  · rw [h1] at S
    have g2 : x.kind = 0 := eq_of_beq h1
    refine wp_skip (nx_then ?_)
    refine S.cond (e := true) (by kernel_rfl) (fun _ => ?_) (fun hx => by cases hx)
    refine wp_seq ?_
    refine RG.start ?_
    refine S.quiet (k := 4) (keep := [1, 11]) (m := 1) (σ' := ⟨[(1, .p 0 0), (11, .v (B (x.page == 0)))], [GT.cells (α := TExit) x ()]⟩) .nil (by kernel_rfl) ?_
    clear S; intro ac w β S
    rcases Bool.eq_false_or_eq_true (x.page == 0) with h3 | h3 <;> rw [h3] at S
    · have g4 : x.page = 0 := eq_of_beq h3
      refine S.quiet (k := 5) (keep := [1, 16]) (m := 1) (σ' := ⟨[(1, .p 0 0), (16, .v (B (!x.wr)))], [GT.cells (α := TExit) x ()]⟩) .nil (by kernel_rfl) ?_
      clear S; intro ac w β S
      rcases Bool.eq_false_or_eq_true (!x.wr) with h5 | h5 <;> rw [h5] at S
      · have h6 : x.wr = false := not_t h5
        refine S.quiet (k := 5) (keep := [2]) (m := 0) (σ' := ⟨[(2, .v (B (x.n == 0)))], []⟩) .nil (by kernel_rfl) ?_
        clear S; intro ac w β S
        refine RG.done rfl (nx_then ?_)
        refine wp_ret (rt_block (rt_then ?_))
        refine S.ret (vs := [B (x.n == 0)]) (by kernel_rfl) ?_
        exact ⟨retB (show (x.n == 0) = f_exitOk x by clear S; (unfold f_exitOk; (repeat' split) <;> first | rfl | (exfalso; simp_all; done) | (exfalso; omega) | (rw [Bool.eq_iff_iff]; simp [TExit.ext_iff, *]; done) | (rw [Bool.eq_iff_iff]; simp_all [TExit.ext_iff, and_assoc]; done) | (rw [Bool.eq_iff_iff]; simp_all [TExit.ext_iff, and_assoc]; omega))), S.chg⟩
      · have h7 : x.wr = true := not_f h5
        refine S.quiet (k := 5) (keep := [2]) (m := 0) (σ' := ⟨[(2, .v (B false))], []⟩) .nil (by kernel_rfl) ?_
        clear S; intro ac w β S
        refine RG.done rfl (nx_then ?_)
        refine wp_ret (rt_block (rt_then ?_))
        refine S.ret (vs := [B false]) (by kernel_rfl) ?_
        exact ⟨retB (show false = f_exitOk x by clear S; (unfold f_exitOk; (repeat' split) <;> first | rfl | (exfalso; simp_all; done) | (exfalso; omega) | (rw [Bool.eq_iff_iff]; simp [TExit.ext_iff, *]; done) | (rw [Bool.eq_iff_iff]; simp_all [TExit.ext_iff, and_assoc]; done) | (rw [Bool.eq_iff_iff]; simp_all [TExit.ext_iff, and_assoc]; omega))), S.chg⟩
    · have g8 : ¬ (x.page = 0) := ne_of_beq_false h3
      refine S.quiet (k := 10) (keep := [2]) (m := 0) (σ' := ⟨[(2, .v (B false))], []⟩) .nil (by kernel_rfl) ?_
      clear S; intro ac w β S
      refine RG.done rfl (nx_then ?_)
      refine wp_ret (rt_block (rt_then ?_))
      refine S.ret (vs := [B false]) (by kernel_rfl) ?_
      exact ⟨retB (show false = f_exitOk x by clear S; (unfold f_exitOk; (repeat' split) <;> first | rfl | (exfalso; simp_all; done) | (exfalso; omega) | (rw [Bool.eq_iff_iff]; simp [TExit.ext_iff, *]; done) | (rw [Bool.eq_iff_iff]; simp_all [TExit.ext_iff, and_assoc]; done) | (rw [Bool.eq_iff_iff]; simp_all [TExit.ext_iff, and_assoc]; omega))), S.chg⟩
  · have g9 : ¬ (x.kind = 0) := ne_of_beq_false h1
    refine RG.start ?_
    refine S.quiet (k := 2) (keep := [1, 4, 5]) (m := 1) (σ' := ⟨[(1, .p 0 0), (4, .v (I x.kind)), (5, .v (B (x.kind == 4)))], [GT.cells (α := TExit) x ()]⟩) .nil (by kernel_rfl) ?_
    clear S; intro ac w β S
    refine RG.done rfl (nx_then ?_)
    refine S.cond (e := (x.kind == 4)) (by kernel_rfl) (fun h10 => ?_) (fun h10 => ?_)
    · have g11 : x.kind = 4 := eq_of_beq h10
      refine wp_seq ?_
      refine RG.start ?_
      refine S.quiet (k := 4) (keep := [1, 11]) (m := 1) (σ' := ⟨[(1, .p 0 0), (11, .v (B (x.page == 0)))], [GT.cells (α := TExit) x ()]⟩) .nil (by kernel_rfl) ?_
      clear S; intro ac w β S
      rcases Bool.eq_false_or_eq_true (x.page == 0) with h12 | h12 <;> rw [h12] at S
      · have g13 : x.page = 0 := eq_of_beq h12
        refine S.quiet (k := 5) (keep := [1, 16]) (m := 1) (σ' := ⟨[(1, .p 0 0), (16, .v (B (!x.wr)))], [GT.cells (α := TExit) x ()]⟩) .nil (by kernel_rfl) ?_
        clear S; intro ac w β S
        rcases Bool.eq_false_or_eq_true (!x.wr) with h14 | h14 <;> rw [h14] at S
        · have h15 : x.wr = false := not_t h14
          refine S.quiet (k := 5) (keep := [2]) (m := 0) (σ' := ⟨[(2, .v (B (x.n == 0)))], []⟩) .nil (by kernel_rfl) ?_
          clear S; intro ac w β S
          refine RG.done rfl (nx_then ?_)
          refine wp_ret (rt_block (rt_then ?_))
          refine S.ret (vs := [B (x.n == 0)]) (by kernel_rfl) ?_
          exact ⟨retB (show (x.n == 0) = f_exitOk x by clear S; (unfold f_exitOk; (repeat' split) <;> first | rfl | (exfalso; simp_all; done) | (exfalso; omega) | (rw [Bool.eq_iff_iff]; simp [TExit.ext_iff, *]; done) | (rw [Bool.eq_iff_iff]; simp_all [TExit.ext_iff, and_assoc]; done) | (rw [Bool.eq_iff_iff]; simp_all [TExit.ext_iff, and_assoc]; omega))), S.chg⟩
        · have h16 : x.wr = true := not_f h14
          refine S.quiet (k := 5) (keep := [2]) (m := 0) (σ' := ⟨[(2, .v (B false))], []⟩) .nil (by kernel_rfl) ?_
          clear S; intro ac w β S
          refine RG.done rfl (nx_then ?_)
          refine wp_ret (rt_block (rt_then ?_))
          refine S.ret (vs := [B false]) (by kernel_rfl) ?_
          exact ⟨retB (show false = f_exitOk x by clear S; (unfold f_exitOk; (repeat' split) <;> first | rfl | (exfalso; simp_all; done) | (exfalso; omega) | (rw [Bool.eq_iff_iff]; simp [TExit.ext_iff, *]; done) | (rw [Bool.eq_iff_iff]; simp_all [TExit.ext_iff, and_assoc]; done) | (rw [Bool.eq_iff_iff]; simp_all [TExit.ext_iff, and_assoc]; omega))), S.chg⟩
      · have g17 : ¬ (x.page = 0) := ne_of_beq_false h12
        refine S.quiet (k := 10) (keep := [2]) (m := 0) (σ' := ⟨[(2, .v (B false))], []⟩) .nil (by kernel_rfl) ?_
        clear S; intro ac w β S
        refine RG.done rfl (nx_then ?_)
        refine wp_ret (rt_block (rt_then ?_))
        refine S.ret (vs := [B false]) (by kernel_rfl) ?_
        exact ⟨retB (show false = f_exitOk x by clear S; (unfold f_exitOk; (repeat' split) <;> first | rfl | (exfalso; simp_all; done) | (exfalso; omega) | (rw [Bool.eq_iff_iff]; simp [TExit.ext_iff, *]; done) | (rw [Bool.eq_iff_iff]; simp_all [TExit.ext_iff, and_assoc]; done) | (rw [Bool.eq_iff_iff]; simp_all [TExit.ext_iff, and_assoc]; omega))), S.chg⟩
    · have g18 : ¬ (x.kind = 4) := ne_of_beq_false h10
      refine wp_seq ?_
      refine RG.start ?_
      refine S.quiet (k := 2) (keep := [1, 4, 21]) (m := 1) (σ' := ⟨[(1, .p 0 0), (4, .v (I x.kind)), (21, .v (B (x.kind == 1)))], [GT.cells (α := TExit) x ()]⟩) .nil (by kernel_rfl) ?_
      clear S; intro ac w β S
      refine RG.done rfl (nx_then ?_)
      refine S.cond (e := (x.kind == 1)) (by kernel_rfl) (fun h19 => ?_) (fun h19 => ?_)
      · have g20 : x.kind = 1 := eq_of_beq h19
        refine wp_seq ?_
        refine RG.start ?_
        refine S.quiet (k := 4) (keep := [1, 26]) (m := 1) (σ' := ⟨[(1, .p 0 0), (26, .v (B (f_within x.page 0 3)))], [GT.cells (α := TExit) x ()]⟩) (.cons (Q_call fun w hw => c_impl_within w x.page 0 3) .nil) (by kernel_rfl) ?_
        clear S; intro ac w β S
        rcases Bool.eq_false_or_eq_true (f_within x.page 0 3) with h21 | h21 <;> rw [h21] at S
        · have g22 := within_t h21
          refine S.quiet (k := 5) (keep := [2]) (m := 0) (σ' := ⟨[(2, .v (B (x.n == 0)))], []⟩) .nil (by kernel_rfl) ?_
          clear S; intro ac w β S
          refine RG.done rfl (nx_then ?_)
          refine wp_ret (rt_block (rt_then ?_))
          refine S.ret (vs := [B (x.n == 0)]) (by kernel_rfl) ?_
          exact ⟨retB (show (x.n == 0) = f_exitOk x by clear S; (unfold f_exitOk; (repeat' split) <;> first | rfl | (exfalso; simp_all; done) | (exfalso; omega) | (rw [Bool.eq_iff_iff]; simp [TExit.ext_iff, *]; done) | (rw [Bool.eq_iff_iff]; simp_all [TExit.ext_iff, and_assoc]; done) | (rw [Bool.eq_iff_iff]; simp_all [TExit.ext_iff, and_assoc]; omega))), S.chg⟩
        · have g23 := within_f h21
          refine S.quiet (k := 5) (keep := [2]) (m := 0) (σ' := ⟨[(2, .v (B false))], []⟩) .nil (by kernel_rfl) ?_
          clear S; intro ac w β S
          refine RG.done rfl (nx_then ?_)
          refine wp_ret (rt_block (rt_then ?_))
          refine S.ret (vs := [B false]) (by kernel_rfl) ?_
          exact ⟨retB (show false = f_exitOk x by clear S; (unfold f_exitOk; (repeat' split) <;> first | rfl | (exfalso; simp_all; done) | (exfalso; omega) | (rw [Bool.eq_iff_iff]; simp [TExit.ext_iff, *]; done) | (rw [Bool.eq_iff_iff]; simp_all [TExit.ext_iff, and_assoc]; done) | (rw [Bool.eq_iff_iff]; simp_all [TExit.ext_iff, and_assoc]; omega))), S.chg⟩
      · have g24 : ¬ (x.kind = 1) := ne_of_beq_false h19
        refine wp_seq ?_
        refine wp_seq ?_
        refine RG.start ?_
        refine S.quiet (k := 2) (keep := [1, 4, 31]) (m := 1) (σ' := ⟨[(1, .p 0 0), (4, .v (I x.kind)), (31, .v (B (x.kind == 2)))], [GT.cells (α := TExit) x ()]⟩) .nil (by kernel_rfl) ?_
        clear S; intro ac w β S
        refine RG.done rfl (nx_then ?_)
        refine S.cond (e := (x.kind == 2)) (by kernel_rfl) (fun h25 => ?_) (fun h25 => ?_)
        · rw [h25] at S
          have g26 : x.kind = 2 := eq_of_beq h25
          refine wp_skip (nx_then ?_)
          refine S.cond (e := true) (by kernel_rfl) (fun _ => ?_) (fun hx => by cases hx)
          refine wp_seq ?_
          refine RG.start ?_
          refine S.quiet (k := 4) (keep := [1, 37]) (m := 1) (σ' := ⟨[(1, .p 0 0), (37, .v (B (f_within x.n 0 99)))], [GT.cells (α := TExit) x ()]⟩) (.cons (Q_call fun w hw => c_impl_within w x.n 0 99) .nil) (by kernel_rfl) ?_
          clear S; intro ac w β S
          rcases Bool.eq_false_or_eq_true (f_within x.n 0 99) with h27 | h27 <;> rw [h27] at S
          · have g28 := within_t h27
            refine S.quiet (k := 5) (keep := [1, 42]) (m := 1) (σ' := ⟨[(1, .p 0 0), (42, .v (B (x.page == 0)))], [GT.cells (α := TExit) x ()]⟩) .nil (by kernel_rfl) ?_
            clear S; intro ac w β S
            rcases Bool.eq_false_or_eq_true (x.page == 0) with h29 | h29 <;> rw [h29] at S
            · have g30 : x.page = 0 := eq_of_beq h29
              refine S.quiet (k := 5) (keep := [2]) (m := 0) (σ' := ⟨[(2, .v (B (!x.wr)))], []⟩) .nil (by kernel_rfl) ?_
              clear S; intro ac w β S
              refine RG.done rfl (nx_then ?_)
              refine wp_ret (rt_block (rt_then ?_))
              refine S.ret (vs := [B (!x.wr)]) (by kernel_rfl) ?_
              exact ⟨retB (show (!x.wr) = f_exitOk x by clear S; (unfold f_exitOk; (repeat' split) <;> first | rfl | (exfalso; simp_all; done) | (exfalso; omega) | (rw [Bool.eq_iff_iff]; simp [TExit.ext_iff, *]; done) | (rw [Bool.eq_iff_iff]; simp_all [TExit.ext_iff, and_assoc]; done) | (rw [Bool.eq_iff_iff]; simp_all [TExit.ext_iff, and_assoc]; omega))), S.chg⟩
            · have g31 : ¬ (x.page = 0) := ne_of_beq_false h29
              refine S.quiet (k := 5) (keep := [2]) (m := 0) (σ' := ⟨[(2, .v (B false))], []⟩) .nil (by kernel_rfl) ?_
              clear S; intro ac w β S
              refine RG.done rfl (nx_then ?_)
              refine wp_ret (rt_block (rt_then ?_))
              refine S.ret (vs := [B false]) (by kernel_rfl) ?_
              exact ⟨retB (show false = f_exitOk x by clear S; (unfold f_exitOk; (repeat' split) <;> first | rfl | (exfalso; simp_all; done) | (exfalso; omega) | (rw [Bool.eq_iff_iff]; simp [TExit.ext_iff, *]; done) | (rw [Bool.eq_iff_iff]; simp_all [TExit.ext_iff, and_assoc]; done) | (rw [Bool.eq_iff_iff]; simp_all [TExit.ext_iff, and_assoc]; omega))), S.chg⟩
          · have g32 := within_f h27
            refine S.quiet (k := 10) (keep := [2]) (m := 0) (σ' := ⟨[(2, .v (B false))], []⟩) .nil (by kernel_rfl) ?_
            clear S; intro ac w β S
            refine RG.done rfl (nx_then ?_)
            refine wp_ret (rt_block (rt_then ?_))
            refine S.ret (vs := [B false]) (by kernel_rfl) ?_
            exact ⟨retB (show false = f_exitOk x by clear S; (unfold f_exitOk; (repeat' split) <;> first | rfl | (exfalso; simp_all; done) | (exfalso; omega) | (rw [Bool.eq_iff_iff]; simp [TExit.ext_iff, *]; done) | (rw [Bool.eq_iff_iff]; simp_all [TExit.ext_iff, and_assoc]; done) | (rw [Bool.eq_iff_iff]; simp_all [TExit.ext_iff, and_assoc]; omega))), S.chg⟩
        · have g33 : ¬ (x.kind = 2) := ne_of_beq_false h25
          refine RG.start ?_
          refine S.quiet (k := 2) (keep := [1, 31]) (m := 1) (σ' := ⟨[(1, .p 0 0), (31, .v (B (x.kind == 3)))], [GT.cells (α := TExit) x ()]⟩) .nil (by kernel_rfl) ?_
          clear S; intro ac w β S
          refine RG.done rfl (nx_then ?_)
          refine S.cond (e := (x.kind == 3)) (by kernel_rfl) (fun h34 => ?_) (fun h34 => ?_)
          · have g35 : x.kind = 3 := eq_of_beq h34
            refine wp_seq ?_
            refine RG.start ?_
            refine S.quiet (k := 4) (keep := [1, 37]) (m := 1) (σ' := ⟨[(1, .p 0 0), (37, .v (B (f_within x.n 0 99)))], [GT.cells (α := TExit) x ()]⟩) (.cons (Q_call fun w hw => c_impl_within w x.n 0 99) .nil) (by kernel_rfl) ?_
            clear S; intro ac w β S
            rcases Bool.eq_false_or_eq_true (f_within x.n 0 99) with h36 | h36 <;> rw [h36] at S
            · have g37 := within_t h36
              refine S.quiet (k := 5) (keep := [1, 42]) (m := 1) (σ' := ⟨[(1, .p 0 0), (42, .v (B (x.page == 0)))], [GT.cells (α := TExit) x ()]⟩) .nil (by kernel_rfl) ?_
              clear S; intro ac w β S
              rcases Bool.eq_false_or_eq_true (x.page == 0) with h38 | h38 <;> rw [h38] at S
              · have g39 : x.page = 0 := eq_of_beq h38
                refine S.quiet (k := 5) (keep := [2]) (m := 0) (σ' := ⟨[(2, .v (B (!x.wr)))], []⟩) .nil (by kernel_rfl) ?_
                clear S; intro ac w β S
                refine RG.done rfl (nx_then ?_)
                refine wp_ret (rt_block (rt_then ?_))
                refine S.ret (vs := [B (!x.wr)]) (by kernel_rfl) ?_
                exact ⟨retB (show (!x.wr) = f_exitOk x by clear S; (unfold f_exitOk; (repeat' split) <;> first | rfl | (exfalso; simp_all; done) | (exfalso; omega) | (rw [Bool.eq_iff_iff]; simp [TExit.ext_iff, *]; done) | (rw [Bool.eq_iff_iff]; simp_all [TExit.ext_iff, and_assoc]; done) | (rw [Bool.eq_iff_iff]; simp_all [TExit.ext_iff, and_assoc]; omega))), S.chg⟩
              · have g40 : ¬ (x.page = 0) := ne_of_beq_false h38
                refine S.quiet (k := 5) (keep := [2]) (m := 0) (σ' := ⟨[(2, .v (B false))], []⟩) .nil (by kernel_rfl) ?_
                clear S; intro ac w β S
                refine RG.done rfl (nx_then ?_)
                refine wp_ret (rt_block (rt_then ?_))
                refine S.ret (vs := [B false]) (by kernel_rfl) ?_
                exact ⟨retB (show false = f_exitOk x by clear S; (unfold f_exitOk; (repeat' split) <;> first | rfl | (exfalso; simp_all; done) | (exfalso; omega) | (rw [Bool.eq_iff_iff]; simp [TExit.ext_iff, *]; done) | (rw [Bool.eq_iff_iff]; simp_all [TExit.ext_iff, and_assoc]; done) | (rw [Bool.eq_iff_iff]; simp_all [TExit.ext_iff, and_assoc]; omega))), S.chg⟩
            · have g41 := within_f h36
              refine S.quiet (k := 10) (keep := [2]) (m := 0) (σ' := ⟨[(2, .v (B false))], []⟩) .nil (by kernel_rfl) ?_
              clear S; intro ac w β S
              refine RG.done rfl (nx_then ?_)
              refine wp_ret (rt_block (rt_then ?_))
              refine S.ret (vs := [B false]) (by kernel_rfl) ?_
              exact ⟨retB (show false = f_exitOk x by clear S; (unfold f_exitOk; (repeat' split) <;> first | rfl | (exfalso; simp_all; done) | (exfalso; omega) | (rw [Bool.eq_iff_iff]; simp [TExit.ext_iff, *]; done) | (rw [Bool.eq_iff_iff]; simp_all [TExit.ext_iff, and_assoc]; done) | (rw [Bool.eq_iff_iff]; simp_all [TExit.ext_iff, and_assoc]; omega))), S.chg⟩
          · have g42 : ¬ (x.kind = 3) := ne_of_beq_false h34
            refine wp_skip (nx_block (nx_then ?_))
            refine wp_seq ?_
            refine RG.start ?_
            refine S.quiet (k := 1) (keep := [2]) (m := 0) (σ' := ⟨[(2, .v (B false))], []⟩) .nil (by kernel_rfl) ?_
            clear S; intro ac w β S
            refine RG.done rfl (nx_then ?_)
            refine wp_ret ?_
            refine S.ret (vs := [B false]) (by kernel_rfl) ?_
            exact ⟨retB (show false = f_exitOk x by clear S; (unfold f_exitOk; (repeat' split) <;> first | rfl | (exfalso; simp_all; done) | (exfalso; omega) | (rw [Bool.eq_iff_iff]; simp [TExit.ext_iff, *]; done) | (rw [Bool.eq_iff_iff]; simp_all [TExit.ext_iff, and_assoc]; done) | (rw [Bool.eq_iff_iff]; simp_all [TExit.ext_iff, and_assoc]; omega))), S.chg⟩

set_option maxRecDepth 100000 in
theorem c_impl_GuestOk (w0 : World) (g : TGuest) (pg : PGuest) (hg : GT.rd KK (Lt w0.heap.size) w0 g pg) : Calls Go.Proofs.Try.prog 130 [GT.val (α := TGuest) g pg].toArray w0 (fun e w' => e = .returned (B (f_guestOk g)) ∧ Chg NoB w0 w') := by
  refine Calls.walk (args := [GT.val (α := TGuest) g pg]) NoB Go.Proofs.Try.func130 rfl rfl ?_
  intro ac β S
  have hleg_prog : g.prog.length ≤ 4194304 := LRd.le (RGuest.prog (d := g) hg)
  have hleg_written : g.written.length ≤ 4194304 := LRd.le (RGuest.written (d := g) hg)
  have hleg_live : g.live.length ≤ 4194304 := LRd.le (RGuest.live (d := g) hg)
  have hleg_seen : g.seen.length ≤ 4194304 := LRd.le (RGuest.seen (d := g) hg)
  refine wp_seq ?_
  refine RG.start ?_
  refine S.quiet (k := 2) (keep := [1]) (m := 1) (σ' := ⟨[(1, .p 0 0)], [GT.cells (α := TGuest) g pg]⟩) .nil (by kernel_rfl) ?_
  clear S; intro ac w β S
  refine RG.done rfl (nx_then ?_)
  refine wp_seq ?_
  refine RG.start ?_
  refine S.quiet (k := 4) (keep := [1, 6]) (m := 1) (σ' := ⟨[(1, .p 0 0), (6, .v (B (f_progOk g.prog)))], [GT.cells (α := TGuest) g pg]⟩) (.cons (Q_call fun w hw => c_impl_ProgOk w g.prog pg.prog (rd_of (RGuest.prog (d := g) (S.arg hg)) hw)) .nil) (by kernel_rfl) ?_
  clear S; intro ac w β S
  rcases Bool.eq_false_or_eq_true (f_progOk g.prog) with h1 | h1 <;> rw [h1] at S
  · refine S.quiet (k := 5) (keep := [1, 11]) (m := 1) (σ' := ⟨[(1, .p 0 0), (11, .v (B (f_within g.acc 0 99)))], [GT.cells (α := TGuest) g pg]⟩) (.cons (Q_call fun w hw => c_impl_within w g.acc 0 99) .nil) (by kernel_rfl) ?_
    clear S; intro ac w β S
    rcases Bool.eq_false_or_eq_true (f_within g.acc 0 99) with h2 | h2 <;> rw [h2] at S
    · have g3 := within_t h2
      refine S.quiet (k := 5) (keep := [1, 16]) (m := 1) (σ' := ⟨[(1, .p 0 0), (16, .v (B (f_within g.pc 0 12)))], [GT.cells (α := TGuest) g pg]⟩) (.cons (Q_call fun w hw => c_impl_within w g.pc 0 12) .nil) (by kernel_rfl) ?_
      clear S; intro ac w β S
      rcases Bool.eq_false_or_eq_true (f_within g.pc 0 12) with h4 | h4 <;> rw [h4] at S
      · have g5 := within_t h4
        refine S.quiet (k := 5) (keep := [1, 21]) (m := 1) (σ' := ⟨[(1, .p 0 0), (21, .v (B (f_tableOk g.written 4 8)))], [GT.cells (α := TGuest) g pg]⟩) (.cons (Q_call fun w hw => c_impl_TableOk w g.written pg.written (rd_of (RGuest.written (d := g) (S.arg hg)) hw) 4 8 (by omega) (by omega)) .nil) (by kernel_rfl) ?_
        clear S; intro ac w β S
        rcases Bool.eq_false_or_eq_true (f_tableOk g.written 4 8) with h6 | h6 <;> rw [h6] at S
        · have g7 := tableOk_t h6
          refine S.quiet (k := 5) (keep := [1, 26]) (m := 1) (σ' := ⟨[(1, .p 0 0), (26, .v (B (f_tableOk g.live 4 8)))], [GT.cells (α := TGuest) g pg]⟩) (.cons (Q_call fun w hw => c_impl_TableOk w g.live pg.live (rd_of (RGuest.live (d := g) (S.arg hg)) hw) 4 8 (by omega) (by omega)) .nil) (by kernel_rfl) ?_
          clear S; intro ac w β S
          rcases Bool.eq_false_or_eq_true (f_tableOk g.live 4 8) with h8 | h8 <;> rw [h8] at S
          · have g9 := tableOk_t h8
            refine S.quiet (k := 5) (keep := [1, 31]) (m := 1) (σ' := ⟨[(1, .p 0 0), (31, .v (B (f_ctlOk g.ctl)))], [GT.cells (α := TGuest) g pg]⟩) (.cons (Q_call fun w hw => c_impl_CtlOk w g.ctl) .nil) (by kernel_rfl) ?_
            clear S; intro ac w β S
            rcases Bool.eq_false_or_eq_true (f_ctlOk g.ctl) with h10 | h10 <;> rw [h10] at S
            · refine S.quiet (k := 5) (keep := [1, 36]) (m := 1) (σ' := ⟨[(1, .p 0 0), (36, .v (B (f_within g.pend 0 255)))], [GT.cells (α := TGuest) g pg]⟩) (.cons (Q_call fun w hw => c_impl_PendOk w g.pend) .nil) (by kernel_rfl) ?_
              clear S; intro ac w β S
              rcases Bool.eq_false_or_eq_true (f_within g.pend 0 255) with h11 | h11 <;> rw [h11] at S
              · have g12 := within_t h11
                refine S.quiet (k := 5) (keep := [1, 41]) (m := 1) (σ' := ⟨[(1, .p 0 0), (41, .v (B (f_exitOk g.exit)))], [GT.cells (α := TGuest) g pg]⟩) (.cons (Q_call fun w hw => c_impl_ExitOk w g.exit) .nil) (by kernel_rfl) ?_
                clear S; intro ac w β S
                rcases Bool.eq_false_or_eq_true (f_exitOk g.exit) with h13 | h13 <;> rw [h13] at S
                · refine S.quiet (k := 6) (keep := [2]) (m := 0) (σ' := ⟨[(2, .v (B (decide (((g.seen).length : Int) ≤ 40))))], []⟩) .nil (by kernel_rfl) ?_
                  clear S; intro ac w β S
                  refine RG.done rfl (nx_then ?_)
                  refine wp_ret ?_
                  refine S.ret (vs := [B (decide (((g.seen).length : Int) ≤ 40))]) (by kernel_rfl) ?_
                  exact ⟨retB (show (decide (((g.seen).length : Int) ≤ 40)) = f_guestOk g by clear S; first | rfl | (simp [f_guestOk, *]; done) | (simp [f_guestOk, *]; omega) | (simp_all [f_guestOk]; done) | (simp_all [f_guestOk]; omega)), S.chg⟩
                · refine S.quiet (k := 6) (keep := [2]) (m := 0) (σ' := ⟨[(2, .v (B false))], []⟩) .nil (by kernel_rfl) ?_
                  clear S; intro ac w β S
                  refine RG.done rfl (nx_then ?_)
                  refine wp_ret ?_
                  refine S.ret (vs := [B false]) (by kernel_rfl) ?_
                  exact ⟨retB (show false = f_guestOk g by clear S; first | rfl | (simp [f_guestOk, *]; done) | (simp [f_guestOk, *]; omega) | (simp_all [f_guestOk]; done) | (simp_all [f_guestOk]; omega)), S.chg⟩
              · have g14 := within_f h11
                refine S.quiet (k := 11) (keep := [2]) (m := 0) (σ' := ⟨[(2, .v (B false))], []⟩) .nil (by kernel_rfl) ?_
                clear S; intro ac w β S
                refine RG.done rfl (nx_then ?_)
                refine wp_ret ?_
                refine S.ret (vs := [B false]) (by kernel_rfl) ?_
                exact ⟨retB (show false = f_guestOk g by clear S; first | rfl | (simp [f_guestOk, *]; done) | (simp [f_guestOk, *]; omega) | (simp_all [f_guestOk]; done) | (simp_all [f_guestOk]; omega)), S.chg⟩
            · refine S.quiet (k := 16) (keep := [2]) (m := 0) (σ' := ⟨[(2, .v (B false))], []⟩) .nil (by kernel_rfl) ?_
              clear S; intro ac w β S
              refine RG.done rfl (nx_then ?_)
              refine wp_ret ?_
              refine S.ret (vs := [B false]) (by kernel_rfl) ?_
              exact ⟨retB (show false = f_guestOk g by clear S; first | rfl | (simp [f_guestOk, *]; done) | (simp [f_guestOk, *]; omega) | (simp_all [f_guestOk]; done) | (simp_all [f_guestOk]; omega)), S.chg⟩
          · refine S.quiet (k := 21) (keep := [2]) (m := 0) (σ' := ⟨[(2, .v (B false))], []⟩) .nil (by kernel_rfl) ?_
            clear S; intro ac w β S
            refine RG.done rfl (nx_then ?_)
            refine wp_ret ?_
            refine S.ret (vs := [B false]) (by kernel_rfl) ?_
            exact ⟨retB (show false = f_guestOk g by clear S; first | rfl | (simp [f_guestOk, *]; done) | (simp [f_guestOk, *]; omega) | (simp_all [f_guestOk]; done) | (simp_all [f_guestOk]; omega)), S.chg⟩
        · refine S.quiet (k := 26) (keep := [2]) (m := 0) (σ' := ⟨[(2, .v (B false))], []⟩) .nil (by kernel_rfl) ?_
          clear S; intro ac w β S
          refine RG.done rfl (nx_then ?_)
          refine wp_ret ?_
          refine S.ret (vs := [B false]) (by kernel_rfl) ?_
          exact ⟨retB (show false = f_guestOk g by clear S; first | rfl | (simp [f_guestOk, *]; done) | (simp [f_guestOk, *]; omega) | (simp_all [f_guestOk]; done) | (simp_all [f_guestOk]; omega)), S.chg⟩
      · have g15 := within_f h4
        refine S.quiet (k := 31) (keep := [2]) (m := 0) (σ' := ⟨[(2, .v (B false))], []⟩) .nil (by kernel_rfl) ?_
        clear S; intro ac w β S
        refine RG.done rfl (nx_then ?_)
        refine wp_ret ?_
        refine S.ret (vs := [B false]) (by kernel_rfl) ?_
        exact ⟨retB (show false = f_guestOk g by clear S; first | rfl | (simp [f_guestOk, *]; done) | (simp [f_guestOk, *]; omega) | (simp_all [f_guestOk]; done) | (simp_all [f_guestOk]; omega)), S.chg⟩
    · have g16 := within_f h2
      refine S.quiet (k := 36) (keep := [2]) (m := 0) (σ' := ⟨[(2, .v (B false))], []⟩) .nil (by kernel_rfl) ?_
      clear S; intro ac w β S
      refine RG.done rfl (nx_then ?_)
      refine wp_ret ?_
      refine S.ret (vs := [B false]) (by kernel_rfl) ?_
      exact ⟨retB (show false = f_guestOk g by clear S; first | rfl | (simp [f_guestOk, *]; done) | (simp [f_guestOk, *]; omega) | (simp_all [f_guestOk]; done) | (simp_all [f_guestOk]; omega)), S.chg⟩
  · refine S.quiet (k := 41) (keep := [2]) (m := 0) (σ' := ⟨[(2, .v (B false))], []⟩) .nil (by kernel_rfl) ?_
    clear S; intro ac w β S
    refine RG.done rfl (nx_then ?_)
    refine wp_ret ?_
    refine S.ret (vs := [B false]) (by kernel_rfl) ?_
    exact ⟨retB (show false = f_guestOk g by clear S; first | rfl | (simp [f_guestOk, *]; done) | (simp [f_guestOk, *]; omega) | (simp_all [f_guestOk]; done) | (simp_all [f_guestOk]; omega)), S.chg⟩

set_option maxRecDepth 100000 in
theorem c_impl_RightsOk (w0 : World) (r : Int) : Calls Go.Proofs.Try.prog 171 [I r].toArray w0 (fun e w' => e = .returned (B (f_within r 0 3)) ∧ Chg NoB w0 w') := by
  refine Calls.walk (args := [I r]) NoB Go.Proofs.Try.func171 rfl rfl ?_
  intro ac β S
  refine wp_seq ?_
  refine RG.start ?_
  refine S.quiet (k := 1) (keep := [0]) (m := 0) (σ' := ⟨[(0, .v (I r))], []⟩) .nil (by kernel_rfl) ?_
  clear S; intro ac w β S
  refine RG.done rfl (nx_then ?_)
  refine wp_seq ?_
  refine RG.start ?_
  refine S.quiet (k := 3) (keep := [2]) (m := 0) (σ' := ⟨[(2, .v (B (f_within r 0 3)))], []⟩) (.cons (Q_call fun w hw => c_impl_within w r 0 3) .nil) (by kernel_rfl) ?_
  clear S; intro ac w β S
  refine RG.done rfl (nx_then ?_)
  refine wp_ret ?_
  refine S.ret (vs := [B (f_within r 0 3)]) (by kernel_rfl) ?_
  exact ⟨retB (show (f_within r 0 3) = f_within r 0 3 by clear S; first | rfl | (simp [f_within, *]; done) | (simp [f_within, *]; omega) | (simp_all [f_within]; done) | (simp_all [f_within]; omega)), S.chg⟩

set_option maxRecDepth 100000 in
theorem c_impl_Enough (w0 : World) (rights : Int) (need : Int) : Calls Go.Proofs.Try.prog 132 [I rights, I need].toArray w0 (fun e w' => e = .returned (B (f_enough rights need)) ∧ Chg NoB w0 w') := by
  refine Calls.walk (args := [I rights, I need]) NoB Go.Proofs.Try.func132 rfl rfl ?_
  intro ac β S
  refine wp_seq ?_
  refine RG.start ?_
  refine S.quiet (k := 1) (keep := [0, 1]) (m := 0) (σ' := ⟨[(0, .v (I rights)), (1, .v (I need))], []⟩) .nil (by kernel_rfl) ?_
  clear S; intro ac w β S
  refine RG.done rfl (nx_then ?_)
  refine wp_seq ?_
  refine RG.start ?_
  refine S.quiet (k := 3) (keep := [0, 1, 7]) (m := 0) (σ' := ⟨[(0, .v (I rights)), (1, .v (I need)), (7, .v (B (f_within rights 0 3)))], []⟩) (.cons (Q_call fun w hw => c_impl_RightsOk w rights) .nil) (by kernel_rfl) ?_
  clear S; intro ac w β S
  rcases Bool.eq_false_or_eq_true (f_within rights 0 3) with h1 | h1 <;> rw [h1] at S
  · have g2 := within_t h1
    refine S.quiet (k := 4) (keep := [0, 1, 11]) (m := 0) (σ' := ⟨[(0, .v (I rights)), (1, .v (I need)), (11, .v (B (f_within need 0 3)))], []⟩) (.cons (Q_call fun w hw => c_impl_RightsOk w need) .nil) (by kernel_rfl) ?_
    clear S; intro ac w β S
    rcases Bool.eq_false_or_eq_true (f_within need 0 3) with h3 | h3 <;> rw [h3] at S
    · have g4 := within_t h3
      refine S.quiet (k := 7) (keep := [4]) (m := 0) (σ' := ⟨[(4, .v (B ((land64 rights need) == need)))], []⟩) (.cons (Q_land64 (x := rights) (y := need)) .nil) (by kernel_rfl) ?_
      clear S; intro ac w β S
      refine RG.done rfl (nx_then ?_)
      refine wp_ret ?_
      refine S.ret (vs := [B ((land64 rights need) == need)]) (by kernel_rfl) ?_
      exact ⟨retB (show ((land64 rights need) == need) = f_enough rights need by clear S; first | rfl | (simp [f_enough, *]; done) | (simp [f_enough, *]; omega) | (simp_all [f_enough]; done) | (simp_all [f_enough]; omega)), S.chg⟩
    · have g5 := within_f h3
      refine S.quiet (k := 7) (keep := [4]) (m := 0) (σ' := ⟨[(4, .v (B false))], []⟩) .nil (by kernel_rfl) ?_
      clear S; intro ac w β S
      refine RG.done rfl (nx_then ?_)
      refine wp_ret ?_
      refine S.ret (vs := [B false]) (by kernel_rfl) ?_
      exact ⟨retB (show false = f_enough rights need by clear S; first | rfl | (simp [f_enough, *]; done) | (simp [f_enough, *]; omega) | (simp_all [f_enough]; done) | (simp_all [f_enough]; omega)), S.chg⟩
  · have g6 := within_f h1
    refine S.quiet (k := 11) (keep := [4]) (m := 0) (σ' := ⟨[(4, .v (B false))], []⟩) .nil (by kernel_rfl) ?_
    clear S; intro ac w β S
    refine RG.done rfl (nx_then ?_)
    refine wp_ret ?_
    refine S.ret (vs := [B false]) (by kernel_rfl) ?_
    exact ⟨retB (show false = f_enough rights need by clear S; first | rfl | (simp [f_enough, *]; done) | (simp [f_enough, *]; omega) | (simp_all [f_enough]; done) | (simp_all [f_enough]; omega)), S.chg⟩

set_option maxRecDepth 100000 in
theorem c_impl_MonOk (w0 : World) (m : TMon) (pm : PMon) (hm : GT.rd KK (Lt w0.heap.size) w0 m pm) : Calls Go.Proofs.Try.prog 63 [GT.val (α := TMon) m pm].toArray w0 (fun e w' => e = .returned (B (f_monOk m)) ∧ Chg NoB w0 w') := by
  refine Calls.walk (args := [GT.val (α := TMon) m pm]) NoB Go.Proofs.Try.func63 rfl rfl ?_
  intro ac β S
  have hlem_outer : m.outer.length ≤ 4194304 := LRd.le (RMon.outer (d := m) hm)
  have hlem_out : m.out.length ≤ 4194304 := LRd.le (RMon.out (d := m) hm)
  have hlem_dirty : m.dirty.length ≤ 4194304 := LRd.le (RMon.dirty (d := m) hm)
  have hlem_guests : m.guests.length ≤ 4194304 := LRd.le (RMon.guests (d := m) hm)
  have hlem_outs : m.outs.length ≤ 4194304 := LRd.le (RMon.outs (d := m) hm)
  have hlem_tables : m.tables.length ≤ 4194304 := LRd.le (RMon.tables (d := m) hm)
  refine wp_seq ?_
  refine RG.start ?_
  refine S.quiet (k := 2) (keep := [1]) (m := 1) (σ' := ⟨[(1, .p 0 0)], [GT.cells (α := TMon) m pm]⟩) .nil (by kernel_rfl) ?_
  clear S; intro ac w β S
  refine RG.done rfl (nx_then ?_)
  refine wp_seq ?_
  refine wp_seq ?_
  refine RG.start ?_
  refine S.quiet (k := 6) (keep := [1, 12]) (m := 1) (σ' := ⟨[(1, .p 0 0), (12, .v (B (!(f_within ((m.guests).length : Int) 1 2))))], [GT.cells (α := TMon) m pm]⟩) (.cons (Q_call fun w hw => c_impl_within w ((m.guests).length : Int) 1 2) .nil) (by kernel_rfl) ?_
  clear S; intro ac w β S
  rcases Bool.eq_false_or_eq_true (!(f_within ((m.guests).length : Int) 1 2)) with h1 | h1 <;> rw [h1] at S
  · have h2 : (f_within ((m.guests).length : Int) 1 2) = false := not_t h1
    have g3 := within_f h2
    refine S.quiet (k := 50) (keep := [1, 62]) (m := 1) (σ' := ⟨[(1, .p 0 0), (62, .v (B true))], [GT.cells (α := TMon) m pm]⟩) .nil (by kernel_rfl) ?_
    clear S; intro ac w β S
    refine RG.done rfl (nx_then ?_)
    refine S.cond (e := true) (by kernel_rfl) (fun _ => ?_) (fun hx => by cases hx)
    refine wp_seq ?_
    refine RG.start ?_
    refine S.quiet (k := 1) (keep := [2]) (m := 0) (σ' := ⟨[(2, .v (B false))], []⟩) .nil (by kernel_rfl) ?_
    clear S; intro ac w β S
    refine RG.done rfl (nx_then ?_)
    refine wp_ret (rt_then ?_)
    refine S.ret (vs := [B false]) (by kernel_rfl) ?_
    exact ⟨retB (show false = f_monOk m by clear S; (first | rfl | (symm; rw [← Bool.not_eq_true]; intro hc; simp only [f_monOk, f_monHead, f_monTail, Bool.and_eq_true, decide_eq_true_eq, beq_iff_eq] at hc; first | omega | (simp_all; done) | (simp_all; omega) | (have hx := all_el (k := k) hc.1.2 (by omega); simp_all; done) | (have hx := rng_el (k := j) hc.2 (by omega); unfold f_pageSlot at hx; split at hx <;> first | (simp_all; done) | (simp_all; omega))) | (symm; simp only [f_monOk, f_monHead, f_monTail, Bool.and_eq_true, decide_eq_true_eq, beq_iff_eq]; (repeat' apply And.intro); all_goals first | assumption | omega | (simp_all; done) | (simp_all; omega) | (exact all_end (by omega) he) | ((have e8 : j = 8 := (by omega)); subst e8; exact hp)) | (rw [Bool.eq_iff_iff]; simp only [f_monOk, f_monHead, f_monTail, Bool.and_eq_true, decide_eq_true_eq, beq_iff_eq]; refine ⟨fun hr => ?_, fun hc => ?_⟩ <;> ((repeat' apply And.intro); all_goals first | assumption | omega | (simp_all; done) | (simp_all; omega) | (exact all_end (by omega) he) | ((have e8 : j = 8 := (by omega)); subst e8; exact hp))))), S.chg⟩
  · have h4 : (f_within ((m.guests).length : Int) 1 2) = true := not_f h1
    have g5 := within_t h4
    refine S.quiet (k := 9) (keep := [1, 21]) (m := 1) (σ' := ⟨[(1, .p 0 0), (21, .v (B (((m.tables).length : Int) != ((m.guests).length : Int))))], [GT.cells (α := TMon) m pm]⟩) .nil (by kernel_rfl) ?_
    clear S; intro ac w β S
    rcases Bool.eq_false_or_eq_true (((m.tables).length : Int) != ((m.guests).length : Int)) with h6 | h6 <;> rw [h6] at S
    · have g7 : ¬ (((m.tables).length : Int) = ((m.guests).length : Int)) := bne_iff_ne.1 h6
      refine S.quiet (k := 41) (keep := [1, 62]) (m := 1) (σ' := ⟨[(1, .p 0 0), (62, .v (B true))], [GT.cells (α := TMon) m pm]⟩) .nil (by kernel_rfl) ?_
      clear S; intro ac w β S
      refine RG.done rfl (nx_then ?_)
      refine S.cond (e := true) (by kernel_rfl) (fun _ => ?_) (fun hx => by cases hx)
      refine wp_seq ?_
      refine RG.start ?_
      refine S.quiet (k := 1) (keep := [2]) (m := 0) (σ' := ⟨[(2, .v (B false))], []⟩) .nil (by kernel_rfl) ?_
      clear S; intro ac w β S
      refine RG.done rfl (nx_then ?_)
      refine wp_ret (rt_then ?_)
      refine S.ret (vs := [B false]) (by kernel_rfl) ?_
      exact ⟨retB (show false = f_monOk m by clear S; (first | rfl | (symm; rw [← Bool.not_eq_true]; intro hc; simp only [f_monOk, f_monHead, f_monTail, Bool.and_eq_true, decide_eq_true_eq, beq_iff_eq] at hc; first | omega | (simp_all; done) | (simp_all; omega) | (have hx := all_el (k := k) hc.1.2 (by omega); simp_all; done) | (have hx := rng_el (k := j) hc.2 (by omega); unfold f_pageSlot at hx; split at hx <;> first | (simp_all; done) | (simp_all; omega))) | (symm; simp only [f_monOk, f_monHead, f_monTail, Bool.and_eq_true, decide_eq_true_eq, beq_iff_eq]; (repeat' apply And.intro); all_goals first | assumption | omega | (simp_all; done) | (simp_all; omega) | (exact all_end (by omega) he) | ((have e8 : j = 8 := (by omega)); subst e8; exact hp)) | (rw [Bool.eq_iff_iff]; simp only [f_monOk, f_monHead, f_monTail, Bool.and_eq_true, decide_eq_true_eq, beq_iff_eq]; refine ⟨fun hr => ?_, fun hc => ?_⟩ <;> ((repeat' apply And.intro); all_goals first | assumption | omega | (simp_all; done) | (simp_all; omega) | (exact all_end (by omega) he) | ((have e8 : j = 8 := (by omega)); subst e8; exact hp))))), S.chg⟩
    · have g8 : ((m.tables).length : Int) = ((m.guests).length : Int) := ne_f h6
      refine S.quiet (k := 6) (keep := [1, 27]) (m := 1) (σ' := ⟨[(1, .p 0 0), (27, .v (B (!(f_tableOk m.outer 8 12))))], [GT.cells (α := TMon) m pm]⟩) (.cons (Q_call fun w hw => c_impl_TableOk w m.outer pm.outer (rd_of (RMon.outer (d := m) (S.arg hm)) hw) 8 12 (by omega) (by omega)) .nil) (by kernel_rfl) ?_
      clear S; intro ac w β S
      rcases Bool.eq_false_or_eq_true (!(f_tableOk m.outer 8 12)) with h9 | h9 <;> rw [h9] at S
      · have h10 : (f_tableOk m.outer 8 12) = false := not_t h9
        refine S.quiet (k := 35) (keep := [1, 62]) (m := 1) (σ' := ⟨[(1, .p 0 0), (62, .v (B true))], [GT.cells (α := TMon) m pm]⟩) .nil (by kernel_rfl) ?_
        clear S; intro ac w β S
        refine RG.done rfl (nx_then ?_)
        refine S.cond (e := true) (by kernel_rfl) (fun _ => ?_) (fun hx => by cases hx)
        refine wp_seq ?_
        refine RG.start ?_
        refine S.quiet (k := 1) (keep := [2]) (m := 0) (σ' := ⟨[(2, .v (B false))], []⟩) .nil (by kernel_rfl) ?_
        clear S; intro ac w β S
        refine RG.done rfl (nx_then ?_)
        refine wp_ret (rt_then ?_)
        refine S.ret (vs := [B false]) (by kernel_rfl) ?_
        exact ⟨retB (show false = f_monOk m by clear S; (first | rfl | (symm; rw [← Bool.not_eq_true]; intro hc; simp only [f_monOk, f_monHead, f_monTail, Bool.and_eq_true, decide_eq_true_eq, beq_iff_eq] at hc; first | omega | (simp_all; done) | (simp_all; omega) | (have hx := all_el (k := k) hc.1.2 (by omega); simp_all; done) | (have hx := rng_el (k := j) hc.2 (by omega); unfold f_pageSlot at hx; split at hx <;> first | (simp_all; done) | (simp_all; omega))) | (symm; simp only [f_monOk, f_monHead, f_monTail, Bool.and_eq_true, decide_eq_true_eq, beq_iff_eq]; (repeat' apply And.intro); all_goals first | assumption | omega | (simp_all; done) | (simp_all; omega) | (exact all_end (by omega) he) | ((have e8 : j = 8 := (by omega)); subst e8; exact hp)) | (rw [Bool.eq_iff_iff]; simp only [f_monOk, f_monHead, f_monTail, Bool.and_eq_true, decide_eq_true_eq, beq_iff_eq]; refine ⟨fun hr => ?_, fun hc => ?_⟩ <;> ((repeat' apply And.intro); all_goals first | assumption | omega | (simp_all; done) | (simp_all; omega) | (exact all_end (by omega) he) | ((have e8 : j = 8 := (by omega)); subst e8; exact hp))))), S.chg⟩
      · have h11 : (f_tableOk m.outer 8 12) = true := not_f h9
        have g12 := tableOk_t h11
        refine S.quiet (k := 6) (keep := [1, 33]) (m := 1) (σ' := ⟨[(1, .p 0 0), (33, .v (B (((m.out).length : Int) != 8)))], [GT.cells (α := TMon) m pm]⟩) .nil (by kernel_rfl) ?_
        clear S; intro ac w β S
        rcases Bool.eq_false_or_eq_true (((m.out).length : Int) != 8) with h13 | h13 <;> rw [h13] at S
        · have g14 : ¬ (((m.out).length : Int) = 8) := bne_iff_ne.1 h13
          refine S.quiet (k := 29) (keep := [1, 62]) (m := 1) (σ' := ⟨[(1, .p 0 0), (62, .v (B true))], [GT.cells (α := TMon) m pm]⟩) .nil (by kernel_rfl) ?_
          clear S; intro ac w β S
          refine RG.done rfl (nx_then ?_)
          refine S.cond (e := true) (by kernel_rfl) (fun _ => ?_) (fun hx => by cases hx)
          refine wp_seq ?_
          refine RG.start ?_
          refine S.quiet (k := 1) (keep := [2]) (m := 0) (σ' := ⟨[(2, .v (B false))], []⟩) .nil (by kernel_rfl) ?_
          clear S; intro ac w β S
          refine RG.done rfl (nx_then ?_)
          refine wp_ret (rt_then ?_)
          refine S.ret (vs := [B false]) (by kernel_rfl) ?_
          exact ⟨retB (show false = f_monOk m by clear S; (first | rfl | (symm; rw [← Bool.not_eq_true]; intro hc; simp only [f_monOk, f_monHead, f_monTail, Bool.and_eq_true, decide_eq_true_eq, beq_iff_eq] at hc; first | omega | (simp_all; done) | (simp_all; omega) | (have hx := all_el (k := k) hc.1.2 (by omega); simp_all; done) | (have hx := rng_el (k := j) hc.2 (by omega); unfold f_pageSlot at hx; split at hx <;> first | (simp_all; done) | (simp_all; omega))) | (symm; simp only [f_monOk, f_monHead, f_monTail, Bool.and_eq_true, decide_eq_true_eq, beq_iff_eq]; (repeat' apply And.intro); all_goals first | assumption | omega | (simp_all; done) | (simp_all; omega) | (exact all_end (by omega) he) | ((have e8 : j = 8 := (by omega)); subst e8; exact hp)) | (rw [Bool.eq_iff_iff]; simp only [f_monOk, f_monHead, f_monTail, Bool.and_eq_true, decide_eq_true_eq, beq_iff_eq]; refine ⟨fun hr => ?_, fun hc => ?_⟩ <;> ((repeat' apply And.intro); all_goals first | assumption | omega | (simp_all; done) | (simp_all; omega) | (exact all_end (by omega) he) | ((have e8 : j = 8 := (by omega)); subst e8; exact hp))))), S.chg⟩
        · have g15 : ((m.out).length : Int) = 8 := ne_f h13
          refine S.quiet (k := 6) (keep := [1, 39]) (m := 1) (σ' := ⟨[(1, .p 0 0), (39, .v (B (((m.dirty).length : Int) != 8)))], [GT.cells (α := TMon) m pm]⟩) .nil (by kernel_rfl) ?_
          clear S; intro ac w β S
          rcases Bool.eq_false_or_eq_true (((m.dirty).length : Int) != 8) with h16 | h16 <;> rw [h16] at S
          · have g17 : ¬ (((m.dirty).length : Int) = 8) := bne_iff_ne.1 h16
            refine S.quiet (k := 23) (keep := [1, 62]) (m := 1) (σ' := ⟨[(1, .p 0 0), (62, .v (B true))], [GT.cells (α := TMon) m pm]⟩) .nil (by kernel_rfl) ?_
            clear S; intro ac w β S
            refine RG.done rfl (nx_then ?_)
            refine S.cond (e := true) (by kernel_rfl) (fun _ => ?_) (fun hx => by cases hx)
            refine wp_seq ?_
            refine RG.start ?_
            refine S.quiet (k := 1) (keep := [2]) (m := 0) (σ' := ⟨[(2, .v (B false))], []⟩) .nil (by kernel_rfl) ?_
            clear S; intro ac w β S
            refine RG.done rfl (nx_then ?_)
            refine wp_ret (rt_then ?_)
            refine S.ret (vs := [B false]) (by kernel_rfl) ?_
            exact ⟨retB (show false = f_monOk m by clear S; (first | rfl | (symm; rw [← Bool.not_eq_true]; intro hc; simp only [f_monOk, f_monHead, f_monTail, Bool.and_eq_true, decide_eq_true_eq, beq_iff_eq] at hc; first | omega | (simp_all; done) | (simp_all; omega) | (have hx := all_el (k := k) hc.1.2 (by omega); simp_all; done) | (have hx := rng_el (k := j) hc.2 (by omega); unfold f_pageSlot at hx; split at hx <;> first | (simp_all; done) | (simp_all; omega))) | (symm; simp only [f_monOk, f_monHead, f_monTail, Bool.and_eq_true, decide_eq_true_eq, beq_iff_eq]; (repeat' apply And.intro); all_goals first | assumption | omega | (simp_all; done) | (simp_all; omega) | (exact all_end (by omega) he) | ((have e8 : j = 8 := (by omega)); subst e8; exact hp)) | (rw [Bool.eq_iff_iff]; simp only [f_monOk, f_monHead, f_monTail, Bool.and_eq_true, decide_eq_true_eq, beq_iff_eq]; refine ⟨fun hr => ?_, fun hc => ?_⟩ <;> ((repeat' apply And.intro); all_goals first | assumption | omega | (simp_all; done) | (simp_all; omega) | (exact all_end (by omega) he) | ((have e8 : j = 8 := (by omega)); subst e8; exact hp))))), S.chg⟩
          · have g18 : ((m.dirty).length : Int) = 8 := ne_f h16
            refine S.quiet (k := 6) (keep := [1, 45]) (m := 1) (σ' := ⟨[(1, .p 0 0), (45, .v (B (decide (((m.outs).length : Int) > 40))))], [GT.cells (α := TMon) m pm]⟩) .nil (by kernel_rfl) ?_
            clear S; intro ac w β S
            rcases Bool.eq_false_or_eq_true (decide (((m.outs).length : Int) > 40)) with h19 | h19 <;> rw [h19] at S
            · have g20 : ((m.outs).length : Int) > 40 := of_decide_eq_true h19
              refine S.quiet (k := 17) (keep := [1, 62]) (m := 1) (σ' := ⟨[(1, .p 0 0), (62, .v (B true))], [GT.cells (α := TMon) m pm]⟩) .nil (by kernel_rfl) ?_
              clear S; intro ac w β S
              refine RG.done rfl (nx_then ?_)
              refine S.cond (e := true) (by kernel_rfl) (fun _ => ?_) (fun hx => by cases hx)
              refine wp_seq ?_
              refine RG.start ?_
              refine S.quiet (k := 1) (keep := [2]) (m := 0) (σ' := ⟨[(2, .v (B false))], []⟩) .nil (by kernel_rfl) ?_
              clear S; intro ac w β S
              refine RG.done rfl (nx_then ?_)
              refine wp_ret (rt_then ?_)
              refine S.ret (vs := [B false]) (by kernel_rfl) ?_
              exact ⟨retB (show false = f_monOk m by clear S; (first | rfl | (symm; rw [← Bool.not_eq_true]; intro hc; simp only [f_monOk, f_monHead, f_monTail, Bool.and_eq_true, decide_eq_true_eq, beq_iff_eq] at hc; first | omega | (simp_all; done) | (simp_all; omega) | (have hx := all_el (k := k) hc.1.2 (by omega); simp_all; done) | (have hx := rng_el (k := j) hc.2 (by omega); unfold f_pageSlot at hx; split at hx <;> first | (simp_all; done) | (simp_all; omega))) | (symm; simp only [f_monOk, f_monHead, f_monTail, Bool.and_eq_true, decide_eq_true_eq, beq_iff_eq]; (repeat' apply And.intro); all_goals first | assumption | omega | (simp_all; done) | (simp_all; omega) | (exact all_end (by omega) he) | ((have e8 : j = 8 := (by omega)); subst e8; exact hp)) | (rw [Bool.eq_iff_iff]; simp only [f_monOk, f_monHead, f_monTail, Bool.and_eq_true, decide_eq_true_eq, beq_iff_eq]; refine ⟨fun hr => ?_, fun hc => ?_⟩ <;> ((repeat' apply And.intro); all_goals first | assumption | omega | (simp_all; done) | (simp_all; omega) | (exact all_end (by omega) he) | ((have e8 : j = 8 := (by omega)); subst e8; exact hp))))), S.chg⟩
            · have g21 : ¬ (((m.outs).length : Int) > 40) := of_decide_eq_false h19
              refine S.quiet (k := 6) (keep := [1, 51]) (m := 1) (σ' := ⟨[(1, .p 0 0), (51, .v (B (!(f_within m.pend 0 255))))], [GT.cells (α := TMon) m pm]⟩) (.cons (Q_call fun w hw => c_impl_PendOk w m.pend) .nil) (by kernel_rfl) ?_
              clear S; intro ac w β S
              rcases Bool.eq_false_or_eq_true (!(f_within m.pend 0 255)) with h22 | h22 <;> rw [h22] at S
              · have h23 : (f_within m.pend 0 255) = false := not_t h22
                have g24 := within_f h23
                refine S.quiet (k := 11) (keep := [1, 62]) (m := 1) (σ' := ⟨[(1, .p 0 0), (62, .v (B true))], [GT.cells (α := TMon) m pm]⟩) .nil (by kernel_rfl) ?_
                clear S; intro ac w β S
                refine RG.done rfl (nx_then ?_)
                refine S.cond (e := true) (by kernel_rfl) (fun _ => ?_) (fun hx => by cases hx)
                refine wp_seq ?_
                refine RG.start ?_
                refine S.quiet (k := 1) (keep := [2]) (m := 0) (σ' := ⟨[(2, .v (B false))], []⟩) .nil (by kernel_rfl) ?_
                clear S; intro ac w β S
                refine RG.done rfl (nx_then ?_)
                refine wp_ret (rt_then ?_)
                refine S.ret (vs := [B false]) (by kernel_rfl) ?_
                exact ⟨retB (show false = f_monOk m by clear S; (first | rfl | (symm; rw [← Bool.not_eq_true]; intro hc; simp only [f_monOk, f_monHead, f_monTail, Bool.and_eq_true, decide_eq_true_eq, beq_iff_eq] at hc; first | omega | (simp_all; done) | (simp_all; omega) | (have hx := all_el (k := k) hc.1.2 (by omega); simp_all; done) | (have hx := rng_el (k := j) hc.2 (by omega); unfold f_pageSlot at hx; split at hx <;> first | (simp_all; done) | (simp_all; omega))) | (symm; simp only [f_monOk, f_monHead, f_monTail, Bool.and_eq_true, decide_eq_true_eq, beq_iff_eq]; (repeat' apply And.intro); all_goals first | assumption | omega | (simp_all; done) | (simp_all; omega) | (exact all_end (by omega) he) | ((have e8 : j = 8 := (by omega)); subst e8; exact hp)) | (rw [Bool.eq_iff_iff]; simp only [f_monOk, f_monHead, f_monTail, Bool.and_eq_true, decide_eq_true_eq, beq_iff_eq]; refine ⟨fun hr => ?_, fun hc => ?_⟩ <;> ((repeat' apply And.intro); all_goals first | assumption | omega | (simp_all; done) | (simp_all; omega) | (exact all_end (by omega) he) | ((have e8 : j = 8 := (by omega)); subst e8; exact hp))))), S.chg⟩
              · have h25 : (f_within m.pend 0 255) = true := not_f h22
                have g26 := within_t h25
                refine S.quiet (k := 6) (keep := [1, 57]) (m := 1) (σ' := ⟨[(1, .p 0 0), (57, .v (B (!(f_within m.traps 0 3))))], [GT.cells (α := TMon) m pm]⟩) (.cons (Q_call fun w hw => c_impl_within w m.traps 0 3) .nil) (by kernel_rfl) ?_
                clear S; intro ac w β S
                rcases Bool.eq_false_or_eq_true (!(f_within m.traps 0 3)) with h27 | h27 <;> rw [h27] at S
                · have h28 : (f_within m.traps 0 3) = false := not_t h27
                  have g29 := within_f h28
                  refine S.quiet (k := 5) (keep := [1, 62]) (m := 1) (σ' := ⟨[(1, .p 0 0), (62, .v (B true))], [GT.cells (α := TMon) m pm]⟩) .nil (by kernel_rfl) ?_
                  clear S; intro ac w β S
                  refine RG.done rfl (nx_then ?_)
                  refine S.cond (e := true) (by kernel_rfl) (fun _ => ?_) (fun hx => by cases hx)
                  refine wp_seq ?_
                  refine RG.start ?_
                  refine S.quiet (k := 1) (keep := [2]) (m := 0) (σ' := ⟨[(2, .v (B false))], []⟩) .nil (by kernel_rfl) ?_
                  clear S; intro ac w β S
                  refine RG.done rfl (nx_then ?_)
                  refine wp_ret (rt_then ?_)
                  refine S.ret (vs := [B false]) (by kernel_rfl) ?_
                  exact ⟨retB (show false = f_monOk m by clear S; (first | rfl | (symm; rw [← Bool.not_eq_true]; intro hc; simp only [f_monOk, f_monHead, f_monTail, Bool.and_eq_true, decide_eq_true_eq, beq_iff_eq] at hc; first | omega | (simp_all; done) | (simp_all; omega) | (have hx := all_el (k := k) hc.1.2 (by omega); simp_all; done) | (have hx := rng_el (k := j) hc.2 (by omega); unfold f_pageSlot at hx; split at hx <;> first | (simp_all; done) | (simp_all; omega))) | (symm; simp only [f_monOk, f_monHead, f_monTail, Bool.and_eq_true, decide_eq_true_eq, beq_iff_eq]; (repeat' apply And.intro); all_goals first | assumption | omega | (simp_all; done) | (simp_all; omega) | (exact all_end (by omega) he) | ((have e8 : j = 8 := (by omega)); subst e8; exact hp)) | (rw [Bool.eq_iff_iff]; simp only [f_monOk, f_monHead, f_monTail, Bool.and_eq_true, decide_eq_true_eq, beq_iff_eq]; refine ⟨fun hr => ?_, fun hc => ?_⟩ <;> ((repeat' apply And.intro); all_goals first | assumption | omega | (simp_all; done) | (simp_all; omega) | (exact all_end (by omega) he) | ((have e8 : j = 8 := (by omega)); subst e8; exact hp))))), S.chg⟩
                · have h30 : (f_within m.traps 0 3) = true := not_f h27
                  have g31 := within_t h30
                  refine S.quiet (k := 5) (keep := [1, 62]) (m := 1) (σ' := ⟨[(1, .p 0 0), (62, .v (B (!(f_within m.owned 0 1000000000))))], [GT.cells (α := TMon) m pm]⟩) (.cons (Q_call fun w hw => c_impl_within w m.owned 0 1000000000) .nil) (by kernel_rfl) ?_
                  clear S; intro ac w β S
                  refine RG.done rfl (nx_then ?_)
                  refine S.cond (e := (!(f_within m.owned 0 1000000000))) (by kernel_rfl) (fun h32 => ?_) (fun h32 => ?_)
                  · have h33 : (f_within m.owned 0 1000000000) = false := not_t h32
                    have g34 := within_f h33
                    refine wp_seq ?_
                    refine RG.start ?_
                    refine S.quiet (k := 1) (keep := [2]) (m := 0) (σ' := ⟨[(2, .v (B false))], []⟩) .nil (by kernel_rfl) ?_
                    clear S; intro ac w β S
                    refine RG.done rfl (nx_then ?_)
                    refine wp_ret (rt_then ?_)
                    refine S.ret (vs := [B false]) (by kernel_rfl) ?_
                    exact ⟨retB (show false = f_monOk m by clear S; (first | rfl | (symm; rw [← Bool.not_eq_true]; intro hc; simp only [f_monOk, f_monHead, f_monTail, Bool.and_eq_true, decide_eq_true_eq, beq_iff_eq] at hc; first | omega | (simp_all; done) | (simp_all; omega) | (have hx := all_el (k := k) hc.1.2 (by omega); simp_all; done) | (have hx := rng_el (k := j) hc.2 (by omega); unfold f_pageSlot at hx; split at hx <;> first | (simp_all; done) | (simp_all; omega))) | (symm; simp only [f_monOk, f_monHead, f_monTail, Bool.and_eq_true, decide_eq_true_eq, beq_iff_eq]; (repeat' apply And.intro); all_goals first | assumption | omega | (simp_all; done) | (simp_all; omega) | (exact all_end (by omega) he) | ((have e8 : j = 8 := (by omega)); subst e8; exact hp)) | (rw [Bool.eq_iff_iff]; simp only [f_monOk, f_monHead, f_monTail, Bool.and_eq_true, decide_eq_true_eq, beq_iff_eq]; refine ⟨fun hr => ?_, fun hc => ?_⟩ <;> ((repeat' apply And.intro); all_goals first | assumption | omega | (simp_all; done) | (simp_all; omega) | (exact all_end (by omega) he) | ((have e8 : j = 8 := (by omega)); subst e8; exact hp))))), S.chg⟩
                  · have h35 : (f_within m.owned 0 1000000000) = true := not_f h32
                    have g36 := within_t h35
                    refine wp_skip (nx_then ?_)
                    refine wp_seq ?_
                    refine wp_seq ?_
                    refine RG.start ?_
                    refine S.quiet (k := 4) (keep := [1, 64, 65, 66]) (m := 1) (σ' := ⟨[(1, .p 0 0), (64, .v (slv (m.guests).length pm.guests.1)), (65, .v (I ((m.guests).length : Int))), (66, .v (I 0))], [GT.cells (α := TMon) m pm]⟩) .nil (by kernel_rfl) ?_
                    clear S; intro ac w β S
                    refine RG.done rfl (nx_then ?_)
                    refine wp_block ?_
                    replace S := S.prune (keep := [1, 64, 65, 66]) (m := 1) (σ' := ⟨[(1, .p 0 0), (64, .v (slv (m.guests).length pm.guests.1)), (65, .v (I ((m.guests).length : Int))), (66, .v (I 0))], [GT.cells (α := TMon) m pm]⟩) (by kernel_rfl)
                    refine wp_loop_down (fun mm ac w => ∃ (k : Nat)  (u : World) (N : Bl) (β : Nat → Nat), mm = (m.guests).length - k ∧ (k ≤ (m.guests).length) ∧ (((m.guests).take k).all f_guestOk = true) ∧ St Go.Proofs.Try.prog Go.Proofs.Try.f63.ntmps w0 NoB u N β ⟨[(1, .p 0 0), (64, .v (slv (m.guests).length pm.guests.1)), (65, .v (I ((m.guests).length : Int))), (66, .v (I (k : Int)))], [GT.cells (α := TMon) m pm]⟩ ac w) _ ⟨0, _, _, _, rfl, (by first | omega | (simp; done) | (simp; omega)), (by simp), S.cast (by kernel_rfl)⟩ ?_
                    clear S
                    rintro mm ac w ⟨k, u, N, β, rfl, hk, he, S⟩
                    refine wp_seq ?_
                    refine RG.start ?_
                    refine S.quiet (k := 1) (keep := [1, 64, 65, 66, 67]) (m := 1) (σ' := ⟨[(1, .p 0 0), (64, .v (slv (m.guests).length pm.guests.1)), (65, .v (I ((m.guests).length : Int))), (66, .v (I (k : Int))), (67, .v (B (decide ((k : Int) < ((m.guests).length : Int)))))], [GT.cells (α := TMon) m pm]⟩) .nil (by kernel_rfl) ?_
                    clear S; intro ac w β S
                    refine RG.done rfl (nx_then ?_)
                    refine wp_seq ?_
                    refine S.cond (e := (decide ((k : Int) < ((m.guests).length : Int)))) (by kernel_rfl) (fun h37 => ?_) (fun h37 => ?_)
                    · have g38 : (k : Int) < ((m.guests).length : Int) := of_decide_eq_true h37
                      refine wp_skip (nx_then ?_)
                      refine wp_seq ?_
                      refine wp_block ?_
                      refine wp_seq ?_
                      refine RG.start ?_
                      refine S.quiet (k := 4) (keep := [1, 4, 64, 65, 66]) (m := 2) (σ' := ⟨[(1, .p 0 0), (4, .p 1 0), (64, .v (slv (m.guests).length pm.guests.1)), (65, .v (I ((m.guests).length : Int))), (66, .v (I (k : Int)))], [GT.cells (α := TMon) m pm, GT.cells (α := TGuest) (el m.guests k) (pm.guests.2 k)]⟩) (.cons (Q_idx (RMon.guests (d := m) (S.arg hm)) (l := (m.guests).length) (k := k) (i := (k : Int)) rfl rfl (by omega) Go.Proofs.Try.underlying47 (by kernel_rfl)) (.cons (Q_el (RMon.guests (d := m) (S.arg hm)) (t := 103) (k := k) (by omega) rfl (by kernel_rfl) (by kernel_rfl)) .nil)) (by kernel_rfl) ?_
                      clear S; intro ac w β S
                      refine RG.done rfl (nx_then ?_)
                      refine wp_seq ?_
                      refine RG.start ?_
                      refine S.quiet (k := 3) (keep := [1, 64, 65, 66, 72]) (m := 1) (σ' := ⟨[(1, .p 0 0), (64, .v (slv (m.guests).length pm.guests.1)), (65, .v (I ((m.guests).length : Int))), (66, .v (I (k : Int))), (72, .v (B (!(f_guestOk (el m.guests k)))))], [GT.cells (α := TMon) m pm]⟩) (.cons (Q_call fun w hw => c_impl_GuestOk w (el m.guests k) (pm.guests.2 k) (rd_of (LRd.el (RMon.guests (d := m) (S.arg hm)) k (by omega)) hw)) .nil) (by kernel_rfl) ?_
                      clear S; intro ac w β S
                      refine RG.done rfl (nx_then ?_)
                      refine S.cond (e := (!(f_guestOk (el m.guests k)))) (by kernel_rfl) (fun h39 => ?_) (fun h39 => ?_)
                      · have h40 : (f_guestOk (el m.guests k)) = false := not_t h39
                        refine wp_seq ?_
                        refine RG.start ?_
                        refine S.quiet (k := 1) (keep := [2]) (m := 0) (σ' := ⟨[(2, .v (B false))], []⟩) .nil (by kernel_rfl) ?_
                        clear S; intro ac w β S
                        refine RG.done rfl (nx_then ?_)
                        refine wp_ret (rt_block (rt_then (rt_then (rt_block (rt_then ?_)))))
                        refine S.ret (vs := [B false]) (by kernel_rfl) ?_
                        exact ⟨retB (show false = f_monOk m by clear S; (first | rfl | (symm; rw [← Bool.not_eq_true]; intro hc; simp only [f_monOk, f_monHead, f_monTail, Bool.and_eq_true, decide_eq_true_eq, beq_iff_eq] at hc; first | omega | (simp_all; done) | (simp_all; omega) | (have hx := all_el (k := k) hc.1.2 (by omega); simp_all; done) | (have hx := rng_el (k := j) hc.2 (by omega); unfold f_pageSlot at hx; split at hx <;> first | (simp_all; done) | (simp_all; omega))) | (symm; simp only [f_monOk, f_monHead, f_monTail, Bool.and_eq_true, decide_eq_true_eq, beq_iff_eq]; (repeat' apply And.intro); all_goals first | assumption | omega | (simp_all; done) | (simp_all; omega) | (exact all_end (by omega) he) | ((have e8 : j = 8 := (by omega)); subst e8; exact hp)) | (rw [Bool.eq_iff_iff]; simp only [f_monOk, f_monHead, f_monTail, Bool.and_eq_true, decide_eq_true_eq, beq_iff_eq]; refine ⟨fun hr => ?_, fun hc => ?_⟩ <;> ((repeat' apply And.intro); all_goals first | assumption | omega | (simp_all; done) | (simp_all; omega) | (exact all_end (by omega) he) | ((have e8 : j = 8 := (by omega)); subst e8; exact hp))))), S.chg⟩
                      · have h41 : (f_guestOk (el m.guests k)) = true := not_f h39
                        refine wp_skip (nx_block (nx_then ?_))
                        refine RG.start ?_
                        refine S.quiet (k := 2) (keep := [1, 64, 65, 66]) (m := 1) (σ' := ⟨[(1, .p 0 0), (64, .v (slv (m.guests).length pm.guests.1)), (65, .v (I ((m.guests).length : Int))), (66, .v (I ((k : Int) + 1)))], [GT.cells (α := TMon) m pm]⟩) (.cons (Q_add (x := (k : Int)) (y := 1) ⟨by omega, by omega⟩) .nil) (by kernel_rfl) ?_
                        clear S; intro ac w β S
                        refine RG.done rfl (nx_then ?_)
                        replace S := S.prune (keep := [1, 64, 65, 66]) (m := 1) (σ' := ⟨[(1, .p 0 0), (64, .v (slv (m.guests).length pm.guests.1)), (65, .v (I ((m.guests).length : Int))), (66, .v (I ((k : Int) + 1)))], [GT.cells (α := TMon) m pm]⟩) (by kernel_rfl)
                        refine ⟨(m.guests).length - (k + 1), by omega, k + 1, _, _, _, rfl, ?_, ?_, S.cast (by kernel_rfl)⟩
                        · clear S; first | omega | (simp [*]; done) | (simp [*]; omega)
                        · clear S; exact all_step (by omega) he (by first | assumption | (simp only [f_slotOk, f_within] at *; simp_all; done) | (simp_all; done) | (simp_all; omega))
                    · have g42 : ¬ ((k : Int) < ((m.guests).length : Int)) := of_decide_eq_false h37
                      refine wp_exit (ex_then (ex_then (ex_hit (nx_then ?_))))
                      refine wp_seq ?_
                      refine wp_seq ?_
                      refine RG.start ?_
                      refine S.quiet (k := 4) (keep := [1, 75, 76, 77]) (m := 1) (σ' := ⟨[(1, .p 0 0), (75, .v (slv (m.outer).length pm.outer.1)), (76, .v (I ((m.outer).length : Int))), (77, .v (I 0))], [GT.cells (α := TMon) m pm]⟩) .nil (by kernel_rfl) ?_
                      clear S; intro ac w β S
                      refine RG.done rfl (nx_then ?_)
                      refine wp_block ?_
                      replace S := S.prune (keep := [1, 75, 76, 77]) (m := 1) (σ' := ⟨[(1, .p 0 0), (75, .v (slv (m.outer).length pm.outer.1)), (76, .v (I ((m.outer).length : Int))), (77, .v (I 0))], [GT.cells (α := TMon) m pm]⟩) (by kernel_rfl)
                      refine wp_loop_down (fun mm ac w => ∃ (j : Nat)  (u : World) (N : Bl) (β : Nat → Nat), mm = m.outer.length - j ∧ (j ≤ m.outer.length) ∧ ((List.range j).all (f_pageSlot m) = true) ∧ St Go.Proofs.Try.prog Go.Proofs.Try.f63.ntmps w0 NoB u N β ⟨[(1, .p 0 0), (75, .v (slv (m.outer).length pm.outer.1)), (76, .v (I ((m.outer).length : Int))), (77, .v (I (j : Int)))], [GT.cells (α := TMon) m pm]⟩ ac w) _ ⟨0, _, _, _, rfl, (by first | omega | (simp; done) | (simp; omega)), (by rfl), S.cast (by kernel_rfl)⟩ ?_
                      clear S
                      rintro mm ac w ⟨j, u, N, β, rfl, hj, hp, S⟩
                      have hlo : m.outer.length = 8 := by omega
                      have hlu : m.out.length = 8 := by omega
                      refine wp_seq ?_
                      refine RG.start ?_
                      refine S.quiet (k := 1) (keep := [1, 75, 76, 77, 78]) (m := 1) (σ' := ⟨[(1, .p 0 0), (75, .v (slv (m.outer).length pm.outer.1)), (76, .v (I ((m.outer).length : Int))), (77, .v (I (j : Int))), (78, .v (B (decide ((j : Int) < ((m.outer).length : Int)))))], [GT.cells (α := TMon) m pm]⟩) .nil (by kernel_rfl) ?_
                      clear S; intro ac w β S
                      refine RG.done rfl (nx_then ?_)
                      refine wp_seq ?_
                      refine S.cond (e := (decide ((j : Int) < ((m.outer).length : Int)))) (by kernel_rfl) (fun h43 => ?_) (fun h43 => ?_)
                      · have g44 : (j : Int) < ((m.outer).length : Int) := of_decide_eq_true h43
                        refine wp_skip (nx_then ?_)
                        refine wp_seq ?_
                        refine wp_block ?_
                        refine wp_seq ?_
                        refine RG.start ?_
                        refine S.quiet (k := 6) (keep := [1, 5, 6, 75, 76, 77]) (m := 2) (σ' := ⟨[(1, .p 0 0), (5, .v (I (j : Int))), (6, .p 1 0), (75, .v (slv (m.outer).length pm.outer.1)), (76, .v (I ((m.outer).length : Int))), (77, .v (I (j : Int)))], [GT.cells (α := TMon) m pm, GT.cells (α := TSlot) (el m.outer j) ()]⟩) (.cons (Q_idx (RMon.outer (d := m) (S.arg hm)) (l := (m.outer).length) (k := j) (i := (j : Int)) rfl rfl (by omega) Go.Proofs.Try.underlying45 (by kernel_rfl)) (.cons (Q_el (RMon.outer (d := m) (S.arg hm)) (t := 87) (k := j) (by omega) rfl (by kernel_rfl) (by kernel_rfl)) .nil)) (by kernel_rfl) ?_
                        clear S; intro ac w β S
                        refine RG.done rfl (nx_then ?_)
                        refine wp_seq ?_
                        refine S.drawn (keep := [1, 5, 6, 75, 76, 77, 84]) (m := 2) (σ' := ⟨[(1, .p 0 0), (5, .v (I (j : Int))), (6, .p 1 0), (75, .v (slv (m.outer).length pm.outer.1)), (76, .v (I ((m.outer).length : Int))), (77, .v (I (j : Int))), (84, .v (B (decide ((el m.outer j) = ((⟨-1, 0⟩ : TSlot))))))], [GT.cells (α := TMon) m pm, GT.cells (α := TSlot) (el m.outer j) ()]⟩) (.cons (Q_call fun w hw => c_impl_NoSlot w ) (.cons (Eq_eq_Slot (t := 87) (el m.outer j) ((⟨-1, 0⟩ : TSlot)) (by kernel_rfl)) .nil)) rfl (by kernel_rfl) (by kernel_rfl) ?_
                        clear S; intro ac w S
                        refine id (nx_then ?_)
                        refine S.cond (e := decide ((el m.outer j) = ((⟨-1, 0⟩ : TSlot)))) (by kernel_rfl) (fun h45 => ?_) (fun h45 => ?_)
                        · refine wp_seq ?_
                          refine RG.start ?_
                          refine S.quiet (k := 7) (keep := [1, 75, 76, 77, 91]) (m := 1) (σ' := ⟨[(1, .p 0 0), (75, .v (slv (m.outer).length pm.outer.1)), (76, .v (I ((m.outer).length : Int))), (77, .v (I (j : Int))), (91, .v (B (!(f_pageOk (el m.out j)))))], [GT.cells (α := TMon) m pm]⟩) (.cons (Q_idx (RMon.out (d := m) (S.arg hm)) (l := (m.out).length) (k := j) (i := (j : Int)) rfl rfl (by omega) Go.Proofs.Try.underlying22 (by kernel_rfl)) (.cons (Q_el1 (RMon.out (d := m) (S.arg hm)) (t := 37) (k := j) (by omega) rfl (by kernel_rfl)) (.cons (Q_call fun w hw => c_impl_PageOk w (el m.out j) (pm.out.2 j) (rd_of (LRd.el (RMon.out (d := m) (S.arg hm)) j (by omega)) hw)) .nil))) (by kernel_rfl) ?_
                          clear S; intro ac w β S
                          refine RG.done rfl (nx_then ?_)
                          refine S.cond (e := (!(f_pageOk (el m.out j)))) (by kernel_rfl) (fun h46 => ?_) (fun h46 => ?_)
                          · have h47 : (f_pageOk (el m.out j)) = false := not_t h46
                            refine wp_seq ?_
                            refine RG.start ?_
                            refine S.quiet (k := 1) (keep := [2]) (m := 0) (σ' := ⟨[(2, .v (B false))], []⟩) .nil (by kernel_rfl) ?_
                            clear S; intro ac w β S
                            refine RG.done rfl (nx_then ?_)
                            refine wp_ret (rt_block (rt_then (rt_then (rt_block (rt_then ?_)))))
                            refine S.ret (vs := [B false]) (by kernel_rfl) ?_
                            exact ⟨retB (show false = f_monOk m by clear S; (first | rfl | (symm; rw [← Bool.not_eq_true]; intro hc; simp only [f_monOk, f_monHead, f_monTail, Bool.and_eq_true, decide_eq_true_eq, beq_iff_eq] at hc; first | omega | (simp_all; done) | (simp_all; omega) | (have hx := all_el (k := k) hc.1.2 (by omega); simp_all; done) | (have hx := rng_el (k := j) hc.2 (by omega); unfold f_pageSlot at hx; split at hx <;> first | (simp_all; done) | (simp_all; omega))) | (symm; simp only [f_monOk, f_monHead, f_monTail, Bool.and_eq_true, decide_eq_true_eq, beq_iff_eq]; (repeat' apply And.intro); all_goals first | assumption | omega | (simp_all; done) | (simp_all; omega) | (exact all_end (by omega) he) | ((have e8 : j = 8 := (by omega)); subst e8; exact hp)) | (rw [Bool.eq_iff_iff]; simp only [f_monOk, f_monHead, f_monTail, Bool.and_eq_true, decide_eq_true_eq, beq_iff_eq]; refine ⟨fun hr => ?_, fun hc => ?_⟩ <;> ((repeat' apply And.intro); all_goals first | assumption | omega | (simp_all; done) | (simp_all; omega) | (exact all_end (by omega) he) | ((have e8 : j = 8 := (by omega)); subst e8; exact hp))))), S.chg⟩
                          · have h48 : (f_pageOk (el m.out j)) = true := not_f h46
                            refine wp_skip (nx_block (nx_then ?_))
                            refine RG.start ?_
                            refine S.quiet (k := 2) (keep := [1, 75, 76, 77]) (m := 1) (σ' := ⟨[(1, .p 0 0), (75, .v (slv (m.outer).length pm.outer.1)), (76, .v (I ((m.outer).length : Int))), (77, .v (I ((j : Int) + 1)))], [GT.cells (α := TMon) m pm]⟩) (.cons (Q_add (x := (j : Int)) (y := 1) ⟨by omega, by omega⟩) .nil) (by kernel_rfl) ?_
                            clear S; intro ac w β S
                            refine RG.done rfl (nx_then ?_)
                            replace S := S.prune (keep := [1, 75, 76, 77]) (m := 1) (σ' := ⟨[(1, .p 0 0), (75, .v (slv (m.outer).length pm.outer.1)), (76, .v (I ((m.outer).length : Int))), (77, .v (I ((j : Int) + 1)))], [GT.cells (α := TMon) m pm]⟩) (by kernel_rfl)
                            refine ⟨m.outer.length - (j + 1), by omega, j + 1, _, _, _, rfl, ?_, ?_, S.cast (by kernel_rfl)⟩
                            · clear S; first | omega | (simp [*]; done) | (simp [*]; omega)
                            · clear S; (refine rng_step hp ?_; unfold f_pageSlot; (repeat' split) <;> first | (exfalso; simp_all; done) | (simp_all; done) | (simp_all; omega))
                        · refine wp_seq ?_
                          refine RG.start ?_
                          refine S.quiet (k := 5) (keep := [1, 5, 75, 76, 77, 96]) (m := 1) (σ' := ⟨[(1, .p 0 0), (5, .v (I (j : Int))), (75, .v (slv (m.outer).length pm.outer.1)), (76, .v (I ((m.outer).length : Int))), (77, .v (I (j : Int))), (96, .v (B (!(f_enough ((el m.outer j).rights) 1))))], [GT.cells (α := TMon) m pm]⟩) (.cons (Q_call fun w hw => c_impl_Enough w ((el m.outer j).rights) 1) .nil) (by kernel_rfl) ?_
                          clear S; intro ac w β S
                          rcases Bool.eq_false_or_eq_true (!(f_enough ((el m.outer j).rights) 1)) with h49 | h49 <;> rw [h49] at S
                          · have h50 : (f_enough ((el m.outer j).rights) 1) = false := not_t h49
                            refine S.quiet (k := 8) (keep := [1, 75, 76, 77, 104]) (m := 1) (σ' := ⟨[(1, .p 0 0), (75, .v (slv (m.outer).length pm.outer.1)), (76, .v (I ((m.outer).length : Int))), (77, .v (I (j : Int))), (104, .v (B true))], [GT.cells (α := TMon) m pm]⟩) .nil (by kernel_rfl) ?_
                            clear S; intro ac w β S
                            refine RG.done rfl (nx_then ?_)
                            refine S.cond (e := true) (by kernel_rfl) (fun _ => ?_) (fun hx => by cases hx)
                            refine wp_seq ?_
                            refine RG.start ?_
                            refine S.quiet (k := 1) (keep := [2]) (m := 0) (σ' := ⟨[(2, .v (B false))], []⟩) .nil (by kernel_rfl) ?_
                            clear S; intro ac w β S
                            refine RG.done rfl (nx_then ?_)
                            refine wp_ret (rt_block (rt_then (rt_then (rt_block (rt_then ?_)))))
                            refine S.ret (vs := [B false]) (by kernel_rfl) ?_
                            exact ⟨retB (show false = f_monOk m by clear S; (first | rfl | (symm; rw [← Bool.not_eq_true]; intro hc; simp only [f_monOk, f_monHead, f_monTail, Bool.and_eq_true, decide_eq_true_eq, beq_iff_eq] at hc; first | omega | (simp_all; done) | (simp_all; omega) | (have hx := all_el (k := k) hc.1.2 (by omega); simp_all; done) | (have hx := rng_el (k := j) hc.2 (by omega); unfold f_pageSlot at hx; split at hx <;> first | (simp_all; done) | (simp_all; omega))) | (symm; simp only [f_monOk, f_monHead, f_monTail, Bool.and_eq_true, decide_eq_true_eq, beq_iff_eq]; (repeat' apply And.intro); all_goals first | assumption | omega | (simp_all; done) | (simp_all; omega) | (exact all_end (by omega) he) | ((have e8 : j = 8 := (by omega)); subst e8; exact hp)) | (rw [Bool.eq_iff_iff]; simp only [f_monOk, f_monHead, f_monTail, Bool.and_eq_true, decide_eq_true_eq, beq_iff_eq]; refine ⟨fun hr => ?_, fun hc => ?_⟩ <;> ((repeat' apply And.intro); all_goals first | assumption | omega | (simp_all; done) | (simp_all; omega) | (exact all_end (by omega) he) | ((have e8 : j = 8 := (by omega)); subst e8; exact hp))))), S.chg⟩
                          · have h51 : (f_enough ((el m.outer j).rights) 1) = true := not_f h49
                            refine S.quiet (k := 8) (keep := [1, 75, 76, 77, 104]) (m := 1) (σ' := ⟨[(1, .p 0 0), (75, .v (slv (m.outer).length pm.outer.1)), (76, .v (I ((m.outer).length : Int))), (77, .v (I (j : Int))), (104, .v (B (decide ((((el m.out j)).length : Int) > 0))))], [GT.cells (α := TMon) m pm]⟩) (.cons (Q_idx (RMon.out (d := m) (S.arg hm)) (l := (m.out).length) (k := j) (i := (j : Int)) rfl rfl (by omega) Go.Proofs.Try.underlying22 (by kernel_rfl)) (.cons (Q_el1 (RMon.out (d := m) (S.arg hm)) (t := 37) (k := j) (by omega) rfl (by kernel_rfl)) .nil)) (by kernel_rfl) ?_
                            clear S; intro ac w β S
                            refine RG.done rfl (nx_then ?_)
                            refine S.cond (e := (decide ((((el m.out j)).length : Int) > 0))) (by kernel_rfl) (fun h52 => ?_) (fun h52 => ?_)
                            · have g53 : (((el m.out j)).length : Int) > 0 := of_decide_eq_true h52
                              refine wp_seq ?_
                              refine RG.start ?_
                              refine S.quiet (k := 1) (keep := [2]) (m := 0) (σ' := ⟨[(2, .v (B false))], []⟩) .nil (by kernel_rfl) ?_
                              clear S; intro ac w β S
                              refine RG.done rfl (nx_then ?_)
                              refine wp_ret (rt_block (rt_then (rt_then (rt_block (rt_then ?_)))))
                              refine S.ret (vs := [B false]) (by kernel_rfl) ?_
                              exact ⟨retB (show false = f_monOk m by clear S; (first | rfl | (symm; rw [← Bool.not_eq_true]; intro hc; simp only [f_monOk, f_monHead, f_monTail, Bool.and_eq_true, decide_eq_true_eq, beq_iff_eq] at hc; first | omega | (simp_all; done) | (simp_all; omega) | (have hx := all_el (k := k) hc.1.2 (by omega); simp_all; done) | (have hx := rng_el (k := j) hc.2 (by omega); unfold f_pageSlot at hx; split at hx <;> first | (simp_all; done) | (simp_all; omega))) | (symm; simp only [f_monOk, f_monHead, f_monTail, Bool.and_eq_true, decide_eq_true_eq, beq_iff_eq]; (repeat' apply And.intro); all_goals first | assumption | omega | (simp_all; done) | (simp_all; omega) | (exact all_end (by omega) he) | ((have e8 : j = 8 := (by omega)); subst e8; exact hp)) | (rw [Bool.eq_iff_iff]; simp only [f_monOk, f_monHead, f_monTail, Bool.and_eq_true, decide_eq_true_eq, beq_iff_eq]; refine ⟨fun hr => ?_, fun hc => ?_⟩ <;> ((repeat' apply And.intro); all_goals first | assumption | omega | (simp_all; done) | (simp_all; omega) | (exact all_end (by omega) he) | ((have e8 : j = 8 := (by omega)); subst e8; exact hp))))), S.chg⟩
                            · have g54 : ¬ ((((el m.out j)).length : Int) > 0) := of_decide_eq_false h52
                              refine wp_skip (nx_block (nx_then ?_))
                              refine RG.start ?_
                              refine S.quiet (k := 2) (keep := [1, 75, 76, 77]) (m := 1) (σ' := ⟨[(1, .p 0 0), (75, .v (slv (m.outer).length pm.outer.1)), (76, .v (I ((m.outer).length : Int))), (77, .v (I ((j : Int) + 1)))], [GT.cells (α := TMon) m pm]⟩) (.cons (Q_add (x := (j : Int)) (y := 1) ⟨by omega, by omega⟩) .nil) (by kernel_rfl) ?_
                              clear S; intro ac w β S
                              refine RG.done rfl (nx_then ?_)
                              replace S := S.prune (keep := [1, 75, 76, 77]) (m := 1) (σ' := ⟨[(1, .p 0 0), (75, .v (slv (m.outer).length pm.outer.1)), (76, .v (I ((m.outer).length : Int))), (77, .v (I ((j : Int) + 1)))], [GT.cells (α := TMon) m pm]⟩) (by kernel_rfl)
                              refine ⟨m.outer.length - (j + 1), by omega, j + 1, _, _, _, rfl, ?_, ?_, S.cast (by kernel_rfl)⟩
                              · clear S; first | omega | (simp [*]; done) | (simp [*]; omega)
                              · clear S; (refine rng_step hp ?_; unfold f_pageSlot; (repeat' split) <;> first | (exfalso; simp_all; done) | (simp_all; done) | (simp_all; omega))
                      · have g55 : ¬ ((j : Int) < ((m.outer).length : Int)) := of_decide_eq_false h43
                        refine wp_exit (ex_then (ex_then (ex_hit (nx_then ?_))))
                        refine wp_seq ?_
                        refine RG.start ?_
                        refine S.quiet (k := 1) (keep := [2]) (m := 0) (σ' := ⟨[(2, .v (B true))], []⟩) .nil (by kernel_rfl) ?_
                        clear S; intro ac w β S
                        refine RG.done rfl (nx_then ?_)
                        refine wp_ret ?_
                        refine S.ret (vs := [B true]) (by kernel_rfl) ?_
                        exact ⟨retB (show true = f_monOk m by clear S; (first | rfl | (symm; rw [← Bool.not_eq_true]; intro hc; simp only [f_monOk, f_monHead, f_monTail, Bool.and_eq_true, decide_eq_true_eq, beq_iff_eq] at hc; first | omega | (simp_all; done) | (simp_all; omega) | (have hx := all_el (k := k) hc.1.2 (by omega); simp_all; done) | (have hx := rng_el (k := j) hc.2 (by omega); unfold f_pageSlot at hx; split at hx <;> first | (simp_all; done) | (simp_all; omega))) | (symm; simp only [f_monOk, f_monHead, f_monTail, Bool.and_eq_true, decide_eq_true_eq, beq_iff_eq]; (repeat' apply And.intro); all_goals first | assumption | omega | (simp_all; done) | (simp_all; omega) | (exact all_end (by omega) he) | ((have e8 : j = 8 := (by omega)); subst e8; exact hp)) | (rw [Bool.eq_iff_iff]; simp only [f_monOk, f_monHead, f_monTail, Bool.and_eq_true, decide_eq_true_eq, beq_iff_eq]; refine ⟨fun hr => ?_, fun hc => ?_⟩ <;> ((repeat' apply And.intro); all_goals first | assumption | omega | (simp_all; done) | (simp_all; omega) | (exact all_end (by omega) he) | ((have e8 : j = 8 := (by omega)); subst e8; exact hp))))), S.chg⟩

set_option maxRecDepth 100000 in
theorem c_impl_HostOk (w0 : World) (h : THost) (ph : PHost) (hh : GT.rd KK (Lt w0.heap.size) w0 h ph) : Calls Go.Proofs.Try.prog 15 [GT.val (α := THost) h ph].toArray w0 (fun e w' => e = .returned (B (f_hostOk h)) ∧ Chg NoB w0 w') := by
  refine Calls.walk (args := [GT.val (α := THost) h ph]) NoB Go.Proofs.Try.func15 rfl rfl ?_
  intro ac β S
  have hleh_mem : h.mem.length ≤ 4194304 := LRd.le (RHost.mem (d := h) hh)
  have hleh_mons : h.mons.length ≤ 4194304 := LRd.le (RHost.mons (d := h) hh)
  have hleh_buf : h.buf.length ≤ 4194304 := LRd.le (RHost.buf (d := h) hh)
  have hleh_iobuf : h.iobuf.length ≤ 4194304 := LRd.le (RHost.iobuf (d := h) hh)
  refine wp_seq ?_
  refine RG.start ?_
  refine S.quiet (k := 2) (keep := [1]) (m := 1) (σ' := ⟨[(1, .p 0 0)], [GT.cells (α := THost) h ph]⟩) .nil (by kernel_rfl) ?_
  clear S; intro ac w β S
  refine RG.done rfl (nx_then ?_)
  refine wp_seq ?_
  refine wp_seq ?_
  refine RG.start ?_
  refine S.quiet (k := 5) (keep := [1, 12]) (m := 1) (σ' := ⟨[(1, .p 0 0), (12, .v (B (!(f_memOk h.mem 12))))], [GT.cells (α := THost) h ph]⟩) (.cons (Q_call fun w hw => c_impl_MemOk w h.mem ph.mem (rd_of (RHost.mem (d := h) (S.arg hh)) hw) 12) .nil) (by kernel_rfl) ?_
  clear S; intro ac w β S
  rcases Bool.eq_false_or_eq_true (!(f_memOk h.mem 12)) with h1 | h1 <;> rw [h1] at S
  · have h2 : (f_memOk h.mem 12) = false := not_t h1
    refine S.quiet (k := 18) (keep := [1, 30]) (m := 1) (σ' := ⟨[(1, .p 0 0), (30, .v (B true))], [GT.cells (α := THost) h ph]⟩) .nil (by kernel_rfl) ?_
    clear S; intro ac w β S
    refine RG.done rfl (nx_then ?_)
    refine S.cond (e := true) (by kernel_rfl) (fun _ => ?_) (fun hx => by cases hx)
    refine wp_seq ?_
    refine RG.start ?_
    refine S.quiet (k := 1) (keep := [2]) (m := 0) (σ' := ⟨[(2, .v (B false))], []⟩) .nil (by kernel_rfl) ?_
    clear S; intro ac w β S
    refine RG.done rfl (nx_then ?_)
    refine wp_ret (rt_then ?_)
    refine S.ret (vs := [B false]) (by kernel_rfl) ?_
    exact ⟨retB (show false = f_hostOk h by clear S; (first | (symm; rw [← Bool.not_eq_true]; intro hc; simp only [f_hostOk, f_hostHead, Bool.and_eq_true] at hc; (first | (simp_all; done) | (simp_all; omega))) | (rw [hostOk_dead (fold_dead (k := i) (by omega) stepMon_none hu (stepMon_bad (by assumption)))]) | (rw [hostOk_dead (fold_dead (k := i) (by omega) stepMon_none hu ((stepMon_ok hmok).trans (fold_dead (k := k) (by omega) stepSlot_none hu2 (stepSlot_hit (by omega) (by assumption)))))]) | (unfold f_hostOk f_hostUsed f_hostHead; rw [take_all (by omega)] at hu; rw [hu]; simp_all; done))), S.chg⟩
  · have h3 : (f_memOk h.mem 12) = true := not_f h1
    refine S.quiet (k := 7) (keep := [1, 19]) (m := 1) (σ' := ⟨[(1, .p 0 0), (19, .v (B (!(f_within ((h.mons).length : Int) 1 3))))], [GT.cells (α := THost) h ph]⟩) (.cons (Q_call fun w hw => c_impl_within w ((h.mons).length : Int) 1 3) .nil) (by kernel_rfl) ?_
    clear S; intro ac w β S
    rcases Bool.eq_false_or_eq_true (!(f_within ((h.mons).length : Int) 1 3)) with h4 | h4 <;> rw [h4] at S
    · have h5 : (f_within ((h.mons).length : Int) 1 3) = false := not_t h4
      have g6 := within_f h5
      refine S.quiet (k := 11) (keep := [1, 30]) (m := 1) (σ' := ⟨[(1, .p 0 0), (30, .v (B true))], [GT.cells (α := THost) h ph]⟩) .nil (by kernel_rfl) ?_
      clear S; intro ac w β S
      refine RG.done rfl (nx_then ?_)
      refine S.cond (e := true) (by kernel_rfl) (fun _ => ?_) (fun hx => by cases hx)
      refine wp_seq ?_
      refine RG.start ?_
      refine S.quiet (k := 1) (keep := [2]) (m := 0) (σ' := ⟨[(2, .v (B false))], []⟩) .nil (by kernel_rfl) ?_
      clear S; intro ac w β S
      refine RG.done rfl (nx_then ?_)
      refine wp_ret (rt_then ?_)
      refine S.ret (vs := [B false]) (by kernel_rfl) ?_
      exact ⟨retB (show false = f_hostOk h by clear S; (first | (symm; rw [← Bool.not_eq_true]; intro hc; simp only [f_hostOk, f_hostHead, Bool.and_eq_true] at hc; (first | (simp_all; done) | (simp_all; omega))) | (rw [hostOk_dead (fold_dead (k := i) (by omega) stepMon_none hu (stepMon_bad (by assumption)))]) | (rw [hostOk_dead (fold_dead (k := i) (by omega) stepMon_none hu ((stepMon_ok hmok).trans (fold_dead (k := k) (by omega) stepSlot_none hu2 (stepSlot_hit (by omega) (by assumption)))))]) | (unfold f_hostOk f_hostUsed f_hostHead; rw [take_all (by omega)] at hu; rw [hu]; simp_all; done))), S.chg⟩
    · have h7 : (f_within ((h.mons).length : Int) 1 3) = true := not_f h4
      have g8 := within_t h7
      refine S.quiet (k := 6) (keep := [1, 25]) (m := 1) (σ' := ⟨[(1, .p 0 0), (25, .v (B (!(f_bufferOk h.buf))))], [GT.cells (α := THost) h ph]⟩) (.cons (Q_call fun w hw => c_impl_BufferOk w h.buf ph.buf (rd_of (RHost.buf (d := h) (S.arg hh)) hw)) .nil) (by kernel_rfl) ?_
      clear S; intro ac w β S
      rcases Bool.eq_false_or_eq_true (!(f_bufferOk h.buf)) with h9 | h9 <;> rw [h9] at S
      · have h10 : (f_bufferOk h.buf) = false := not_t h9
        refine S.quiet (k := 5) (keep := [1, 30]) (m := 1) (σ' := ⟨[(1, .p 0 0), (30, .v (B true))], [GT.cells (α := THost) h ph]⟩) .nil (by kernel_rfl) ?_
        clear S; intro ac w β S
        refine RG.done rfl (nx_then ?_)
        refine S.cond (e := true) (by kernel_rfl) (fun _ => ?_) (fun hx => by cases hx)
        refine wp_seq ?_
        refine RG.start ?_
        refine S.quiet (k := 1) (keep := [2]) (m := 0) (σ' := ⟨[(2, .v (B false))], []⟩) .nil (by kernel_rfl) ?_
        clear S; intro ac w β S
        refine RG.done rfl (nx_then ?_)
        refine wp_ret (rt_then ?_)
        refine S.ret (vs := [B false]) (by kernel_rfl) ?_
        exact ⟨retB (show false = f_hostOk h by clear S; (first | (symm; rw [← Bool.not_eq_true]; intro hc; simp only [f_hostOk, f_hostHead, Bool.and_eq_true] at hc; (first | (simp_all; done) | (simp_all; omega))) | (rw [hostOk_dead (fold_dead (k := i) (by omega) stepMon_none hu (stepMon_bad (by assumption)))]) | (rw [hostOk_dead (fold_dead (k := i) (by omega) stepMon_none hu ((stepMon_ok hmok).trans (fold_dead (k := k) (by omega) stepSlot_none hu2 (stepSlot_hit (by omega) (by assumption)))))]) | (unfold f_hostOk f_hostUsed f_hostHead; rw [take_all (by omega)] at hu; rw [hu]; simp_all; done))), S.chg⟩
      · have h11 : (f_bufferOk h.buf) = true := not_f h9
        refine S.quiet (k := 5) (keep := [1, 30]) (m := 1) (σ' := ⟨[(1, .p 0 0), (30, .v (B (!(f_bufferOk h.iobuf))))], [GT.cells (α := THost) h ph]⟩) (.cons (Q_call fun w hw => c_impl_BufferOk w h.iobuf ph.iobuf (rd_of (RHost.iobuf (d := h) (S.arg hh)) hw)) .nil) (by kernel_rfl) ?_
        clear S; intro ac w β S
        refine RG.done rfl (nx_then ?_)
        refine S.cond (e := (!(f_bufferOk h.iobuf))) (by kernel_rfl) (fun h12 => ?_) (fun h12 => ?_)
        · have h13 : (f_bufferOk h.iobuf) = false := not_t h12
          refine wp_seq ?_
          refine RG.start ?_
          refine S.quiet (k := 1) (keep := [2]) (m := 0) (σ' := ⟨[(2, .v (B false))], []⟩) .nil (by kernel_rfl) ?_
          clear S; intro ac w β S
          refine RG.done rfl (nx_then ?_)
          refine wp_ret (rt_then ?_)
          refine S.ret (vs := [B false]) (by kernel_rfl) ?_
          exact ⟨retB (show false = f_hostOk h by clear S; (first | (symm; rw [← Bool.not_eq_true]; intro hc; simp only [f_hostOk, f_hostHead, Bool.and_eq_true] at hc; (first | (simp_all; done) | (simp_all; omega))) | (rw [hostOk_dead (fold_dead (k := i) (by omega) stepMon_none hu (stepMon_bad (by assumption)))]) | (rw [hostOk_dead (fold_dead (k := i) (by omega) stepMon_none hu ((stepMon_ok hmok).trans (fold_dead (k := k) (by omega) stepSlot_none hu2 (stepSlot_hit (by omega) (by assumption)))))]) | (unfold f_hostOk f_hostUsed f_hostHead; rw [take_all (by omega)] at hu; rw [hu]; simp_all; done))), S.chg⟩
        · have h14 : (f_bufferOk h.iobuf) = true := not_f h12
          refine wp_skip (nx_then ?_)
          refine wp_seq ?_
          refine RG.start ?_
          refine RG.op rfl (S.make (α := Bool) (m := 12) (by' := 1) (d := 31) (by kernel_rfl) (by omega) (show 12 ≤ 4194304 by omega) ?_)
          clear S; intro ac w N q15 F16 S up o17 d18
          clear up d18
          refine S.quiet (k := 1) (keep := [1, 3]) (m := 1) (σ' := ⟨[(1, .p 0 0), (3, .v (slv 12 q15.1))], [GT.cells (α := THost) h ph]⟩) .nil (by kernel_rfl) ?_
          clear S; intro ac w β S
          refine RG.done rfl (nx_then ?_)
          refine wp_seq ?_
          refine wp_seq ?_
          refine RG.start ?_
          refine S.quiet (k := 4) (keep := [3, 33, 34, 35]) (m := 0) (σ' := ⟨[(3, .v (slv 12 q15.1)), (33, .v (slv (h.mons).length ph.mons.1)), (34, .v (I ((h.mons).length : Int))), (35, .v (I 0))], []⟩) .nil (by kernel_rfl) ?_
          clear S; intro ac w β S
          refine RG.done rfl (nx_then ?_)
          refine wp_block ?_
          replace S := S.prune (keep := [3, 33, 34, 35]) (m := 0) (σ' := ⟨[(3, .v (slv 12 q15.1)), (33, .v (slv (h.mons).length ph.mons.1)), (34, .v (I ((h.mons).length : Int))), (35, .v (I 0))], []⟩) (by kernel_rfl)
          refine wp_loop_down (fun mm ac w => ∃ (i : Nat) (us : List Bool) (q19 : GT.Ptr (List Bool)) (F20 : Bl) (u : World) (N : Bl) (β : Nat → Nat), mm = h.mons.length - i ∧ (i ≤ h.mons.length) ∧ ((h.mons.take i).foldl stepMon (some (List.replicate 12 false)) = some us) ∧ (us.length = 12) ∧ St Go.Proofs.Try.prog Go.Proofs.Try.f15.ntmps w0 NoB u N β ⟨[(3, .v (slv 12 q19.1)), (33, .v (slv (h.mons).length ph.mons.1)), (34, .v (I ((h.mons).length : Int))), (35, .v (I (i : Int)))], []⟩ ac w ∧ Ow w0 NoB u N F20 us q19) _ ⟨0, (List.replicate 12 (GT.dflt : Bool)), q15, F16, _, _, _, rfl, (by first | omega | (simp; done) | (simp; omega)), (by rfl), (by rfl), S.cast (by kernel_rfl), o17⟩ ?_
          clear S o17
          rintro mm ac w ⟨i, us, q19, F20, u, N, β, rfl, hi, hu, hul, S, o21⟩
          refine wp_seq ?_
          refine RG.start ?_
          refine S.quiet (k := 1) (keep := [3, 33, 34, 35, 36]) (m := 0) (σ' := ⟨[(3, .v (slv 12 q19.1)), (33, .v (slv (h.mons).length ph.mons.1)), (34, .v (I ((h.mons).length : Int))), (35, .v (I (i : Int))), (36, .v (B (decide ((i : Int) < ((h.mons).length : Int)))))], []⟩) .nil (by kernel_rfl) ?_
          clear S; intro ac w β S
          refine RG.done rfl (nx_then ?_)
          refine wp_seq ?_
          refine S.cond (e := (decide ((i : Int) < ((h.mons).length : Int)))) (by kernel_rfl) (fun h22 => ?_) (fun h22 => ?_)
          · have g23 : (i : Int) < ((h.mons).length : Int) := of_decide_eq_true h22
            refine wp_skip (nx_then ?_)
            refine wp_seq ?_
            refine wp_block ?_
            refine wp_seq ?_
            refine RG.start ?_
            refine S.quiet (k := 4) (keep := [3, 5, 33, 34, 35]) (m := 1) (σ' := ⟨[(3, .v (slv 12 q19.1)), (5, .p 0 0), (33, .v (slv (h.mons).length ph.mons.1)), (34, .v (I ((h.mons).length : Int))), (35, .v (I (i : Int)))], [GT.cells (α := TMon) (el h.mons i) (ph.mons.2 i)]⟩) (.cons (Q_idx (RHost.mons (d := h) (S.arg hh)) (l := (h.mons).length) (k := i) (i := (i : Int)) rfl rfl (by omega) Go.Proofs.Try.underlying29 (by kernel_rfl)) (.cons (Q_el (RHost.mons (d := h) (S.arg hh)) (t := 50) (k := i) (by omega) rfl (by kernel_rfl) (by kernel_rfl)) .nil)) (by kernel_rfl) ?_
            clear S; intro ac w β S
            refine RG.done rfl (nx_then ?_)
            refine wp_seq ?_
            refine wp_seq ?_
            refine RG.start ?_
            refine S.quiet (k := 3) (keep := [3, 5, 33, 34, 35, 41]) (m := 1) (σ' := ⟨[(3, .v (slv 12 q19.1)), (5, .p 0 0), (33, .v (slv (h.mons).length ph.mons.1)), (34, .v (I ((h.mons).length : Int))), (35, .v (I (i : Int))), (41, .v (B (!(f_monOk (el h.mons i)))))], [GT.cells (α := TMon) (el h.mons i) (ph.mons.2 i)]⟩) (.cons (Q_call fun w hw => c_impl_MonOk w (el h.mons i) (ph.mons.2 i) (rd_of (LRd.el (RHost.mons (d := h) (S.arg hh)) i (by omega)) hw)) .nil) (by kernel_rfl) ?_
            clear S; intro ac w β S
            refine RG.done rfl (nx_then ?_)
            refine S.cond (e := (!(f_monOk (el h.mons i)))) (by kernel_rfl) (fun h24 => ?_) (fun h24 => ?_)
            · have h25 : (f_monOk (el h.mons i)) = false := not_t h24
              refine wp_seq ?_
              refine RG.start ?_
              refine S.quiet (k := 1) (keep := [2]) (m := 0) (σ' := ⟨[(2, .v (B false))], []⟩) .nil (by kernel_rfl) ?_
              clear S; intro ac w β S
              refine RG.done rfl (nx_then ?_)
              refine wp_ret (rt_then (rt_block (rt_then (rt_then (rt_block (rt_then ?_))))))
              refine S.ret (vs := [B false]) (by kernel_rfl) ?_
              exact ⟨retB (show false = f_hostOk h by clear S; (first | (symm; rw [← Bool.not_eq_true]; intro hc; simp only [f_hostOk, f_hostHead, Bool.and_eq_true] at hc; (first | (simp_all; done) | (simp_all; omega))) | (rw [hostOk_dead (fold_dead (k := i) (by omega) stepMon_none hu (stepMon_bad (by assumption)))]) | (rw [hostOk_dead (fold_dead (k := i) (by omega) stepMon_none hu ((stepMon_ok hmok).trans (fold_dead (k := k) (by omega) stepSlot_none hu2 (stepSlot_hit (by omega) (by assumption)))))]) | (unfold f_hostOk f_hostUsed f_hostHead; rw [take_all (by omega)] at hu; rw [hu]; simp_all; done))), S.chg⟩
            · have h26 : (f_monOk (el h.mons i)) = true := not_f h24
              have g27 := monOk_t h26
              refine wp_skip (nx_then ?_)
              refine wp_seq ?_
              refine RG.start ?_
              refine S.quiet (k := 4) (keep := [3, 33, 34, 35, 43, 44, 45]) (m := 0) (σ' := ⟨[(3, .v (slv 12 q19.1)), (33, .v (slv (h.mons).length ph.mons.1)), (34, .v (I ((h.mons).length : Int))), (35, .v (I (i : Int))), (43, .v (slv ((el h.mons i).outer).length ((ph.mons.2 i).outer).1)), (44, .v (I (((el h.mons i).outer).length : Int))), (45, .v (I 0))], []⟩) .nil (by kernel_rfl) ?_
              clear S; intro ac w β S
              refine RG.done rfl (nx_then ?_)
              refine wp_block ?_
              replace S := S.prune (keep := [3, 33, 34, 35, 43, 44, 45]) (m := 0) (σ' := ⟨[(3, .v (slv 12 q19.1)), (33, .v (slv (h.mons).length ph.mons.1)), (34, .v (I ((h.mons).length : Int))), (35, .v (I (i : Int))), (43, .v (slv ((el h.mons i).outer).length ((ph.mons.2 i).outer).1)), (44, .v (I (((el h.mons i).outer).length : Int))), (45, .v (I 0))], []⟩) (by kernel_rfl)
              refine wp_loop_down (fun mm ac w => ∃ (k : Nat) (us2 : List Bool) (q28 : GT.Ptr (List Bool)) (F29 : Bl) (u : World) (N : Bl) (β : Nat → Nat), mm = (el h.mons i).outer.length - k ∧ (k ≤ (el h.mons i).outer.length) ∧ (((el h.mons i).outer.take k).foldl stepSlot (some us) = some us2) ∧ (us2.length = 12) ∧ St Go.Proofs.Try.prog Go.Proofs.Try.f15.ntmps w0 NoB u N β ⟨[(3, .v (slv 12 q28.1)), (33, .v (slv (h.mons).length ph.mons.1)), (34, .v (I ((h.mons).length : Int))), (35, .v (I (i : Int))), (43, .v (slv ((el h.mons i).outer).length ((ph.mons.2 i).outer).1)), (44, .v (I (((el h.mons i).outer).length : Int))), (45, .v (I (k : Int)))], []⟩ ac w ∧ Ow w0 NoB u N F29 us2 q28) _ ⟨0, us, q19, F20, _, _, _, rfl, (by first | omega | (simp; done) | (simp; omega)), (by rfl), (by omega), S.cast (by kernel_rfl), o21⟩ ?_
              clear S o21
              rintro mm ac w ⟨k, us2, q28, F29, u, N, β, rfl, hk, hu2, hul2, S, o30⟩
              have hmok : f_monOk (el h.mons i) = true := by assumption
              have hpg := page_lt hmok k
              have hol := (monOk_t hmok).1
              refine wp_seq ?_
              refine RG.start ?_
              refine S.quiet (k := 1) (keep := [3, 33, 34, 35, 43, 44, 45, 46]) (m := 0) (σ' := ⟨[(3, .v (slv 12 q28.1)), (33, .v (slv (h.mons).length ph.mons.1)), (34, .v (I ((h.mons).length : Int))), (35, .v (I (i : Int))), (43, .v (slv ((el h.mons i).outer).length ((ph.mons.2 i).outer).1)), (44, .v (I (((el h.mons i).outer).length : Int))), (45, .v (I (k : Int))), (46, .v (B (decide ((k : Int) < (((el h.mons i).outer).length : Int)))))], []⟩) .nil (by kernel_rfl) ?_
              clear S; intro ac w β S
              refine RG.done rfl (nx_then ?_)
              refine wp_seq ?_
              refine S.cond (e := (decide ((k : Int) < (((el h.mons i).outer).length : Int)))) (by kernel_rfl) (fun h31 => ?_) (fun h31 => ?_)
              · have g32 : (k : Int) < (((el h.mons i).outer).length : Int) := of_decide_eq_true h31
                refine wp_skip (nx_then ?_)
                refine wp_seq ?_
                refine wp_block ?_
                refine wp_seq ?_
                refine RG.start ?_
                refine S.quiet (k := 4) (keep := [3, 7, 33, 34, 35, 43, 44, 45]) (m := 1) (σ' := ⟨[(3, .v (slv 12 q28.1)), (7, .p 0 0), (33, .v (slv (h.mons).length ph.mons.1)), (34, .v (I ((h.mons).length : Int))), (35, .v (I (i : Int))), (43, .v (slv ((el h.mons i).outer).length ((ph.mons.2 i).outer).1)), (44, .v (I (((el h.mons i).outer).length : Int))), (45, .v (I (k : Int)))], [GT.cells (α := TSlot) (el ((el h.mons i).outer) k) ()]⟩) (.cons (Q_idx (RMon.outer (d := (el h.mons i)) (LRd.el (RHost.mons (d := h) (S.arg hh)) i (by omega))) (l := ((el h.mons i).outer).length) (k := k) (i := (k : Int)) rfl rfl (by omega) Go.Proofs.Try.underlying45 (by kernel_rfl)) (.cons (Q_el (RMon.outer (d := (el h.mons i)) (LRd.el (RHost.mons (d := h) (S.arg hh)) i (by omega))) (t := 87) (k := k) (by omega) rfl (by kernel_rfl) (by kernel_rfl)) .nil)) (by kernel_rfl) ?_
                clear S; intro ac w β S
                refine RG.done rfl (nx_then ?_)
                refine wp_seq ?_
                refine wp_seq ?_
                refine RG.start ?_
                refine S.quiet (k := 3) (keep := [3, 7, 33, 34, 35, 43, 44, 45, 51]) (m := 1) (σ' := ⟨[(3, .v (slv 12 q28.1)), (7, .p 0 0), (33, .v (slv (h.mons).length ph.mons.1)), (34, .v (I ((h.mons).length : Int))), (35, .v (I (i : Int))), (43, .v (slv ((el h.mons i).outer).length ((ph.mons.2 i).outer).1)), (44, .v (I (((el h.mons i).outer).length : Int))), (45, .v (I (k : Int))), (51, .v (B (decide ((el ((el h.mons i).outer) k).page < 0))))], [GT.cells (α := TSlot) (el ((el h.mons i).outer) k) ()]⟩) .nil (by kernel_rfl) ?_
                clear S; intro ac w β S
                refine RG.done rfl (nx_then ?_)
                refine S.cond (e := (decide ((el ((el h.mons i).outer) k).page < 0))) (by kernel_rfl) (fun h33 => ?_) (fun h33 => ?_)
                · have g34 : (el ((el h.mons i).outer) k).page < 0 := of_decide_eq_true h33
                  refine wp_exit (ex_then (ex_hit (nx_then ?_)))
                  refine RG.start ?_
                  refine S.quiet (k := 2) (keep := [3, 33, 34, 35, 43, 44, 45]) (m := 0) (σ' := ⟨[(3, .v (slv 12 q28.1)), (33, .v (slv (h.mons).length ph.mons.1)), (34, .v (I ((h.mons).length : Int))), (35, .v (I (i : Int))), (43, .v (slv ((el h.mons i).outer).length ((ph.mons.2 i).outer).1)), (44, .v (I (((el h.mons i).outer).length : Int))), (45, .v (I ((k : Int) + 1)))], []⟩) (.cons (Q_add (x := (k : Int)) (y := 1) ⟨by omega, by omega⟩) .nil) (by kernel_rfl) ?_
                  clear S; intro ac w β S
                  refine RG.done rfl (nx_then ?_)
                  replace S := S.prune (keep := [3, 33, 34, 35, 43, 44, 45]) (m := 0) (σ' := ⟨[(3, .v (slv 12 q28.1)), (33, .v (slv (h.mons).length ph.mons.1)), (34, .v (I ((h.mons).length : Int))), (35, .v (I (i : Int))), (43, .v (slv ((el h.mons i).outer).length ((ph.mons.2 i).outer).1)), (44, .v (I (((el h.mons i).outer).length : Int))), (45, .v (I ((k : Int) + 1)))], []⟩) (by kernel_rfl)
                  refine ⟨(el h.mons i).outer.length - (k + 1), by omega, k + 1, us2, q28, F29, _, _, _, rfl, ?_, ?_, ?_, S.cast (by kernel_rfl), o30⟩
                  · clear S; first | omega | (simp [*]; done) | (simp [*]; omega)
                  · clear S; (rw [fold_step (by omega), hu2]; first | exact stepSlot_neg (by omega) | exact stepSlot_new (by omega) (by assumption) | exact stepSlot_new (by omega) (by simp_all))
                  · clear S; (first | omega | (simp; omega))
                · have g35 : ¬ ((el ((el h.mons i).outer) k).page < 0) := of_decide_eq_false h33
                  refine wp_skip (nx_then ?_)
                  refine wp_seq ?_
                  refine wp_seq ?_
                  refine RG.start ?_
                  refine S.quiet (k := 5) (keep := [3, 7, 33, 34, 35, 43, 44, 45, 56]) (m := 1) (σ' := ⟨[(3, .v (slv 12 q28.1)), (7, .p 0 0), (33, .v (slv (h.mons).length ph.mons.1)), (34, .v (I ((h.mons).length : Int))), (35, .v (I (i : Int))), (43, .v (slv ((el h.mons i).outer).length ((ph.mons.2 i).outer).1)), (44, .v (I (((el h.mons i).outer).length : Int))), (45, .v (I (k : Int))), (56, .v (B (el us2 (((el ((el h.mons i).outer) k).page).toNat))))], [GT.cells (α := TSlot) (el ((el h.mons i).outer) k) ()]⟩) (.cons (Q_idx o30.rn (l := 12) (k := ((el ((el h.mons i).outer) k).page).toNat) (i := (el ((el h.mons i).outer) k).page) (by omega) (by omega) (by omega) Go.Proofs.Try.underlying46 (by kernel_rfl)) (.cons (Q_el1 o30.rn (t := 4) (k := ((el ((el h.mons i).outer) k).page).toNat) (by omega) rfl (by kernel_rfl)) .nil)) (by kernel_rfl) ?_
                  clear S; intro ac w β S
                  refine RG.done rfl (nx_then ?_)
                  refine S.cond (e := (el us2 (((el ((el h.mons i).outer) k).page).toNat))) (by kernel_rfl) (fun h36 => ?_) (fun h36 => ?_)
                  · refine wp_seq ?_
                    refine RG.start ?_
                    refine S.quiet (k := 1) (keep := [2]) (m := 0) (σ' := ⟨[(2, .v (B false))], []⟩) .nil (by kernel_rfl) ?_
                    clear S; intro ac w β S
                    refine RG.done rfl (nx_then ?_)
                    refine wp_ret (rt_then (rt_block (rt_then (rt_then (rt_block (rt_block (rt_then (rt_then (rt_block (rt_then ?_))))))))))
                    refine S.ret (vs := [B false]) (by kernel_rfl) ?_
                    exact ⟨retB (show false = f_hostOk h by clear S; (first | (symm; rw [← Bool.not_eq_true]; intro hc; simp only [f_hostOk, f_hostHead, Bool.and_eq_true] at hc; (first | (simp_all; done) | (simp_all; omega))) | (rw [hostOk_dead (fold_dead (k := i) (by omega) stepMon_none hu (stepMon_bad (by assumption)))]) | (rw [hostOk_dead (fold_dead (k := i) (by omega) stepMon_none hu ((stepMon_ok hmok).trans (fold_dead (k := k) (by omega) stepSlot_none hu2 (stepSlot_hit (by omega) (by assumption)))))]) | (unfold f_hostOk f_hostUsed f_hostHead; rw [take_all (by omega)] at hu; rw [hu]; simp_all; done))), S.chg⟩
                  · refine wp_skip (nx_then ?_)
                    refine RG.start ?_
                    refine S.quiet (k := 4) (keep := [3, 33, 34, 35, 43, 44, 45, 60]) (m := 0) (σ' := ⟨[(3, .v (slv 12 q28.1)), (33, .v (slv (h.mons).length ph.mons.1)), (34, .v (I ((h.mons).length : Int))), (35, .v (I (i : Int))), (43, .v (slv ((el h.mons i).outer).length ((ph.mons.2 i).outer).1)), (44, .v (I (((el h.mons i).outer).length : Int))), (45, .v (I (k : Int))), (60, .v (pt q28.1.b (q28.1.off + (((el ((el h.mons i).outer) k).page).toNat) * 1)))], []⟩) (.cons (Q_idx o30.rn (l := 12) (k := ((el ((el h.mons i).outer) k).page).toNat) (i := (el ((el h.mons i).outer) k).page) (by omega) (by omega) (by omega) Go.Proofs.Try.underlying46 (by kernel_rfl)) .nil) (by kernel_rfl) ?_
                    clear S; intro ac w β S
                    refine RG.op rfl (S.setEl (α := Bool) o30 (t := 4) (v := B true) (k := ((el ((el h.mons i).outer) k).page).toNat) (j := 0) (off := q28.1.off + (((el ((el h.mons i).outer) k).page).toNat) * 1) (y := true) (q := ()) (Fy := NoB) (by kernel_rfl) (by kernel_rfl) (by omega) (by kernel_rfl) (by kernel_rfl) (Nat.le_of_ble_eq_true (by kernel_rfl)) (by kernel_rfl) (fun _ _ => ⟨NoB, trivial, fun _ h => False.elim h⟩) (fun b _ h => False.elim h) (fun b h => False.elim h) (fun b h => False.elim h) ?_)
                    clear S; intro w N F38 q39 S up o37 d40 s41
                    clear up d40 o30
                    have l42 : (us2.set (((el ((el h.mons i).outer) k).page).toNat) true).length = (us2).length := List.length_set
                    replace S := S.prune (keep := [3, 33, 34, 35, 43, 44, 45]) (m := 0) (σ' := ⟨[(3, .v (slv 12 q28.1)), (33, .v (slv (h.mons).length ph.mons.1)), (34, .v (I ((h.mons).length : Int))), (35, .v (I (i : Int))), (43, .v (slv ((el h.mons i).outer).length ((ph.mons.2 i).outer).1)), (44, .v (I (((el h.mons i).outer).length : Int))), (45, .v (I (k : Int)))], []⟩) (by kernel_rfl)
                    refine RG.done rfl (nx_block (nx_then ?_))
                    refine RG.start ?_
                    refine S.quiet (k := 2) (keep := [3, 33, 34, 35, 43, 44, 45]) (m := 0) (σ' := ⟨[(3, .v (slv 12 q28.1)), (33, .v (slv (h.mons).length ph.mons.1)), (34, .v (I ((h.mons).length : Int))), (35, .v (I (i : Int))), (43, .v (slv ((el h.mons i).outer).length ((ph.mons.2 i).outer).1)), (44, .v (I (((el h.mons i).outer).length : Int))), (45, .v (I ((k : Int) + 1)))], []⟩) (.cons (Q_add (x := (k : Int)) (y := 1) ⟨by omega, by omega⟩) .nil) (by kernel_rfl) ?_
                    clear S; intro ac w β S
                    refine RG.done rfl (nx_then ?_)
                    replace S := S.prune (keep := [3, 33, 34, 35, 43, 44, 45]) (m := 0) (σ' := ⟨[(3, .v (slv 12 q28.1)), (33, .v (slv (h.mons).length ph.mons.1)), (34, .v (I ((h.mons).length : Int))), (35, .v (I (i : Int))), (43, .v (slv ((el h.mons i).outer).length ((ph.mons.2 i).outer).1)), (44, .v (I (((el h.mons i).outer).length : Int))), (45, .v (I ((k : Int) + 1)))], []⟩) (by kernel_rfl)
                    refine ⟨(el h.mons i).outer.length - (k + 1), by omega, k + 1, (us2.set (((el ((el h.mons i).outer) k).page).toNat) true), (q28.1, q39), F38, _, _, _, rfl, ?_, ?_, ?_, S.cast (by kernel_rfl), o37⟩
                    · clear S; first | omega | (simp [*]; done) | (simp [*]; omega)
                    · clear S; (rw [fold_step (by omega), hu2]; first | exact stepSlot_neg (by omega) | exact stepSlot_new (by omega) (by assumption) | exact stepSlot_new (by omega) (by simp_all))
                    · clear S; (first | omega | (simp; omega))
              · have g43 : ¬ ((k : Int) < (((el h.mons i).outer).length : Int)) := of_decide_eq_false h31
                refine wp_exit (ex_then (ex_then (ex_hit (nx_block (nx_then ?_)))))
                refine RG.start ?_
                refine S.quiet (k := 2) (keep := [3, 33, 34, 35]) (m := 0) (σ' := ⟨[(3, .v (slv 12 q28.1)), (33, .v (slv (h.mons).length ph.mons.1)), (34, .v (I ((h.mons).length : Int))), (35, .v (I ((i : Int) + 1)))], []⟩) (.cons (Q_add (x := (i : Int)) (y := 1) ⟨by omega, by omega⟩) .nil) (by kernel_rfl) ?_
                clear S; intro ac w β S
                refine RG.done rfl (nx_then ?_)
                replace S := S.prune (keep := [3, 33, 34, 35]) (m := 0) (σ' := ⟨[(3, .v (slv 12 q28.1)), (33, .v (slv (h.mons).length ph.mons.1)), (34, .v (I ((h.mons).length : Int))), (35, .v (I ((i : Int) + 1)))], []⟩) (by kernel_rfl)
                refine ⟨h.mons.length - (i + 1), by omega, i + 1, us2, q28, F29, _, _, _, rfl, ?_, ?_, ?_, S.cast (by kernel_rfl), o30⟩
                · clear S; first | omega | (simp [*]; done) | (simp [*]; omega)
                · clear S; (rw [fold_step (by omega), hu, stepMon_ok (by assumption)]; rw [take_all (by omega)] at hu2; exact hu2)
                · clear S; omega
          · have g44 : ¬ ((i : Int) < ((h.mons).length : Int)) := of_decide_eq_false h22
            refine wp_exit (ex_then (ex_then (ex_hit (nx_then ?_))))
            refine wp_seq ?_
            refine RG.start ?_
            refine S.quiet (k := 1) (keep := [2]) (m := 0) (σ' := ⟨[(2, .v (B true))], []⟩) .nil (by kernel_rfl) ?_
            clear S; intro ac w β S
            refine RG.done rfl (nx_then ?_)
            refine wp_ret ?_
            refine S.ret (vs := [B true]) (by kernel_rfl) ?_
            exact ⟨retB (show true = f_hostOk h by clear S; (first | (symm; rw [← Bool.not_eq_true]; intro hc; simp only [f_hostOk, f_hostHead, Bool.and_eq_true] at hc; (first | (simp_all; done) | (simp_all; omega))) | (rw [hostOk_dead (fold_dead (k := i) (by omega) stepMon_none hu (stepMon_bad (by assumption)))]) | (rw [hostOk_dead (fold_dead (k := i) (by omega) stepMon_none hu ((stepMon_ok hmok).trans (fold_dead (k := k) (by omega) stepSlot_none hu2 (stepSlot_hit (by omega) (by assumption)))))]) | (unfold f_hostOk f_hostUsed f_hostHead; rw [take_all (by omega)] at hu; rw [hu]; simp_all; done))), S.chg⟩

set_option maxRecDepth 100000 in
theorem c_laws_eqIntS (w0 : World) (a : List Int) (pa : LP Int) (ha : GT.rd KK (Lt w0.heap.size) w0 a pa) (b : List Int) (pb : LP Int) (hb : GT.rd KK (Lt w0.heap.size) w0 b pb) : Calls Go.Proofs.Try.prog 18 [slv (a).length pa.1, slv (b).length pb.1].toArray w0 (fun e w' => e = .returned (B (decide (a = b))) ∧ Chg NoB w0 w') := by
  refine Calls.walk (args := [slv (a).length pa.1, slv (b).length pb.1]) NoB Go.Proofs.Try.func18 rfl rfl ?_
  intro ac β S
  have hlea : a.length ≤ 4194304 := LRd.le ha
  have hleb : b.length ≤ 4194304 := LRd.le hb
  refine wp_seq ?_
  refine RG.start ?_
  refine S.quiet (k := 1) (keep := [0, 1]) (m := 0) (σ' := ⟨[(0, .v (slv (a).length pa.1)), (1, .v (slv (b).length pb.1))], []⟩) .nil (by kernel_rfl) ?_
  clear S; intro ac w β S
  refine RG.done rfl (nx_then ?_)
  refine wp_seq ?_
  refine wp_seq ?_
  refine RG.start ?_
  refine S.quiet (k := 5) (keep := [0, 1, 10]) (m := 0) (σ' := ⟨[(0, .v (slv (a).length pa.1)), (1, .v (slv (b).length pb.1)), (10, .v (B (((a).length : Int) != ((b).length : Int))))], []⟩) .nil (by kernel_rfl) ?_
  clear S; intro ac w β S
  refine RG.done rfl (nx_then ?_)
  refine S.cond (e := (((a).length : Int) != ((b).length : Int))) (by kernel_rfl) (fun h1 => ?_) (fun h1 => ?_)
  · have g2 : ¬ (((a).length : Int) = ((b).length : Int)) := bne_iff_ne.1 h1
    refine wp_seq ?_
    refine RG.start ?_
    refine S.quiet (k := 1) (keep := [4]) (m := 0) (σ' := ⟨[(4, .v (B false))], []⟩) .nil (by kernel_rfl) ?_
    clear S; intro ac w β S
    refine RG.done rfl (nx_then ?_)
    refine wp_ret (rt_then ?_)
    refine S.ret (vs := [B false]) (by kernel_rfl) ?_
    exact ⟨retB (show false = decide (a = b) by clear S; first | (simp; intro e; subst e; simp_all; done) | (simp; rw [take_all (by omega), take_all (by omega)] at he; exact he) | (simp; exact take_ne (by simp_all))), S.chg⟩
  · have g3 : ((a).length : Int) = ((b).length : Int) := ne_f h1
    refine wp_skip (nx_then ?_)
    refine wp_seq ?_
    refine wp_seq ?_
    refine RG.start ?_
    refine S.quiet (k := 1) (keep := [0, 1, 5]) (m := 0) (σ' := ⟨[(0, .v (slv (a).length pa.1)), (1, .v (slv (b).length pb.1)), (5, .v (I 0))], []⟩) .nil (by kernel_rfl) ?_
    clear S; intro ac w β S
    refine RG.done rfl (nx_then ?_)
    refine wp_block ?_
    replace S := S.prune (keep := [0, 1, 5]) (m := 0) (σ' := ⟨[(0, .v (slv (a).length pa.1)), (1, .v (slv (b).length pb.1)), (5, .v (I 0))], []⟩) (by kernel_rfl)
    refine wp_loop_down (fun mm ac w => ∃ (k : Nat)  (u : World) (N : Bl) (β : Nat → Nat), mm = a.length - k ∧ (k ≤ a.length) ∧ (a.length = b.length) ∧ (a.take k = b.take k) ∧ St Go.Proofs.Try.prog Go.Proofs.Try.f18.ntmps w0 NoB u N β ⟨[(0, .v (slv (a).length pa.1)), (1, .v (slv (b).length pb.1)), (5, .v (I (k : Int)))], []⟩ ac w) _ ⟨0, _, _, _, rfl, (by first | omega | (simp; done) | (simp; omega)), (by first | omega | (simp; done) | (simp; omega)), (by simp), S.cast (by kernel_rfl)⟩ ?_
    clear S
    rintro mm ac w ⟨k, u, N, β, rfl, hk, hab, he, S⟩
    refine wp_seq ?_
    refine wp_seq ?_
    refine RG.start ?_
    refine S.quiet (k := 4) (keep := [0, 1, 5, 14]) (m := 0) (σ' := ⟨[(0, .v (slv (a).length pa.1)), (1, .v (slv (b).length pb.1)), (5, .v (I (k : Int))), (14, .v (B (decide ((k : Int) < ((a).length : Int)))))], []⟩) .nil (by kernel_rfl) ?_
    clear S; intro ac w β S
    refine RG.done rfl (nx_then ?_)
    refine S.cond (e := (decide ((k : Int) < ((a).length : Int)))) (by kernel_rfl) (fun h4 => ?_) (fun h4 => ?_)
    · have g5 : (k : Int) < ((a).length : Int) := of_decide_eq_true h4
      refine wp_skip (nx_then ?_)
      refine wp_seq ?_
      refine wp_block ?_
      refine wp_seq ?_
      refine S.drawn (keep := [0, 1, 5, 25]) (m := 0) (σ' := ⟨[(0, .v (slv (a).length pa.1)), (1, .v (slv (b).length pb.1)), (5, .v (I (k : Int))), (25, .v (B ((el a k) != (el b k))))], []⟩) (.cons (Q_idx (S.arg ha) (l := (a).length) (k := k) (i := (k : Int)) rfl rfl (by omega) Go.Proofs.Try.underlying37 (by kernel_rfl)) (.cons (Q_el1 (S.arg ha) (t := 3) (k := k) (by omega) rfl (by kernel_rfl)) (.cons (Q_idx (S.arg hb) (l := (b).length) (k := k) (i := (k : Int)) rfl rfl (by omega) Go.Proofs.Try.underlying37 (by kernel_rfl)) (.cons (Q_el1 (S.arg hb) (t := 3) (k := k) (by omega) rfl (by kernel_rfl)) .nil)))) rfl (by kernel_rfl) (by kernel_rfl) ?_
      clear S; intro ac w S
      refine id (nx_then ?_)
      refine S.cond (e := ((el a k) != (el b k))) (by kernel_rfl) (fun h6 => ?_) (fun h6 => ?_)
      · have g7 : ¬ ((el a k) = (el b k)) := bne_iff_ne.1 h6
        refine wp_seq ?_
        refine RG.start ?_
        refine S.quiet (k := 1) (keep := [4]) (m := 0) (σ' := ⟨[(4, .v (B false))], []⟩) .nil (by kernel_rfl) ?_
        clear S; intro ac w β S
        refine RG.done rfl (nx_then ?_)
        refine wp_ret (rt_block (rt_then (rt_then (rt_block (rt_then ?_)))))
        refine S.ret (vs := [B false]) (by kernel_rfl) ?_
        exact ⟨retB (show false = decide (a = b) by clear S; first | (simp; intro e; subst e; simp_all; done) | (simp; rw [take_all (by omega), take_all (by omega)] at he; exact he) | (simp; exact take_ne (by simp_all))), S.chg⟩
      · have g8 : (el a k) = (el b k) := ne_f h6
        refine wp_skip (nx_block (nx_then ?_))
        refine RG.start ?_
        refine S.quiet (k := 3) (keep := [0, 1, 5]) (m := 0) (σ' := ⟨[(0, .v (slv (a).length pa.1)), (1, .v (slv (b).length pb.1)), (5, .v (I ((k : Int) + 1)))], []⟩) (.cons (Q_add (x := (k : Int)) (y := 1) ⟨by omega, by omega⟩) .nil) (by kernel_rfl) ?_
        clear S; intro ac w β S
        refine RG.done rfl (nx_then ?_)
        replace S := S.prune (keep := [0, 1, 5]) (m := 0) (σ' := ⟨[(0, .v (slv (a).length pa.1)), (1, .v (slv (b).length pb.1)), (5, .v (I ((k : Int) + 1)))], []⟩) (by kernel_rfl)
        refine ⟨a.length - (k + 1), by omega, k + 1, _, _, _, rfl, ?_, ?_, ?_, S.cast (by kernel_rfl)⟩
        · clear S; first | omega | (simp [*]; done) | (simp [*]; omega)
        · clear S; first | omega | (simp [*]; done) | (simp [*]; omega)
        · clear S; exact take_eq_step (by omega) (by omega) he (by simp_all)
    · have g9 : ¬ ((k : Int) < ((a).length : Int)) := of_decide_eq_false h4
      refine wp_exit (ex_then (ex_then (ex_hit (nx_then ?_))))
      refine wp_seq ?_
      refine RG.start ?_
      refine S.quiet (k := 1) (keep := [4]) (m := 0) (σ' := ⟨[(4, .v (B true))], []⟩) .nil (by kernel_rfl) ?_
      clear S; intro ac w β S
      refine RG.done rfl (nx_then ?_)
      refine wp_ret ?_
      refine S.ret (vs := [B true]) (by kernel_rfl) ?_
      exact ⟨retB (show true = decide (a = b) by clear S; first | (simp; intro e; subst e; simp_all; done) | (simp; rw [take_all (by omega), take_all (by omega)] at he; exact he) | (simp; exact take_ne (by simp_all))), S.chg⟩

set_option maxRecDepth 100000 in
theorem c_laws_eqIntSS (w0 : World) (a : List (List Int)) (pa : LP (List Int)) (ha : GT.rd KK (Lt w0.heap.size) w0 a pa) (b : List (List Int)) (pb : LP (List Int)) (hb : GT.rd KK (Lt w0.heap.size) w0 b pb) : Calls Go.Proofs.Try.prog 53 [slv (a).length pa.1, slv (b).length pb.1].toArray w0 (fun e w' => e = .returned (B (decide (a = b))) ∧ Chg NoB w0 w') := by
  refine Calls.walk (args := [slv (a).length pa.1, slv (b).length pb.1]) NoB Go.Proofs.Try.func53 rfl rfl ?_
  intro ac β S
  have hlea : a.length ≤ 4194304 := LRd.le ha
  have hleb : b.length ≤ 4194304 := LRd.le hb
  refine wp_seq ?_
  refine RG.start ?_
  refine S.quiet (k := 1) (keep := [0, 1]) (m := 0) (σ' := ⟨[(0, .v (slv (a).length pa.1)), (1, .v (slv (b).length pb.1))], []⟩) .nil (by kernel_rfl) ?_
  clear S; intro ac w β S
  refine RG.done rfl (nx_then ?_)
  refine wp_seq ?_
  refine wp_seq ?_
  refine RG.start ?_
  refine S.quiet (k := 5) (keep := [0, 1, 10]) (m := 0) (σ' := ⟨[(0, .v (slv (a).length pa.1)), (1, .v (slv (b).length pb.1)), (10, .v (B (((a).length : Int) != ((b).length : Int))))], []⟩) .nil (by kernel_rfl) ?_
  clear S; intro ac w β S
  refine RG.done rfl (nx_then ?_)
  refine S.cond (e := (((a).length : Int) != ((b).length : Int))) (by kernel_rfl) (fun h1 => ?_) (fun h1 => ?_)
  · have g2 : ¬ (((a).length : Int) = ((b).length : Int)) := bne_iff_ne.1 h1
    refine wp_seq ?_
    refine RG.start ?_
    refine S.quiet (k := 1) (keep := [4]) (m := 0) (σ' := ⟨[(4, .v (B false))], []⟩) .nil (by kernel_rfl) ?_
    clear S; intro ac w β S
    refine RG.done rfl (nx_then ?_)
    refine wp_ret (rt_then ?_)
    refine S.ret (vs := [B false]) (by kernel_rfl) ?_
    exact ⟨retB (show false = decide (a = b) by clear S; first | (simp; intro e; subst e; simp_all; done) | (simp; rw [take_all (by omega), take_all (by omega)] at he; exact he) | (simp; exact take_ne (by simp_all))), S.chg⟩
  · have g3 : ((a).length : Int) = ((b).length : Int) := ne_f h1
    refine wp_skip (nx_then ?_)
    refine wp_seq ?_
    refine wp_seq ?_
    refine RG.start ?_
    refine S.quiet (k := 1) (keep := [0, 1, 5]) (m := 0) (σ' := ⟨[(0, .v (slv (a).length pa.1)), (1, .v (slv (b).length pb.1)), (5, .v (I 0))], []⟩) .nil (by kernel_rfl) ?_
    clear S; intro ac w β S
    refine RG.done rfl (nx_then ?_)
    refine wp_block ?_
    replace S := S.prune (keep := [0, 1, 5]) (m := 0) (σ' := ⟨[(0, .v (slv (a).length pa.1)), (1, .v (slv (b).length pb.1)), (5, .v (I 0))], []⟩) (by kernel_rfl)
    refine wp_loop_down (fun mm ac w => ∃ (k : Nat)  (u : World) (N : Bl) (β : Nat → Nat), mm = a.length - k ∧ (k ≤ a.length) ∧ (a.length = b.length) ∧ (a.take k = b.take k) ∧ St Go.Proofs.Try.prog Go.Proofs.Try.f53.ntmps w0 NoB u N β ⟨[(0, .v (slv (a).length pa.1)), (1, .v (slv (b).length pb.1)), (5, .v (I (k : Int)))], []⟩ ac w) _ ⟨0, _, _, _, rfl, (by first | omega | (simp; done) | (simp; omega)), (by first | omega | (simp; done) | (simp; omega)), (by simp), S.cast (by kernel_rfl)⟩ ?_
    clear S
    rintro mm ac w ⟨k, u, N, β, rfl, hk, hab, he, S⟩
    refine wp_seq ?_
    refine wp_seq ?_
    refine RG.start ?_
    refine S.quiet (k := 4) (keep := [0, 1, 5, 14]) (m := 0) (σ' := ⟨[(0, .v (slv (a).length pa.1)), (1, .v (slv (b).length pb.1)), (5, .v (I (k : Int))), (14, .v (B (decide ((k : Int) < ((a).length : Int)))))], []⟩) .nil (by kernel_rfl) ?_
    clear S; intro ac w β S
    refine RG.done rfl (nx_then ?_)
    refine S.cond (e := (decide ((k : Int) < ((a).length : Int)))) (by kernel_rfl) (fun h4 => ?_) (fun h4 => ?_)
    · have g5 : (k : Int) < ((a).length : Int) := of_decide_eq_true h4
      refine wp_skip (nx_then ?_)
      refine wp_seq ?_
      refine wp_block ?_
      refine wp_seq ?_
      refine S.drawn (keep := [0, 1, 5, 26]) (m := 0) (σ' := ⟨[(0, .v (slv (a).length pa.1)), (1, .v (slv (b).length pb.1)), (5, .v (I (k : Int))), (26, .v (B (!(decide ((el a k) = (el b k))))))], []⟩) (.cons (Q_idx (S.arg ha) (l := (a).length) (k := k) (i := (k : Int)) rfl rfl (by omega) Go.Proofs.Try.underlying22 (by kernel_rfl)) (.cons (Q_el1 (S.arg ha) (t := 37) (k := k) (by omega) rfl (by kernel_rfl)) (.cons (Q_idx (S.arg hb) (l := (b).length) (k := k) (i := (k : Int)) rfl rfl (by omega) Go.Proofs.Try.underlying22 (by kernel_rfl)) (.cons (Q_el1 (S.arg hb) (t := 37) (k := k) (by omega) rfl (by kernel_rfl)) (.cons (Q_call fun w hw => c_laws_eqIntS w (el a k) (pa.2 k) (rd_of (LRd.el (S.arg ha) k (by omega)) hw) (el b k) (pb.2 k) (rd_of (LRd.el (S.arg hb) k (by omega)) hw)) .nil))))) rfl (by kernel_rfl) (by kernel_rfl) ?_
      clear S; intro ac w S
      refine id (nx_then ?_)
      refine S.cond (e := (!(decide ((el a k) = (el b k))))) (by kernel_rfl) (fun h6 => ?_) (fun h6 => ?_)
      · have h7 : (decide ((el a k) = (el b k))) = false := not_t h6
        have g8 := of_decide_eq_false h7
        refine wp_seq ?_
        refine RG.start ?_
        refine S.quiet (k := 1) (keep := [4]) (m := 0) (σ' := ⟨[(4, .v (B false))], []⟩) .nil (by kernel_rfl) ?_
        clear S; intro ac w β S
        refine RG.done rfl (nx_then ?_)
        refine wp_ret (rt_block (rt_then (rt_then (rt_block (rt_then ?_)))))
        refine S.ret (vs := [B false]) (by kernel_rfl) ?_
        exact ⟨retB (show false = decide (a = b) by clear S; first | (simp; intro e; subst e; simp_all; done) | (simp; rw [take_all (by omega), take_all (by omega)] at he; exact he) | (simp; exact take_ne (by simp_all))), S.chg⟩
      · have h9 : (decide ((el a k) = (el b k))) = true := not_f h6
        have g10 := of_decide_eq_true h9
        refine wp_skip (nx_block (nx_then ?_))
        refine RG.start ?_
        refine S.quiet (k := 3) (keep := [0, 1, 5]) (m := 0) (σ' := ⟨[(0, .v (slv (a).length pa.1)), (1, .v (slv (b).length pb.1)), (5, .v (I ((k : Int) + 1)))], []⟩) (.cons (Q_add (x := (k : Int)) (y := 1) ⟨by omega, by omega⟩) .nil) (by kernel_rfl) ?_
        clear S; intro ac w β S
        refine RG.done rfl (nx_then ?_)
        replace S := S.prune (keep := [0, 1, 5]) (m := 0) (σ' := ⟨[(0, .v (slv (a).length pa.1)), (1, .v (slv (b).length pb.1)), (5, .v (I ((k : Int) + 1)))], []⟩) (by kernel_rfl)
        refine ⟨a.length - (k + 1), by omega, k + 1, _, _, _, rfl, ?_, ?_, ?_, S.cast (by kernel_rfl)⟩
        · clear S; first | omega | (simp [*]; done) | (simp [*]; omega)
        · clear S; first | omega | (simp [*]; done) | (simp [*]; omega)
        · clear S; exact take_eq_step (by omega) (by omega) he (by simp_all)
    · have g11 : ¬ ((k : Int) < ((a).length : Int)) := of_decide_eq_false h4
      refine wp_exit (ex_then (ex_then (ex_hit (nx_then ?_))))
      refine wp_seq ?_
      refine RG.start ?_
      refine S.quiet (k := 1) (keep := [4]) (m := 0) (σ' := ⟨[(4, .v (B true))], []⟩) .nil (by kernel_rfl) ?_
      clear S; intro ac w β S
      refine RG.done rfl (nx_then ?_)
      refine wp_ret ?_
      refine S.ret (vs := [B true]) (by kernel_rfl) ?_
      exact ⟨retB (show true = decide (a = b) by clear S; first | (simp; intro e; subst e; simp_all; done) | (simp; rw [take_all (by omega), take_all (by omega)] at he; exact he) | (simp; exact take_ne (by simp_all))), S.chg⟩

set_option maxRecDepth 100000 in
theorem c_laws_eqSlot (w0 : World) (a : TSlot) (b : TSlot) : Calls Go.Proofs.Try.prog 139 [GT.val (α := TSlot) a (), GT.val (α := TSlot) b ()].toArray w0 (fun e w' => e = .returned (B (decide (a = b))) ∧ Chg NoB w0 w') := by
  refine Calls.walk (args := [GT.val (α := TSlot) a (), GT.val (α := TSlot) b ()]) NoB Go.Proofs.Try.func139 rfl rfl ?_
  intro ac β S
  refine wp_seq ?_
  refine RG.start ?_
  refine S.quiet (k := 3) (keep := [2, 3]) (m := 2) (σ' := ⟨[(2, .p 0 0), (3, .p 1 0)], [GT.cells (α := TSlot) a (), GT.cells (α := TSlot) b ()]⟩) .nil (by kernel_rfl) ?_
  clear S; intro ac w β S
  refine RG.done rfl (nx_then ?_)
  refine wp_seq ?_
  refine wp_seq ?_
  refine RG.start ?_
  refine S.quiet (k := 5) (keep := [2, 3, 9]) (m := 2) (σ' := ⟨[(2, .p 0 0), (3, .p 1 0), (9, .v (B (a.page != b.page)))], [GT.cells (α := TSlot) a (), GT.cells (α := TSlot) b ()]⟩) .nil (by kernel_rfl) ?_
  clear S; intro ac w β S
  refine RG.done rfl (nx_then ?_)
  refine S.cond (e := (a.page != b.page)) (by kernel_rfl) (fun h1 => ?_) (fun h1 => ?_)
  · have g2 : ¬ (a.page = b.page) := bne_iff_ne.1 h1
    refine wp_seq ?_
    refine RG.start ?_
    refine S.quiet (k := 1) (keep := [4]) (m := 0) (σ' := ⟨[(4, .v (B false))], []⟩) .nil (by kernel_rfl) ?_
    clear S; intro ac w β S
    refine RG.done rfl (nx_then ?_)
    refine wp_ret (rt_then ?_)
    refine S.ret (vs := [B false]) (by kernel_rfl) ?_
    exact ⟨retB (show false = decide (a = b) by clear S; first | (simp [TSlot.ext_iff, *]; done) | (simp_all [TSlot.ext_iff]; done)), S.chg⟩
  · have g3 : a.page = b.page := ne_f h1
    refine wp_skip (nx_then ?_)
    refine wp_seq ?_
    refine wp_seq ?_
    refine RG.start ?_
    refine S.quiet (k := 5) (keep := [14]) (m := 0) (σ' := ⟨[(14, .v (B (a.rights != b.rights)))], []⟩) .nil (by kernel_rfl) ?_
    clear S; intro ac w β S
    refine RG.done rfl (nx_then ?_)
    refine S.cond (e := (a.rights != b.rights)) (by kernel_rfl) (fun h4 => ?_) (fun h4 => ?_)
    · have g5 : ¬ (a.rights = b.rights) := bne_iff_ne.1 h4
      refine wp_seq ?_
      refine RG.start ?_
      refine S.quiet (k := 1) (keep := [4]) (m := 0) (σ' := ⟨[(4, .v (B false))], []⟩) .nil (by kernel_rfl) ?_
      clear S; intro ac w β S
      refine RG.done rfl (nx_then ?_)
      refine wp_ret (rt_then ?_)
      refine S.ret (vs := [B false]) (by kernel_rfl) ?_
      exact ⟨retB (show false = decide (a = b) by clear S; first | (simp [TSlot.ext_iff, *]; done) | (simp_all [TSlot.ext_iff]; done)), S.chg⟩
    · have g6 : a.rights = b.rights := ne_f h4
      refine wp_skip (nx_then ?_)
      refine wp_seq ?_
      refine RG.start ?_
      refine S.quiet (k := 1) (keep := [4]) (m := 0) (σ' := ⟨[(4, .v (B true))], []⟩) .nil (by kernel_rfl) ?_
      clear S; intro ac w β S
      refine RG.done rfl (nx_then ?_)
      refine wp_ret ?_
      refine S.ret (vs := [B true]) (by kernel_rfl) ?_
      exact ⟨retB (show true = decide (a = b) by clear S; first | (simp [TSlot.ext_iff, *]; done) | (simp_all [TSlot.ext_iff]; done)), S.chg⟩

set_option maxRecDepth 100000 in
theorem c_laws_eqSlotS (w0 : World) (a : List TSlot) (pa : LP TSlot) (ha : GT.rd KK (Lt w0.heap.size) w0 a pa) (b : List TSlot) (pb : LP TSlot) (hb : GT.rd KK (Lt w0.heap.size) w0 b pb) : Calls Go.Proofs.Try.prog 82 [slv (a).length pa.1, slv (b).length pb.1].toArray w0 (fun e w' => e = .returned (B (decide (a = b))) ∧ Chg NoB w0 w') := by
  refine Calls.walk (args := [slv (a).length pa.1, slv (b).length pb.1]) NoB Go.Proofs.Try.func82 rfl rfl ?_
  intro ac β S
  have hlea : a.length ≤ 4194304 := LRd.le ha
  have hleb : b.length ≤ 4194304 := LRd.le hb
  refine wp_seq ?_
  refine RG.start ?_
  refine S.quiet (k := 1) (keep := [0, 1]) (m := 0) (σ' := ⟨[(0, .v (slv (a).length pa.1)), (1, .v (slv (b).length pb.1))], []⟩) .nil (by kernel_rfl) ?_
  clear S; intro ac w β S
  refine RG.done rfl (nx_then ?_)
  refine wp_seq ?_
  refine wp_seq ?_
  refine RG.start ?_
  refine S.quiet (k := 5) (keep := [0, 1, 10]) (m := 0) (σ' := ⟨[(0, .v (slv (a).length pa.1)), (1, .v (slv (b).length pb.1)), (10, .v (B (((a).length : Int) != ((b).length : Int))))], []⟩) .nil (by kernel_rfl) ?_
  clear S; intro ac w β S
  refine RG.done rfl (nx_then ?_)
  refine S.cond (e := (((a).length : Int) != ((b).length : Int))) (by kernel_rfl) (fun h1 => ?_) (fun h1 => ?_)
  · have g2 : ¬ (((a).length : Int) = ((b).length : Int)) := bne_iff_ne.1 h1
    refine wp_seq ?_
    refine RG.start ?_
    refine S.quiet (k := 1) (keep := [4]) (m := 0) (σ' := ⟨[(4, .v (B false))], []⟩) .nil (by kernel_rfl) ?_
    clear S; intro ac w β S
    refine RG.done rfl (nx_then ?_)
    refine wp_ret (rt_then ?_)
    refine S.ret (vs := [B false]) (by kernel_rfl) ?_
    exact ⟨retB (show false = decide (a = b) by clear S; first | (simp; intro e; subst e; simp_all; done) | (simp; rw [take_all (by omega), take_all (by omega)] at he; exact he) | (simp; exact take_ne (by simp_all))), S.chg⟩
  · have g3 : ((a).length : Int) = ((b).length : Int) := ne_f h1
    refine wp_skip (nx_then ?_)
    refine wp_seq ?_
    refine wp_seq ?_
    refine RG.start ?_
    refine S.quiet (k := 1) (keep := [0, 1, 5]) (m := 0) (σ' := ⟨[(0, .v (slv (a).length pa.1)), (1, .v (slv (b).length pb.1)), (5, .v (I 0))], []⟩) .nil (by kernel_rfl) ?_
    clear S; intro ac w β S
    refine RG.done rfl (nx_then ?_)
    refine wp_block ?_
    replace S := S.prune (keep := [0, 1, 5]) (m := 0) (σ' := ⟨[(0, .v (slv (a).length pa.1)), (1, .v (slv (b).length pb.1)), (5, .v (I 0))], []⟩) (by kernel_rfl)
    refine wp_loop_down (fun mm ac w => ∃ (k : Nat)  (u : World) (N : Bl) (β : Nat → Nat), mm = a.length - k ∧ (k ≤ a.length) ∧ (a.length = b.length) ∧ (a.take k = b.take k) ∧ St Go.Proofs.Try.prog Go.Proofs.Try.f82.ntmps w0 NoB u N β ⟨[(0, .v (slv (a).length pa.1)), (1, .v (slv (b).length pb.1)), (5, .v (I (k : Int)))], []⟩ ac w) _ ⟨0, _, _, _, rfl, (by first | omega | (simp; done) | (simp; omega)), (by first | omega | (simp; done) | (simp; omega)), (by simp), S.cast (by kernel_rfl)⟩ ?_
    clear S
    rintro mm ac w ⟨k, u, N, β, rfl, hk, hab, he, S⟩
    refine wp_seq ?_
    refine wp_seq ?_
    refine RG.start ?_
    refine S.quiet (k := 4) (keep := [0, 1, 5, 14]) (m := 0) (σ' := ⟨[(0, .v (slv (a).length pa.1)), (1, .v (slv (b).length pb.1)), (5, .v (I (k : Int))), (14, .v (B (decide ((k : Int) < ((a).length : Int)))))], []⟩) .nil (by kernel_rfl) ?_
    clear S; intro ac w β S
    refine RG.done rfl (nx_then ?_)
    refine S.cond (e := (decide ((k : Int) < ((a).length : Int)))) (by kernel_rfl) (fun h4 => ?_) (fun h4 => ?_)
    · have g5 : (k : Int) < ((a).length : Int) := of_decide_eq_true h4
      refine wp_skip (nx_then ?_)
      refine wp_seq ?_
      refine wp_block ?_
      refine wp_seq ?_
      refine S.drawn (keep := [0, 1, 5, 26]) (m := 0) (σ' := ⟨[(0, .v (slv (a).length pa.1)), (1, .v (slv (b).length pb.1)), (5, .v (I (k : Int))), (26, .v (B (!(decide ((el a k) = (el b k))))))], []⟩) (.cons (Q_idx (S.arg ha) (l := (a).length) (k := k) (i := (k : Int)) rfl rfl (by omega) Go.Proofs.Try.underlying45 (by kernel_rfl)) (.cons (Q_el (S.arg ha) (t := 87) (k := k) (by omega) rfl (by kernel_rfl) (by kernel_rfl)) (.cons (Q_idx (S.arg hb) (l := (b).length) (k := k) (i := (k : Int)) rfl rfl (by omega) Go.Proofs.Try.underlying45 (by kernel_rfl)) (.cons (Q_el (S.arg hb) (t := 87) (k := k) (by omega) rfl (by kernel_rfl) (by kernel_rfl)) (.cons (Q_call fun w hw => c_laws_eqSlot w (el a k) (el b k)) .nil))))) rfl (by kernel_rfl) (by kernel_rfl) ?_
      clear S; intro ac w S
      refine id (nx_then ?_)
      refine S.cond (e := (!(decide ((el a k) = (el b k))))) (by kernel_rfl) (fun h6 => ?_) (fun h6 => ?_)
      · have h7 : (decide ((el a k) = (el b k))) = false := not_t h6
        have g8 := of_decide_eq_false h7
        refine wp_seq ?_
        refine RG.start ?_
        refine S.quiet (k := 1) (keep := [4]) (m := 0) (σ' := ⟨[(4, .v (B false))], []⟩) .nil (by kernel_rfl) ?_
        clear S; intro ac w β S
        refine RG.done rfl (nx_then ?_)
        refine wp_ret (rt_block (rt_then (rt_then (rt_block (rt_then ?_)))))
        refine S.ret (vs := [B false]) (by kernel_rfl) ?_
        exact ⟨retB (show false = decide (a = b) by clear S; first | (simp; intro e; subst e; simp_all; done) | (simp; rw [take_all (by omega), take_all (by omega)] at he; exact he) | (simp; exact take_ne (by simp_all))), S.chg⟩
      · have h9 : (decide ((el a k) = (el b k))) = true := not_f h6
        have g10 := of_decide_eq_true h9
        refine wp_skip (nx_block (nx_then ?_))
        refine RG.start ?_
        refine S.quiet (k := 3) (keep := [0, 1, 5]) (m := 0) (σ' := ⟨[(0, .v (slv (a).length pa.1)), (1, .v (slv (b).length pb.1)), (5, .v (I ((k : Int) + 1)))], []⟩) (.cons (Q_add (x := (k : Int)) (y := 1) ⟨by omega, by omega⟩) .nil) (by kernel_rfl) ?_
        clear S; intro ac w β S
        refine RG.done rfl (nx_then ?_)
        replace S := S.prune (keep := [0, 1, 5]) (m := 0) (σ' := ⟨[(0, .v (slv (a).length pa.1)), (1, .v (slv (b).length pb.1)), (5, .v (I ((k : Int) + 1)))], []⟩) (by kernel_rfl)
        refine ⟨a.length - (k + 1), by omega, k + 1, _, _, _, rfl, ?_, ?_, ?_, S.cast (by kernel_rfl)⟩
        · clear S; first | omega | (simp [*]; done) | (simp [*]; omega)
        · clear S; first | omega | (simp [*]; done) | (simp [*]; omega)
        · clear S; exact take_eq_step (by omega) (by omega) he (by simp_all)
    · have g11 : ¬ ((k : Int) < ((a).length : Int)) := of_decide_eq_false h4
      refine wp_exit (ex_then (ex_then (ex_hit (nx_then ?_))))
      refine wp_seq ?_
      refine RG.start ?_
      refine S.quiet (k := 1) (keep := [4]) (m := 0) (σ' := ⟨[(4, .v (B true))], []⟩) .nil (by kernel_rfl) ?_
      clear S; intro ac w β S
      refine RG.done rfl (nx_then ?_)
      refine wp_ret ?_
      refine S.ret (vs := [B true]) (by kernel_rfl) ?_
      exact ⟨retB (show true = decide (a = b) by clear S; first | (simp; intro e; subst e; simp_all; done) | (simp; rw [take_all (by omega), take_all (by omega)] at he; exact he) | (simp; exact take_ne (by simp_all))), S.chg⟩

set_option maxRecDepth 100000 in
theorem c_laws_eqBoolS (w0 : World) (a : List Bool) (pa : LP Bool) (ha : GT.rd KK (Lt w0.heap.size) w0 a pa) (b : List Bool) (pb : LP Bool) (hb : GT.rd KK (Lt w0.heap.size) w0 b pb) : Calls Go.Proofs.Try.prog 83 [slv (a).length pa.1, slv (b).length pb.1].toArray w0 (fun e w' => e = .returned (B (decide (a = b))) ∧ Chg NoB w0 w') := by
  refine Calls.walk (args := [slv (a).length pa.1, slv (b).length pb.1]) NoB Go.Proofs.Try.func83 rfl rfl ?_
  intro ac β S
  have hlea : a.length ≤ 4194304 := LRd.le ha
  have hleb : b.length ≤ 4194304 := LRd.le hb
  refine wp_seq ?_
  refine RG.start ?_
  refine S.quiet (k := 1) (keep := [0, 1]) (m := 0) (σ' := ⟨[(0, .v (slv (a).length pa.1)), (1, .v (slv (b).length pb.1))], []⟩) .nil (by kernel_rfl) ?_
  clear S; intro ac w β S
  refine RG.done rfl (nx_then ?_)
  refine wp_seq ?_
  refine wp_seq ?_
  refine RG.start ?_
  refine S.quiet (k := 5) (keep := [0, 1, 10]) (m := 0) (σ' := ⟨[(0, .v (slv (a).length pa.1)), (1, .v (slv (b).length pb.1)), (10, .v (B (((a).length : Int) != ((b).length : Int))))], []⟩) .nil (by kernel_rfl) ?_
  clear S; intro ac w β S
  refine RG.done rfl (nx_then ?_)
  refine S.cond (e := (((a).length : Int) != ((b).length : Int))) (by kernel_rfl) (fun h1 => ?_) (fun h1 => ?_)
  · have g2 : ¬ (((a).length : Int) = ((b).length : Int)) := bne_iff_ne.1 h1
    refine wp_seq ?_
    refine RG.start ?_
    refine S.quiet (k := 1) (keep := [4]) (m := 0) (σ' := ⟨[(4, .v (B false))], []⟩) .nil (by kernel_rfl) ?_
    clear S; intro ac w β S
    refine RG.done rfl (nx_then ?_)
    refine wp_ret (rt_then ?_)
    refine S.ret (vs := [B false]) (by kernel_rfl) ?_
    exact ⟨retB (show false = decide (a = b) by clear S; first | (simp; intro e; subst e; simp_all; done) | (simp; rw [take_all (by omega), take_all (by omega)] at he; exact he) | (simp; exact take_ne (by simp_all))), S.chg⟩
  · have g3 : ((a).length : Int) = ((b).length : Int) := ne_f h1
    refine wp_skip (nx_then ?_)
    refine wp_seq ?_
    refine wp_seq ?_
    refine RG.start ?_
    refine S.quiet (k := 1) (keep := [0, 1, 5]) (m := 0) (σ' := ⟨[(0, .v (slv (a).length pa.1)), (1, .v (slv (b).length pb.1)), (5, .v (I 0))], []⟩) .nil (by kernel_rfl) ?_
    clear S; intro ac w β S
    refine RG.done rfl (nx_then ?_)
    refine wp_block ?_
    replace S := S.prune (keep := [0, 1, 5]) (m := 0) (σ' := ⟨[(0, .v (slv (a).length pa.1)), (1, .v (slv (b).length pb.1)), (5, .v (I 0))], []⟩) (by kernel_rfl)
    refine wp_loop_down (fun mm ac w => ∃ (k : Nat)  (u : World) (N : Bl) (β : Nat → Nat), mm = a.length - k ∧ (k ≤ a.length) ∧ (a.length = b.length) ∧ (a.take k = b.take k) ∧ St Go.Proofs.Try.prog Go.Proofs.Try.f83.ntmps w0 NoB u N β ⟨[(0, .v (slv (a).length pa.1)), (1, .v (slv (b).length pb.1)), (5, .v (I (k : Int)))], []⟩ ac w) _ ⟨0, _, _, _, rfl, (by first | omega | (simp; done) | (simp; omega)), (by first | omega | (simp; done) | (simp; omega)), (by simp), S.cast (by kernel_rfl)⟩ ?_
    clear S
    rintro mm ac w ⟨k, u, N, β, rfl, hk, hab, he, S⟩
    refine wp_seq ?_
    refine wp_seq ?_
    refine RG.start ?_
    refine S.quiet (k := 4) (keep := [0, 1, 5, 14]) (m := 0) (σ' := ⟨[(0, .v (slv (a).length pa.1)), (1, .v (slv (b).length pb.1)), (5, .v (I (k : Int))), (14, .v (B (decide ((k : Int) < ((a).length : Int)))))], []⟩) .nil (by kernel_rfl) ?_
    clear S; intro ac w β S
    refine RG.done rfl (nx_then ?_)
    refine S.cond (e := (decide ((k : Int) < ((a).length : Int)))) (by kernel_rfl) (fun h4 => ?_) (fun h4 => ?_)
    · have g5 : (k : Int) < ((a).length : Int) := of_decide_eq_true h4
      refine wp_skip (nx_then ?_)
      refine wp_seq ?_
      refine wp_block ?_
      refine wp_seq ?_
      refine S.drawn (keep := [0, 1, 5, 25]) (m := 0) (σ' := ⟨[(0, .v (slv (a).length pa.1)), (1, .v (slv (b).length pb.1)), (5, .v (I (k : Int))), (25, .v (B (!((el a k) == (el b k)))))], []⟩) (.cons (Q_idx (S.arg ha) (l := (a).length) (k := k) (i := (k : Int)) rfl rfl (by omega) Go.Proofs.Try.underlying46 (by kernel_rfl)) (.cons (Q_el1 (S.arg ha) (t := 4) (k := k) (by omega) rfl (by kernel_rfl)) (.cons (Q_idx (S.arg hb) (l := (b).length) (k := k) (i := (k : Int)) rfl rfl (by omega) Go.Proofs.Try.underlying46 (by kernel_rfl)) (.cons (Q_el1 (S.arg hb) (t := 4) (k := k) (by omega) rfl (by kernel_rfl)) .nil)))) rfl (by kernel_rfl) (by kernel_rfl) ?_
      clear S; intro ac w S
      refine id (nx_then ?_)
      refine S.cond (e := (!((el a k) == (el b k)))) (by kernel_rfl) (fun h6 => ?_) (fun h6 => ?_)
      · have h7 : ((el a k) == (el b k)) = false := not_t h6
        have g8 : ¬ ((el a k) = (el b k)) := ne_of_beq_false h7
        refine wp_seq ?_
        refine RG.start ?_
        refine S.quiet (k := 1) (keep := [4]) (m := 0) (σ' := ⟨[(4, .v (B false))], []⟩) .nil (by kernel_rfl) ?_
        clear S; intro ac w β S
        refine RG.done rfl (nx_then ?_)
        refine wp_ret (rt_block (rt_then (rt_then (rt_block (rt_then ?_)))))
        refine S.ret (vs := [B false]) (by kernel_rfl) ?_
        exact ⟨retB (show false = decide (a = b) by clear S; first | (simp; intro e; subst e; simp_all; done) | (simp; rw [take_all (by omega), take_all (by omega)] at he; exact he) | (simp; exact take_ne (by simp_all))), S.chg⟩
      · have h9 : ((el a k) == (el b k)) = true := not_f h6
        have g10 : (el a k) = (el b k) := eq_of_beq h9
        refine wp_skip (nx_block (nx_then ?_))
        refine RG.start ?_
        refine S.quiet (k := 3) (keep := [0, 1, 5]) (m := 0) (σ' := ⟨[(0, .v (slv (a).length pa.1)), (1, .v (slv (b).length pb.1)), (5, .v (I ((k : Int) + 1)))], []⟩) (.cons (Q_add (x := (k : Int)) (y := 1) ⟨by omega, by omega⟩) .nil) (by kernel_rfl) ?_
        clear S; intro ac w β S
        refine RG.done rfl (nx_then ?_)
        replace S := S.prune (keep := [0, 1, 5]) (m := 0) (σ' := ⟨[(0, .v (slv (a).length pa.1)), (1, .v (slv (b).length pb.1)), (5, .v (I ((k : Int) + 1)))], []⟩) (by kernel_rfl)
        refine ⟨a.length - (k + 1), by omega, k + 1, _, _, _, rfl, ?_, ?_, ?_, S.cast (by kernel_rfl)⟩
        · clear S; first | omega | (simp [*]; done) | (simp [*]; omega)
        · clear S; first | omega | (simp [*]; done) | (simp [*]; omega)
        · clear S; exact take_eq_step (by omega) (by omega) he (by simp_all)
    · have g11 : ¬ ((k : Int) < ((a).length : Int)) := of_decide_eq_false h4
      refine wp_exit (ex_then (ex_then (ex_hit (nx_then ?_))))
      refine wp_seq ?_
      refine RG.start ?_
      refine S.quiet (k := 1) (keep := [4]) (m := 0) (σ' := ⟨[(4, .v (B true))], []⟩) .nil (by kernel_rfl) ?_
      clear S; intro ac w β S
      refine RG.done rfl (nx_then ?_)
      refine wp_ret ?_
      refine S.ret (vs := [B true]) (by kernel_rfl) ?_
      exact ⟨retB (show true = decide (a = b) by clear S; first | (simp; intro e; subst e; simp_all; done) | (simp; rw [take_all (by omega), take_all (by omega)] at he; exact he) | (simp; exact take_ne (by simp_all))), S.chg⟩

set_option maxRecDepth 100000 in
theorem c_laws_eqIns (w0 : World) (a : TIns) (b : TIns) : Calls Go.Proofs.Try.prog 142 [GT.val (α := TIns) a (), GT.val (α := TIns) b ()].toArray w0 (fun e w' => e = .returned (B (decide (a = b))) ∧ Chg NoB w0 w') := by
  refine Calls.walk (args := [GT.val (α := TIns) a (), GT.val (α := TIns) b ()]) NoB Go.Proofs.Try.func142 rfl rfl ?_
  intro ac β S
  refine wp_seq ?_
  refine RG.start ?_
  refine S.quiet (k := 3) (keep := [2, 3]) (m := 2) (σ' := ⟨[(2, .p 0 0), (3, .p 1 0)], [GT.cells (α := TIns) a (), GT.cells (α := TIns) b ()]⟩) .nil (by kernel_rfl) ?_
  clear S; intro ac w β S
  refine RG.done rfl (nx_then ?_)
  refine wp_seq ?_
  refine wp_seq ?_
  refine RG.start ?_
  refine S.quiet (k := 5) (keep := [2, 3, 9]) (m := 2) (σ' := ⟨[(2, .p 0 0), (3, .p 1 0), (9, .v (B (a.opc != b.opc)))], [GT.cells (α := TIns) a (), GT.cells (α := TIns) b ()]⟩) .nil (by kernel_rfl) ?_
  clear S; intro ac w β S
  refine RG.done rfl (nx_then ?_)
  refine S.cond (e := (a.opc != b.opc)) (by kernel_rfl) (fun h1 => ?_) (fun h1 => ?_)
  · have g2 : ¬ (a.opc = b.opc) := bne_iff_ne.1 h1
    refine wp_seq ?_
    refine RG.start ?_
    refine S.quiet (k := 1) (keep := [4]) (m := 0) (σ' := ⟨[(4, .v (B false))], []⟩) .nil (by kernel_rfl) ?_
    clear S; intro ac w β S
    refine RG.done rfl (nx_then ?_)
    refine wp_ret (rt_then ?_)
    refine S.ret (vs := [B false]) (by kernel_rfl) ?_
    exact ⟨retB (show false = decide (a = b) by clear S; first | (simp [TIns.ext_iff, *]; done) | (simp_all [TIns.ext_iff]; done)), S.chg⟩
  · have g3 : a.opc = b.opc := ne_f h1
    refine wp_skip (nx_then ?_)
    refine wp_seq ?_
    refine wp_seq ?_
    refine RG.start ?_
    refine S.quiet (k := 5) (keep := [14]) (m := 0) (σ' := ⟨[(14, .v (B (a.x != b.x)))], []⟩) .nil (by kernel_rfl) ?_
    clear S; intro ac w β S
    refine RG.done rfl (nx_then ?_)
    refine S.cond (e := (a.x != b.x)) (by kernel_rfl) (fun h4 => ?_) (fun h4 => ?_)
    · have g5 : ¬ (a.x = b.x) := bne_iff_ne.1 h4
      refine wp_seq ?_
      refine RG.start ?_
      refine S.quiet (k := 1) (keep := [4]) (m := 0) (σ' := ⟨[(4, .v (B false))], []⟩) .nil (by kernel_rfl) ?_
      clear S; intro ac w β S
      refine RG.done rfl (nx_then ?_)
      refine wp_ret (rt_then ?_)
      refine S.ret (vs := [B false]) (by kernel_rfl) ?_
      exact ⟨retB (show false = decide (a = b) by clear S; first | (simp [TIns.ext_iff, *]; done) | (simp_all [TIns.ext_iff]; done)), S.chg⟩
    · have g6 : a.x = b.x := ne_f h4
      refine wp_skip (nx_then ?_)
      refine wp_seq ?_
      refine RG.start ?_
      refine S.quiet (k := 1) (keep := [4]) (m := 0) (σ' := ⟨[(4, .v (B true))], []⟩) .nil (by kernel_rfl) ?_
      clear S; intro ac w β S
      refine RG.done rfl (nx_then ?_)
      refine wp_ret ?_
      refine S.ret (vs := [B true]) (by kernel_rfl) ?_
      exact ⟨retB (show true = decide (a = b) by clear S; first | (simp [TIns.ext_iff, *]; done) | (simp_all [TIns.ext_iff]; done)), S.chg⟩

end Go.Proofs.Ytcoabfmpdnlfdaa
