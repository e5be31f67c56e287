/- The walks: what each function that the laws reach computes (part 4). -/
import Derived.Test.YtpjhamcanhnfjaaW3
import Derived.Test.YtpjhamcanhnfjaaProg
import Derived.KernelRfl
namespace Go.Proofs.Ytpjhamcanhnfjaa
open Go
set_option linter.unusedVariables false
set_option linter.unusedSimpArgs false

set_option maxRecDepth 100000 in
theorem c_laws_heldGuestS (w0 : World) (a : List TGuest) (pa : LP TGuest) (ha : GT.rd KK (Lt w0.heap.size) w0 a pa) (k : Int) : Calls Try.prog 93 [slv (a).length pa.1, I k].toArray w0 (fun e w' => e = .returned (I (hdl a k)) ∧ Chg NoB w0 w') := by
  refine Calls.walk (args := [slv (a).length pa.1, I k]) NoB Try.func93 rfl rfl ?_
  intro ac β S
  have hlea : a.length ≤ 4194304 := LRd.le ha
  refine wp_seq (RG.start ?_)
  refine S.quiet (k := 1) (keep := [0, 1]) (m := 0) (σ' := ⟨[(0, .v (slv (a).length pa.1)), (1, .v (I k))], []⟩) .nil (by kernel_rfl) ?_
  clear S; intro ac w β S
  refine RG.done rfl (nx_then (wp_seq (wp_seq (RG.start ?_))))
  refine S.quiet (k := 1) (keep := [0, 1, 5]) (m := 0) (σ' := ⟨[(0, .v (slv (a).length pa.1)), (1, .v (I k)), (5, .v (I 0))], []⟩) .nil (by kernel_rfl) ?_
  clear S; intro ac w β S
  refine RG.done rfl (nx_then (wp_block ?_))
  replace S := S.prune (keep := [0, 1, 5]) (m := 0) (σ' := ⟨[(0, .v (slv (a).length pa.1)), (1, .v (I k)), (5, .v (I 0))], []⟩) (by kernel_rfl)
  refine wp_loop_down (fun mm ac w => ∃ (i : Nat) (j : Int)  (u : World) (N : Bl) (β : Nat → Nat), mm = a.length - i ∧ (i ≤ a.length) ∧ (hdl a k = hdlc (a.drop i) j id) ∧ St Try.prog Try.f93.ntmps w0 NoB u N β ⟨[(0, .v (slv (a).length pa.1)), (1, .v (I j)), (5, .v (I (i : Int)))], []⟩ ac w) _ ⟨0, k, _, _, _, rfl, (by first | omega | (simp; done) | (simp; omega)), (by rfl), S.cast (by kernel_rfl)⟩ ?_
  clear S
  rintro mm ac w ⟨i, j, u, N, β, rfl, hi, hr, S⟩
  refine wp_seq (wp_seq (RG.start ?_))
  refine S.quiet (k := 4) (keep := [0, 1, 5, 9]) (m := 0) (σ' := ⟨[(0, .v (slv (a).length pa.1)), (1, .v (I j)), (5, .v (I (i : Int))), (9, .v (B (decide ((i : Int) < ((a).length : Int)))))], []⟩) .nil (by kernel_rfl) ?_
  clear S; intro ac w β S
  refine RG.done rfl (nx_then ?_)
  refine S.cond (e := (decide ((i : Int) < ((a).length : Int)))) (by kernel_rfl) (fun h1 => ?_) (fun h1 => ?_)
  · have g2 : (i : Int) < ((a).length : Int) := of_decide_eq_true h1
    refine wp_skip (nx_then (wp_seq (wp_block (wp_seq (RG.start ?_)))))
    refine S.quiet (k := 8) (keep := [0, 1, 5]) (m := 0) (σ' := ⟨[(0, .v (slv (a).length pa.1)), (1, .v (I (hdl ((el a i).prog) j))), (5, .v (I (i : Int)))], []⟩) (.cons (Q_idx (S.arg ha) (l := (a).length) (k := i) (i := (i : Int)) rfl rfl (by omega) Try.underlying39 (by kernel_rfl)) (.cons (Q_cell (S.arg ha) (t := 28) (k := i) (j := 0) (v := slv ((el a i).prog).length ((pa.2 i).prog).1) (by omega) (by kernel_rfl) (by kernel_rfl)) (.cons (Q_call fun w hw => c_laws_heldInsS w ((el a i).prog) ((pa.2 i).prog) (rd_of (RGuest.prog (d := (el a i)) (LRd.el (S.arg ha) i (by omega))) hw) j) .nil))) (by kernel_rfl) ?_
    clear S; intro ac w β S
    refine RG.done rfl (nx_then (wp_seq (wp_seq (RG.start ?_))))
    refine S.quiet (k := 2) (keep := [0, 1, 5, 20]) (m := 0) (σ' := ⟨[(0, .v (slv (a).length pa.1)), (1, .v (I (hdl ((el a i).prog) j))), (5, .v (I (i : Int))), (20, .v (B (decide ((hdl ((el a i).prog) j) < 0))))], []⟩) .nil (by kernel_rfl) ?_
    clear S; intro ac w β S
    refine RG.done rfl (nx_then ?_)
    refine S.cond (e := (decide ((hdl ((el a i).prog) j) < 0))) (by kernel_rfl) (fun h3 => ?_) (fun h3 => ?_)
    · have g4 : (hdl ((el a i).prog) j) < 0 := of_decide_eq_true h3
      refine wp_seq (RG.start ?_)
      refine S.quiet (k := 1) (keep := [4]) (m := 0) (σ' := ⟨[(4, .v (I (-1)))], []⟩) .nil (by kernel_rfl) ?_
      clear S; intro ac w β S
      refine RG.done rfl (nx_then (wp_ret (rt_then (rt_block (rt_then (rt_then (rt_block (rt_then ?_))))))))
      refine S.ret (vs := [I (-1)]) (by kernel_rfl) ?_
      exact ⟨retI (show (-1) = hdl a k by clear S; (first | (rw [hr, hd_end (by omega)]; done) | (rw [hr, hd_step (by omega)]; simp [he_Guest, hdi, hdb, hdc, *]; done) | (rw [hr, hd_step (by omega)]; simp_all [he_Guest, hdi, hdb, hdc]; done))), S.chg⟩
    · have g5 : ¬ ((hdl ((el a i).prog) j) < 0) := of_decide_eq_false h3
      refine wp_skip (nx_then (wp_seq (wp_seq (RG.start ?_))))
      refine S.quiet (k := 7) (keep := [0, 1, 5, 27]) (m := 0) (σ' := ⟨[(0, .v (slv (a).length pa.1)), (1, .v (I (hdl ((el a i).prog) j))), (5, .v (I (i : Int))), (27, .v (B ((el a i).acc != (hdl ((el a i).prog) j))))], []⟩) (.cons (Q_idx (S.arg ha) (l := (a).length) (k := i) (i := (i : Int)) rfl rfl (by omega) Try.underlying39 (by kernel_rfl)) (.cons (Q_cell (S.arg ha) (t := 3) (k := i) (j := 1) (v := I ((el a i).acc)) (by omega) (by kernel_rfl) (by kernel_rfl)) .nil)) (by kernel_rfl) ?_
      clear S; intro ac w β S
      refine RG.done rfl (nx_then ?_)
      refine S.cond (e := ((el a i).acc != (hdl ((el a i).prog) j))) (by kernel_rfl) (fun h6 => ?_) (fun h6 => ?_)
      · have g7 : ¬ ((el a i).acc = (hdl ((el a i).prog) j)) := bne_iff_ne.1 h6
        refine wp_seq (RG.start ?_)
        refine S.quiet (k := 1) (keep := [4]) (m := 0) (σ' := ⟨[(4, .v (I (-1)))], []⟩) .nil (by kernel_rfl) ?_
        clear S; intro ac w β S
        refine RG.done rfl (nx_then (wp_ret (rt_then (rt_block (rt_then (rt_then (rt_block (rt_then ?_))))))))
        refine S.ret (vs := [I (-1)]) (by kernel_rfl) ?_
        exact ⟨retI (show (-1) = hdl a k by clear S; (first | (rw [hr, hd_end (by omega)]; done) | (rw [hr, hd_step (by omega)]; simp [he_Guest, hdi, hdb, hdc, *]; done) | (rw [hr, hd_step (by omega)]; simp_all [he_Guest, hdi, hdb, hdc]; done))), S.chg⟩
      · have g8 : (el a i).acc = (hdl ((el a i).prog) j) := ne_f h6
        refine wp_skip (nx_then (wp_seq (RG.start ?_)))
        refine S.quiet (k := 3) (keep := [0, 1, 5]) (m := 0) (σ' := ⟨[(0, .v (slv (a).length pa.1)), (1, .v (I (IntKind.i64.wrap ((hdl ((el a i).prog) j) + 1)))), (5, .v (I (i : Int)))], []⟩) (.cons (Q_addw (x := (hdl ((el a i).prog) j)) (y := 1)) .nil) (by kernel_rfl) ?_
        clear S; intro ac w β S
        refine RG.done rfl (nx_then (wp_seq (wp_seq (RG.start ?_))))
        refine S.quiet (k := 7) (keep := [0, 1, 5, 36]) (m := 0) (σ' := ⟨[(0, .v (slv (a).length pa.1)), (1, .v (I (IntKind.i64.wrap ((hdl ((el a i).prog) j) + 1)))), (5, .v (I (i : Int))), (36, .v (B ((el a i).pc != (IntKind.i64.wrap ((hdl ((el a i).prog) j) + 1)))))], []⟩) (.cons (Q_idx (S.arg ha) (l := (a).length) (k := i) (i := (i : Int)) rfl rfl (by omega) Try.underlying39 (by kernel_rfl)) (.cons (Q_cell (S.arg ha) (t := 3) (k := i) (j := 2) (v := I ((el a i).pc)) (by omega) (by kernel_rfl) (by kernel_rfl)) .nil)) (by kernel_rfl) ?_
        clear S; intro ac w β S
        refine RG.done rfl (nx_then ?_)
        refine S.cond (e := ((el a i).pc != (IntKind.i64.wrap ((hdl ((el a i).prog) j) + 1)))) (by kernel_rfl) (fun h9 => ?_) (fun h9 => ?_)
        · have g10 : ¬ ((el a i).pc = (IntKind.i64.wrap ((hdl ((el a i).prog) j) + 1))) := bne_iff_ne.1 h9
          refine wp_seq (RG.start ?_)
          refine S.quiet (k := 1) (keep := [4]) (m := 0) (σ' := ⟨[(4, .v (I (-1)))], []⟩) .nil (by kernel_rfl) ?_
          clear S; intro ac w β S
          refine RG.done rfl (nx_then (wp_ret (rt_then (rt_block (rt_then (rt_then (rt_block (rt_then ?_))))))))
          refine S.ret (vs := [I (-1)]) (by kernel_rfl) ?_
          exact ⟨retI (show (-1) = hdl a k by clear S; (first | (rw [hr, hd_end (by omega)]; done) | (rw [hr, hd_step (by omega)]; simp [he_Guest, hdi, hdb, hdc, *]; done) | (rw [hr, hd_step (by omega)]; simp_all [he_Guest, hdi, hdb, hdc]; done))), S.chg⟩
        · have g11 : (el a i).pc = (IntKind.i64.wrap ((hdl ((el a i).prog) j) + 1)) := ne_f h9
          refine wp_skip (nx_then (wp_seq (RG.start ?_)))
          refine S.quiet (k := 3) (keep := [0, 1, 5]) (m := 0) (σ' := ⟨[(0, .v (slv (a).length pa.1)), (1, .v (I (IntKind.i64.wrap ((IntKind.i64.wrap ((hdl ((el a i).prog) j) + 1)) + 1)))), (5, .v (I (i : Int)))], []⟩) (.cons (Q_addw (x := (IntKind.i64.wrap ((hdl ((el a i).prog) j) + 1))) (y := 1)) .nil) (by kernel_rfl) ?_
          clear S; intro ac w β S
          refine RG.done rfl (nx_then (wp_seq (RG.start ?_)))
          refine S.quiet (k := 8) (keep := [0, 1, 5]) (m := 0) (σ' := ⟨[(0, .v (slv (a).length pa.1)), (1, .v (I (hdl ((el a i).written) (IntKind.i64.wrap ((IntKind.i64.wrap ((hdl ((el a i).prog) j) + 1)) + 1))))), (5, .v (I (i : Int)))], []⟩) (.cons (Q_idx (S.arg ha) (l := (a).length) (k := i) (i := (i : Int)) rfl rfl (by omega) Try.underlying39 (by kernel_rfl)) (.cons (Q_cell (S.arg ha) (t := 37) (k := i) (j := 3) (v := slv ((el a i).written).length ((pa.2 i).written).1) (by omega) (by kernel_rfl) (by kernel_rfl)) (.cons (Q_call fun w hw => c_laws_heldSlotS w ((el a i).written) ((pa.2 i).written) (rd_of (RGuest.written (d := (el a i)) (LRd.el (S.arg ha) i (by omega))) hw) (IntKind.i64.wrap ((IntKind.i64.wrap ((hdl ((el a i).prog) j) + 1)) + 1))) .nil))) (by kernel_rfl) ?_
          clear S; intro ac w β S
          refine RG.done rfl (nx_then (wp_seq (wp_seq (RG.start ?_))))
          refine S.quiet (k := 2) (keep := [0, 1, 5, 47]) (m := 0) (σ' := ⟨[(0, .v (slv (a).length pa.1)), (1, .v (I (hdl ((el a i).written) (IntKind.i64.wrap ((IntKind.i64.wrap ((hdl ((el a i).prog) j) + 1)) + 1))))), (5, .v (I (i : Int))), (47, .v (B (decide ((hdl ((el a i).written) (IntKind.i64.wrap ((IntKind.i64.wrap ((hdl ((el a i).prog) j) + 1)) + 1))) < 0))))], []⟩) .nil (by kernel_rfl) ?_
          clear S; intro ac w β S
          refine RG.done rfl (nx_then ?_)
          refine S.cond (e := (decide ((hdl ((el a i).written) (IntKind.i64.wrap ((IntKind.i64.wrap ((hdl ((el a i).prog) j) + 1)) + 1))) < 0))) (by kernel_rfl) (fun h12 => ?_) (fun h12 => ?_)
          · have g13 : (hdl ((el a i).written) (IntKind.i64.wrap ((IntKind.i64.wrap ((hdl ((el a i).prog) j) + 1)) + 1))) < 0 := of_decide_eq_true h12
            refine wp_seq (RG.start ?_)
            refine S.quiet (k := 1) (keep := [4]) (m := 0) (σ' := ⟨[(4, .v (I (-1)))], []⟩) .nil (by kernel_rfl) ?_
            clear S; intro ac w β S
            refine RG.done rfl (nx_then (wp_ret (rt_then (rt_block (rt_then (rt_then (rt_block (rt_then ?_))))))))
            refine S.ret (vs := [I (-1)]) (by kernel_rfl) ?_
            exact ⟨retI (show (-1) = hdl a k by clear S; (first | (rw [hr, hd_end (by omega)]; done) | (rw [hr, hd_step (by omega)]; simp [he_Guest, hdi, hdb, hdc, *]; done) | (rw [hr, hd_step (by omega)]; simp_all [he_Guest, hdi, hdb, hdc]; done))), S.chg⟩
          · have g14 : ¬ ((hdl ((el a i).written) (IntKind.i64.wrap ((IntKind.i64.wrap ((hdl ((el a i).prog) j) + 1)) + 1))) < 0) := of_decide_eq_false h12
            refine wp_skip (nx_then (wp_seq (RG.start ?_)))
            refine S.quiet (k := 8) (keep := [0, 1, 5]) (m := 0) (σ' := ⟨[(0, .v (slv (a).length pa.1)), (1, .v (I (hdl ((el a i).live) (hdl ((el a i).written) (IntKind.i64.wrap ((IntKind.i64.wrap ((hdl ((el a i).prog) j) + 1)) + 1)))))), (5, .v (I (i : Int)))], []⟩) (.cons (Q_idx (S.arg ha) (l := (a).length) (k := i) (i := (i : Int)) rfl rfl (by omega) Try.underlying39 (by kernel_rfl)) (.cons (Q_cell (S.arg ha) (t := 37) (k := i) (j := 4) (v := slv ((el a i).live).length ((pa.2 i).live).1) (by omega) (by kernel_rfl) (by kernel_rfl)) (.cons (Q_call fun w hw => c_laws_heldSlotS w ((el a i).live) ((pa.2 i).live) (rd_of (RGuest.live (d := (el a i)) (LRd.el (S.arg ha) i (by omega))) hw) (hdl ((el a i).written) (IntKind.i64.wrap ((IntKind.i64.wrap ((hdl ((el a i).prog) j) + 1)) + 1)))) .nil))) (by kernel_rfl) ?_
            clear S; intro ac w β S
            refine RG.done rfl (nx_then (wp_seq (wp_seq (RG.start ?_))))
            refine S.quiet (k := 2) (keep := [0, 1, 5, 56]) (m := 0) (σ' := ⟨[(0, .v (slv (a).length pa.1)), (1, .v (I (hdl ((el a i).live) (hdl ((el a i).written) (IntKind.i64.wrap ((IntKind.i64.wrap ((hdl ((el a i).prog) j) + 1)) + 1)))))), (5, .v (I (i : Int))), (56, .v (B (decide ((hdl ((el a i).live) (hdl ((el a i).written) (IntKind.i64.wrap ((IntKind.i64.wrap ((hdl ((el a i).prog) j) + 1)) + 1)))) < 0))))], []⟩) .nil (by kernel_rfl) ?_
            clear S; intro ac w β S
            refine RG.done rfl (nx_then ?_)
            refine S.cond (e := (decide ((hdl ((el a i).live) (hdl ((el a i).written) (IntKind.i64.wrap ((IntKind.i64.wrap ((hdl ((el a i).prog) j) + 1)) + 1)))) < 0))) (by kernel_rfl) (fun h15 => ?_) (fun h15 => ?_)
            · have g16 : (hdl ((el a i).live) (hdl ((el a i).written) (IntKind.i64.wrap ((IntKind.i64.wrap ((hdl ((el a i).prog) j) + 1)) + 1)))) < 0 := of_decide_eq_true h15
              refine wp_seq (RG.start ?_)
              refine S.quiet (k := 1) (keep := [4]) (m := 0) (σ' := ⟨[(4, .v (I (-1)))], []⟩) .nil (by kernel_rfl) ?_
              clear S; intro ac w β S
              refine RG.done rfl (nx_then (wp_ret (rt_then (rt_block (rt_then (rt_then (rt_block (rt_then ?_))))))))
              refine S.ret (vs := [I (-1)]) (by kernel_rfl) ?_
              exact ⟨retI (show (-1) = hdl a k by clear S; (first | (rw [hr, hd_end (by omega)]; done) | (rw [hr, hd_step (by omega)]; simp [he_Guest, hdi, hdb, hdc, *]; done) | (rw [hr, hd_step (by omega)]; simp_all [he_Guest, hdi, hdb, hdc]; done))), S.chg⟩
            · have g17 : ¬ ((hdl ((el a i).live) (hdl ((el a i).written) (IntKind.i64.wrap ((IntKind.i64.wrap ((hdl ((el a i).prog) j) + 1)) + 1)))) < 0) := of_decide_eq_false h15
              refine wp_skip (nx_then (wp_seq (wp_seq (RG.start ?_))))
              refine S.quiet (k := 8) (keep := [0, 1, 5, 64]) (m := 0) (σ' := ⟨[(0, .v (slv (a).length pa.1)), (1, .v (I (hdl ((el a i).live) (hdl ((el a i).written) (IntKind.i64.wrap ((IntKind.i64.wrap ((hdl ((el a i).prog) j) + 1)) + 1)))))), (5, .v (I (i : Int))), (64, .v (B (((el a i).ctl).traps != (hdl ((el a i).live) (hdl ((el a i).written) (IntKind.i64.wrap ((IntKind.i64.wrap ((hdl ((el a i).prog) j) + 1)) + 1)))))))], []⟩) (.cons (Q_idx (S.arg ha) (l := (a).length) (k := i) (i := (i : Int)) rfl rfl (by omega) Try.underlying39 (by kernel_rfl)) (.cons (Q_cell (S.arg ha) (t := 3) (k := i) (j := 5) (v := I (((el a i).ctl).traps)) (by omega) (by kernel_rfl) (by kernel_rfl)) .nil)) (by kernel_rfl) ?_
              clear S; intro ac w β S
              refine RG.done rfl (nx_then ?_)
              refine S.cond (e := (((el a i).ctl).traps != (hdl ((el a i).live) (hdl ((el a i).written) (IntKind.i64.wrap ((IntKind.i64.wrap ((hdl ((el a i).prog) j) + 1)) + 1)))))) (by kernel_rfl) (fun h18 => ?_) (fun h18 => ?_)
              · have g19 : ¬ (((el a i).ctl).traps = (hdl ((el a i).live) (hdl ((el a i).written) (IntKind.i64.wrap ((IntKind.i64.wrap ((hdl ((el a i).prog) j) + 1)) + 1))))) := bne_iff_ne.1 h18
                refine wp_seq (RG.start ?_)
                refine S.quiet (k := 1) (keep := [4]) (m := 0) (σ' := ⟨[(4, .v (I (-1)))], []⟩) .nil (by kernel_rfl) ?_
                clear S; intro ac w β S
                refine RG.done rfl (nx_then (wp_ret (rt_then (rt_block (rt_then (rt_then (rt_block (rt_then ?_))))))))
                refine S.ret (vs := [I (-1)]) (by kernel_rfl) ?_
                exact ⟨retI (show (-1) = hdl a k by clear S; (first | (rw [hr, hd_end (by omega)]; done) | (rw [hr, hd_step (by omega)]; simp [he_Guest, hdi, hdb, hdc, *]; done) | (rw [hr, hd_step (by omega)]; simp_all [he_Guest, hdi, hdb, hdc]; done))), S.chg⟩
              · have g20 : ((el a i).ctl).traps = (hdl ((el a i).live) (hdl ((el a i).written) (IntKind.i64.wrap ((IntKind.i64.wrap ((hdl ((el a i).prog) j) + 1)) + 1)))) := ne_f h18
                refine wp_skip (nx_then (wp_seq (RG.start ?_)))
                refine S.quiet (k := 3) (keep := [0, 1, 5]) (m := 0) (σ' := ⟨[(0, .v (slv (a).length pa.1)), (1, .v (I (IntKind.i64.wrap ((hdl ((el a i).live) (hdl ((el a i).written) (IntKind.i64.wrap ((IntKind.i64.wrap ((hdl ((el a i).prog) j) + 1)) + 1)))) + 1)))), (5, .v (I (i : Int)))], []⟩) (.cons (Q_addw (x := (hdl ((el a i).live) (hdl ((el a i).written) (IntKind.i64.wrap ((IntKind.i64.wrap ((hdl ((el a i).prog) j) + 1)) + 1))))) (y := 1)) .nil) (by kernel_rfl) ?_
                clear S; intro ac w β S
                refine RG.done rfl (nx_then (wp_seq (wp_seq (RG.start ?_))))
                refine S.quiet (k := 8) (keep := [0, 1, 5, 74]) (m := 0) (σ' := ⟨[(0, .v (slv (a).length pa.1)), (1, .v (I (IntKind.i64.wrap ((hdl ((el a i).live) (hdl ((el a i).written) (IntKind.i64.wrap ((IntKind.i64.wrap ((hdl ((el a i).prog) j) + 1)) + 1)))) + 1)))), (5, .v (I (i : Int))), (74, .v (B (((el a i).ctl).post != (IntKind.i64.wrap ((hdl ((el a i).live) (hdl ((el a i).written) (IntKind.i64.wrap ((IntKind.i64.wrap ((hdl ((el a i).prog) j) + 1)) + 1)))) + 1)))))], []⟩) (.cons (Q_idx (S.arg ha) (l := (a).length) (k := i) (i := (i : Int)) rfl rfl (by omega) Try.underlying39 (by kernel_rfl)) (.cons (Q_cell (S.arg ha) (t := 3) (k := i) (j := 6) (v := I (((el a i).ctl).post)) (by omega) (by kernel_rfl) (by kernel_rfl)) .nil)) (by kernel_rfl) ?_
                clear S; intro ac w β S
                refine RG.done rfl (nx_then ?_)
                refine S.cond (e := (((el a i).ctl).post != (IntKind.i64.wrap ((hdl ((el a i).live) (hdl ((el a i).written) (IntKind.i64.wrap ((IntKind.i64.wrap ((hdl ((el a i).prog) j) + 1)) + 1)))) + 1)))) (by kernel_rfl) (fun h21 => ?_) (fun h21 => ?_)
                · have g22 : ¬ (((el a i).ctl).post = (IntKind.i64.wrap ((hdl ((el a i).live) (hdl ((el a i).written) (IntKind.i64.wrap ((IntKind.i64.wrap ((hdl ((el a i).prog) j) + 1)) + 1)))) + 1))) := bne_iff_ne.1 h21
                  refine wp_seq (RG.start ?_)
                  refine S.quiet (k := 1) (keep := [4]) (m := 0) (σ' := ⟨[(4, .v (I (-1)))], []⟩) .nil (by kernel_rfl) ?_
                  clear S; intro ac w β S
                  refine RG.done rfl (nx_then (wp_ret (rt_then (rt_block (rt_then (rt_then (rt_block (rt_then ?_))))))))
                  refine S.ret (vs := [I (-1)]) (by kernel_rfl) ?_
                  exact ⟨retI (show (-1) = hdl a k by clear S; (first | (rw [hr, hd_end (by omega)]; done) | (rw [hr, hd_step (by omega)]; simp [he_Guest, hdi, hdb, hdc, *]; done) | (rw [hr, hd_step (by omega)]; simp_all [he_Guest, hdi, hdb, hdc]; done))), S.chg⟩
                · have g23 : ((el a i).ctl).post = (IntKind.i64.wrap ((hdl ((el a i).live) (hdl ((el a i).written) (IntKind.i64.wrap ((IntKind.i64.wrap ((hdl ((el a i).prog) j) + 1)) + 1)))) + 1)) := ne_f h21
                  refine wp_skip (nx_then (wp_seq (RG.start ?_)))
                  refine S.quiet (k := 3) (keep := [0, 1, 5]) (m := 0) (σ' := ⟨[(0, .v (slv (a).length pa.1)), (1, .v (I (IntKind.i64.wrap ((IntKind.i64.wrap ((hdl ((el a i).live) (hdl ((el a i).written) (IntKind.i64.wrap ((IntKind.i64.wrap ((hdl ((el a i).prog) j) + 1)) + 1)))) + 1)) + 1)))), (5, .v (I (i : Int)))], []⟩) (.cons (Q_addw (x := (IntKind.i64.wrap ((hdl ((el a i).live) (hdl ((el a i).written) (IntKind.i64.wrap ((IntKind.i64.wrap ((hdl ((el a i).prog) j) + 1)) + 1)))) + 1))) (y := 1)) .nil) (by kernel_rfl) ?_
                  clear S; intro ac w β S
                  refine RG.done rfl (nx_then (wp_seq (wp_seq (RG.start ?_))))
                  refine S.quiet (k := 10) (keep := [0, 1, 5, 86]) (m := 0) (σ' := ⟨[(0, .v (slv (a).length pa.1)), (1, .v (I (IntKind.i64.wrap ((IntKind.i64.wrap ((hdl ((el a i).live) (hdl ((el a i).written) (IntKind.i64.wrap ((IntKind.i64.wrap ((hdl ((el a i).prog) j) + 1)) + 1)))) + 1)) + 1)))), (5, .v (I (i : Int))), (86, .v (B (!(((el a i).ctl).opn == ((Int.tmod (IntKind.i64.wrap ((IntKind.i64.wrap ((hdl ((el a i).live) (hdl ((el a i).written) (IntKind.i64.wrap ((IntKind.i64.wrap ((hdl ((el a i).prog) j) + 1)) + 1)))) + 1)) + 1)) 3) == 0)))))], []⟩) (.cons (Q_idx (S.arg ha) (l := (a).length) (k := i) (i := (i : Int)) rfl rfl (by omega) Try.underlying39 (by kernel_rfl)) (.cons (Q_cell (S.arg ha) (t := 4) (k := i) (j := 7) (v := B (((el a i).ctl).opn)) (by omega) (by kernel_rfl) (by kernel_rfl)) (.cons (Q_rem (x := (IntKind.i64.wrap ((IntKind.i64.wrap ((hdl ((el a i).live) (hdl ((el a i).written) (IntKind.i64.wrap ((IntKind.i64.wrap ((hdl ((el a i).prog) j) + 1)) + 1)))) + 1)) + 1))) (y := 3) (by decide)) .nil))) (by kernel_rfl) ?_
                  clear S; intro ac w β S
                  refine RG.done rfl (nx_then ?_)
                  refine S.cond (e := (!(((el a i).ctl).opn == ((Int.tmod (IntKind.i64.wrap ((IntKind.i64.wrap ((hdl ((el a i).live) (hdl ((el a i).written) (IntKind.i64.wrap ((IntKind.i64.wrap ((hdl ((el a i).prog) j) + 1)) + 1)))) + 1)) + 1)) 3) == 0)))) (by kernel_rfl) (fun h24 => ?_) (fun h24 => ?_)
                  · have h25 : (((el a i).ctl).opn == ((Int.tmod (IntKind.i64.wrap ((IntKind.i64.wrap ((hdl ((el a i).live) (hdl ((el a i).written) (IntKind.i64.wrap ((IntKind.i64.wrap ((hdl ((el a i).prog) j) + 1)) + 1)))) + 1)) + 1)) 3) == 0)) = false := not_t h24
                    have g26 : ¬ (((el a i).ctl).opn = ((Int.tmod (IntKind.i64.wrap ((IntKind.i64.wrap ((hdl ((el a i).live) (hdl ((el a i).written) (IntKind.i64.wrap ((IntKind.i64.wrap ((hdl ((el a i).prog) j) + 1)) + 1)))) + 1)) + 1)) 3) == 0)) := ne_of_beq_false h25
                    refine wp_seq (RG.start ?_)
                    refine S.quiet (k := 1) (keep := [4]) (m := 0) (σ' := ⟨[(4, .v (I (-1)))], []⟩) .nil (by kernel_rfl) ?_
                    clear S; intro ac w β S
                    refine RG.done rfl (nx_then (wp_ret (rt_then (rt_block (rt_then (rt_then (rt_block (rt_then ?_))))))))
                    refine S.ret (vs := [I (-1)]) (by kernel_rfl) ?_
                    exact ⟨retI (show (-1) = hdl a k by clear S; (first | (rw [hr, hd_end (by omega)]; done) | (rw [hr, hd_step (by omega)]; simp [he_Guest, hdi, hdb, hdc, *]; done) | (rw [hr, hd_step (by omega)]; simp_all [he_Guest, hdi, hdb, hdc]; done))), S.chg⟩
                  · have h27 : (((el a i).ctl).opn == ((Int.tmod (IntKind.i64.wrap ((IntKind.i64.wrap ((hdl ((el a i).live) (hdl ((el a i).written) (IntKind.i64.wrap ((IntKind.i64.wrap ((hdl ((el a i).prog) j) + 1)) + 1)))) + 1)) + 1)) 3) == 0)) = true := not_f h24
                    have g28 : ((el a i).ctl).opn = ((Int.tmod (IntKind.i64.wrap ((IntKind.i64.wrap ((hdl ((el a i).live) (hdl ((el a i).written) (IntKind.i64.wrap ((IntKind.i64.wrap ((hdl ((el a i).prog) j) + 1)) + 1)))) + 1)) + 1)) 3) == 0) := eq_of_beq h27
                    refine wp_skip (nx_then (wp_seq (RG.start ?_)))
                    refine S.quiet (k := 3) (keep := [0, 1, 5]) (m := 0) (σ' := ⟨[(0, .v (slv (a).length pa.1)), (1, .v (I (IntKind.i64.wrap ((IntKind.i64.wrap ((IntKind.i64.wrap ((hdl ((el a i).live) (hdl ((el a i).written) (IntKind.i64.wrap ((IntKind.i64.wrap ((hdl ((el a i).prog) j) + 1)) + 1)))) + 1)) + 1)) + 1)))), (5, .v (I (i : Int)))], []⟩) (.cons (Q_addw (x := (IntKind.i64.wrap ((IntKind.i64.wrap ((hdl ((el a i).live) (hdl ((el a i).written) (IntKind.i64.wrap ((IntKind.i64.wrap ((hdl ((el a i).prog) j) + 1)) + 1)))) + 1)) + 1))) (y := 1)) .nil) (by kernel_rfl) ?_
                    clear S; intro ac w β S
                    refine RG.done rfl (nx_then (wp_seq (wp_seq (RG.start ?_))))
                    refine S.quiet (k := 7) (keep := [0, 1, 5, 95]) (m := 0) (σ' := ⟨[(0, .v (slv (a).length pa.1)), (1, .v (I (IntKind.i64.wrap ((IntKind.i64.wrap ((IntKind.i64.wrap ((hdl ((el a i).live) (hdl ((el a i).written) (IntKind.i64.wrap ((IntKind.i64.wrap ((hdl ((el a i).prog) j) + 1)) + 1)))) + 1)) + 1)) + 1)))), (5, .v (I (i : Int))), (95, .v (B ((el a i).pend != (IntKind.i64.wrap ((IntKind.i64.wrap ((IntKind.i64.wrap ((hdl ((el a i).live) (hdl ((el a i).written) (IntKind.i64.wrap ((IntKind.i64.wrap ((hdl ((el a i).prog) j) + 1)) + 1)))) + 1)) + 1)) + 1)))))], []⟩) (.cons (Q_idx (S.arg ha) (l := (a).length) (k := i) (i := (i : Int)) rfl rfl (by omega) Try.underlying39 (by kernel_rfl)) (.cons (Q_cell (S.arg ha) (t := 3) (k := i) (j := 8) (v := I ((el a i).pend)) (by omega) (by kernel_rfl) (by kernel_rfl)) .nil)) (by kernel_rfl) ?_
                    clear S; intro ac w β S
                    refine RG.done rfl (nx_then ?_)
                    refine S.cond (e := ((el a i).pend != (IntKind.i64.wrap ((IntKind.i64.wrap ((IntKind.i64.wrap ((hdl ((el a i).live) (hdl ((el a i).written) (IntKind.i64.wrap ((IntKind.i64.wrap ((hdl ((el a i).prog) j) + 1)) + 1)))) + 1)) + 1)) + 1)))) (by kernel_rfl) (fun h29 => ?_) (fun h29 => ?_)
                    · have g30 : ¬ ((el a i).pend = (IntKind.i64.wrap ((IntKind.i64.wrap ((IntKind.i64.wrap ((hdl ((el a i).live) (hdl ((el a i).written) (IntKind.i64.wrap ((IntKind.i64.wrap ((hdl ((el a i).prog) j) + 1)) + 1)))) + 1)) + 1)) + 1))) := bne_iff_ne.1 h29
                      refine wp_seq (RG.start ?_)
                      refine S.quiet (k := 1) (keep := [4]) (m := 0) (σ' := ⟨[(4, .v (I (-1)))], []⟩) .nil (by kernel_rfl) ?_
                      clear S; intro ac w β S
                      refine RG.done rfl (nx_then (wp_ret (rt_then (rt_block (rt_then (rt_then (rt_block (rt_then ?_))))))))
                      refine S.ret (vs := [I (-1)]) (by kernel_rfl) ?_
                      exact ⟨retI (show (-1) = hdl a k by clear S; (first | (rw [hr, hd_end (by omega)]; done) | (rw [hr, hd_step (by omega)]; simp [he_Guest, hdi, hdb, hdc, *]; done) | (rw [hr, hd_step (by omega)]; simp_all [he_Guest, hdi, hdb, hdc]; done))), S.chg⟩
                    · have g31 : (el a i).pend = (IntKind.i64.wrap ((IntKind.i64.wrap ((IntKind.i64.wrap ((hdl ((el a i).live) (hdl ((el a i).written) (IntKind.i64.wrap ((IntKind.i64.wrap ((hdl ((el a i).prog) j) + 1)) + 1)))) + 1)) + 1)) + 1)) := ne_f h29
                      refine wp_skip (nx_then (wp_seq (RG.start ?_)))
                      refine S.quiet (k := 3) (keep := [0, 1, 5]) (m := 0) (σ' := ⟨[(0, .v (slv (a).length pa.1)), (1, .v (I (IntKind.i64.wrap ((IntKind.i64.wrap ((IntKind.i64.wrap ((IntKind.i64.wrap ((hdl ((el a i).live) (hdl ((el a i).written) (IntKind.i64.wrap ((IntKind.i64.wrap ((hdl ((el a i).prog) j) + 1)) + 1)))) + 1)) + 1)) + 1)) + 1)))), (5, .v (I (i : Int)))], []⟩) (.cons (Q_addw (x := (IntKind.i64.wrap ((IntKind.i64.wrap ((IntKind.i64.wrap ((hdl ((el a i).live) (hdl ((el a i).written) (IntKind.i64.wrap ((IntKind.i64.wrap ((hdl ((el a i).prog) j) + 1)) + 1)))) + 1)) + 1)) + 1))) (y := 1)) .nil) (by kernel_rfl) ?_
                      clear S; intro ac w β S
                      refine RG.done rfl (nx_then (wp_seq (wp_seq (RG.start ?_))))
                      refine S.quiet (k := 8) (keep := [0, 1, 5, 105]) (m := 0) (σ' := ⟨[(0, .v (slv (a).length pa.1)), (1, .v (I (IntKind.i64.wrap ((IntKind.i64.wrap ((IntKind.i64.wrap ((IntKind.i64.wrap ((hdl ((el a i).live) (hdl ((el a i).written) (IntKind.i64.wrap ((IntKind.i64.wrap ((hdl ((el a i).prog) j) + 1)) + 1)))) + 1)) + 1)) + 1)) + 1)))), (5, .v (I (i : Int))), (105, .v (B (((el a i).exit).kind != (IntKind.i64.wrap ((IntKind.i64.wrap ((IntKind.i64.wrap ((IntKind.i64.wrap ((hdl ((el a i).live) (hdl ((el a i).written) (IntKind.i64.wrap ((IntKind.i64.wrap ((hdl ((el a i).prog) j) + 1)) + 1)))) + 1)) + 1)) + 1)) + 1)))))], []⟩) (.cons (Q_idx (S.arg ha) (l := (a).length) (k := i) (i := (i : Int)) rfl rfl (by omega) Try.underlying39 (by kernel_rfl)) (.cons (Q_cell (S.arg ha) (t := 3) (k := i) (j := 9) (v := I (((el a i).exit).kind)) (by omega) (by kernel_rfl) (by kernel_rfl)) .nil)) (by kernel_rfl) ?_
                      clear S; intro ac w β S
                      refine RG.done rfl (nx_then ?_)
                      refine S.cond (e := (((el a i).exit).kind != (IntKind.i64.wrap ((IntKind.i64.wrap ((IntKind.i64.wrap ((IntKind.i64.wrap ((hdl ((el a i).live) (hdl ((el a i).written) (IntKind.i64.wrap ((IntKind.i64.wrap ((hdl ((el a i).prog) j) + 1)) + 1)))) + 1)) + 1)) + 1)) + 1)))) (by kernel_rfl) (fun h32 => ?_) (fun h32 => ?_)
                      · have g33 : ¬ (((el a i).exit).kind = (IntKind.i64.wrap ((IntKind.i64.wrap ((IntKind.i64.wrap ((IntKind.i64.wrap ((hdl ((el a i).live) (hdl ((el a i).written) (IntKind.i64.wrap ((IntKind.i64.wrap ((hdl ((el a i).prog) j) + 1)) + 1)))) + 1)) + 1)) + 1)) + 1))) := bne_iff_ne.1 h32
                        refine wp_seq (RG.start ?_)
                        refine S.quiet (k := 1) (keep := [4]) (m := 0) (σ' := ⟨[(4, .v (I (-1)))], []⟩) .nil (by kernel_rfl) ?_
                        clear S; intro ac w β S
                        refine RG.done rfl (nx_then (wp_ret (rt_then (rt_block (rt_then (rt_then (rt_block (rt_then ?_))))))))
                        refine S.ret (vs := [I (-1)]) (by kernel_rfl) ?_
                        exact ⟨retI (show (-1) = hdl a k by clear S; (first | (rw [hr, hd_end (by omega)]; done) | (rw [hr, hd_step (by omega)]; simp [he_Guest, hdi, hdb, hdc, *]; done) | (rw [hr, hd_step (by omega)]; simp_all [he_Guest, hdi, hdb, hdc]; done))), S.chg⟩
                      · have g34 : ((el a i).exit).kind = (IntKind.i64.wrap ((IntKind.i64.wrap ((IntKind.i64.wrap ((IntKind.i64.wrap ((hdl ((el a i).live) (hdl ((el a i).written) (IntKind.i64.wrap ((IntKind.i64.wrap ((hdl ((el a i).prog) j) + 1)) + 1)))) + 1)) + 1)) + 1)) + 1)) := ne_f h32
                        refine wp_skip (nx_then (wp_seq (RG.start ?_)))
                        refine S.quiet (k := 3) (keep := [0, 1, 5]) (m := 0) (σ' := ⟨[(0, .v (slv (a).length pa.1)), (1, .v (I (IntKind.i64.wrap ((IntKind.i64.wrap ((IntKind.i64.wrap ((IntKind.i64.wrap ((IntKind.i64.wrap ((hdl ((el a i).live) (hdl ((el a i).written) (IntKind.i64.wrap ((IntKind.i64.wrap ((hdl ((el a i).prog) j) + 1)) + 1)))) + 1)) + 1)) + 1)) + 1)) + 1)))), (5, .v (I (i : Int)))], []⟩) (.cons (Q_addw (x := (IntKind.i64.wrap ((IntKind.i64.wrap ((IntKind.i64.wrap ((IntKind.i64.wrap ((hdl ((el a i).live) (hdl ((el a i).written) (IntKind.i64.wrap ((IntKind.i64.wrap ((hdl ((el a i).prog) j) + 1)) + 1)))) + 1)) + 1)) + 1)) + 1))) (y := 1)) .nil) (by kernel_rfl) ?_
                        clear S; intro ac w β S
                        refine RG.done rfl (nx_then (wp_seq (wp_seq (RG.start ?_))))
                        refine S.quiet (k := 8) (keep := [0, 1, 5, 115]) (m := 0) (σ' := ⟨[(0, .v (slv (a).length pa.1)), (1, .v (I (IntKind.i64.wrap ((IntKind.i64.wrap ((IntKind.i64.wrap ((IntKind.i64.wrap ((IntKind.i64.wrap ((hdl ((el a i).live) (hdl ((el a i).written) (IntKind.i64.wrap ((IntKind.i64.wrap ((hdl ((el a i).prog) j) + 1)) + 1)))) + 1)) + 1)) + 1)) + 1)) + 1)))), (5, .v (I (i : Int))), (115, .v (B (((el a i).exit).page != (IntKind.i64.wrap ((IntKind.i64.wrap ((IntKind.i64.wrap ((IntKind.i64.wrap ((IntKind.i64.wrap ((hdl ((el a i).live) (hdl ((el a i).written) (IntKind.i64.wrap ((IntKind.i64.wrap ((hdl ((el a i).prog) j) + 1)) + 1)))) + 1)) + 1)) + 1)) + 1)) + 1)))))], []⟩) (.cons (Q_idx (S.arg ha) (l := (a).length) (k := i) (i := (i : Int)) rfl rfl (by omega) Try.underlying39 (by kernel_rfl)) (.cons (Q_cell (S.arg ha) (t := 3) (k := i) (j := 10) (v := I (((el a i).exit).page)) (by omega) (by kernel_rfl) (by kernel_rfl)) .nil)) (by kernel_rfl) ?_
                        clear S; intro ac w β S
                        refine RG.done rfl (nx_then ?_)
                        refine S.cond (e := (((el a i).exit).page != (IntKind.i64.wrap ((IntKind.i64.wrap ((IntKind.i64.wrap ((IntKind.i64.wrap ((IntKind.i64.wrap ((hdl ((el a i).live) (hdl ((el a i).written) (IntKind.i64.wrap ((IntKind.i64.wrap ((hdl ((el a i).prog) j) + 1)) + 1)))) + 1)) + 1)) + 1)) + 1)) + 1)))) (by kernel_rfl) (fun h35 => ?_) (fun h35 => ?_)
                        · have g36 : ¬ (((el a i).exit).page = (IntKind.i64.wrap ((IntKind.i64.wrap ((IntKind.i64.wrap ((IntKind.i64.wrap ((IntKind.i64.wrap ((hdl ((el a i).live) (hdl ((el a i).written) (IntKind.i64.wrap ((IntKind.i64.wrap ((hdl ((el a i).prog) j) + 1)) + 1)))) + 1)) + 1)) + 1)) + 1)) + 1))) := bne_iff_ne.1 h35
                          refine wp_seq (RG.start ?_)
                          refine S.quiet (k := 1) (keep := [4]) (m := 0) (σ' := ⟨[(4, .v (I (-1)))], []⟩) .nil (by kernel_rfl) ?_
                          clear S; intro ac w β S
                          refine RG.done rfl (nx_then (wp_ret (rt_then (rt_block (rt_then (rt_then (rt_block (rt_then ?_))))))))
                          refine S.ret (vs := [I (-1)]) (by kernel_rfl) ?_
                          exact ⟨retI (show (-1) = hdl a k by clear S; (first | (rw [hr, hd_end (by omega)]; done) | (rw [hr, hd_step (by omega)]; simp [he_Guest, hdi, hdb, hdc, *]; done) | (rw [hr, hd_step (by omega)]; simp_all [he_Guest, hdi, hdb, hdc]; done))), S.chg⟩
                        · have g37 : ((el a i).exit).page = (IntKind.i64.wrap ((IntKind.i64.wrap ((IntKind.i64.wrap ((IntKind.i64.wrap ((IntKind.i64.wrap ((hdl ((el a i).live) (hdl ((el a i).written) (IntKind.i64.wrap ((IntKind.i64.wrap ((hdl ((el a i).prog) j) + 1)) + 1)))) + 1)) + 1)) + 1)) + 1)) + 1)) := ne_f h35
                          refine wp_skip (nx_then (wp_seq (RG.start ?_)))
                          refine S.quiet (k := 3) (keep := [0, 1, 5]) (m := 0) (σ' := ⟨[(0, .v (slv (a).length pa.1)), (1, .v (I (IntKind.i64.wrap ((IntKind.i64.wrap ((IntKind.i64.wrap ((IntKind.i64.wrap ((IntKind.i64.wrap ((IntKind.i64.wrap ((hdl ((el a i).live) (hdl ((el a i).written) (IntKind.i64.wrap ((IntKind.i64.wrap ((hdl ((el a i).prog) j) + 1)) + 1)))) + 1)) + 1)) + 1)) + 1)) + 1)) + 1)))), (5, .v (I (i : Int)))], []⟩) (.cons (Q_addw (x := (IntKind.i64.wrap ((IntKind.i64.wrap ((IntKind.i64.wrap ((IntKind.i64.wrap ((IntKind.i64.wrap ((hdl ((el a i).live) (hdl ((el a i).written) (IntKind.i64.wrap ((IntKind.i64.wrap ((hdl ((el a i).prog) j) + 1)) + 1)))) + 1)) + 1)) + 1)) + 1)) + 1))) (y := 1)) .nil) (by kernel_rfl) ?_
                          clear S; intro ac w β S
                          refine RG.done rfl (nx_then (wp_seq (wp_seq (RG.start ?_))))
                          refine S.quiet (k := 10) (keep := [0, 1, 5, 127]) (m := 0) (σ' := ⟨[(0, .v (slv (a).length pa.1)), (1, .v (I (IntKind.i64.wrap ((IntKind.i64.wrap ((IntKind.i64.wrap ((IntKind.i64.wrap ((IntKind.i64.wrap ((IntKind.i64.wrap ((hdl ((el a i).live) (hdl ((el a i).written) (IntKind.i64.wrap ((IntKind.i64.wrap ((hdl ((el a i).prog) j) + 1)) + 1)))) + 1)) + 1)) + 1)) + 1)) + 1)) + 1)))), (5, .v (I (i : Int))), (127, .v (B (!(((el a i).exit).wr == ((Int.tmod (IntKind.i64.wrap ((IntKind.i64.wrap ((IntKind.i64.wrap ((IntKind.i64.wrap ((IntKind.i64.wrap ((IntKind.i64.wrap ((hdl ((el a i).live) (hdl ((el a i).written) (IntKind.i64.wrap ((IntKind.i64.wrap ((hdl ((el a i).prog) j) + 1)) + 1)))) + 1)) + 1)) + 1)) + 1)) + 1)) + 1)) 3) == 0)))))], []⟩) (.cons (Q_idx (S.arg ha) (l := (a).length) (k := i) (i := (i : Int)) rfl rfl (by omega) Try.underlying39 (by kernel_rfl)) (.cons (Q_cell (S.arg ha) (t := 4) (k := i) (j := 11) (v := B (((el a i).exit).wr)) (by omega) (by kernel_rfl) (by kernel_rfl)) (.cons (Q_rem (x := (IntKind.i64.wrap ((IntKind.i64.wrap ((IntKind.i64.wrap ((IntKind.i64.wrap ((IntKind.i64.wrap ((IntKind.i64.wrap ((hdl ((el a i).live) (hdl ((el a i).written) (IntKind.i64.wrap ((IntKind.i64.wrap ((hdl ((el a i).prog) j) + 1)) + 1)))) + 1)) + 1)) + 1)) + 1)) + 1)) + 1))) (y := 3) (by decide)) .nil))) (by kernel_rfl) ?_
                          clear S; intro ac w β S
                          refine RG.done rfl (nx_then ?_)
                          refine S.cond (e := (!(((el a i).exit).wr == ((Int.tmod (IntKind.i64.wrap ((IntKind.i64.wrap ((IntKind.i64.wrap ((IntKind.i64.wrap ((IntKind.i64.wrap ((IntKind.i64.wrap ((hdl ((el a i).live) (hdl ((el a i).written) (IntKind.i64.wrap ((IntKind.i64.wrap ((hdl ((el a i).prog) j) + 1)) + 1)))) + 1)) + 1)) + 1)) + 1)) + 1)) + 1)) 3) == 0)))) (by kernel_rfl) (fun h38 => ?_) (fun h38 => ?_)
                          · have h39 : (((el a i).exit).wr == ((Int.tmod (IntKind.i64.wrap ((IntKind.i64.wrap ((IntKind.i64.wrap ((IntKind.i64.wrap ((IntKind.i64.wrap ((IntKind.i64.wrap ((hdl ((el a i).live) (hdl ((el a i).written) (IntKind.i64.wrap ((IntKind.i64.wrap ((hdl ((el a i).prog) j) + 1)) + 1)))) + 1)) + 1)) + 1)) + 1)) + 1)) + 1)) 3) == 0)) = false := not_t h38
                            have g40 : ¬ (((el a i).exit).wr = ((Int.tmod (IntKind.i64.wrap ((IntKind.i64.wrap ((IntKind.i64.wrap ((IntKind.i64.wrap ((IntKind.i64.wrap ((IntKind.i64.wrap ((hdl ((el a i).live) (hdl ((el a i).written) (IntKind.i64.wrap ((IntKind.i64.wrap ((hdl ((el a i).prog) j) + 1)) + 1)))) + 1)) + 1)) + 1)) + 1)) + 1)) + 1)) 3) == 0)) := ne_of_beq_false h39
                            refine wp_seq (RG.start ?_)
                            refine S.quiet (k := 1) (keep := [4]) (m := 0) (σ' := ⟨[(4, .v (I (-1)))], []⟩) .nil (by kernel_rfl) ?_
                            clear S; intro ac w β S
                            refine RG.done rfl (nx_then (wp_ret (rt_then (rt_block (rt_then (rt_then (rt_block (rt_then ?_))))))))
                            refine S.ret (vs := [I (-1)]) (by kernel_rfl) ?_
                            exact ⟨retI (show (-1) = hdl a k by clear S; (first | (rw [hr, hd_end (by omega)]; done) | (rw [hr, hd_step (by omega)]; simp [he_Guest, hdi, hdb, hdc, *]; done) | (rw [hr, hd_step (by omega)]; simp_all [he_Guest, hdi, hdb, hdc]; done))), S.chg⟩
                          · have h41 : (((el a i).exit).wr == ((Int.tmod (IntKind.i64.wrap ((IntKind.i64.wrap ((IntKind.i64.wrap ((IntKind.i64.wrap ((IntKind.i64.wrap ((IntKind.i64.wrap ((hdl ((el a i).live) (hdl ((el a i).written) (IntKind.i64.wrap ((IntKind.i64.wrap ((hdl ((el a i).prog) j) + 1)) + 1)))) + 1)) + 1)) + 1)) + 1)) + 1)) + 1)) 3) == 0)) = true := not_f h38
                            have g42 : ((el a i).exit).wr = ((Int.tmod (IntKind.i64.wrap ((IntKind.i64.wrap ((IntKind.i64.wrap ((IntKind.i64.wrap ((IntKind.i64.wrap ((IntKind.i64.wrap ((hdl ((el a i).live) (hdl ((el a i).written) (IntKind.i64.wrap ((IntKind.i64.wrap ((hdl ((el a i).prog) j) + 1)) + 1)))) + 1)) + 1)) + 1)) + 1)) + 1)) + 1)) 3) == 0) := eq_of_beq h41
                            refine wp_skip (nx_then (wp_seq (RG.start ?_)))
                            refine S.quiet (k := 3) (keep := [0, 1, 5]) (m := 0) (σ' := ⟨[(0, .v (slv (a).length pa.1)), (1, .v (I (IntKind.i64.wrap ((IntKind.i64.wrap ((IntKind.i64.wrap ((IntKind.i64.wrap ((IntKind.i64.wrap ((IntKind.i64.wrap ((IntKind.i64.wrap ((hdl ((el a i).live) (hdl ((el a i).written) (IntKind.i64.wrap ((IntKind.i64.wrap ((hdl ((el a i).prog) j) + 1)) + 1)))) + 1)) + 1)) + 1)) + 1)) + 1)) + 1)) + 1)))), (5, .v (I (i : Int)))], []⟩) (.cons (Q_addw (x := (IntKind.i64.wrap ((IntKind.i64.wrap ((IntKind.i64.wrap ((IntKind.i64.wrap ((IntKind.i64.wrap ((IntKind.i64.wrap ((hdl ((el a i).live) (hdl ((el a i).written) (IntKind.i64.wrap ((IntKind.i64.wrap ((hdl ((el a i).prog) j) + 1)) + 1)))) + 1)) + 1)) + 1)) + 1)) + 1)) + 1))) (y := 1)) .nil) (by kernel_rfl) ?_
                            clear S; intro ac w β S
                            refine RG.done rfl (nx_then (wp_seq (wp_seq (RG.start ?_))))
                            refine S.quiet (k := 8) (keep := [0, 1, 5, 137]) (m := 0) (σ' := ⟨[(0, .v (slv (a).length pa.1)), (1, .v (I (IntKind.i64.wrap ((IntKind.i64.wrap ((IntKind.i64.wrap ((IntKind.i64.wrap ((IntKind.i64.wrap ((IntKind.i64.wrap ((IntKind.i64.wrap ((hdl ((el a i).live) (hdl ((el a i).written) (IntKind.i64.wrap ((IntKind.i64.wrap ((hdl ((el a i).prog) j) + 1)) + 1)))) + 1)) + 1)) + 1)) + 1)) + 1)) + 1)) + 1)))), (5, .v (I (i : Int))), (137, .v (B (((el a i).exit).n != (IntKind.i64.wrap ((IntKind.i64.wrap ((IntKind.i64.wrap ((IntKind.i64.wrap ((IntKind.i64.wrap ((IntKind.i64.wrap ((IntKind.i64.wrap ((hdl ((el a i).live) (hdl ((el a i).written) (IntKind.i64.wrap ((IntKind.i64.wrap ((hdl ((el a i).prog) j) + 1)) + 1)))) + 1)) + 1)) + 1)) + 1)) + 1)) + 1)) + 1)))))], []⟩) (.cons (Q_idx (S.arg ha) (l := (a).length) (k := i) (i := (i : Int)) rfl rfl (by omega) Try.underlying39 (by kernel_rfl)) (.cons (Q_cell (S.arg ha) (t := 3) (k := i) (j := 12) (v := I (((el a i).exit).n)) (by omega) (by kernel_rfl) (by kernel_rfl)) .nil)) (by kernel_rfl) ?_
                            clear S; intro ac w β S
                            refine RG.done rfl (nx_then ?_)
                            refine S.cond (e := (((el a i).exit).n != (IntKind.i64.wrap ((IntKind.i64.wrap ((IntKind.i64.wrap ((IntKind.i64.wrap ((IntKind.i64.wrap ((IntKind.i64.wrap ((IntKind.i64.wrap ((hdl ((el a i).live) (hdl ((el a i).written) (IntKind.i64.wrap ((IntKind.i64.wrap ((hdl ((el a i).prog) j) + 1)) + 1)))) + 1)) + 1)) + 1)) + 1)) + 1)) + 1)) + 1)))) (by kernel_rfl) (fun h43 => ?_) (fun h43 => ?_)
                            · have g44 : ¬ (((el a i).exit).n = (IntKind.i64.wrap ((IntKind.i64.wrap ((IntKind.i64.wrap ((IntKind.i64.wrap ((IntKind.i64.wrap ((IntKind.i64.wrap ((IntKind.i64.wrap ((hdl ((el a i).live) (hdl ((el a i).written) (IntKind.i64.wrap ((IntKind.i64.wrap ((hdl ((el a i).prog) j) + 1)) + 1)))) + 1)) + 1)) + 1)) + 1)) + 1)) + 1)) + 1))) := bne_iff_ne.1 h43
                              refine wp_seq (RG.start ?_)
                              refine S.quiet (k := 1) (keep := [4]) (m := 0) (σ' := ⟨[(4, .v (I (-1)))], []⟩) .nil (by kernel_rfl) ?_
                              clear S; intro ac w β S
                              refine RG.done rfl (nx_then (wp_ret (rt_then (rt_block (rt_then (rt_then (rt_block (rt_then ?_))))))))
                              refine S.ret (vs := [I (-1)]) (by kernel_rfl) ?_
                              exact ⟨retI (show (-1) = hdl a k by clear S; (first | (rw [hr, hd_end (by omega)]; done) | (rw [hr, hd_step (by omega)]; simp [he_Guest, hdi, hdb, hdc, *]; done) | (rw [hr, hd_step (by omega)]; simp_all [he_Guest, hdi, hdb, hdc]; done))), S.chg⟩
                            · have g45 : ((el a i).exit).n = (IntKind.i64.wrap ((IntKind.i64.wrap ((IntKind.i64.wrap ((IntKind.i64.wrap ((IntKind.i64.wrap ((IntKind.i64.wrap ((IntKind.i64.wrap ((hdl ((el a i).live) (hdl ((el a i).written) (IntKind.i64.wrap ((IntKind.i64.wrap ((hdl ((el a i).prog) j) + 1)) + 1)))) + 1)) + 1)) + 1)) + 1)) + 1)) + 1)) + 1)) := ne_f h43
                              refine wp_skip (nx_then (wp_seq (RG.start ?_)))
                              refine S.quiet (k := 3) (keep := [0, 1, 5]) (m := 0) (σ' := ⟨[(0, .v (slv (a).length pa.1)), (1, .v (I (IntKind.i64.wrap ((IntKind.i64.wrap ((IntKind.i64.wrap ((IntKind.i64.wrap ((IntKind.i64.wrap ((IntKind.i64.wrap ((IntKind.i64.wrap ((IntKind.i64.wrap ((hdl ((el a i).live) (hdl ((el a i).written) (IntKind.i64.wrap ((IntKind.i64.wrap ((hdl ((el a i).prog) j) + 1)) + 1)))) + 1)) + 1)) + 1)) + 1)) + 1)) + 1)) + 1)) + 1)))), (5, .v (I (i : Int)))], []⟩) (.cons (Q_addw (x := (IntKind.i64.wrap ((IntKind.i64.wrap ((IntKind.i64.wrap ((IntKind.i64.wrap ((IntKind.i64.wrap ((IntKind.i64.wrap ((IntKind.i64.wrap ((hdl ((el a i).live) (hdl ((el a i).written) (IntKind.i64.wrap ((IntKind.i64.wrap ((hdl ((el a i).prog) j) + 1)) + 1)))) + 1)) + 1)) + 1)) + 1)) + 1)) + 1)) + 1))) (y := 1)) .nil) (by kernel_rfl) ?_
                              clear S; intro ac w β S
                              refine RG.done rfl (nx_then (wp_seq (wp_seq (RG.start ?_))))
                              refine S.quiet (k := 9) (keep := [0, 1, 5, 148]) (m := 0) (σ' := ⟨[(0, .v (slv (a).length pa.1)), (1, .v (I (IntKind.i64.wrap ((IntKind.i64.wrap ((IntKind.i64.wrap ((IntKind.i64.wrap ((IntKind.i64.wrap ((IntKind.i64.wrap ((IntKind.i64.wrap ((IntKind.i64.wrap ((hdl ((el a i).live) (hdl ((el a i).written) (IntKind.i64.wrap ((IntKind.i64.wrap ((hdl ((el a i).prog) j) + 1)) + 1)))) + 1)) + 1)) + 1)) + 1)) + 1)) + 1)) + 1)) + 1)))), (5, .v (I (i : Int))), (148, .v (B (!((el a i).halted == ((Int.tmod (IntKind.i64.wrap ((IntKind.i64.wrap ((IntKind.i64.wrap ((IntKind.i64.wrap ((IntKind.i64.wrap ((IntKind.i64.wrap ((IntKind.i64.wrap ((IntKind.i64.wrap ((hdl ((el a i).live) (hdl ((el a i).written) (IntKind.i64.wrap ((IntKind.i64.wrap ((hdl ((el a i).prog) j) + 1)) + 1)))) + 1)) + 1)) + 1)) + 1)) + 1)) + 1)) + 1)) + 1)) 3) == 0)))))], []⟩) (.cons (Q_idx (S.arg ha) (l := (a).length) (k := i) (i := (i : Int)) rfl rfl (by omega) Try.underlying39 (by kernel_rfl)) (.cons (Q_cell (S.arg ha) (t := 4) (k := i) (j := 13) (v := B ((el a i).halted)) (by omega) (by kernel_rfl) (by kernel_rfl)) (.cons (Q_rem (x := (IntKind.i64.wrap ((IntKind.i64.wrap ((IntKind.i64.wrap ((IntKind.i64.wrap ((IntKind.i64.wrap ((IntKind.i64.wrap ((IntKind.i64.wrap ((IntKind.i64.wrap ((hdl ((el a i).live) (hdl ((el a i).written) (IntKind.i64.wrap ((IntKind.i64.wrap ((hdl ((el a i).prog) j) + 1)) + 1)))) + 1)) + 1)) + 1)) + 1)) + 1)) + 1)) + 1)) + 1))) (y := 3) (by decide)) .nil))) (by kernel_rfl) ?_
                              clear S; intro ac w β S
                              refine RG.done rfl (nx_then ?_)
                              refine S.cond (e := (!((el a i).halted == ((Int.tmod (IntKind.i64.wrap ((IntKind.i64.wrap ((IntKind.i64.wrap ((IntKind.i64.wrap ((IntKind.i64.wrap ((IntKind.i64.wrap ((IntKind.i64.wrap ((IntKind.i64.wrap ((hdl ((el a i).live) (hdl ((el a i).written) (IntKind.i64.wrap ((IntKind.i64.wrap ((hdl ((el a i).prog) j) + 1)) + 1)))) + 1)) + 1)) + 1)) + 1)) + 1)) + 1)) + 1)) + 1)) 3) == 0)))) (by kernel_rfl) (fun h46 => ?_) (fun h46 => ?_)
                              · have h47 : ((el a i).halted == ((Int.tmod (IntKind.i64.wrap ((IntKind.i64.wrap ((IntKind.i64.wrap ((IntKind.i64.wrap ((IntKind.i64.wrap ((IntKind.i64.wrap ((IntKind.i64.wrap ((IntKind.i64.wrap ((hdl ((el a i).live) (hdl ((el a i).written) (IntKind.i64.wrap ((IntKind.i64.wrap ((hdl ((el a i).prog) j) + 1)) + 1)))) + 1)) + 1)) + 1)) + 1)) + 1)) + 1)) + 1)) + 1)) 3) == 0)) = false := not_t h46
                                have g48 : ¬ ((el a i).halted = ((Int.tmod (IntKind.i64.wrap ((IntKind.i64.wrap ((IntKind.i64.wrap ((IntKind.i64.wrap ((IntKind.i64.wrap ((IntKind.i64.wrap ((IntKind.i64.wrap ((IntKind.i64.wrap ((hdl ((el a i).live) (hdl ((el a i).written) (IntKind.i64.wrap ((IntKind.i64.wrap ((hdl ((el a i).prog) j) + 1)) + 1)))) + 1)) + 1)) + 1)) + 1)) + 1)) + 1)) + 1)) + 1)) 3) == 0)) := ne_of_beq_false h47
                                refine wp_seq (RG.start ?_)
                                refine S.quiet (k := 1) (keep := [4]) (m := 0) (σ' := ⟨[(4, .v (I (-1)))], []⟩) .nil (by kernel_rfl) ?_
                                clear S; intro ac w β S
                                refine RG.done rfl (nx_then (wp_ret (rt_then (rt_block (rt_then (rt_then (rt_block (rt_then ?_))))))))
                                refine S.ret (vs := [I (-1)]) (by kernel_rfl) ?_
                                exact ⟨retI (show (-1) = hdl a k by clear S; (first | (rw [hr, hd_end (by omega)]; done) | (rw [hr, hd_step (by omega)]; simp [he_Guest, hdi, hdb, hdc, *]; done) | (rw [hr, hd_step (by omega)]; simp_all [he_Guest, hdi, hdb, hdc]; done))), S.chg⟩
                              · have h49 : ((el a i).halted == ((Int.tmod (IntKind.i64.wrap ((IntKind.i64.wrap ((IntKind.i64.wrap ((IntKind.i64.wrap ((IntKind.i64.wrap ((IntKind.i64.wrap ((IntKind.i64.wrap ((IntKind.i64.wrap ((hdl ((el a i).live) (hdl ((el a i).written) (IntKind.i64.wrap ((IntKind.i64.wrap ((hdl ((el a i).prog) j) + 1)) + 1)))) + 1)) + 1)) + 1)) + 1)) + 1)) + 1)) + 1)) + 1)) 3) == 0)) = true := not_f h46
                                have g50 : (el a i).halted = ((Int.tmod (IntKind.i64.wrap ((IntKind.i64.wrap ((IntKind.i64.wrap ((IntKind.i64.wrap ((IntKind.i64.wrap ((IntKind.i64.wrap ((IntKind.i64.wrap ((IntKind.i64.wrap ((hdl ((el a i).live) (hdl ((el a i).written) (IntKind.i64.wrap ((IntKind.i64.wrap ((hdl ((el a i).prog) j) + 1)) + 1)))) + 1)) + 1)) + 1)) + 1)) + 1)) + 1)) + 1)) + 1)) 3) == 0) := eq_of_beq h49
                                refine wp_skip (nx_then (wp_seq (RG.start ?_)))
                                refine S.quiet (k := 3) (keep := [0, 1, 5]) (m := 0) (σ' := ⟨[(0, .v (slv (a).length pa.1)), (1, .v (I (IntKind.i64.wrap ((IntKind.i64.wrap ((IntKind.i64.wrap ((IntKind.i64.wrap ((IntKind.i64.wrap ((IntKind.i64.wrap ((IntKind.i64.wrap ((IntKind.i64.wrap ((IntKind.i64.wrap ((hdl ((el a i).live) (hdl ((el a i).written) (IntKind.i64.wrap ((IntKind.i64.wrap ((hdl ((el a i).prog) j) + 1)) + 1)))) + 1)) + 1)) + 1)) + 1)) + 1)) + 1)) + 1)) + 1)) + 1)))), (5, .v (I (i : Int)))], []⟩) (.cons (Q_addw (x := (IntKind.i64.wrap ((IntKind.i64.wrap ((IntKind.i64.wrap ((IntKind.i64.wrap ((IntKind.i64.wrap ((IntKind.i64.wrap ((IntKind.i64.wrap ((IntKind.i64.wrap ((hdl ((el a i).live) (hdl ((el a i).written) (IntKind.i64.wrap ((IntKind.i64.wrap ((hdl ((el a i).prog) j) + 1)) + 1)))) + 1)) + 1)) + 1)) + 1)) + 1)) + 1)) + 1)) + 1))) (y := 1)) .nil) (by kernel_rfl) ?_
                                clear S; intro ac w β S
                                refine RG.done rfl (nx_then (wp_seq (RG.start ?_)))
                                refine S.quiet (k := 8) (keep := [0, 1, 5]) (m := 0) (σ' := ⟨[(0, .v (slv (a).length pa.1)), (1, .v (I (hdl ((el a i).seen) (IntKind.i64.wrap ((IntKind.i64.wrap ((IntKind.i64.wrap ((IntKind.i64.wrap ((IntKind.i64.wrap ((IntKind.i64.wrap ((IntKind.i64.wrap ((IntKind.i64.wrap ((IntKind.i64.wrap ((hdl ((el a i).live) (hdl ((el a i).written) (IntKind.i64.wrap ((IntKind.i64.wrap ((hdl ((el a i).prog) j) + 1)) + 1)))) + 1)) + 1)) + 1)) + 1)) + 1)) + 1)) + 1)) + 1)) + 1))))), (5, .v (I (i : Int)))], []⟩) (.cons (Q_idx (S.arg ha) (l := (a).length) (k := i) (i := (i : Int)) rfl rfl (by omega) Try.underlying39 (by kernel_rfl)) (.cons (Q_cell (S.arg ha) (t := 24) (k := i) (j := 14) (v := slv ((el a i).seen).length ((pa.2 i).seen).1) (by omega) (by kernel_rfl) (by kernel_rfl)) (.cons (Q_call fun w hw => c_laws_heldIntS w ((el a i).seen) ((pa.2 i).seen) (rd_of (RGuest.seen (d := (el a i)) (LRd.el (S.arg ha) i (by omega))) hw) (IntKind.i64.wrap ((IntKind.i64.wrap ((IntKind.i64.wrap ((IntKind.i64.wrap ((IntKind.i64.wrap ((IntKind.i64.wrap ((IntKind.i64.wrap ((IntKind.i64.wrap ((IntKind.i64.wrap ((hdl ((el a i).live) (hdl ((el a i).written) (IntKind.i64.wrap ((IntKind.i64.wrap ((hdl ((el a i).prog) j) + 1)) + 1)))) + 1)) + 1)) + 1)) + 1)) + 1)) + 1)) + 1)) + 1)) + 1))) .nil))) (by kernel_rfl) ?_
                                clear S; intro ac w β S
                                refine RG.done rfl (nx_then (wp_seq (RG.start ?_)))
                                refine S.quiet (k := 2) (keep := [0, 1, 5, 159]) (m := 0) (σ' := ⟨[(0, .v (slv (a).length pa.1)), (1, .v (I (hdl ((el a i).seen) (IntKind.i64.wrap ((IntKind.i64.wrap ((IntKind.i64.wrap ((IntKind.i64.wrap ((IntKind.i64.wrap ((IntKind.i64.wrap ((IntKind.i64.wrap ((IntKind.i64.wrap ((IntKind.i64.wrap ((hdl ((el a i).live) (hdl ((el a i).written) (IntKind.i64.wrap ((IntKind.i64.wrap ((hdl ((el a i).prog) j) + 1)) + 1)))) + 1)) + 1)) + 1)) + 1)) + 1)) + 1)) + 1)) + 1)) + 1))))), (5, .v (I (i : Int))), (159, .v (B (decide ((hdl ((el a i).seen) (IntKind.i64.wrap ((IntKind.i64.wrap ((IntKind.i64.wrap ((IntKind.i64.wrap ((IntKind.i64.wrap ((IntKind.i64.wrap ((IntKind.i64.wrap ((IntKind.i64.wrap ((IntKind.i64.wrap ((hdl ((el a i).live) (hdl ((el a i).written) (IntKind.i64.wrap ((IntKind.i64.wrap ((hdl ((el a i).prog) j) + 1)) + 1)))) + 1)) + 1)) + 1)) + 1)) + 1)) + 1)) + 1)) + 1)) + 1))) < 0))))], []⟩) .nil (by kernel_rfl) ?_
                                clear S; intro ac w β S
                                refine RG.done rfl (nx_then ?_)
                                refine S.cond (e := (decide ((hdl ((el a i).seen) (IntKind.i64.wrap ((IntKind.i64.wrap ((IntKind.i64.wrap ((IntKind.i64.wrap ((IntKind.i64.wrap ((IntKind.i64.wrap ((IntKind.i64.wrap ((IntKind.i64.wrap ((IntKind.i64.wrap ((hdl ((el a i).live) (hdl ((el a i).written) (IntKind.i64.wrap ((IntKind.i64.wrap ((hdl ((el a i).prog) j) + 1)) + 1)))) + 1)) + 1)) + 1)) + 1)) + 1)) + 1)) + 1)) + 1)) + 1))) < 0))) (by kernel_rfl) (fun h51 => ?_) (fun h51 => ?_)
                                · have g52 : (hdl ((el a i).seen) (IntKind.i64.wrap ((IntKind.i64.wrap ((IntKind.i64.wrap ((IntKind.i64.wrap ((IntKind.i64.wrap ((IntKind.i64.wrap ((IntKind.i64.wrap ((IntKind.i64.wrap ((IntKind.i64.wrap ((hdl ((el a i).live) (hdl ((el a i).written) (IntKind.i64.wrap ((IntKind.i64.wrap ((hdl ((el a i).prog) j) + 1)) + 1)))) + 1)) + 1)) + 1)) + 1)) + 1)) + 1)) + 1)) + 1)) + 1))) < 0 := of_decide_eq_true h51
                                  refine wp_seq (RG.start ?_)
                                  refine S.quiet (k := 1) (keep := [4]) (m := 0) (σ' := ⟨[(4, .v (I (-1)))], []⟩) .nil (by kernel_rfl) ?_
                                  clear S; intro ac w β S
                                  refine RG.done rfl (nx_then (wp_ret (rt_block (rt_then (rt_then (rt_block (rt_then ?_)))))))
                                  refine S.ret (vs := [I (-1)]) (by kernel_rfl) ?_
                                  exact ⟨retI (show (-1) = hdl a k by clear S; (first | (rw [hr, hd_end (by omega)]; done) | (rw [hr, hd_step (by omega)]; simp [he_Guest, hdi, hdb, hdc, *]; done) | (rw [hr, hd_step (by omega)]; simp_all [he_Guest, hdi, hdb, hdc]; done))), S.chg⟩
                                · have g53 : ¬ ((hdl ((el a i).seen) (IntKind.i64.wrap ((IntKind.i64.wrap ((IntKind.i64.wrap ((IntKind.i64.wrap ((IntKind.i64.wrap ((IntKind.i64.wrap ((IntKind.i64.wrap ((IntKind.i64.wrap ((IntKind.i64.wrap ((hdl ((el a i).live) (hdl ((el a i).written) (IntKind.i64.wrap ((IntKind.i64.wrap ((hdl ((el a i).prog) j) + 1)) + 1)))) + 1)) + 1)) + 1)) + 1)) + 1)) + 1)) + 1)) + 1)) + 1))) < 0) := of_decide_eq_false h51
                                  refine wp_skip (nx_block (nx_then (RG.start ?_)))
                                  refine S.quiet (k := 3) (keep := [0, 1, 5]) (m := 0) (σ' := ⟨[(0, .v (slv (a).length pa.1)), (1, .v (I (hdl ((el a i).seen) (IntKind.i64.wrap ((IntKind.i64.wrap ((IntKind.i64.wrap ((IntKind.i64.wrap ((IntKind.i64.wrap ((IntKind.i64.wrap ((IntKind.i64.wrap ((IntKind.i64.wrap ((IntKind.i64.wrap ((hdl ((el a i).live) (hdl ((el a i).written) (IntKind.i64.wrap ((IntKind.i64.wrap ((hdl ((el a i).prog) j) + 1)) + 1)))) + 1)) + 1)) + 1)) + 1)) + 1)) + 1)) + 1)) + 1)) + 1))))), (5, .v (I ((i : Int) + 1)))], []⟩) (.cons (Q_add (x := (i : Int)) (y := 1) ⟨by omega, by omega⟩) .nil) (by kernel_rfl) ?_
                                  clear S; intro ac w β S
                                  refine RG.done rfl (nx_then ?_)
                                  replace S := S.prune (keep := [0, 1, 5]) (m := 0) (σ' := ⟨[(0, .v (slv (a).length pa.1)), (1, .v (I (hdl ((el a i).seen) (IntKind.i64.wrap ((IntKind.i64.wrap ((IntKind.i64.wrap ((IntKind.i64.wrap ((IntKind.i64.wrap ((IntKind.i64.wrap ((IntKind.i64.wrap ((IntKind.i64.wrap ((IntKind.i64.wrap ((hdl ((el a i).live) (hdl ((el a i).written) (IntKind.i64.wrap ((IntKind.i64.wrap ((hdl ((el a i).prog) j) + 1)) + 1)))) + 1)) + 1)) + 1)) + 1)) + 1)) + 1)) + 1)) + 1)) + 1))))), (5, .v (I ((i : Int) + 1)))], []⟩) (by kernel_rfl)
                                  refine ⟨a.length - (i + 1), by omega, i + 1, (hdl ((el a i).seen) (IntKind.i64.wrap ((IntKind.i64.wrap ((IntKind.i64.wrap ((IntKind.i64.wrap ((IntKind.i64.wrap ((IntKind.i64.wrap ((IntKind.i64.wrap ((IntKind.i64.wrap ((IntKind.i64.wrap ((hdl ((el a i).live) (hdl ((el a i).written) (IntKind.i64.wrap ((IntKind.i64.wrap ((hdl ((el a i).prog) j) + 1)) + 1)))) + 1)) + 1)) + 1)) + 1)) + 1)) + 1)) + 1)) + 1)) + 1))), _, _, _, rfl, ?_, ?_, S.cast (by kernel_rfl)⟩
                                  · clear S; first | omega | (simp [*]; done) | (simp [*]; omega)
                                  · clear S; (rw [hr, hd_step (by omega)]; simp [he_Guest, hdi, hdb, hdc, *])
  · have g54 : ¬ ((i : Int) < ((a).length : Int)) := of_decide_eq_false h1
    refine wp_exit (ex_then (ex_then (ex_hit (nx_then (wp_seq (RG.start ?_))))))
    refine S.quiet (k := 2) (keep := [4]) (m := 0) (σ' := ⟨[(4, .v (I j))], []⟩) .nil (by kernel_rfl) ?_
    clear S; intro ac w β S
    refine RG.done rfl (nx_then (wp_ret ?_))
    refine S.ret (vs := [I j]) (by kernel_rfl) ?_
    exact ⟨retI (show j = hdl a k by clear S; (first | (rw [hr, hd_end (by omega)]; done) | (rw [hr, hd_step (by omega)]; simp [he_Guest, hdi, hdb, hdc, *]; done) | (rw [hr, hd_step (by omega)]; simp_all [he_Guest, hdi, hdb, hdc]; done))), S.chg⟩

set_option maxRecDepth 100000 in
theorem c_laws_heldBare (w0 : World) (a : TBare) (pa : PBare) (ha : GT.rd KK (Lt w0.heap.size) w0 a pa) (k : Int) : Calls Try.prog 42 [GT.val a pa, I k].toArray w0 (fun e w' => e = .returned (I (hdT_Bare a k)) ∧ Chg NoB w0 w') := by
  refine Calls.walk (args := [GT.val a pa, I k]) NoB Try.func42 rfl rfl ?_
  intro ac β S
  have hlea_mem : a.mem.length ≤ 4194304 := LRd.le (RBare.mem (d := a) ha)
  have hlea_guests : a.guests.length ≤ 4194304 := LRd.le (RBare.guests (d := a) ha)
  have hlea_outs : a.outs.length ≤ 4194304 := LRd.le (RBare.outs (d := a) ha)
  refine wp_seq (RG.start ?_)
  refine S.quiet (k := 2) (keep := [1, 2]) (m := 1) (σ' := ⟨[(1, .v (I k)), (2, .p 0 0)], [GT.cells a pa]⟩) .nil (by kernel_rfl) ?_
  clear S; intro ac w β S
  refine RG.done rfl (nx_then (wp_seq (RG.start ?_)))
  refine S.quiet (k := 5) (keep := [1, 2]) (m := 1) (σ' := ⟨[(1, .v (I (hdl a.mem k))), (2, .p 0 0)], [GT.cells a pa]⟩) (.cons (Q_call fun w hw => c_laws_heldIntSS w a.mem pa.mem (rd_of (RBare.mem (d := a) (S.arg ha)) hw) k) .nil) (by kernel_rfl) ?_
  clear S; intro ac w β S
  refine RG.done rfl (nx_then (wp_seq (wp_seq (RG.start ?_))))
  refine S.quiet (k := 2) (keep := [1, 2, 10]) (m := 1) (σ' := ⟨[(1, .v (I (hdl a.mem k))), (2, .p 0 0), (10, .v (B (decide ((hdl a.mem k) < 0))))], [GT.cells a pa]⟩) .nil (by kernel_rfl) ?_
  clear S; intro ac w β S
  refine RG.done rfl (nx_then ?_)
  refine S.cond (e := (decide ((hdl a.mem k) < 0))) (by kernel_rfl) (fun h1 => ?_) (fun h1 => ?_)
  · have g2 : (hdl a.mem k) < 0 := of_decide_eq_true h1
    refine wp_seq (RG.start ?_)
    refine S.quiet (k := 1) (keep := [4]) (m := 0) (σ' := ⟨[(4, .v (I (-1)))], []⟩) .nil (by kernel_rfl) ?_
    clear S; intro ac w β S
    refine RG.done rfl (nx_then (wp_ret (rt_then ?_)))
    refine S.ret (vs := [I (-1)]) (by kernel_rfl) ?_
    exact ⟨retI (show (-1) = hdT_Bare a k by clear S; (simp [hdT_Bare, hdc, *])), S.chg⟩
  · have g3 : ¬ ((hdl a.mem k) < 0) := of_decide_eq_false h1
    refine wp_skip (nx_then (wp_seq (RG.start ?_)))
    refine S.quiet (k := 5) (keep := [1, 2]) (m := 1) (σ' := ⟨[(1, .v (I (hdl a.guests (hdl a.mem k)))), (2, .p 0 0)], [GT.cells a pa]⟩) (.cons (Q_call fun w hw => c_laws_heldGuestS w a.guests pa.guests (rd_of (RBare.guests (d := a) (S.arg ha)) hw) (hdl a.mem k)) .nil) (by kernel_rfl) ?_
    clear S; intro ac w β S
    refine RG.done rfl (nx_then (wp_seq (wp_seq (RG.start ?_))))
    refine S.quiet (k := 2) (keep := [1, 2, 16]) (m := 1) (σ' := ⟨[(1, .v (I (hdl a.guests (hdl a.mem k)))), (2, .p 0 0), (16, .v (B (decide ((hdl a.guests (hdl a.mem k)) < 0))))], [GT.cells a pa]⟩) .nil (by kernel_rfl) ?_
    clear S; intro ac w β S
    refine RG.done rfl (nx_then ?_)
    refine S.cond (e := (decide ((hdl a.guests (hdl a.mem k)) < 0))) (by kernel_rfl) (fun h4 => ?_) (fun h4 => ?_)
    · have g5 : (hdl a.guests (hdl a.mem k)) < 0 := of_decide_eq_true h4
      refine wp_seq (RG.start ?_)
      refine S.quiet (k := 1) (keep := [4]) (m := 0) (σ' := ⟨[(4, .v (I (-1)))], []⟩) .nil (by kernel_rfl) ?_
      clear S; intro ac w β S
      refine RG.done rfl (nx_then (wp_ret (rt_then ?_)))
      refine S.ret (vs := [I (-1)]) (by kernel_rfl) ?_
      exact ⟨retI (show (-1) = hdT_Bare a k by clear S; (simp [hdT_Bare, hdc, *])), S.chg⟩
    · have g6 : ¬ ((hdl a.guests (hdl a.mem k)) < 0) := of_decide_eq_false h4
      refine wp_skip (nx_then (wp_seq (RG.start ?_)))
      refine S.quiet (k := 5) (keep := [1]) (m := 0) (σ' := ⟨[(1, .v (I (hdl a.outs (hdl a.guests (hdl a.mem k)))))], []⟩) (.cons (Q_call fun w hw => c_laws_heldIntS w a.outs pa.outs (rd_of (RBare.outs (d := a) (S.arg ha)) hw) (hdl a.guests (hdl a.mem k))) .nil) (by kernel_rfl) ?_
      clear S; intro ac w β S
      refine RG.done rfl (nx_then (wp_seq (wp_seq (RG.start ?_))))
      refine S.quiet (k := 2) (keep := [1, 22]) (m := 0) (σ' := ⟨[(1, .v (I (hdl a.outs (hdl a.guests (hdl a.mem k))))), (22, .v (B (decide ((hdl a.outs (hdl a.guests (hdl a.mem k))) < 0))))], []⟩) .nil (by kernel_rfl) ?_
      clear S; intro ac w β S
      refine RG.done rfl (nx_then ?_)
      refine S.cond (e := (decide ((hdl a.outs (hdl a.guests (hdl a.mem k))) < 0))) (by kernel_rfl) (fun h7 => ?_) (fun h7 => ?_)
      · have g8 : (hdl a.outs (hdl a.guests (hdl a.mem k))) < 0 := of_decide_eq_true h7
        refine wp_seq (RG.start ?_)
        refine S.quiet (k := 1) (keep := [4]) (m := 0) (σ' := ⟨[(4, .v (I (-1)))], []⟩) .nil (by kernel_rfl) ?_
        clear S; intro ac w β S
        refine RG.done rfl (nx_then (wp_ret (rt_then ?_)))
        refine S.ret (vs := [I (-1)]) (by kernel_rfl) ?_
        exact ⟨retI (show (-1) = hdT_Bare a k by clear S; (simp [hdT_Bare, hdc, *])), S.chg⟩
      · have g9 : ¬ ((hdl a.outs (hdl a.guests (hdl a.mem k))) < 0) := of_decide_eq_false h7
        refine wp_skip (nx_then (wp_seq (RG.start ?_)))
        refine S.quiet (k := 2) (keep := [4]) (m := 0) (σ' := ⟨[(4, .v (I (hdl a.outs (hdl a.guests (hdl a.mem k)))))], []⟩) .nil (by kernel_rfl) ?_
        clear S; intro ac w β S
        refine RG.done rfl (nx_then (wp_ret ?_))
        refine S.ret (vs := [I (hdl a.outs (hdl a.guests (hdl a.mem k)))]) (by kernel_rfl) ?_
        exact ⟨retI (show (hdl a.outs (hdl a.guests (hdl a.mem k))) = hdT_Bare a k by clear S; (simp [hdT_Bare, hdc, *])), S.chg⟩

set_option maxRecDepth 100000 in
theorem c_laws_FnExactBarePost (w0 : World) (aB : TBare) (paB : PBare) (haB : GT.rd KR (Lt w0.heap.size) w0 aB paB) (aN : Int) : Calls Try.prog 5 [GT.val aB paB, I aN].toArray w0 (fun e w' => e = .returned (B true) ∧ Chg NoB w0 w') := by
  refine Calls.walk (args := [GT.val aB paB, I aN]) NoB Try.func5 rfl rfl ?_
  intro ac β S
  refine wp_seq (RG.start ?_)
  refine S.quiet (k := 2) (keep := [1, 2]) (m := 1) (σ' := ⟨[(1, .v (I aN)), (2, .p 0 0)], [GT.cells aB paB]⟩) .nil (by kernel_rfl) ?_
  clear S; intro ac w β S
  refine RG.done rfl (nx_then (wp_seq (RG.start ?_)))
  refine S.quiet (k := 1) (keep := [1, 2, 5]) (m := 1) (σ' := ⟨[(1, .v (I aN)), (2, .p 0 0), (5, .v (I 1048576))], [GT.cells aB paB]⟩) .nil (by kernel_rfl) ?_
  clear S; intro ac w β S
  refine RG.done rfl (nx_then (wp_seq (RG.start ?_)))
  have b1 := f_sz_cs (SZ.sz aB) 1048576
  refine S.quiet (k := 4) (keep := [1, 2, 5]) (m := 1) (σ' := ⟨[(1, .v (I aN)), (2, .p 0 0), (5, .v (I (f_sz (SZ.sz aB) 1048576)))], [GT.cells aB paB]⟩) (.cons (Q_call fun w hw => c_laws_szBare w aB paB (rd_of (S.arg haB) hw) 1048576 (by omega) (by omega)) .nil) (by kernel_rfl) ?_
  clear S; intro ac w β S
  refine RG.done rfl (nx_then (wp_seq (wp_seq (RG.start ?_))))
  refine S.quiet (k := 2) (keep := [1, 2, 20]) (m := 1) (σ' := ⟨[(1, .v (I aN)), (2, .p 0 0), (20, .v (B (decide ((f_sz (SZ.sz aB) 1048576) < 0))))], [GT.cells aB paB]⟩) .nil (by kernel_rfl) ?_
  clear S; intro ac w β S
  refine RG.done rfl (nx_then ?_)
  refine S.cond (e := (decide ((f_sz (SZ.sz aB) 1048576) < 0))) (by kernel_rfl) (fun h2 => ?_) (fun h2 => ?_)
  · have g3 : (f_sz (SZ.sz aB) 1048576) < 0 := of_decide_eq_true h2
    refine wp_seq (RG.start ?_)
    refine S.quiet (k := 1) (keep := [4]) (m := 0) (σ' := ⟨[(4, .v (B true))], []⟩) .nil (by kernel_rfl) ?_
    clear S; intro ac w β S
    refine RG.done rfl (nx_then (wp_ret (rt_then ?_)))
    refine S.ret (vs := [B true]) (by kernel_rfl) ?_
    exact ⟨retB (show true = true by clear S; first | rfl | (exfalso; omega) | (exfalso; simp_all; done) | (exfalso; simp_all; omega)), S.chg⟩
  · have g4 : ¬ ((f_sz (SZ.sz aB) 1048576) < 0) := of_decide_eq_false h2
    have hkaB : GT.rd KK (Lt w0.heap.size) w0 aB paB := SZ.cut haB (show SZ.sz aB ≤ 4194304 by omega)
    have hcaB : SZ.sz aB ≤ 1048576 := by omega
    refine wp_skip (nx_then (wp_seq (RG.start ?_)))
    refine S.quiet (k := 1) (keep := [1, 2, 22]) (m := 1) (σ' := ⟨[(1, .v (I aN)), (2, .p 0 0), (22, .v (GT.val aB paB))], [GT.cells aB paB]⟩) .nil (by kernel_rfl) ?_
    clear S; intro ac w β S
    refine RG.op rfl (S.call1 (r := aB) (d := 23) (c_laws_toBare w aB paB (S.rd (S.arg hkaB))) (by kernel_rfl) rfl ?_)
    clear S; intro ac w N q5 F6 S up o7 d8
    clear up d8
    refine S.quiet (k := 1) (keep := [1, 2, 23, 24]) (m := 1) (σ' := ⟨[(1, .v (I aN)), (2, .p 0 0), (23, .v (GT.val aB q5)), (24, .v (I aN))], [GT.cells aB paB]⟩) .nil (by kernel_rfl) ?_
    clear S; intro ac w β S
    refine RG.op rfl (S.call2 (r := (f_barePost aB aN).1) (r' := (f_barePost aB aN).2) (d := 25) (c_spec_BarePost w aB q5 (S.rd o7.rn) aN) (by kernel_rfl) rfl ?_)
    clear S; intro ac w N q9 q10 F11 F12 S up o13 o14 d15 d16 d17
    have d18 : Disj F6 F12 := fun b x y => d16 b (o7.sub b x) y
    have d19 : Disj F6 F11 := fun b x y => d15 b (o7.sub b x) y
    replace o7 := o7.up up
    clear up d15
    clear d16
    refine S.quiet (k := 6) (keep := [1, 2, 6, 7]) (m := 2) (σ' := ⟨[(1, .v (I aN)), (2, .p 0 0), (6, .p 1 0), (7, .v (B ((f_barePost aB aN).2)))], [GT.cells aB paB, GT.cells ((f_barePost aB aN).1) q9]⟩) .nil (by kernel_rfl) ?_
    clear S; intro ac w β S
    refine RG.done rfl (nx_then (wp_seq (RG.start ?_)))
    refine S.quiet (k := 1) (keep := [1, 2, 6, 7, 28]) (m := 2) (σ' := ⟨[(1, .v (I aN)), (2, .p 0 0), (6, .p 1 0), (7, .v (B ((f_barePost aB aN).2))), (28, .v (GT.val aB paB))], [GT.cells aB paB, GT.cells ((f_barePost aB aN).1) q9]⟩) .nil (by kernel_rfl) ?_
    clear S; intro ac w β S
    refine RG.op rfl (S.call1 (r := aB) (d := 29) (c_laws_toBare w aB paB (S.rd (S.arg hkaB))) (by kernel_rfl) rfl ?_)
    clear S; intro ac w N q20 F21 S up o22 d23
    have d24 : Disj F11 F21 := fun b x y => d23 b (o13.sub b x) y
    replace o13 := o13.up up
    clear up d23
    refine S.quiet (k := 2) (keep := [1, 2, 6, 7, 8]) (m := 3) (σ' := ⟨[(1, .v (I aN)), (2, .p 0 0), (6, .p 1 0), (7, .v (B ((f_barePost aB aN).2))), (8, .p 2 0)], [GT.cells aB paB, GT.cells ((f_barePost aB aN).1) q9, GT.cells aB q20]⟩) .nil (by kernel_rfl) ?_
    clear S; intro ac w β S
    refine RG.done rfl (nx_then (wp_seq (RG.start ?_)))
    refine S.quiet (k := 2) (keep := [1, 2, 6, 7, 8, 31, 32]) (m := 3) (σ' := ⟨[(1, .v (I aN)), (2, .p 0 0), (6, .p 1 0), (7, .v (B ((f_barePost aB aN).2))), (8, .p 2 0), (31, .v (GT.val aB q20)), (32, .v (I aN))], [GT.cells aB paB, GT.cells ((f_barePost aB aN).1) q9, GT.cells aB q20]⟩) .nil (by kernel_rfl) ?_
    clear S; intro ac w β S
    refine RG.op rfl (S.call2 (r := (f_barePost aB aN).1) (r' := (f_barePost aB aN).2) (d := 33) (c_impl_BarePost w aB q20 (S.rd o22.rn) aN) (by kernel_rfl) rfl ?_)
    clear S; intro ac w N q25 q26 F27 F28 S up o29 o30 d31 d32 d33
    have d34 : Disj F11 F28 := fun b x y => d32 b (o13.sub b x) y
    have d35 : Disj F21 F28 := fun b x y => d32 b (o22.sub b x) y
    have d36 : Disj F11 F27 := fun b x y => d31 b (o13.sub b x) y
    have d37 : Disj F21 F27 := fun b x y => d31 b (o22.sub b x) y
    replace o13 := o13.up up
    replace o22 := o22.up up
    clear up d31
    clear d32
    refine S.quiet (k := 6) (keep := [1, 2, 6, 7, 8, 9, 10]) (m := 4) (σ' := ⟨[(1, .v (I aN)), (2, .p 0 0), (6, .p 1 0), (7, .v (B ((f_barePost aB aN).2))), (8, .p 2 0), (9, .p 3 0), (10, .v (B ((f_barePost aB aN).2)))], [GT.cells aB paB, GT.cells ((f_barePost aB aN).1) q9, GT.cells aB q20, GT.cells ((f_barePost aB aN).1) q25]⟩) .nil (by kernel_rfl) ?_
    clear S; intro ac w β S
    refine RG.done rfl (nx_then (wp_seq (wp_seq (RG.start ?_))))
    refine S.quiet (k := 5) (keep := [1, 2, 6, 7, 8, 9, 10, 40]) (m := 4) (σ' := ⟨[(1, .v (I aN)), (2, .p 0 0), (6, .p 1 0), (7, .v (B ((f_barePost aB aN).2))), (8, .p 2 0), (9, .p 3 0), (10, .v (B ((f_barePost aB aN).2))), (40, .v (B (!(decide (((f_barePost aB aN).1) = ((f_barePost aB aN).1))))))], [GT.cells aB paB, GT.cells ((f_barePost aB aN).1) q9, GT.cells aB q20, GT.cells ((f_barePost aB aN).1) q25]⟩) (.cons (Q_call fun w hw => c_laws_eqBare w ((f_barePost aB aN).1) q25 (rd_of o29.rn hw) ((f_barePost aB aN).1) q9 (rd_of o13.rn hw)) .nil) (by kernel_rfl) ?_
    clear S; intro ac w β S
    rcases Bool.eq_false_or_eq_true (!(decide (((f_barePost aB aN).1) = ((f_barePost aB aN).1)))) with h38 | h38 <;> rw [h38] at S
    · have h39 : (decide (((f_barePost aB aN).1) = ((f_barePost aB aN).1))) = false := not_t h38
      have g40 := of_decide_eq_false h39
      refine S.quiet (k := 4) (keep := [1, 2, 6, 7, 8, 9, 10, 44]) (m := 4) (σ' := ⟨[(1, .v (I aN)), (2, .p 0 0), (6, .p 1 0), (7, .v (B ((f_barePost aB aN).2))), (8, .p 2 0), (9, .p 3 0), (10, .v (B ((f_barePost aB aN).2))), (44, .v (B true))], [GT.cells aB paB, GT.cells ((f_barePost aB aN).1) q9, GT.cells aB q20, GT.cells ((f_barePost aB aN).1) q25]⟩) .nil (by kernel_rfl) ?_
      clear S; intro ac w β S
      refine RG.done rfl (nx_then ?_)
      refine S.cond (e := true) (by kernel_rfl) (fun _ => ?_) (fun hx => by cases hx)
      refine wp_seq (RG.start ?_)
      refine S.quiet (k := 1) (keep := [4]) (m := 0) (σ' := ⟨[(4, .v (B false))], []⟩) .nil (by kernel_rfl) ?_
      clear S; intro ac w β S
      refine RG.done rfl (nx_then (wp_ret (rt_then ?_)))
      refine S.ret (vs := [B false]) (by kernel_rfl) ?_
      exact ⟨retB (show false = true by clear S; first | rfl | (exfalso; omega) | (exfalso; simp_all; done) | (exfalso; simp_all; omega)), S.chg⟩
    · have h41 : (decide (((f_barePost aB aN).1) = ((f_barePost aB aN).1))) = true := not_f h38
      have g42 := of_decide_eq_true h41
      refine S.quiet (k := 4) (keep := [1, 2, 6, 7, 8, 9, 10, 44]) (m := 4) (σ' := ⟨[(1, .v (I aN)), (2, .p 0 0), (6, .p 1 0), (7, .v (B ((f_barePost aB aN).2))), (8, .p 2 0), (9, .p 3 0), (10, .v (B ((f_barePost aB aN).2))), (44, .v (B (!((f_barePost aB aN).2 == (f_barePost aB aN).2))))], [GT.cells aB paB, GT.cells ((f_barePost aB aN).1) q9, GT.cells aB q20, GT.cells ((f_barePost aB aN).1) q25]⟩) .nil (by kernel_rfl) ?_
      clear S; intro ac w β S
      refine RG.done rfl (nx_then ?_)
      refine S.cond (e := (!((f_barePost aB aN).2 == (f_barePost aB aN).2))) (by kernel_rfl) (fun h43 => ?_) (fun h43 => ?_)
      · have h44 : ((f_barePost aB aN).2 == (f_barePost aB aN).2) = false := not_t h43
        have g45 : ¬ ((f_barePost aB aN).2 = (f_barePost aB aN).2) := ne_of_beq_false h44
        refine wp_seq (RG.start ?_)
        refine S.quiet (k := 1) (keep := [4]) (m := 0) (σ' := ⟨[(4, .v (B false))], []⟩) .nil (by kernel_rfl) ?_
        clear S; intro ac w β S
        refine RG.done rfl (nx_then (wp_ret (rt_then ?_)))
        refine S.ret (vs := [B false]) (by kernel_rfl) ?_
        exact ⟨retB (show false = true by clear S; first | rfl | (exfalso; omega) | (exfalso; simp_all; done) | (exfalso; simp_all; omega)), S.chg⟩
      · have h46 : ((f_barePost aB aN).2 == (f_barePost aB aN).2) = true := not_f h43
        have g47 : (f_barePost aB aN).2 = (f_barePost aB aN).2 := eq_of_beq h46
        refine wp_skip (nx_then (wp_seq (wp_seq ?_)))
        refine S.draw0 (f := 5) 5 rfl rfl ?_
        clear S; intro w S
        refine S.hoist (i := 0) (path := []) (keep := [1, 2, 6, 7, 8, 9, 10, 45]) (m := 4) (σ' := ⟨[(1, .v (I aN)), (2, .p 0 0), (6, .p 1 0), (7, .v (B ((f_barePost aB aN).2))), (8, .p 2 0), (9, .p 3 0), (10, .v (B ((f_barePost aB aN).2))), (45, .v (GT.val aB q20))], [GT.cells aB paB, GT.cells ((f_barePost aB aN).1) q9, GT.cells aB q20, GT.cells ((f_barePost aB aN).1) q25]⟩) (by kernel_rfl) (by kernel_rfl) .nil (by kernel_rfl) ?_
        clear S; intro ac S
        refine S.hoist (i := 1) (path := []) (keep := [1, 2, 6, 7, 8, 9, 10, 45, 46]) (m := 4) (σ' := ⟨[(1, .v (I aN)), (2, .p 0 0), (6, .p 1 0), (7, .v (B ((f_barePost aB aN).2))), (8, .p 2 0), (9, .p 3 0), (10, .v (B ((f_barePost aB aN).2))), (45, .v (GT.val aB q20)), (46, .v (GT.val aB paB))], [GT.cells aB paB, GT.cells ((f_barePost aB aN).1) q9, GT.cells aB q20, GT.cells ((f_barePost aB aN).1) q25]⟩) (by kernel_rfl) (by kernel_rfl) .nil (by kernel_rfl) ?_
        clear S; intro ac S
        refine WD.one (i := 2) (by kernel_rfl) ?_
        refine id (S.call1 (r := aB) (d := 47) (c_laws_toBare w aB paB (S.rd (S.arg hkaB))) (by kernel_rfl) rfl ?_)
        clear S; intro ac w N q48 F49 S up o50 d51
        refine WD.next S up rfl ?_
        have d52 : Disj F11 F49 := fun b x y => d51 b (o13.sub b x) y
        have d53 : Disj F21 F49 := fun b x y => d51 b (o22.sub b x) y
        have d54 : Disj F27 F49 := fun b x y => d51 b (o29.sub b x) y
        replace o13 := o13.up up
        replace o22 := o22.up up
        replace o29 := o29.up up
        clear up d51
        refine WD.one (i := 3) (by kernel_rfl) ?_
        refine S.stepq (i := 3) (keep := [1, 2, 6, 7, 8, 9, 10, 48]) (m := 4) (σ' := ⟨[(1, .v (I aN)), (2, .p 0 0), (6, .p 1 0), (7, .v (B ((f_barePost aB aN).2))), (8, .p 2 0), (9, .p 3 0), (10, .v (B ((f_barePost aB aN).2))), (48, .v (B (decide (aB = aB))))], [GT.cells aB paB, GT.cells ((f_barePost aB aN).1) q9, GT.cells aB q20, GT.cells ((f_barePost aB aN).1) q25]⟩) (.cons (Q_call fun w hw => c_laws_eqBare w aB q20 (rd_of o22.rn hw) aB q48 (rd_of o50.rn hw)) .nil) (by kernel_rfl) ?_
        clear S; intro ac w β S hβ
        refine WD.stay S hβ (fun _ _ h => h) ?_
        clear hβ
        refine S.hoist (i := 4) (path := []) (keep := [1, 2, 6, 7, 8, 9, 10, 49]) (m := 4) (σ' := ⟨[(1, .v (I aN)), (2, .p 0 0), (6, .p 1 0), (7, .v (B ((f_barePost aB aN).2))), (8, .p 2 0), (9, .p 3 0), (10, .v (B ((f_barePost aB aN).2))), (49, .v (B (!(decide (aB = aB)))))], [GT.cells aB paB, GT.cells ((f_barePost aB aN).1) q9, GT.cells aB q20, GT.cells ((f_barePost aB aN).1) q25]⟩) (by kernel_rfl) (by kernel_rfl) .nil (by kernel_rfl) ?_
        clear S; intro ac S
        refine WD.done (by kernel_rfl) ?_ _
        replace S := S.prune (keep := [1, 2, 6, 7, 8, 9, 10, 49]) (m := 4) (σ' := ⟨[(1, .v (I aN)), (2, .p 0 0), (6, .p 1 0), (7, .v (B ((f_barePost aB aN).2))), (8, .p 2 0), (9, .p 3 0), (10, .v (B ((f_barePost aB aN).2))), (49, .v (B (!(decide (aB = aB)))))], [GT.cells aB paB, GT.cells ((f_barePost aB aN).1) q9, GT.cells aB q20, GT.cells ((f_barePost aB aN).1) q25]⟩) (by kernel_rfl)
        refine id (nx_then ?_)
        refine S.cond (e := (!(decide (aB = aB)))) (by kernel_rfl) (fun h55 => ?_) (fun h55 => ?_)
        · have h56 : (decide (aB = aB)) = false := not_t h55
          have g57 := of_decide_eq_false h56
          refine wp_seq (RG.start ?_)
          refine S.quiet (k := 1) (keep := [4]) (m := 0) (σ' := ⟨[(4, .v (B false))], []⟩) .nil (by kernel_rfl) ?_
          clear S; intro ac w β S
          refine RG.done rfl (nx_then (wp_ret (rt_then ?_)))
          refine S.ret (vs := [B false]) (by kernel_rfl) ?_
          exact ⟨retB (show false = true by clear S; first | rfl | (exfalso; omega) | (exfalso; simp_all; done) | (exfalso; simp_all; omega)), S.chg⟩
        · have h58 : (decide (aB = aB)) = true := not_f h55
          have g59 := of_decide_eq_true h58
          refine wp_skip (nx_then (wp_seq (RG.start ?_)))
          refine S.quiet (k := 1) (keep := [1, 2, 6, 7, 8, 9, 10, 11]) (m := 4) (σ' := ⟨[(1, .v (I aN)), (2, .p 0 0), (6, .p 1 0), (7, .v (B ((f_barePost aB aN).2))), (8, .p 2 0), (9, .p 3 0), (10, .v (B ((f_barePost aB aN).2))), (11, .v (I 1))], [GT.cells aB paB, GT.cells ((f_barePost aB aN).1) q9, GT.cells aB q20, GT.cells ((f_barePost aB aN).1) q25]⟩) .nil (by kernel_rfl) ?_
          clear S; intro ac w β S
          refine RG.done rfl (nx_then (wp_seq (RG.start ?_)))
          refine S.quiet (k := 2) (keep := [1, 2, 6, 7, 9, 10, 50, 51]) (m := 4) (σ' := ⟨[(1, .v (I aN)), (2, .p 0 0), (6, .p 1 0), (7, .v (B ((f_barePost aB aN).2))), (9, .p 3 0), (10, .v (B ((f_barePost aB aN).2))), (50, .v (GT.val aB q20)), (51, .v (I 1))], [GT.cells aB paB, GT.cells ((f_barePost aB aN).1) q9, GT.cells aB q20, GT.cells ((f_barePost aB aN).1) q25]⟩) .nil (by kernel_rfl) ?_
          clear S; intro ac w β S
          have z68 : SZ.sz aB ≤ 87960942804992 := SB.bd (o22.rn)
          refine RG.op rfl (S.callX (hd := hdT_Bare) (d := 52) o22 (c_laws_markBare w aB q20 F21 (S.ownw o22) (fun b hb => (S.sep b (o22.sub b hb)).1) 1 (by omega) (by omega)) (by kernel_rfl) rfl ?_)
          clear S; intro ac w N q60 y61 k62 S up o63 c64 x65 b66 b67
          replace o13 := o13.upF d24 up
          replace o29 := o29.upF (Disj.symm d37) up
          clear up
          replace S := S.prune (keep := [1, 2, 6, 7, 9, 10, 51, 52]) (m := 4) (σ' := ⟨[(1, .v (I aN)), (2, .p 0 0), (6, .p 1 0), (7, .v (B ((f_barePost aB aN).2))), (9, .p 3 0), (10, .v (B ((f_barePost aB aN).2))), (51, .v (I 1)), (52, .v (I k62))], [GT.cells aB paB, GT.cells ((f_barePost aB aN).1) q9, GT.cells aB q20, GT.cells ((f_barePost aB aN).1) q25]⟩) (by kernel_rfl)
          have hw0 : GT.cells y61 q60 = GT.cells aB q20 := c64
          replace S := S.cast (σ' := ⟨[(1, .v (I aN)), (2, .p 0 0), (6, .p 1 0), (7, .v (B ((f_barePost aB aN).2))), (9, .p 3 0), (10, .v (B ((f_barePost aB aN).2))), (51, .v (I 1)), (52, .v (I k62))], [GT.cells aB paB, GT.cells ((f_barePost aB aN).1) q9, GT.cells y61 q60, GT.cells ((f_barePost aB aN).1) q25]⟩) (by rw [hw0])
          clear hw0
          refine S.quiet (k := 1) (keep := [1, 2, 6, 7, 9, 10, 11]) (m := 4) (σ' := ⟨[(1, .v (I aN)), (2, .p 0 0), (6, .p 1 0), (7, .v (B ((f_barePost aB aN).2))), (9, .p 3 0), (10, .v (B ((f_barePost aB aN).2))), (11, .v (I k62))], [GT.cells aB paB, GT.cells ((f_barePost aB aN).1) q9, GT.cells y61 q60, GT.cells ((f_barePost aB aN).1) q25]⟩) .nil (by kernel_rfl) ?_
          clear S; intro ac w β S
          refine RG.done rfl (nx_then (wp_seq (wp_seq (RG.start ?_))))
          refine S.quiet (k := 3) (keep := [1, 2, 6, 7, 9, 10, 55]) (m := 4) (σ' := ⟨[(1, .v (I aN)), (2, .p 0 0), (6, .p 1 0), (7, .v (B ((f_barePost aB aN).2))), (9, .p 3 0), (10, .v (B ((f_barePost aB aN).2))), (55, .v (B (decide (k62 < 0))))], [GT.cells aB paB, GT.cells ((f_barePost aB aN).1) q9, GT.cells y61 q60, GT.cells ((f_barePost aB aN).1) q25]⟩) .nil (by kernel_rfl) ?_
          clear S; intro ac w β S
          rcases Bool.eq_false_or_eq_true (decide (k62 < 0)) with h69 | h69 <;> rw [h69] at S
          · have g70 : k62 < 0 := of_decide_eq_true h69
            refine S.quiet (k := 10) (keep := [1, 2, 6, 7, 9, 65]) (m := 4) (σ' := ⟨[(1, .v (I aN)), (2, .p 0 0), (6, .p 1 0), (7, .v (B ((f_barePost aB aN).2))), (9, .p 3 0), (65, .v (B true))], [GT.cells aB paB, GT.cells ((f_barePost aB aN).1) q9, GT.cells y61 q60, GT.cells ((f_barePost aB aN).1) q25]⟩) .nil (by kernel_rfl) ?_
            clear S; intro ac w β S
            refine RG.done rfl (nx_then ?_)
            refine S.cond (e := true) (by kernel_rfl) (fun _ => ?_) (fun hx => by cases hx)
            refine wp_seq (RG.start ?_)
            refine S.quiet (k := 1) (keep := [4]) (m := 0) (σ' := ⟨[(4, .v (B false))], []⟩) .nil (by kernel_rfl) ?_
            clear S; intro ac w β S
            refine RG.done rfl (nx_then (wp_ret (rt_then ?_)))
            refine S.ret (vs := [B false]) (by kernel_rfl) ?_
            exact ⟨retB (show false = true by clear S; first | rfl | (exfalso; omega) | (exfalso; simp_all; done) | (exfalso; simp_all; omega)), S.chg⟩
          · have g71 : ¬ (k62 < 0) := of_decide_eq_false h69
            refine S.quiet (k := 6) (keep := [1, 2, 6, 7, 9, 10, 61]) (m := 4) (σ' := ⟨[(1, .v (I aN)), (2, .p 0 0), (6, .p 1 0), (7, .v (B ((f_barePost aB aN).2))), (9, .p 3 0), (10, .v (B ((f_barePost aB aN).2))), (61, .v (B (!(decide (((f_barePost aB aN).1) = ((f_barePost aB aN).1))))))], [GT.cells aB paB, GT.cells ((f_barePost aB aN).1) q9, GT.cells y61 q60, GT.cells ((f_barePost aB aN).1) q25]⟩) (.cons (Q_call fun w hw => c_laws_eqBare w ((f_barePost aB aN).1) q25 (rd_of o29.rn hw) ((f_barePost aB aN).1) q9 (rd_of o13.rn hw)) .nil) (by kernel_rfl) ?_
            clear S; intro ac w β S
            rw [h38] at S
            refine S.quiet (k := 4) (keep := [1, 2, 6, 7, 9, 65]) (m := 4) (σ' := ⟨[(1, .v (I aN)), (2, .p 0 0), (6, .p 1 0), (7, .v (B ((f_barePost aB aN).2))), (9, .p 3 0), (65, .v (B (!((f_barePost aB aN).2 == (f_barePost aB aN).2))))], [GT.cells aB paB, GT.cells ((f_barePost aB aN).1) q9, GT.cells y61 q60, GT.cells ((f_barePost aB aN).1) q25]⟩) .nil (by kernel_rfl) ?_
            clear S; intro ac w β S
            refine RG.done rfl (nx_then ?_)
            refine S.cond (e := (!((f_barePost aB aN).2 == (f_barePost aB aN).2))) (by kernel_rfl) (fun h72 => ?_) (fun h72 => ?_)
            · have h73 : ((f_barePost aB aN).2 == (f_barePost aB aN).2) = false := not_t h72
              have g74 : ¬ ((f_barePost aB aN).2 = (f_barePost aB aN).2) := ne_of_beq_false h73
              refine wp_seq (RG.start ?_)
              refine S.quiet (k := 1) (keep := [4]) (m := 0) (σ' := ⟨[(4, .v (B false))], []⟩) .nil (by kernel_rfl) ?_
              clear S; intro ac w β S
              refine RG.done rfl (nx_then (wp_ret (rt_then ?_)))
              refine S.ret (vs := [B false]) (by kernel_rfl) ?_
              exact ⟨retB (show false = true by clear S; first | rfl | (exfalso; omega) | (exfalso; simp_all; done) | (exfalso; simp_all; omega)), S.chg⟩
            · have h75 : ((f_barePost aB aN).2 == (f_barePost aB aN).2) = true := not_f h72
              have g76 : (f_barePost aB aN).2 = (f_barePost aB aN).2 := eq_of_beq h75
              refine wp_skip (nx_then (wp_seq (RG.start ?_)))
              refine S.quiet (k := 1) (keep := [1, 2, 6, 7, 9, 12]) (m := 4) (σ' := ⟨[(1, .v (I aN)), (2, .p 0 0), (6, .p 1 0), (7, .v (B ((f_barePost aB aN).2))), (9, .p 3 0), (12, .v (I 1))], [GT.cells aB paB, GT.cells ((f_barePost aB aN).1) q9, GT.cells y61 q60, GT.cells ((f_barePost aB aN).1) q25]⟩) .nil (by kernel_rfl) ?_
              clear S; intro ac w β S
              refine RG.done rfl (nx_then (wp_seq (RG.start ?_)))
              refine S.quiet (k := 2) (keep := [1, 2, 6, 7, 9, 66, 67]) (m := 4) (σ' := ⟨[(1, .v (I aN)), (2, .p 0 0), (6, .p 1 0), (7, .v (B ((f_barePost aB aN).2))), (9, .p 3 0), (66, .v (GT.val ((f_barePost aB aN).1) q25)), (67, .v (I 1))], [GT.cells aB paB, GT.cells ((f_barePost aB aN).1) q9, GT.cells y61 q60, GT.cells ((f_barePost aB aN).1) q25]⟩) .nil (by kernel_rfl) ?_
              clear S; intro ac w β S
              have z85 : SZ.sz ((f_barePost aB aN).1) ≤ 87960942804992 := SB.bd (o29.rn)
              refine RG.op rfl (S.callX (hd := hdT_Bare) (d := 68) o29 (c_laws_markBare w ((f_barePost aB aN).1) q25 F27 (S.ownw o29) (fun b hb => (S.sep b (o29.sub b hb)).1) 1 (by omega) (by omega)) (by kernel_rfl) rfl ?_)
              clear S; intro ac w N q77 y78 k79 S up o80 c81 x82 b83 b84
              replace o13 := o13.upF d36 up
              replace o63 := o63.upF (Disj.symm (Disj.symm d37)) up
              clear up
              replace S := S.prune (keep := [1, 2, 6, 7, 9, 67, 68]) (m := 4) (σ' := ⟨[(1, .v (I aN)), (2, .p 0 0), (6, .p 1 0), (7, .v (B ((f_barePost aB aN).2))), (9, .p 3 0), (67, .v (I 1)), (68, .v (I k79))], [GT.cells aB paB, GT.cells ((f_barePost aB aN).1) q9, GT.cells y61 q60, GT.cells ((f_barePost aB aN).1) q25]⟩) (by kernel_rfl)
              have hw0 : GT.cells y78 q77 = GT.cells ((f_barePost aB aN).1) q25 := c81
              replace S := S.cast (σ' := ⟨[(1, .v (I aN)), (2, .p 0 0), (6, .p 1 0), (7, .v (B ((f_barePost aB aN).2))), (9, .p 3 0), (67, .v (I 1)), (68, .v (I k79))], [GT.cells aB paB, GT.cells ((f_barePost aB aN).1) q9, GT.cells y61 q60, GT.cells y78 q77]⟩) (by rw [hw0])
              clear hw0
              refine S.quiet (k := 1) (keep := [1, 2, 6, 7, 9, 12]) (m := 4) (σ' := ⟨[(1, .v (I aN)), (2, .p 0 0), (6, .p 1 0), (7, .v (B ((f_barePost aB aN).2))), (9, .p 3 0), (12, .v (I k79))], [GT.cells aB paB, GT.cells ((f_barePost aB aN).1) q9, GT.cells y61 q60, GT.cells y78 q77]⟩) .nil (by kernel_rfl) ?_
              clear S; intro ac w β S
              refine RG.done rfl (nx_then (wp_seq (RG.start ?_)))
              refine S.quiet (k := 1) (keep := [1, 2, 6, 7, 9, 12, 13]) (m := 4) (σ' := ⟨[(1, .v (I aN)), (2, .p 0 0), (6, .p 1 0), (7, .v (B ((f_barePost aB aN).2))), (9, .p 3 0), (12, .v (I k79)), (13, .v (I 1))], [GT.cells aB paB, GT.cells ((f_barePost aB aN).1) q9, GT.cells y61 q60, GT.cells y78 q77]⟩) .nil (by kernel_rfl) ?_
              clear S; intro ac w β S
              refine RG.done rfl (nx_then (wp_seq (RG.start ?_)))
              refine S.quiet (k := 4) (keep := [1, 2, 6, 7, 9, 12, 13]) (m := 4) (σ' := ⟨[(1, .v (I aN)), (2, .p 0 0), (6, .p 1 0), (7, .v (B ((f_barePost aB aN).2))), (9, .p 3 0), (12, .v (I k79)), (13, .v (I (hdT_Bare y78 1)))], [GT.cells aB paB, GT.cells ((f_barePost aB aN).1) q9, GT.cells y61 q60, GT.cells y78 q77]⟩) (.cons (Q_call fun w hw => c_laws_heldBare w y78 q77 (rd_of o80.rn hw) 1) .nil) (by kernel_rfl) ?_
              clear S; intro ac w β S
              refine RG.done rfl (nx_then (wp_seq (wp_seq (RG.start ?_))))
              refine S.quiet (k := 2) (keep := [1, 2, 6, 7, 9, 12, 13, 73]) (m := 4) (σ' := ⟨[(1, .v (I aN)), (2, .p 0 0), (6, .p 1 0), (7, .v (B ((f_barePost aB aN).2))), (9, .p 3 0), (12, .v (I k79)), (13, .v (I (hdT_Bare y78 1))), (73, .v (B (decide ((hdT_Bare y78 1) < 0))))], [GT.cells aB paB, GT.cells ((f_barePost aB aN).1) q9, GT.cells y61 q60, GT.cells y78 q77]⟩) .nil (by kernel_rfl) ?_
              clear S; intro ac w β S
              refine RG.done rfl (nx_then ?_)
              refine S.cond (e := (decide ((hdT_Bare y78 1) < 0))) (by kernel_rfl) (fun h86 => ?_) (fun h86 => ?_)
              · have g87 : (hdT_Bare y78 1) < 0 := of_decide_eq_true h86
                refine wp_seq (RG.start ?_)
                refine S.quiet (k := 1) (keep := [4]) (m := 0) (σ' := ⟨[(4, .v (B false))], []⟩) .nil (by kernel_rfl) ?_
                clear S; intro ac w β S
                refine RG.done rfl (nx_then (wp_ret (rt_then ?_)))
                refine S.ret (vs := [B false]) (by kernel_rfl) ?_
                exact ⟨retB (show false = true by clear S; first | rfl | (exfalso; omega) | (exfalso; simp_all; done) | (exfalso; simp_all; omega)), S.chg⟩
              · have g88 : ¬ ((hdT_Bare y78 1) < 0) := of_decide_eq_false h86
                refine wp_skip (nx_then (wp_seq (wp_seq (RG.start ?_))))
                refine S.quiet (k := 3) (keep := [1, 2, 6, 7, 9, 12, 76]) (m := 4) (σ' := ⟨[(1, .v (I aN)), (2, .p 0 0), (6, .p 1 0), (7, .v (B ((f_barePost aB aN).2))), (9, .p 3 0), (12, .v (I k79)), (76, .v (B ((hdT_Bare y78 1) != k79)))], [GT.cells aB paB, GT.cells ((f_barePost aB aN).1) q9, GT.cells y61 q60, GT.cells y78 q77]⟩) .nil (by kernel_rfl) ?_
                clear S; intro ac w β S
                refine RG.done rfl (nx_then ?_)
                refine S.cond (e := ((hdT_Bare y78 1) != k79)) (by kernel_rfl) (fun h89 => ?_) (fun h89 => ?_)
                · have g90 : ¬ ((hdT_Bare y78 1) = k79) := bne_iff_ne.1 h89
                  refine wp_seq (RG.start ?_)
                  refine S.quiet (k := 1) (keep := [4]) (m := 0) (σ' := ⟨[(4, .v (B false))], []⟩) .nil (by kernel_rfl) ?_
                  clear S; intro ac w β S
                  refine RG.done rfl (nx_then (wp_ret (rt_then ?_)))
                  refine S.ret (vs := [B false]) (by kernel_rfl) ?_
                  exact ⟨retB (show false = true by clear S; first | rfl | (exfalso; omega) | (exfalso; simp_all; done) | (exfalso; simp_all; omega)), S.chg⟩
                · have g91 : (hdT_Bare y78 1) = k79 := ne_f h89
                  refine wp_skip (nx_then (wp_seq (RG.start ?_)))
                  refine S.quiet (k := 1) (keep := [1, 6, 7, 9, 12, 78]) (m := 4) (σ' := ⟨[(1, .v (I aN)), (6, .p 1 0), (7, .v (B ((f_barePost aB aN).2))), (9, .p 3 0), (12, .v (I k79)), (78, .v (GT.val aB paB))], [GT.cells aB paB, GT.cells ((f_barePost aB aN).1) q9, GT.cells y61 q60, GT.cells y78 q77]⟩) .nil (by kernel_rfl) ?_
                  clear S; intro ac w β S
                  refine RG.op rfl (S.call1 (r := aB) (d := 79) (c_laws_toBare w aB paB (S.rd (S.arg hkaB))) (by kernel_rfl) rfl ?_)
                  clear S; intro ac w N q92 F93 S up o94 d95
                  have d96 : Disj F11 F93 := fun b x y => d95 b (o13.sub b x) y
                  have d97 : Disj F21 F93 := fun b x y => d95 b (o63.sub b x) y
                  have d98 : Disj F27 F93 := fun b x y => d95 b (o80.sub b x) y
                  replace o13 := o13.up up
                  replace o63 := o63.up up
                  replace o80 := o80.up up
                  clear up d95
                  refine S.quiet (k := 1) (keep := [6, 7, 9, 12, 79, 80]) (m := 4) (σ' := ⟨[(6, .p 1 0), (7, .v (B ((f_barePost aB aN).2))), (9, .p 3 0), (12, .v (I k79)), (79, .v (GT.val aB q92)), (80, .v (I aN))], [GT.cells aB paB, GT.cells ((f_barePost aB aN).1) q9, GT.cells y61 q60, GT.cells y78 q77]⟩) .nil (by kernel_rfl) ?_
                  clear S; intro ac w β S
                  refine RG.op rfl (S.call2 (r := (f_barePost aB aN).1) (r' := (f_barePost aB aN).2) (d := 81) (c_impl_BarePost w aB q92 (S.rd o94.rn) aN) (by kernel_rfl) rfl ?_)
                  clear S; intro ac w N q99 q100 F101 F102 S up o103 o104 d105 d106 d107
                  have d108 : Disj F11 F102 := fun b x y => d106 b (o13.sub b x) y
                  have d109 : Disj F21 F102 := fun b x y => d106 b (o63.sub b x) y
                  have d110 : Disj F27 F102 := fun b x y => d106 b (o80.sub b x) y
                  have d111 : Disj F93 F102 := fun b x y => d106 b (o94.sub b x) y
                  have d112 : Disj F11 F101 := fun b x y => d105 b (o13.sub b x) y
                  have d113 : Disj F21 F101 := fun b x y => d105 b (o63.sub b x) y
                  have d114 : Disj F27 F101 := fun b x y => d105 b (o80.sub b x) y
                  have d115 : Disj F93 F101 := fun b x y => d105 b (o94.sub b x) y
                  replace o13 := o13.up up
                  replace o63 := o63.up up
                  replace o80 := o80.up up
                  replace o94 := o94.up up
                  clear up d105
                  clear d106
                  refine S.quiet (k := 6) (keep := [6, 7, 9, 12, 14, 15]) (m := 5) (σ' := ⟨[(6, .p 1 0), (7, .v (B ((f_barePost aB aN).2))), (9, .p 3 0), (12, .v (I k79)), (14, .p 4 0), (15, .v (B ((f_barePost aB aN).2)))], [GT.cells aB paB, GT.cells ((f_barePost aB aN).1) q9, GT.cells y61 q60, GT.cells y78 q77, GT.cells ((f_barePost aB aN).1) q99]⟩) .nil (by kernel_rfl) ?_
                  clear S; intro ac w β S
                  refine RG.done rfl (nx_then (wp_seq (wp_seq (RG.start ?_))))
                  refine S.quiet (k := 5) (keep := [7, 9, 12, 15, 88]) (m := 4) (σ' := ⟨[(7, .v (B ((f_barePost aB aN).2))), (9, .p 3 0), (12, .v (I k79)), (15, .v (B ((f_barePost aB aN).2))), (88, .v (B (!(decide (((f_barePost aB aN).1) = ((f_barePost aB aN).1))))))], [GT.cells aB paB, GT.cells ((f_barePost aB aN).1) q9, GT.cells y61 q60, GT.cells y78 q77]⟩) (.cons (Q_call fun w hw => c_laws_eqBare w ((f_barePost aB aN).1) q99 (rd_of o103.rn hw) ((f_barePost aB aN).1) q9 (rd_of o13.rn hw)) .nil) (by kernel_rfl) ?_
                  clear S; intro ac w β S
                  rw [h38] at S
                  refine S.quiet (k := 4) (keep := [9, 12, 92]) (m := 4) (σ' := ⟨[(9, .p 3 0), (12, .v (I k79)), (92, .v (B (!((f_barePost aB aN).2 == (f_barePost aB aN).2))))], [GT.cells aB paB, GT.cells ((f_barePost aB aN).1) q9, GT.cells y61 q60, GT.cells y78 q77]⟩) .nil (by kernel_rfl) ?_
                  clear S; intro ac w β S
                  refine RG.done rfl (nx_then ?_)
                  refine S.cond (e := (!((f_barePost aB aN).2 == (f_barePost aB aN).2))) (by kernel_rfl) (fun h116 => ?_) (fun h116 => ?_)
                  · have h117 : ((f_barePost aB aN).2 == (f_barePost aB aN).2) = false := not_t h116
                    have g118 : ¬ ((f_barePost aB aN).2 = (f_barePost aB aN).2) := ne_of_beq_false h117
                    refine wp_seq (RG.start ?_)
                    refine S.quiet (k := 1) (keep := [4]) (m := 0) (σ' := ⟨[(4, .v (B false))], []⟩) .nil (by kernel_rfl) ?_
                    clear S; intro ac w β S
                    refine RG.done rfl (nx_then (wp_ret (rt_then ?_)))
                    refine S.ret (vs := [B false]) (by kernel_rfl) ?_
                    exact ⟨retB (show false = true by clear S; first | rfl | (exfalso; omega) | (exfalso; simp_all; done) | (exfalso; simp_all; omega)), S.chg⟩
                  · have h119 : ((f_barePost aB aN).2 == (f_barePost aB aN).2) = true := not_f h116
                    have g120 : (f_barePost aB aN).2 = (f_barePost aB aN).2 := eq_of_beq h119
                    refine wp_skip (nx_then (wp_seq (RG.start ?_)))
                    refine S.quiet (k := 1) (keep := [9, 12, 13]) (m := 4) (σ' := ⟨[(9, .p 3 0), (12, .v (I k79)), (13, .v (I 1))], [GT.cells aB paB, GT.cells ((f_barePost aB aN).1) q9, GT.cells y61 q60, GT.cells y78 q77]⟩) .nil (by kernel_rfl) ?_
                    clear S; intro ac w β S
                    refine RG.done rfl (nx_then (wp_seq (RG.start ?_)))
                    refine S.quiet (k := 4) (keep := [12, 13]) (m := 0) (σ' := ⟨[(12, .v (I k79)), (13, .v (I (hdT_Bare y78 1)))], []⟩) (.cons (Q_call fun w hw => c_laws_heldBare w y78 q77 (rd_of o80.rn hw) 1) .nil) (by kernel_rfl) ?_
                    clear S; intro ac w β S
                    refine RG.done rfl (nx_then (wp_seq (wp_seq (RG.start ?_))))
                    refine S.quiet (k := 2) (keep := [12, 13, 97]) (m := 0) (σ' := ⟨[(12, .v (I k79)), (13, .v (I (hdT_Bare y78 1))), (97, .v (B (decide ((hdT_Bare y78 1) < 0))))], []⟩) .nil (by kernel_rfl) ?_
                    clear S; intro ac w β S
                    refine RG.done rfl (nx_then ?_)
                    refine S.cond (e := (decide ((hdT_Bare y78 1) < 0))) (by kernel_rfl) (fun h121 => ?_) (fun h121 => ?_)
                    · have g122 : (hdT_Bare y78 1) < 0 := of_decide_eq_true h121
                      refine wp_seq (RG.start ?_)
                      refine S.quiet (k := 1) (keep := [4]) (m := 0) (σ' := ⟨[(4, .v (B false))], []⟩) .nil (by kernel_rfl) ?_
                      clear S; intro ac w β S
                      refine RG.done rfl (nx_then (wp_ret (rt_then ?_)))
                      refine S.ret (vs := [B false]) (by kernel_rfl) ?_
                      exact ⟨retB (show false = true by clear S; first | rfl | (exfalso; omega) | (exfalso; simp_all; done) | (exfalso; simp_all; omega)), S.chg⟩
                    · have g123 : ¬ ((hdT_Bare y78 1) < 0) := of_decide_eq_false h121
                      refine wp_skip (nx_then (wp_seq (wp_seq (RG.start ?_))))
                      refine S.quiet (k := 3) (keep := [100]) (m := 0) (σ' := ⟨[(100, .v (B ((hdT_Bare y78 1) != k79)))], []⟩) .nil (by kernel_rfl) ?_
                      clear S; intro ac w β S
                      refine RG.done rfl (nx_then ?_)
                      refine S.cond (e := ((hdT_Bare y78 1) != k79)) (by kernel_rfl) (fun h124 => ?_) (fun h124 => ?_)
                      · have g125 : ¬ ((hdT_Bare y78 1) = k79) := bne_iff_ne.1 h124
                        refine wp_seq (RG.start ?_)
                        refine S.quiet (k := 1) (keep := [4]) (m := 0) (σ' := ⟨[(4, .v (B false))], []⟩) .nil (by kernel_rfl) ?_
                        clear S; intro ac w β S
                        refine RG.done rfl (nx_then (wp_ret (rt_then ?_)))
                        refine S.ret (vs := [B false]) (by kernel_rfl) ?_
                        exact ⟨retB (show false = true by clear S; first | rfl | (exfalso; omega) | (exfalso; simp_all; done) | (exfalso; simp_all; omega)), S.chg⟩
                      · have g126 : (hdT_Bare y78 1) = k79 := ne_f h124
                        refine wp_skip (nx_then (wp_seq (RG.start ?_)))
                        refine S.quiet (k := 1) (keep := [4]) (m := 0) (σ' := ⟨[(4, .v (B true))], []⟩) .nil (by kernel_rfl) ?_
                        clear S; intro ac w β S
                        refine RG.done rfl (nx_then (wp_ret ?_))
                        refine S.ret (vs := [B true]) (by kernel_rfl) ?_
                        exact ⟨retB (show true = true by clear S; first | rfl | (exfalso; omega) | (exfalso; simp_all; done) | (exfalso; simp_all; omega)), S.chg⟩

end Go.Proofs.Ytpjhamcanhnfjaa
