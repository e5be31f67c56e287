/- The walks: what each function that the laws reach computes (part 4). -/
import Derived.Test.YtcoabfmpdnlfdaaW3
import Derived.Test.YtcoabfmpdnlfdaaProg
import Derived.KernelRfl
namespace Go.Proofs.Ytcoabfmpdnlfdaa
open Go
set_option linter.unusedVariables false
set_option linter.unusedSimpArgs false

set_option maxRecDepth 100000 in
theorem c_laws_heldGuestS (w0 : World) (a : List TGuest) (pa : LP TGuest) (ha : GT.rd KK (Lt w0.heap.size) w0 a pa) (k : Int) : Calls Go.Proofs.Try.prog 95 [slv (a).length pa.1, I k].toArray w0 (fun e w' => e = .returned (I (hdl a k)) ∧ Chg NoB w0 w') := by
  refine Calls.walk (args := [slv (a).length pa.1, I k]) NoB Go.Proofs.Try.func95 rfl rfl ?_
  intro ac β S
  have hlea : a.length ≤ 4194304 := LRd.le ha
  refine wp_seq ?_
  refine RG.start ?_
  refine S.quiet (k := 1) (keep := [0, 1]) (m := 0) (σ' := ⟨[(0, .v (slv (a).length pa.1)), (1, .v (I k))], []⟩) .nil (by kernel_rfl) ?_
  clear S; intro ac w β S
  refine RG.done rfl (nx_then ?_)
  refine wp_seq ?_
  refine wp_seq ?_
  refine RG.start ?_
  refine S.quiet (k := 1) (keep := [0, 1, 5]) (m := 0) (σ' := ⟨[(0, .v (slv (a).length pa.1)), (1, .v (I k)), (5, .v (I 0))], []⟩) .nil (by kernel_rfl) ?_
  clear S; intro ac w β S
  refine RG.done rfl (nx_then ?_)
  refine wp_block ?_
  replace S := S.prune (keep := [0, 1, 5]) (m := 0) (σ' := ⟨[(0, .v (slv (a).length pa.1)), (1, .v (I k)), (5, .v (I 0))], []⟩) (by kernel_rfl)
  refine wp_loop_down (fun mm ac w => ∃ (i : Nat) (j : Int)  (u : World) (N : Bl) (β : Nat → Nat), mm = a.length - i ∧ (i ≤ a.length) ∧ (hdl a k = hdlc (a.drop i) j id) ∧ St Go.Proofs.Try.prog Go.Proofs.Try.f95.ntmps w0 NoB u N β ⟨[(0, .v (slv (a).length pa.1)), (1, .v (I j)), (5, .v (I (i : Int)))], []⟩ ac w) _ ⟨0, k, _, _, _, rfl, (by first | omega | (simp; done) | (simp; omega)), (by rfl), S.cast (by kernel_rfl)⟩ ?_
  clear S
  rintro mm ac w ⟨i, j, u, N, β, rfl, hi, hr, S⟩
  refine wp_seq ?_
  refine wp_seq ?_
  refine RG.start ?_
  refine S.quiet (k := 4) (keep := [0, 1, 5, 9]) (m := 0) (σ' := ⟨[(0, .v (slv (a).length pa.1)), (1, .v (I j)), (5, .v (I (i : Int))), (9, .v (B (decide ((i : Int) < ((a).length : Int)))))], []⟩) .nil (by kernel_rfl) ?_
  clear S; intro ac w β S
  refine RG.done rfl (nx_then ?_)
  refine S.cond (e := (decide ((i : Int) < ((a).length : Int)))) (by kernel_rfl) (fun h1 => ?_) (fun h1 => ?_)
  · have g2 : (i : Int) < ((a).length : Int) := of_decide_eq_true h1
    refine wp_skip (nx_then ?_)
    refine wp_seq ?_
    refine wp_block ?_
    refine wp_seq ?_
    refine RG.start ?_
    refine S.quiet (k := 8) (keep := [0, 1, 5]) (m := 0) (σ' := ⟨[(0, .v (slv (a).length pa.1)), (1, .v (I (hdl ((el a i).prog) j))), (5, .v (I (i : Int)))], []⟩) (.cons (Q_idx (S.arg ha) (l := (a).length) (k := i) (i := (i : Int)) rfl rfl (by omega) Go.Proofs.Try.underlying47 (by kernel_rfl)) (.cons (Q_cell (S.arg ha) (t := 97) (k := i) (j := 0) (v := slv ((el a i).prog).length ((pa.2 i).prog).1) (by omega) (by kernel_rfl) (by kernel_rfl)) (.cons (Q_call fun w hw => c_laws_heldInsS w ((el a i).prog) ((pa.2 i).prog) (rd_of (RGuest.prog (d := (el a i)) (LRd.el (S.arg ha) i (by omega))) hw) j) .nil))) (by kernel_rfl) ?_
    clear S; intro ac w β S
    refine RG.done rfl (nx_then ?_)
    refine wp_seq ?_
    refine wp_seq ?_
    refine RG.start ?_
    refine S.quiet (k := 2) (keep := [0, 1, 5, 20]) (m := 0) (σ' := ⟨[(0, .v (slv (a).length pa.1)), (1, .v (I (hdl ((el a i).prog) j))), (5, .v (I (i : Int))), (20, .v (B (decide ((hdl ((el a i).prog) j) < 0))))], []⟩) .nil (by kernel_rfl) ?_
    clear S; intro ac w β S
    refine RG.done rfl (nx_then ?_)
    refine S.cond (e := (decide ((hdl ((el a i).prog) j) < 0))) (by kernel_rfl) (fun h3 => ?_) (fun h3 => ?_)
    · have g4 : (hdl ((el a i).prog) j) < 0 := of_decide_eq_true h3
      refine wp_seq ?_
      refine RG.start ?_
      refine S.quiet (k := 1) (keep := [4]) (m := 0) (σ' := ⟨[(4, .v (I (-1)))], []⟩) .nil (by kernel_rfl) ?_
      clear S; intro ac w β S
      refine RG.done rfl (nx_then ?_)
      refine wp_ret (rt_then (rt_block (rt_then (rt_then (rt_block (rt_then ?_))))))
      refine S.ret (vs := [I (-1)]) (by kernel_rfl) ?_
      exact ⟨retI (show (-1) = hdl a k by clear S; (first | (rw [hr, hd_end (by omega)]; done) | (rw [hr, hd_step (by omega)]; simp [he_Guest, hdi, hdb, hdc, *]; done) | (rw [hr, hd_step (by omega)]; simp_all [he_Guest, hdi, hdb, hdc]; done))), S.chg⟩
    · have g5 : ¬ ((hdl ((el a i).prog) j) < 0) := of_decide_eq_false h3
      refine wp_skip (nx_then ?_)
      refine wp_seq ?_
      refine wp_seq ?_
      refine RG.start ?_
      refine S.quiet (k := 7) (keep := [0, 1, 5, 27]) (m := 0) (σ' := ⟨[(0, .v (slv (a).length pa.1)), (1, .v (I (hdl ((el a i).prog) j))), (5, .v (I (i : Int))), (27, .v (B ((el a i).acc != (hdl ((el a i).prog) j))))], []⟩) (.cons (Q_idx (S.arg ha) (l := (a).length) (k := i) (i := (i : Int)) rfl rfl (by omega) Go.Proofs.Try.underlying47 (by kernel_rfl)) (.cons (Q_cell (S.arg ha) (t := 3) (k := i) (j := 1) (v := I ((el a i).acc)) (by omega) (by kernel_rfl) (by kernel_rfl)) .nil)) (by kernel_rfl) ?_
      clear S; intro ac w β S
      refine RG.done rfl (nx_then ?_)
      refine S.cond (e := ((el a i).acc != (hdl ((el a i).prog) j))) (by kernel_rfl) (fun h6 => ?_) (fun h6 => ?_)
      · have g7 : ¬ ((el a i).acc = (hdl ((el a i).prog) j)) := bne_iff_ne.1 h6
        refine wp_seq ?_
        refine RG.start ?_
        refine S.quiet (k := 1) (keep := [4]) (m := 0) (σ' := ⟨[(4, .v (I (-1)))], []⟩) .nil (by kernel_rfl) ?_
        clear S; intro ac w β S
        refine RG.done rfl (nx_then ?_)
        refine wp_ret (rt_then (rt_block (rt_then (rt_then (rt_block (rt_then ?_))))))
        refine S.ret (vs := [I (-1)]) (by kernel_rfl) ?_
        exact ⟨retI (show (-1) = hdl a k by clear S; (first | (rw [hr, hd_end (by omega)]; done) | (rw [hr, hd_step (by omega)]; simp [he_Guest, hdi, hdb, hdc, *]; done) | (rw [hr, hd_step (by omega)]; simp_all [he_Guest, hdi, hdb, hdc]; done))), S.chg⟩
      · have g8 : (el a i).acc = (hdl ((el a i).prog) j) := ne_f h6
        refine wp_skip (nx_then ?_)
        refine wp_seq ?_
        refine RG.start ?_
        refine S.quiet (k := 3) (keep := [0, 1, 5]) (m := 0) (σ' := ⟨[(0, .v (slv (a).length pa.1)), (1, .v (I (IntKind.i64.wrap ((hdl ((el a i).prog) j) + 1)))), (5, .v (I (i : Int)))], []⟩) (.cons (Q_addw (x := (hdl ((el a i).prog) j)) (y := 1)) .nil) (by kernel_rfl) ?_
        clear S; intro ac w β S
        refine RG.done rfl (nx_then ?_)
        refine wp_seq ?_
        refine wp_seq ?_
        refine RG.start ?_
        refine S.quiet (k := 7) (keep := [0, 1, 5, 36]) (m := 0) (σ' := ⟨[(0, .v (slv (a).length pa.1)), (1, .v (I (IntKind.i64.wrap ((hdl ((el a i).prog) j) + 1)))), (5, .v (I (i : Int))), (36, .v (B ((el a i).pc != (IntKind.i64.wrap ((hdl ((el a i).prog) j) + 1)))))], []⟩) (.cons (Q_idx (S.arg ha) (l := (a).length) (k := i) (i := (i : Int)) rfl rfl (by omega) Go.Proofs.Try.underlying47 (by kernel_rfl)) (.cons (Q_cell (S.arg ha) (t := 3) (k := i) (j := 2) (v := I ((el a i).pc)) (by omega) (by kernel_rfl) (by kernel_rfl)) .nil)) (by kernel_rfl) ?_
        clear S; intro ac w β S
        refine RG.done rfl (nx_then ?_)
        refine S.cond (e := ((el a i).pc != (IntKind.i64.wrap ((hdl ((el a i).prog) j) + 1)))) (by kernel_rfl) (fun h9 => ?_) (fun h9 => ?_)
        · have g10 : ¬ ((el a i).pc = (IntKind.i64.wrap ((hdl ((el a i).prog) j) + 1))) := bne_iff_ne.1 h9
          refine wp_seq ?_
          refine RG.start ?_
          refine S.quiet (k := 1) (keep := [4]) (m := 0) (σ' := ⟨[(4, .v (I (-1)))], []⟩) .nil (by kernel_rfl) ?_
          clear S; intro ac w β S
          refine RG.done rfl (nx_then ?_)
          refine wp_ret (rt_then (rt_block (rt_then (rt_then (rt_block (rt_then ?_))))))
          refine S.ret (vs := [I (-1)]) (by kernel_rfl) ?_
          exact ⟨retI (show (-1) = hdl a k by clear S; (first | (rw [hr, hd_end (by omega)]; done) | (rw [hr, hd_step (by omega)]; simp [he_Guest, hdi, hdb, hdc, *]; done) | (rw [hr, hd_step (by omega)]; simp_all [he_Guest, hdi, hdb, hdc]; done))), S.chg⟩
        · have g11 : (el a i).pc = (IntKind.i64.wrap ((hdl ((el a i).prog) j) + 1)) := ne_f h9
          refine wp_skip (nx_then ?_)
          refine wp_seq ?_
          refine RG.start ?_
          refine S.quiet (k := 3) (keep := [0, 1, 5]) (m := 0) (σ' := ⟨[(0, .v (slv (a).length pa.1)), (1, .v (I (IntKind.i64.wrap ((IntKind.i64.wrap ((hdl ((el a i).prog) j) + 1)) + 1)))), (5, .v (I (i : Int)))], []⟩) (.cons (Q_addw (x := (IntKind.i64.wrap ((hdl ((el a i).prog) j) + 1))) (y := 1)) .nil) (by kernel_rfl) ?_
          clear S; intro ac w β S
          refine RG.done rfl (nx_then ?_)
          refine wp_seq ?_
          refine RG.start ?_
          refine S.quiet (k := 8) (keep := [0, 1, 5]) (m := 0) (σ' := ⟨[(0, .v (slv (a).length pa.1)), (1, .v (I (hdl ((el a i).written) (IntKind.i64.wrap ((IntKind.i64.wrap ((hdl ((el a i).prog) j) + 1)) + 1))))), (5, .v (I (i : Int)))], []⟩) (.cons (Q_idx (S.arg ha) (l := (a).length) (k := i) (i := (i : Int)) rfl rfl (by omega) Go.Proofs.Try.underlying47 (by kernel_rfl)) (.cons (Q_cell (S.arg ha) (t := 45) (k := i) (j := 3) (v := slv ((el a i).written).length ((pa.2 i).written).1) (by omega) (by kernel_rfl) (by kernel_rfl)) (.cons (Q_call fun w hw => c_laws_heldSlotS w ((el a i).written) ((pa.2 i).written) (rd_of (RGuest.written (d := (el a i)) (LRd.el (S.arg ha) i (by omega))) hw) (IntKind.i64.wrap ((IntKind.i64.wrap ((hdl ((el a i).prog) j) + 1)) + 1))) .nil))) (by kernel_rfl) ?_
          clear S; intro ac w β S
          refine RG.done rfl (nx_then ?_)
          refine wp_seq ?_
          refine wp_seq ?_
          refine RG.start ?_
          refine S.quiet (k := 2) (keep := [0, 1, 5, 47]) (m := 0) (σ' := ⟨[(0, .v (slv (a).length pa.1)), (1, .v (I (hdl ((el a i).written) (IntKind.i64.wrap ((IntKind.i64.wrap ((hdl ((el a i).prog) j) + 1)) + 1))))), (5, .v (I (i : Int))), (47, .v (B (decide ((hdl ((el a i).written) (IntKind.i64.wrap ((IntKind.i64.wrap ((hdl ((el a i).prog) j) + 1)) + 1))) < 0))))], []⟩) .nil (by kernel_rfl) ?_
          clear S; intro ac w β S
          refine RG.done rfl (nx_then ?_)
          refine S.cond (e := (decide ((hdl ((el a i).written) (IntKind.i64.wrap ((IntKind.i64.wrap ((hdl ((el a i).prog) j) + 1)) + 1))) < 0))) (by kernel_rfl) (fun h12 => ?_) (fun h12 => ?_)
          · have g13 : (hdl ((el a i).written) (IntKind.i64.wrap ((IntKind.i64.wrap ((hdl ((el a i).prog) j) + 1)) + 1))) < 0 := of_decide_eq_true h12
            refine wp_seq ?_
            refine RG.start ?_
            refine S.quiet (k := 1) (keep := [4]) (m := 0) (σ' := ⟨[(4, .v (I (-1)))], []⟩) .nil (by kernel_rfl) ?_
            clear S; intro ac w β S
            refine RG.done rfl (nx_then ?_)
            refine wp_ret (rt_then (rt_block (rt_then (rt_then (rt_block (rt_then ?_))))))
            refine S.ret (vs := [I (-1)]) (by kernel_rfl) ?_
            exact ⟨retI (show (-1) = hdl a k by clear S; (first | (rw [hr, hd_end (by omega)]; done) | (rw [hr, hd_step (by omega)]; simp [he_Guest, hdi, hdb, hdc, *]; done) | (rw [hr, hd_step (by omega)]; simp_all [he_Guest, hdi, hdb, hdc]; done))), S.chg⟩
          · have g14 : ¬ ((hdl ((el a i).written) (IntKind.i64.wrap ((IntKind.i64.wrap ((hdl ((el a i).prog) j) + 1)) + 1))) < 0) := of_decide_eq_false h12
            refine wp_skip (nx_then ?_)
            refine wp_seq ?_
            refine RG.start ?_
            refine S.quiet (k := 8) (keep := [0, 1, 5]) (m := 0) (σ' := ⟨[(0, .v (slv (a).length pa.1)), (1, .v (I (hdl ((el a i).live) (hdl ((el a i).written) (IntKind.i64.wrap ((IntKind.i64.wrap ((hdl ((el a i).prog) j) + 1)) + 1)))))), (5, .v (I (i : Int)))], []⟩) (.cons (Q_idx (S.arg ha) (l := (a).length) (k := i) (i := (i : Int)) rfl rfl (by omega) Go.Proofs.Try.underlying47 (by kernel_rfl)) (.cons (Q_cell (S.arg ha) (t := 45) (k := i) (j := 4) (v := slv ((el a i).live).length ((pa.2 i).live).1) (by omega) (by kernel_rfl) (by kernel_rfl)) (.cons (Q_call fun w hw => c_laws_heldSlotS w ((el a i).live) ((pa.2 i).live) (rd_of (RGuest.live (d := (el a i)) (LRd.el (S.arg ha) i (by omega))) hw) (hdl ((el a i).written) (IntKind.i64.wrap ((IntKind.i64.wrap ((hdl ((el a i).prog) j) + 1)) + 1)))) .nil))) (by kernel_rfl) ?_
            clear S; intro ac w β S
            refine RG.done rfl (nx_then ?_)
            refine wp_seq ?_
            refine wp_seq ?_
            refine RG.start ?_
            refine S.quiet (k := 2) (keep := [0, 1, 5, 56]) (m := 0) (σ' := ⟨[(0, .v (slv (a).length pa.1)), (1, .v (I (hdl ((el a i).live) (hdl ((el a i).written) (IntKind.i64.wrap ((IntKind.i64.wrap ((hdl ((el a i).prog) j) + 1)) + 1)))))), (5, .v (I (i : Int))), (56, .v (B (decide ((hdl ((el a i).live) (hdl ((el a i).written) (IntKind.i64.wrap ((IntKind.i64.wrap ((hdl ((el a i).prog) j) + 1)) + 1)))) < 0))))], []⟩) .nil (by kernel_rfl) ?_
            clear S; intro ac w β S
            refine RG.done rfl (nx_then ?_)
            refine S.cond (e := (decide ((hdl ((el a i).live) (hdl ((el a i).written) (IntKind.i64.wrap ((IntKind.i64.wrap ((hdl ((el a i).prog) j) + 1)) + 1)))) < 0))) (by kernel_rfl) (fun h15 => ?_) (fun h15 => ?_)
            · have g16 : (hdl ((el a i).live) (hdl ((el a i).written) (IntKind.i64.wrap ((IntKind.i64.wrap ((hdl ((el a i).prog) j) + 1)) + 1)))) < 0 := of_decide_eq_true h15
              refine wp_seq ?_
              refine RG.start ?_
              refine S.quiet (k := 1) (keep := [4]) (m := 0) (σ' := ⟨[(4, .v (I (-1)))], []⟩) .nil (by kernel_rfl) ?_
              clear S; intro ac w β S
              refine RG.done rfl (nx_then ?_)
              refine wp_ret (rt_then (rt_block (rt_then (rt_then (rt_block (rt_then ?_))))))
              refine S.ret (vs := [I (-1)]) (by kernel_rfl) ?_
              exact ⟨retI (show (-1) = hdl a k by clear S; (first | (rw [hr, hd_end (by omega)]; done) | (rw [hr, hd_step (by omega)]; simp [he_Guest, hdi, hdb, hdc, *]; done) | (rw [hr, hd_step (by omega)]; simp_all [he_Guest, hdi, hdb, hdc]; done))), S.chg⟩
            · have g17 : ¬ ((hdl ((el a i).live) (hdl ((el a i).written) (IntKind.i64.wrap ((IntKind.i64.wrap ((hdl ((el a i).prog) j) + 1)) + 1)))) < 0) := of_decide_eq_false h15
              refine wp_skip (nx_then ?_)
              refine wp_seq ?_
              refine wp_seq ?_
              refine RG.start ?_
              refine S.quiet (k := 8) (keep := [0, 1, 5, 64]) (m := 0) (σ' := ⟨[(0, .v (slv (a).length pa.1)), (1, .v (I (hdl ((el a i).live) (hdl ((el a i).written) (IntKind.i64.wrap ((IntKind.i64.wrap ((hdl ((el a i).prog) j) + 1)) + 1)))))), (5, .v (I (i : Int))), (64, .v (B (((el a i).ctl).traps != (hdl ((el a i).live) (hdl ((el a i).written) (IntKind.i64.wrap ((IntKind.i64.wrap ((hdl ((el a i).prog) j) + 1)) + 1)))))))], []⟩) (.cons (Q_idx (S.arg ha) (l := (a).length) (k := i) (i := (i : Int)) rfl rfl (by omega) Go.Proofs.Try.underlying47 (by kernel_rfl)) (.cons (Q_cell (S.arg ha) (t := 3) (k := i) (j := 5) (v := I (((el a i).ctl).traps)) (by omega) (by kernel_rfl) (by kernel_rfl)) .nil)) (by kernel_rfl) ?_
              clear S; intro ac w β S
              refine RG.done rfl (nx_then ?_)
              refine S.cond (e := (((el a i).ctl).traps != (hdl ((el a i).live) (hdl ((el a i).written) (IntKind.i64.wrap ((IntKind.i64.wrap ((hdl ((el a i).prog) j) + 1)) + 1)))))) (by kernel_rfl) (fun h18 => ?_) (fun h18 => ?_)
              · have g19 : ¬ (((el a i).ctl).traps = (hdl ((el a i).live) (hdl ((el a i).written) (IntKind.i64.wrap ((IntKind.i64.wrap ((hdl ((el a i).prog) j) + 1)) + 1))))) := bne_iff_ne.1 h18
                refine wp_seq ?_
                refine RG.start ?_
                refine S.quiet (k := 1) (keep := [4]) (m := 0) (σ' := ⟨[(4, .v (I (-1)))], []⟩) .nil (by kernel_rfl) ?_
                clear S; intro ac w β S
                refine RG.done rfl (nx_then ?_)
                refine wp_ret (rt_then (rt_block (rt_then (rt_then (rt_block (rt_then ?_))))))
                refine S.ret (vs := [I (-1)]) (by kernel_rfl) ?_
                exact ⟨retI (show (-1) = hdl a k by clear S; (first | (rw [hr, hd_end (by omega)]; done) | (rw [hr, hd_step (by omega)]; simp [he_Guest, hdi, hdb, hdc, *]; done) | (rw [hr, hd_step (by omega)]; simp_all [he_Guest, hdi, hdb, hdc]; done))), S.chg⟩
              · have g20 : ((el a i).ctl).traps = (hdl ((el a i).live) (hdl ((el a i).written) (IntKind.i64.wrap ((IntKind.i64.wrap ((hdl ((el a i).prog) j) + 1)) + 1)))) := ne_f h18
                refine wp_skip (nx_then ?_)
                refine wp_seq ?_
                refine RG.start ?_
                refine S.quiet (k := 3) (keep := [0, 1, 5]) (m := 0) (σ' := ⟨[(0, .v (slv (a).length pa.1)), (1, .v (I (IntKind.i64.wrap ((hdl ((el a i).live) (hdl ((el a i).written) (IntKind.i64.wrap ((IntKind.i64.wrap ((hdl ((el a i).prog) j) + 1)) + 1)))) + 1)))), (5, .v (I (i : Int)))], []⟩) (.cons (Q_addw (x := (hdl ((el a i).live) (hdl ((el a i).written) (IntKind.i64.wrap ((IntKind.i64.wrap ((hdl ((el a i).prog) j) + 1)) + 1))))) (y := 1)) .nil) (by kernel_rfl) ?_
                clear S; intro ac w β S
                refine RG.done rfl (nx_then ?_)
                refine wp_seq ?_
                refine wp_seq ?_
                refine RG.start ?_
                refine S.quiet (k := 8) (keep := [0, 1, 5, 74]) (m := 0) (σ' := ⟨[(0, .v (slv (a).length pa.1)), (1, .v (I (IntKind.i64.wrap ((hdl ((el a i).live) (hdl ((el a i).written) (IntKind.i64.wrap ((IntKind.i64.wrap ((hdl ((el a i).prog) j) + 1)) + 1)))) + 1)))), (5, .v (I (i : Int))), (74, .v (B (((el a i).ctl).post != (IntKind.i64.wrap ((hdl ((el a i).live) (hdl ((el a i).written) (IntKind.i64.wrap ((IntKind.i64.wrap ((hdl ((el a i).prog) j) + 1)) + 1)))) + 1)))))], []⟩) (.cons (Q_idx (S.arg ha) (l := (a).length) (k := i) (i := (i : Int)) rfl rfl (by omega) Go.Proofs.Try.underlying47 (by kernel_rfl)) (.cons (Q_cell (S.arg ha) (t := 3) (k := i) (j := 6) (v := I (((el a i).ctl).post)) (by omega) (by kernel_rfl) (by kernel_rfl)) .nil)) (by kernel_rfl) ?_
                clear S; intro ac w β S
                refine RG.done rfl (nx_then ?_)
                refine S.cond (e := (((el a i).ctl).post != (IntKind.i64.wrap ((hdl ((el a i).live) (hdl ((el a i).written) (IntKind.i64.wrap ((IntKind.i64.wrap ((hdl ((el a i).prog) j) + 1)) + 1)))) + 1)))) (by kernel_rfl) (fun h21 => ?_) (fun h21 => ?_)
                · have g22 : ¬ (((el a i).ctl).post = (IntKind.i64.wrap ((hdl ((el a i).live) (hdl ((el a i).written) (IntKind.i64.wrap ((IntKind.i64.wrap ((hdl ((el a i).prog) j) + 1)) + 1)))) + 1))) := bne_iff_ne.1 h21
                  refine wp_seq ?_
                  refine RG.start ?_
                  refine S.quiet (k := 1) (keep := [4]) (m := 0) (σ' := ⟨[(4, .v (I (-1)))], []⟩) .nil (by kernel_rfl) ?_
                  clear S; intro ac w β S
                  refine RG.done rfl (nx_then ?_)
                  refine wp_ret (rt_then (rt_block (rt_then (rt_then (rt_block (rt_then ?_))))))
                  refine S.ret (vs := [I (-1)]) (by kernel_rfl) ?_
                  exact ⟨retI (show (-1) = hdl a k by clear S; (first | (rw [hr, hd_end (by omega)]; done) | (rw [hr, hd_step (by omega)]; simp [he_Guest, hdi, hdb, hdc, *]; done) | (rw [hr, hd_step (by omega)]; simp_all [he_Guest, hdi, hdb, hdc]; done))), S.chg⟩
                · have g23 : ((el a i).ctl).post = (IntKind.i64.wrap ((hdl ((el a i).live) (hdl ((el a i).written) (IntKind.i64.wrap ((IntKind.i64.wrap ((hdl ((el a i).prog) j) + 1)) + 1)))) + 1)) := ne_f h21
                  refine wp_skip (nx_then ?_)
                  refine wp_seq ?_
                  refine RG.start ?_
                  refine S.quiet (k := 3) (keep := [0, 1, 5]) (m := 0) (σ' := ⟨[(0, .v (slv (a).length pa.1)), (1, .v (I (IntKind.i64.wrap ((IntKind.i64.wrap ((hdl ((el a i).live) (hdl ((el a i).written) (IntKind.i64.wrap ((IntKind.i64.wrap ((hdl ((el a i).prog) j) + 1)) + 1)))) + 1)) + 1)))), (5, .v (I (i : Int)))], []⟩) (.cons (Q_addw (x := (IntKind.i64.wrap ((hdl ((el a i).live) (hdl ((el a i).written) (IntKind.i64.wrap ((IntKind.i64.wrap ((hdl ((el a i).prog) j) + 1)) + 1)))) + 1))) (y := 1)) .nil) (by kernel_rfl) ?_
                  clear S; intro ac w β S
                  refine RG.done rfl (nx_then ?_)
                  refine wp_seq ?_
                  refine wp_seq ?_
                  refine RG.start ?_
                  refine S.quiet (k := 10) (keep := [0, 1, 5, 86]) (m := 0) (σ' := ⟨[(0, .v (slv (a).length pa.1)), (1, .v (I (IntKind.i64.wrap ((IntKind.i64.wrap ((hdl ((el a i).live) (hdl ((el a i).written) (IntKind.i64.wrap ((IntKind.i64.wrap ((hdl ((el a i).prog) j) + 1)) + 1)))) + 1)) + 1)))), (5, .v (I (i : Int))), (86, .v (B (!(((el a i).ctl).opn == ((Int.tmod (IntKind.i64.wrap ((IntKind.i64.wrap ((hdl ((el a i).live) (hdl ((el a i).written) (IntKind.i64.wrap ((IntKind.i64.wrap ((hdl ((el a i).prog) j) + 1)) + 1)))) + 1)) + 1)) 3) == 0)))))], []⟩) (.cons (Q_idx (S.arg ha) (l := (a).length) (k := i) (i := (i : Int)) rfl rfl (by omega) Go.Proofs.Try.underlying47 (by kernel_rfl)) (.cons (Q_cell (S.arg ha) (t := 4) (k := i) (j := 7) (v := B (((el a i).ctl).opn)) (by omega) (by kernel_rfl) (by kernel_rfl)) (.cons (Q_rem (x := (IntKind.i64.wrap ((IntKind.i64.wrap ((hdl ((el a i).live) (hdl ((el a i).written) (IntKind.i64.wrap ((IntKind.i64.wrap ((hdl ((el a i).prog) j) + 1)) + 1)))) + 1)) + 1))) (y := 3) (by decide)) .nil))) (by kernel_rfl) ?_
                  clear S; intro ac w β S
                  refine RG.done rfl (nx_then ?_)
                  refine S.cond (e := (!(((el a i).ctl).opn == ((Int.tmod (IntKind.i64.wrap ((IntKind.i64.wrap ((hdl ((el a i).live) (hdl ((el a i).written) (IntKind.i64.wrap ((IntKind.i64.wrap ((hdl ((el a i).prog) j) + 1)) + 1)))) + 1)) + 1)) 3) == 0)))) (by kernel_rfl) (fun h24 => ?_) (fun h24 => ?_)
                  · have h25 : (((el a i).ctl).opn == ((Int.tmod (IntKind.i64.wrap ((IntKind.i64.wrap ((hdl ((el a i).live) (hdl ((el a i).written) (IntKind.i64.wrap ((IntKind.i64.wrap ((hdl ((el a i).prog) j) + 1)) + 1)))) + 1)) + 1)) 3) == 0)) = false := not_t h24
                    have g26 : ¬ (((el a i).ctl).opn = ((Int.tmod (IntKind.i64.wrap ((IntKind.i64.wrap ((hdl ((el a i).live) (hdl ((el a i).written) (IntKind.i64.wrap ((IntKind.i64.wrap ((hdl ((el a i).prog) j) + 1)) + 1)))) + 1)) + 1)) 3) == 0)) := ne_of_beq_false h25
                    refine wp_seq ?_
                    refine RG.start ?_
                    refine S.quiet (k := 1) (keep := [4]) (m := 0) (σ' := ⟨[(4, .v (I (-1)))], []⟩) .nil (by kernel_rfl) ?_
                    clear S; intro ac w β S
                    refine RG.done rfl (nx_then ?_)
                    refine wp_ret (rt_then (rt_block (rt_then (rt_then (rt_block (rt_then ?_))))))
                    refine S.ret (vs := [I (-1)]) (by kernel_rfl) ?_
                    exact ⟨retI (show (-1) = hdl a k by clear S; (first | (rw [hr, hd_end (by omega)]; done) | (rw [hr, hd_step (by omega)]; simp [he_Guest, hdi, hdb, hdc, *]; done) | (rw [hr, hd_step (by omega)]; simp_all [he_Guest, hdi, hdb, hdc]; done))), S.chg⟩
                  · have h27 : (((el a i).ctl).opn == ((Int.tmod (IntKind.i64.wrap ((IntKind.i64.wrap ((hdl ((el a i).live) (hdl ((el a i).written) (IntKind.i64.wrap ((IntKind.i64.wrap ((hdl ((el a i).prog) j) + 1)) + 1)))) + 1)) + 1)) 3) == 0)) = true := not_f h24
                    have g28 : ((el a i).ctl).opn = ((Int.tmod (IntKind.i64.wrap ((IntKind.i64.wrap ((hdl ((el a i).live) (hdl ((el a i).written) (IntKind.i64.wrap ((IntKind.i64.wrap ((hdl ((el a i).prog) j) + 1)) + 1)))) + 1)) + 1)) 3) == 0) := eq_of_beq h27
                    refine wp_skip (nx_then ?_)
                    refine wp_seq ?_
                    refine RG.start ?_
                    refine S.quiet (k := 3) (keep := [0, 1, 5]) (m := 0) (σ' := ⟨[(0, .v (slv (a).length pa.1)), (1, .v (I (IntKind.i64.wrap ((IntKind.i64.wrap ((IntKind.i64.wrap ((hdl ((el a i).live) (hdl ((el a i).written) (IntKind.i64.wrap ((IntKind.i64.wrap ((hdl ((el a i).prog) j) + 1)) + 1)))) + 1)) + 1)) + 1)))), (5, .v (I (i : Int)))], []⟩) (.cons (Q_addw (x := (IntKind.i64.wrap ((IntKind.i64.wrap ((hdl ((el a i).live) (hdl ((el a i).written) (IntKind.i64.wrap ((IntKind.i64.wrap ((hdl ((el a i).prog) j) + 1)) + 1)))) + 1)) + 1))) (y := 1)) .nil) (by kernel_rfl) ?_
                    clear S; intro ac w β S
                    refine RG.done rfl (nx_then ?_)
                    refine wp_seq ?_
                    refine wp_seq ?_
                    refine RG.start ?_
                    refine S.quiet (k := 7) (keep := [0, 1, 5, 95]) (m := 0) (σ' := ⟨[(0, .v (slv (a).length pa.1)), (1, .v (I (IntKind.i64.wrap ((IntKind.i64.wrap ((IntKind.i64.wrap ((hdl ((el a i).live) (hdl ((el a i).written) (IntKind.i64.wrap ((IntKind.i64.wrap ((hdl ((el a i).prog) j) + 1)) + 1)))) + 1)) + 1)) + 1)))), (5, .v (I (i : Int))), (95, .v (B ((el a i).pend != (IntKind.i64.wrap ((IntKind.i64.wrap ((IntKind.i64.wrap ((hdl ((el a i).live) (hdl ((el a i).written) (IntKind.i64.wrap ((IntKind.i64.wrap ((hdl ((el a i).prog) j) + 1)) + 1)))) + 1)) + 1)) + 1)))))], []⟩) (.cons (Q_idx (S.arg ha) (l := (a).length) (k := i) (i := (i : Int)) rfl rfl (by omega) Go.Proofs.Try.underlying47 (by kernel_rfl)) (.cons (Q_cell (S.arg ha) (t := 3) (k := i) (j := 8) (v := I ((el a i).pend)) (by omega) (by kernel_rfl) (by kernel_rfl)) .nil)) (by kernel_rfl) ?_
                    clear S; intro ac w β S
                    refine RG.done rfl (nx_then ?_)
                    refine S.cond (e := ((el a i).pend != (IntKind.i64.wrap ((IntKind.i64.wrap ((IntKind.i64.wrap ((hdl ((el a i).live) (hdl ((el a i).written) (IntKind.i64.wrap ((IntKind.i64.wrap ((hdl ((el a i).prog) j) + 1)) + 1)))) + 1)) + 1)) + 1)))) (by kernel_rfl) (fun h29 => ?_) (fun h29 => ?_)
                    · have g30 : ¬ ((el a i).pend = (IntKind.i64.wrap ((IntKind.i64.wrap ((IntKind.i64.wrap ((hdl ((el a i).live) (hdl ((el a i).written) (IntKind.i64.wrap ((IntKind.i64.wrap ((hdl ((el a i).prog) j) + 1)) + 1)))) + 1)) + 1)) + 1))) := bne_iff_ne.1 h29
                      refine wp_seq ?_
                      refine RG.start ?_
                      refine S.quiet (k := 1) (keep := [4]) (m := 0) (σ' := ⟨[(4, .v (I (-1)))], []⟩) .nil (by kernel_rfl) ?_
                      clear S; intro ac w β S
                      refine RG.done rfl (nx_then ?_)
                      refine wp_ret (rt_then (rt_block (rt_then (rt_then (rt_block (rt_then ?_))))))
                      refine S.ret (vs := [I (-1)]) (by kernel_rfl) ?_
                      exact ⟨retI (show (-1) = hdl a k by clear S; (first | (rw [hr, hd_end (by omega)]; done) | (rw [hr, hd_step (by omega)]; simp [he_Guest, hdi, hdb, hdc, *]; done) | (rw [hr, hd_step (by omega)]; simp_all [he_Guest, hdi, hdb, hdc]; done))), S.chg⟩
                    · have g31 : (el a i).pend = (IntKind.i64.wrap ((IntKind.i64.wrap ((IntKind.i64.wrap ((hdl ((el a i).live) (hdl ((el a i).written) (IntKind.i64.wrap ((IntKind.i64.wrap ((hdl ((el a i).prog) j) + 1)) + 1)))) + 1)) + 1)) + 1)) := ne_f h29
                      refine wp_skip (nx_then ?_)
                      refine wp_seq ?_
                      refine RG.start ?_
                      refine S.quiet (k := 3) (keep := [0, 1, 5]) (m := 0) (σ' := ⟨[(0, .v (slv (a).length pa.1)), (1, .v (I (IntKind.i64.wrap ((IntKind.i64.wrap ((IntKind.i64.wrap ((IntKind.i64.wrap ((hdl ((el a i).live) (hdl ((el a i).written) (IntKind.i64.wrap ((IntKind.i64.wrap ((hdl ((el a i).prog) j) + 1)) + 1)))) + 1)) + 1)) + 1)) + 1)))), (5, .v (I (i : Int)))], []⟩) (.cons (Q_addw (x := (IntKind.i64.wrap ((IntKind.i64.wrap ((IntKind.i64.wrap ((hdl ((el a i).live) (hdl ((el a i).written) (IntKind.i64.wrap ((IntKind.i64.wrap ((hdl ((el a i).prog) j) + 1)) + 1)))) + 1)) + 1)) + 1))) (y := 1)) .nil) (by kernel_rfl) ?_
                      clear S; intro ac w β S
                      refine RG.done rfl (nx_then ?_)
                      refine wp_seq ?_
                      refine wp_seq ?_
                      refine RG.start ?_
                      refine S.quiet (k := 8) (keep := [0, 1, 5, 105]) (m := 0) (σ' := ⟨[(0, .v (slv (a).length pa.1)), (1, .v (I (IntKind.i64.wrap ((IntKind.i64.wrap ((IntKind.i64.wrap ((IntKind.i64.wrap ((hdl ((el a i).live) (hdl ((el a i).written) (IntKind.i64.wrap ((IntKind.i64.wrap ((hdl ((el a i).prog) j) + 1)) + 1)))) + 1)) + 1)) + 1)) + 1)))), (5, .v (I (i : Int))), (105, .v (B (((el a i).exit).kind != (IntKind.i64.wrap ((IntKind.i64.wrap ((IntKind.i64.wrap ((IntKind.i64.wrap ((hdl ((el a i).live) (hdl ((el a i).written) (IntKind.i64.wrap ((IntKind.i64.wrap ((hdl ((el a i).prog) j) + 1)) + 1)))) + 1)) + 1)) + 1)) + 1)))))], []⟩) (.cons (Q_idx (S.arg ha) (l := (a).length) (k := i) (i := (i : Int)) rfl rfl (by omega) Go.Proofs.Try.underlying47 (by kernel_rfl)) (.cons (Q_cell (S.arg ha) (t := 3) (k := i) (j := 9) (v := I (((el a i).exit).kind)) (by omega) (by kernel_rfl) (by kernel_rfl)) .nil)) (by kernel_rfl) ?_
                      clear S; intro ac w β S
                      refine RG.done rfl (nx_then ?_)
                      refine S.cond (e := (((el a i).exit).kind != (IntKind.i64.wrap ((IntKind.i64.wrap ((IntKind.i64.wrap ((IntKind.i64.wrap ((hdl ((el a i).live) (hdl ((el a i).written) (IntKind.i64.wrap ((IntKind.i64.wrap ((hdl ((el a i).prog) j) + 1)) + 1)))) + 1)) + 1)) + 1)) + 1)))) (by kernel_rfl) (fun h32 => ?_) (fun h32 => ?_)
                      · have g33 : ¬ (((el a i).exit).kind = (IntKind.i64.wrap ((IntKind.i64.wrap ((IntKind.i64.wrap ((IntKind.i64.wrap ((hdl ((el a i).live) (hdl ((el a i).written) (IntKind.i64.wrap ((IntKind.i64.wrap ((hdl ((el a i).prog) j) + 1)) + 1)))) + 1)) + 1)) + 1)) + 1))) := bne_iff_ne.1 h32
                        refine wp_seq ?_
                        refine RG.start ?_
                        refine S.quiet (k := 1) (keep := [4]) (m := 0) (σ' := ⟨[(4, .v (I (-1)))], []⟩) .nil (by kernel_rfl) ?_
                        clear S; intro ac w β S
                        refine RG.done rfl (nx_then ?_)
                        refine wp_ret (rt_then (rt_block (rt_then (rt_then (rt_block (rt_then ?_))))))
                        refine S.ret (vs := [I (-1)]) (by kernel_rfl) ?_
                        exact ⟨retI (show (-1) = hdl a k by clear S; (first | (rw [hr, hd_end (by omega)]; done) | (rw [hr, hd_step (by omega)]; simp [he_Guest, hdi, hdb, hdc, *]; done) | (rw [hr, hd_step (by omega)]; simp_all [he_Guest, hdi, hdb, hdc]; done))), S.chg⟩
                      · have g34 : ((el a i).exit).kind = (IntKind.i64.wrap ((IntKind.i64.wrap ((IntKind.i64.wrap ((IntKind.i64.wrap ((hdl ((el a i).live) (hdl ((el a i).written) (IntKind.i64.wrap ((IntKind.i64.wrap ((hdl ((el a i).prog) j) + 1)) + 1)))) + 1)) + 1)) + 1)) + 1)) := ne_f h32
                        refine wp_skip (nx_then ?_)
                        refine wp_seq ?_
                        refine RG.start ?_
                        refine S.quiet (k := 3) (keep := [0, 1, 5]) (m := 0) (σ' := ⟨[(0, .v (slv (a).length pa.1)), (1, .v (I (IntKind.i64.wrap ((IntKind.i64.wrap ((IntKind.i64.wrap ((IntKind.i64.wrap ((IntKind.i64.wrap ((hdl ((el a i).live) (hdl ((el a i).written) (IntKind.i64.wrap ((IntKind.i64.wrap ((hdl ((el a i).prog) j) + 1)) + 1)))) + 1)) + 1)) + 1)) + 1)) + 1)))), (5, .v (I (i : Int)))], []⟩) (.cons (Q_addw (x := (IntKind.i64.wrap ((IntKind.i64.wrap ((IntKind.i64.wrap ((IntKind.i64.wrap ((hdl ((el a i).live) (hdl ((el a i).written) (IntKind.i64.wrap ((IntKind.i64.wrap ((hdl ((el a i).prog) j) + 1)) + 1)))) + 1)) + 1)) + 1)) + 1))) (y := 1)) .nil) (by kernel_rfl) ?_
                        clear S; intro ac w β S
                        refine RG.done rfl (nx_then ?_)
                        refine wp_seq ?_
                        refine wp_seq ?_
                        refine RG.start ?_
                        refine S.quiet (k := 8) (keep := [0, 1, 5, 115]) (m := 0) (σ' := ⟨[(0, .v (slv (a).length pa.1)), (1, .v (I (IntKind.i64.wrap ((IntKind.i64.wrap ((IntKind.i64.wrap ((IntKind.i64.wrap ((IntKind.i64.wrap ((hdl ((el a i).live) (hdl ((el a i).written) (IntKind.i64.wrap ((IntKind.i64.wrap ((hdl ((el a i).prog) j) + 1)) + 1)))) + 1)) + 1)) + 1)) + 1)) + 1)))), (5, .v (I (i : Int))), (115, .v (B (((el a i).exit).page != (IntKind.i64.wrap ((IntKind.i64.wrap ((IntKind.i64.wrap ((IntKind.i64.wrap ((IntKind.i64.wrap ((hdl ((el a i).live) (hdl ((el a i).written) (IntKind.i64.wrap ((IntKind.i64.wrap ((hdl ((el a i).prog) j) + 1)) + 1)))) + 1)) + 1)) + 1)) + 1)) + 1)))))], []⟩) (.cons (Q_idx (S.arg ha) (l := (a).length) (k := i) (i := (i : Int)) rfl rfl (by omega) Go.Proofs.Try.underlying47 (by kernel_rfl)) (.cons (Q_cell (S.arg ha) (t := 3) (k := i) (j := 10) (v := I (((el a i).exit).page)) (by omega) (by kernel_rfl) (by kernel_rfl)) .nil)) (by kernel_rfl) ?_
                        clear S; intro ac w β S
                        refine RG.done rfl (nx_then ?_)
                        refine S.cond (e := (((el a i).exit).page != (IntKind.i64.wrap ((IntKind.i64.wrap ((IntKind.i64.wrap ((IntKind.i64.wrap ((IntKind.i64.wrap ((hdl ((el a i).live) (hdl ((el a i).written) (IntKind.i64.wrap ((IntKind.i64.wrap ((hdl ((el a i).prog) j) + 1)) + 1)))) + 1)) + 1)) + 1)) + 1)) + 1)))) (by kernel_rfl) (fun h35 => ?_) (fun h35 => ?_)
                        · have g36 : ¬ (((el a i).exit).page = (IntKind.i64.wrap ((IntKind.i64.wrap ((IntKind.i64.wrap ((IntKind.i64.wrap ((IntKind.i64.wrap ((hdl ((el a i).live) (hdl ((el a i).written) (IntKind.i64.wrap ((IntKind.i64.wrap ((hdl ((el a i).prog) j) + 1)) + 1)))) + 1)) + 1)) + 1)) + 1)) + 1))) := bne_iff_ne.1 h35
                          refine wp_seq ?_
                          refine RG.start ?_
                          refine S.quiet (k := 1) (keep := [4]) (m := 0) (σ' := ⟨[(4, .v (I (-1)))], []⟩) .nil (by kernel_rfl) ?_
                          clear S; intro ac w β S
                          refine RG.done rfl (nx_then ?_)
                          refine wp_ret (rt_then (rt_block (rt_then (rt_then (rt_block (rt_then ?_))))))
                          refine S.ret (vs := [I (-1)]) (by kernel_rfl) ?_
                          exact ⟨retI (show (-1) = hdl a k by clear S; (first | (rw [hr, hd_end (by omega)]; done) | (rw [hr, hd_step (by omega)]; simp [he_Guest, hdi, hdb, hdc, *]; done) | (rw [hr, hd_step (by omega)]; simp_all [he_Guest, hdi, hdb, hdc]; done))), S.chg⟩
                        · have g37 : ((el a i).exit).page = (IntKind.i64.wrap ((IntKind.i64.wrap ((IntKind.i64.wrap ((IntKind.i64.wrap ((IntKind.i64.wrap ((hdl ((el a i).live) (hdl ((el a i).written) (IntKind.i64.wrap ((IntKind.i64.wrap ((hdl ((el a i).prog) j) + 1)) + 1)))) + 1)) + 1)) + 1)) + 1)) + 1)) := ne_f h35
                          refine wp_skip (nx_then ?_)
                          refine wp_seq ?_
                          refine RG.start ?_
                          refine S.quiet (k := 3) (keep := [0, 1, 5]) (m := 0) (σ' := ⟨[(0, .v (slv (a).length pa.1)), (1, .v (I (IntKind.i64.wrap ((IntKind.i64.wrap ((IntKind.i64.wrap ((IntKind.i64.wrap ((IntKind.i64.wrap ((IntKind.i64.wrap ((hdl ((el a i).live) (hdl ((el a i).written) (IntKind.i64.wrap ((IntKind.i64.wrap ((hdl ((el a i).prog) j) + 1)) + 1)))) + 1)) + 1)) + 1)) + 1)) + 1)) + 1)))), (5, .v (I (i : Int)))], []⟩) (.cons (Q_addw (x := (IntKind.i64.wrap ((IntKind.i64.wrap ((IntKind.i64.wrap ((IntKind.i64.wrap ((IntKind.i64.wrap ((hdl ((el a i).live) (hdl ((el a i).written) (IntKind.i64.wrap ((IntKind.i64.wrap ((hdl ((el a i).prog) j) + 1)) + 1)))) + 1)) + 1)) + 1)) + 1)) + 1))) (y := 1)) .nil) (by kernel_rfl) ?_
                          clear S; intro ac w β S
                          refine RG.done rfl (nx_then ?_)
                          refine wp_seq ?_
                          refine wp_seq ?_
                          refine RG.start ?_
                          refine S.quiet (k := 10) (keep := [0, 1, 5, 127]) (m := 0) (σ' := ⟨[(0, .v (slv (a).length pa.1)), (1, .v (I (IntKind.i64.wrap ((IntKind.i64.wrap ((IntKind.i64.wrap ((IntKind.i64.wrap ((IntKind.i64.wrap ((IntKind.i64.wrap ((hdl ((el a i).live) (hdl ((el a i).written) (IntKind.i64.wrap ((IntKind.i64.wrap ((hdl ((el a i).prog) j) + 1)) + 1)))) + 1)) + 1)) + 1)) + 1)) + 1)) + 1)))), (5, .v (I (i : Int))), (127, .v (B (!(((el a i).exit).wr == ((Int.tmod (IntKind.i64.wrap ((IntKind.i64.wrap ((IntKind.i64.wrap ((IntKind.i64.wrap ((IntKind.i64.wrap ((IntKind.i64.wrap ((hdl ((el a i).live) (hdl ((el a i).written) (IntKind.i64.wrap ((IntKind.i64.wrap ((hdl ((el a i).prog) j) + 1)) + 1)))) + 1)) + 1)) + 1)) + 1)) + 1)) + 1)) 3) == 0)))))], []⟩) (.cons (Q_idx (S.arg ha) (l := (a).length) (k := i) (i := (i : Int)) rfl rfl (by omega) Go.Proofs.Try.underlying47 (by kernel_rfl)) (.cons (Q_cell (S.arg ha) (t := 4) (k := i) (j := 11) (v := B (((el a i).exit).wr)) (by omega) (by kernel_rfl) (by kernel_rfl)) (.cons (Q_rem (x := (IntKind.i64.wrap ((IntKind.i64.wrap ((IntKind.i64.wrap ((IntKind.i64.wrap ((IntKind.i64.wrap ((IntKind.i64.wrap ((hdl ((el a i).live) (hdl ((el a i).written) (IntKind.i64.wrap ((IntKind.i64.wrap ((hdl ((el a i).prog) j) + 1)) + 1)))) + 1)) + 1)) + 1)) + 1)) + 1)) + 1))) (y := 3) (by decide)) .nil))) (by kernel_rfl) ?_
                          clear S; intro ac w β S
                          refine RG.done rfl (nx_then ?_)
                          refine S.cond (e := (!(((el a i).exit).wr == ((Int.tmod (IntKind.i64.wrap ((IntKind.i64.wrap ((IntKind.i64.wrap ((IntKind.i64.wrap ((IntKind.i64.wrap ((IntKind.i64.wrap ((hdl ((el a i).live) (hdl ((el a i).written) (IntKind.i64.wrap ((IntKind.i64.wrap ((hdl ((el a i).prog) j) + 1)) + 1)))) + 1)) + 1)) + 1)) + 1)) + 1)) + 1)) 3) == 0)))) (by kernel_rfl) (fun h38 => ?_) (fun h38 => ?_)
                          · have h39 : (((el a i).exit).wr == ((Int.tmod (IntKind.i64.wrap ((IntKind.i64.wrap ((IntKind.i64.wrap ((IntKind.i64.wrap ((IntKind.i64.wrap ((IntKind.i64.wrap ((hdl ((el a i).live) (hdl ((el a i).written) (IntKind.i64.wrap ((IntKind.i64.wrap ((hdl ((el a i).prog) j) + 1)) + 1)))) + 1)) + 1)) + 1)) + 1)) + 1)) + 1)) 3) == 0)) = false := not_t h38
                            have g40 : ¬ (((el a i).exit).wr = ((Int.tmod (IntKind.i64.wrap ((IntKind.i64.wrap ((IntKind.i64.wrap ((IntKind.i64.wrap ((IntKind.i64.wrap ((IntKind.i64.wrap ((hdl ((el a i).live) (hdl ((el a i).written) (IntKind.i64.wrap ((IntKind.i64.wrap ((hdl ((el a i).prog) j) + 1)) + 1)))) + 1)) + 1)) + 1)) + 1)) + 1)) + 1)) 3) == 0)) := ne_of_beq_false h39
                            refine wp_seq ?_
                            refine RG.start ?_
                            refine S.quiet (k := 1) (keep := [4]) (m := 0) (σ' := ⟨[(4, .v (I (-1)))], []⟩) .nil (by kernel_rfl) ?_
                            clear S; intro ac w β S
                            refine RG.done rfl (nx_then ?_)
                            refine wp_ret (rt_then (rt_block (rt_then (rt_then (rt_block (rt_then ?_))))))
                            refine S.ret (vs := [I (-1)]) (by kernel_rfl) ?_
                            exact ⟨retI (show (-1) = hdl a k by clear S; (first | (rw [hr, hd_end (by omega)]; done) | (rw [hr, hd_step (by omega)]; simp [he_Guest, hdi, hdb, hdc, *]; done) | (rw [hr, hd_step (by omega)]; simp_all [he_Guest, hdi, hdb, hdc]; done))), S.chg⟩
                          · have h41 : (((el a i).exit).wr == ((Int.tmod (IntKind.i64.wrap ((IntKind.i64.wrap ((IntKind.i64.wrap ((IntKind.i64.wrap ((IntKind.i64.wrap ((IntKind.i64.wrap ((hdl ((el a i).live) (hdl ((el a i).written) (IntKind.i64.wrap ((IntKind.i64.wrap ((hdl ((el a i).prog) j) + 1)) + 1)))) + 1)) + 1)) + 1)) + 1)) + 1)) + 1)) 3) == 0)) = true := not_f h38
                            have g42 : ((el a i).exit).wr = ((Int.tmod (IntKind.i64.wrap ((IntKind.i64.wrap ((IntKind.i64.wrap ((IntKind.i64.wrap ((IntKind.i64.wrap ((IntKind.i64.wrap ((hdl ((el a i).live) (hdl ((el a i).written) (IntKind.i64.wrap ((IntKind.i64.wrap ((hdl ((el a i).prog) j) + 1)) + 1)))) + 1)) + 1)) + 1)) + 1)) + 1)) + 1)) 3) == 0) := eq_of_beq h41
                            refine wp_skip (nx_then ?_)
                            refine wp_seq ?_
                            refine RG.start ?_
                            refine S.quiet (k := 3) (keep := [0, 1, 5]) (m := 0) (σ' := ⟨[(0, .v (slv (a).length pa.1)), (1, .v (I (IntKind.i64.wrap ((IntKind.i64.wrap ((IntKind.i64.wrap ((IntKind.i64.wrap ((IntKind.i64.wrap ((IntKind.i64.wrap ((IntKind.i64.wrap ((hdl ((el a i).live) (hdl ((el a i).written) (IntKind.i64.wrap ((IntKind.i64.wrap ((hdl ((el a i).prog) j) + 1)) + 1)))) + 1)) + 1)) + 1)) + 1)) + 1)) + 1)) + 1)))), (5, .v (I (i : Int)))], []⟩) (.cons (Q_addw (x := (IntKind.i64.wrap ((IntKind.i64.wrap ((IntKind.i64.wrap ((IntKind.i64.wrap ((IntKind.i64.wrap ((IntKind.i64.wrap ((hdl ((el a i).live) (hdl ((el a i).written) (IntKind.i64.wrap ((IntKind.i64.wrap ((hdl ((el a i).prog) j) + 1)) + 1)))) + 1)) + 1)) + 1)) + 1)) + 1)) + 1))) (y := 1)) .nil) (by kernel_rfl) ?_
                            clear S; intro ac w β S
                            refine RG.done rfl (nx_then ?_)
                            refine wp_seq ?_
                            refine wp_seq ?_
                            refine RG.start ?_
                            refine S.quiet (k := 8) (keep := [0, 1, 5, 137]) (m := 0) (σ' := ⟨[(0, .v (slv (a).length pa.1)), (1, .v (I (IntKind.i64.wrap ((IntKind.i64.wrap ((IntKind.i64.wrap ((IntKind.i64.wrap ((IntKind.i64.wrap ((IntKind.i64.wrap ((IntKind.i64.wrap ((hdl ((el a i).live) (hdl ((el a i).written) (IntKind.i64.wrap ((IntKind.i64.wrap ((hdl ((el a i).prog) j) + 1)) + 1)))) + 1)) + 1)) + 1)) + 1)) + 1)) + 1)) + 1)))), (5, .v (I (i : Int))), (137, .v (B (((el a i).exit).n != (IntKind.i64.wrap ((IntKind.i64.wrap ((IntKind.i64.wrap ((IntKind.i64.wrap ((IntKind.i64.wrap ((IntKind.i64.wrap ((IntKind.i64.wrap ((hdl ((el a i).live) (hdl ((el a i).written) (IntKind.i64.wrap ((IntKind.i64.wrap ((hdl ((el a i).prog) j) + 1)) + 1)))) + 1)) + 1)) + 1)) + 1)) + 1)) + 1)) + 1)))))], []⟩) (.cons (Q_idx (S.arg ha) (l := (a).length) (k := i) (i := (i : Int)) rfl rfl (by omega) Go.Proofs.Try.underlying47 (by kernel_rfl)) (.cons (Q_cell (S.arg ha) (t := 3) (k := i) (j := 12) (v := I (((el a i).exit).n)) (by omega) (by kernel_rfl) (by kernel_rfl)) .nil)) (by kernel_rfl) ?_
                            clear S; intro ac w β S
                            refine RG.done rfl (nx_then ?_)
                            refine S.cond (e := (((el a i).exit).n != (IntKind.i64.wrap ((IntKind.i64.wrap ((IntKind.i64.wrap ((IntKind.i64.wrap ((IntKind.i64.wrap ((IntKind.i64.wrap ((IntKind.i64.wrap ((hdl ((el a i).live) (hdl ((el a i).written) (IntKind.i64.wrap ((IntKind.i64.wrap ((hdl ((el a i).prog) j) + 1)) + 1)))) + 1)) + 1)) + 1)) + 1)) + 1)) + 1)) + 1)))) (by kernel_rfl) (fun h43 => ?_) (fun h43 => ?_)
                            · have g44 : ¬ (((el a i).exit).n = (IntKind.i64.wrap ((IntKind.i64.wrap ((IntKind.i64.wrap ((IntKind.i64.wrap ((IntKind.i64.wrap ((IntKind.i64.wrap ((IntKind.i64.wrap ((hdl ((el a i).live) (hdl ((el a i).written) (IntKind.i64.wrap ((IntKind.i64.wrap ((hdl ((el a i).prog) j) + 1)) + 1)))) + 1)) + 1)) + 1)) + 1)) + 1)) + 1)) + 1))) := bne_iff_ne.1 h43
                              refine wp_seq ?_
                              refine RG.start ?_
                              refine S.quiet (k := 1) (keep := [4]) (m := 0) (σ' := ⟨[(4, .v (I (-1)))], []⟩) .nil (by kernel_rfl) ?_
                              clear S; intro ac w β S
                              refine RG.done rfl (nx_then ?_)
                              refine wp_ret (rt_then (rt_block (rt_then (rt_then (rt_block (rt_then ?_))))))
                              refine S.ret (vs := [I (-1)]) (by kernel_rfl) ?_
                              exact ⟨retI (show (-1) = hdl a k by clear S; (first | (rw [hr, hd_end (by omega)]; done) | (rw [hr, hd_step (by omega)]; simp [he_Guest, hdi, hdb, hdc, *]; done) | (rw [hr, hd_step (by omega)]; simp_all [he_Guest, hdi, hdb, hdc]; done))), S.chg⟩
                            · have g45 : ((el a i).exit).n = (IntKind.i64.wrap ((IntKind.i64.wrap ((IntKind.i64.wrap ((IntKind.i64.wrap ((IntKind.i64.wrap ((IntKind.i64.wrap ((IntKind.i64.wrap ((hdl ((el a i).live) (hdl ((el a i).written) (IntKind.i64.wrap ((IntKind.i64.wrap ((hdl ((el a i).prog) j) + 1)) + 1)))) + 1)) + 1)) + 1)) + 1)) + 1)) + 1)) + 1)) := ne_f h43
                              refine wp_skip (nx_then ?_)
                              refine wp_seq ?_
                              refine RG.start ?_
                              refine S.quiet (k := 3) (keep := [0, 1, 5]) (m := 0) (σ' := ⟨[(0, .v (slv (a).length pa.1)), (1, .v (I (IntKind.i64.wrap ((IntKind.i64.wrap ((IntKind.i64.wrap ((IntKind.i64.wrap ((IntKind.i64.wrap ((IntKind.i64.wrap ((IntKind.i64.wrap ((IntKind.i64.wrap ((hdl ((el a i).live) (hdl ((el a i).written) (IntKind.i64.wrap ((IntKind.i64.wrap ((hdl ((el a i).prog) j) + 1)) + 1)))) + 1)) + 1)) + 1)) + 1)) + 1)) + 1)) + 1)) + 1)))), (5, .v (I (i : Int)))], []⟩) (.cons (Q_addw (x := (IntKind.i64.wrap ((IntKind.i64.wrap ((IntKind.i64.wrap ((IntKind.i64.wrap ((IntKind.i64.wrap ((IntKind.i64.wrap ((IntKind.i64.wrap ((hdl ((el a i).live) (hdl ((el a i).written) (IntKind.i64.wrap ((IntKind.i64.wrap ((hdl ((el a i).prog) j) + 1)) + 1)))) + 1)) + 1)) + 1)) + 1)) + 1)) + 1)) + 1))) (y := 1)) .nil) (by kernel_rfl) ?_
                              clear S; intro ac w β S
                              refine RG.done rfl (nx_then ?_)
                              refine wp_seq ?_
                              refine wp_seq ?_
                              refine RG.start ?_
                              refine S.quiet (k := 9) (keep := [0, 1, 5, 148]) (m := 0) (σ' := ⟨[(0, .v (slv (a).length pa.1)), (1, .v (I (IntKind.i64.wrap ((IntKind.i64.wrap ((IntKind.i64.wrap ((IntKind.i64.wrap ((IntKind.i64.wrap ((IntKind.i64.wrap ((IntKind.i64.wrap ((IntKind.i64.wrap ((hdl ((el a i).live) (hdl ((el a i).written) (IntKind.i64.wrap ((IntKind.i64.wrap ((hdl ((el a i).prog) j) + 1)) + 1)))) + 1)) + 1)) + 1)) + 1)) + 1)) + 1)) + 1)) + 1)))), (5, .v (I (i : Int))), (148, .v (B (!((el a i).halted == ((Int.tmod (IntKind.i64.wrap ((IntKind.i64.wrap ((IntKind.i64.wrap ((IntKind.i64.wrap ((IntKind.i64.wrap ((IntKind.i64.wrap ((IntKind.i64.wrap ((IntKind.i64.wrap ((hdl ((el a i).live) (hdl ((el a i).written) (IntKind.i64.wrap ((IntKind.i64.wrap ((hdl ((el a i).prog) j) + 1)) + 1)))) + 1)) + 1)) + 1)) + 1)) + 1)) + 1)) + 1)) + 1)) 3) == 0)))))], []⟩) (.cons (Q_idx (S.arg ha) (l := (a).length) (k := i) (i := (i : Int)) rfl rfl (by omega) Go.Proofs.Try.underlying47 (by kernel_rfl)) (.cons (Q_cell (S.arg ha) (t := 4) (k := i) (j := 13) (v := B ((el a i).halted)) (by omega) (by kernel_rfl) (by kernel_rfl)) (.cons (Q_rem (x := (IntKind.i64.wrap ((IntKind.i64.wrap ((IntKind.i64.wrap ((IntKind.i64.wrap ((IntKind.i64.wrap ((IntKind.i64.wrap ((IntKind.i64.wrap ((IntKind.i64.wrap ((hdl ((el a i).live) (hdl ((el a i).written) (IntKind.i64.wrap ((IntKind.i64.wrap ((hdl ((el a i).prog) j) + 1)) + 1)))) + 1)) + 1)) + 1)) + 1)) + 1)) + 1)) + 1)) + 1))) (y := 3) (by decide)) .nil))) (by kernel_rfl) ?_
                              clear S; intro ac w β S
                              refine RG.done rfl (nx_then ?_)
                              refine S.cond (e := (!((el a i).halted == ((Int.tmod (IntKind.i64.wrap ((IntKind.i64.wrap ((IntKind.i64.wrap ((IntKind.i64.wrap ((IntKind.i64.wrap ((IntKind.i64.wrap ((IntKind.i64.wrap ((IntKind.i64.wrap ((hdl ((el a i).live) (hdl ((el a i).written) (IntKind.i64.wrap ((IntKind.i64.wrap ((hdl ((el a i).prog) j) + 1)) + 1)))) + 1)) + 1)) + 1)) + 1)) + 1)) + 1)) + 1)) + 1)) 3) == 0)))) (by kernel_rfl) (fun h46 => ?_) (fun h46 => ?_)
                              · have h47 : ((el a i).halted == ((Int.tmod (IntKind.i64.wrap ((IntKind.i64.wrap ((IntKind.i64.wrap ((IntKind.i64.wrap ((IntKind.i64.wrap ((IntKind.i64.wrap ((IntKind.i64.wrap ((IntKind.i64.wrap ((hdl ((el a i).live) (hdl ((el a i).written) (IntKind.i64.wrap ((IntKind.i64.wrap ((hdl ((el a i).prog) j) + 1)) + 1)))) + 1)) + 1)) + 1)) + 1)) + 1)) + 1)) + 1)) + 1)) 3) == 0)) = false := not_t h46
                                have g48 : ¬ ((el a i).halted = ((Int.tmod (IntKind.i64.wrap ((IntKind.i64.wrap ((IntKind.i64.wrap ((IntKind.i64.wrap ((IntKind.i64.wrap ((IntKind.i64.wrap ((IntKind.i64.wrap ((IntKind.i64.wrap ((hdl ((el a i).live) (hdl ((el a i).written) (IntKind.i64.wrap ((IntKind.i64.wrap ((hdl ((el a i).prog) j) + 1)) + 1)))) + 1)) + 1)) + 1)) + 1)) + 1)) + 1)) + 1)) + 1)) 3) == 0)) := ne_of_beq_false h47
                                refine wp_seq ?_
                                refine RG.start ?_
                                refine S.quiet (k := 1) (keep := [4]) (m := 0) (σ' := ⟨[(4, .v (I (-1)))], []⟩) .nil (by kernel_rfl) ?_
                                clear S; intro ac w β S
                                refine RG.done rfl (nx_then ?_)
                                refine wp_ret (rt_then (rt_block (rt_then (rt_then (rt_block (rt_then ?_))))))
                                refine S.ret (vs := [I (-1)]) (by kernel_rfl) ?_
                                exact ⟨retI (show (-1) = hdl a k by clear S; (first | (rw [hr, hd_end (by omega)]; done) | (rw [hr, hd_step (by omega)]; simp [he_Guest, hdi, hdb, hdc, *]; done) | (rw [hr, hd_step (by omega)]; simp_all [he_Guest, hdi, hdb, hdc]; done))), S.chg⟩
                              · have h49 : ((el a i).halted == ((Int.tmod (IntKind.i64.wrap ((IntKind.i64.wrap ((IntKind.i64.wrap ((IntKind.i64.wrap ((IntKind.i64.wrap ((IntKind.i64.wrap ((IntKind.i64.wrap ((IntKind.i64.wrap ((hdl ((el a i).live) (hdl ((el a i).written) (IntKind.i64.wrap ((IntKind.i64.wrap ((hdl ((el a i).prog) j) + 1)) + 1)))) + 1)) + 1)) + 1)) + 1)) + 1)) + 1)) + 1)) + 1)) 3) == 0)) = true := not_f h46
                                have g50 : (el a i).halted = ((Int.tmod (IntKind.i64.wrap ((IntKind.i64.wrap ((IntKind.i64.wrap ((IntKind.i64.wrap ((IntKind.i64.wrap ((IntKind.i64.wrap ((IntKind.i64.wrap ((IntKind.i64.wrap ((hdl ((el a i).live) (hdl ((el a i).written) (IntKind.i64.wrap ((IntKind.i64.wrap ((hdl ((el a i).prog) j) + 1)) + 1)))) + 1)) + 1)) + 1)) + 1)) + 1)) + 1)) + 1)) + 1)) 3) == 0) := eq_of_beq h49
                                refine wp_skip (nx_then ?_)
                                refine wp_seq ?_
                                refine RG.start ?_
                                refine S.quiet (k := 3) (keep := [0, 1, 5]) (m := 0) (σ' := ⟨[(0, .v (slv (a).length pa.1)), (1, .v (I (IntKind.i64.wrap ((IntKind.i64.wrap ((IntKind.i64.wrap ((IntKind.i64.wrap ((IntKind.i64.wrap ((IntKind.i64.wrap ((IntKind.i64.wrap ((IntKind.i64.wrap ((IntKind.i64.wrap ((hdl ((el a i).live) (hdl ((el a i).written) (IntKind.i64.wrap ((IntKind.i64.wrap ((hdl ((el a i).prog) j) + 1)) + 1)))) + 1)) + 1)) + 1)) + 1)) + 1)) + 1)) + 1)) + 1)) + 1)))), (5, .v (I (i : Int)))], []⟩) (.cons (Q_addw (x := (IntKind.i64.wrap ((IntKind.i64.wrap ((IntKind.i64.wrap ((IntKind.i64.wrap ((IntKind.i64.wrap ((IntKind.i64.wrap ((IntKind.i64.wrap ((IntKind.i64.wrap ((hdl ((el a i).live) (hdl ((el a i).written) (IntKind.i64.wrap ((IntKind.i64.wrap ((hdl ((el a i).prog) j) + 1)) + 1)))) + 1)) + 1)) + 1)) + 1)) + 1)) + 1)) + 1)) + 1))) (y := 1)) .nil) (by kernel_rfl) ?_
                                clear S; intro ac w β S
                                refine RG.done rfl (nx_then ?_)
                                refine wp_seq ?_
                                refine RG.start ?_
                                refine S.quiet (k := 8) (keep := [0, 1, 5]) (m := 0) (σ' := ⟨[(0, .v (slv (a).length pa.1)), (1, .v (I (hdl ((el a i).seen) (IntKind.i64.wrap ((IntKind.i64.wrap ((IntKind.i64.wrap ((IntKind.i64.wrap ((IntKind.i64.wrap ((IntKind.i64.wrap ((IntKind.i64.wrap ((IntKind.i64.wrap ((IntKind.i64.wrap ((hdl ((el a i).live) (hdl ((el a i).written) (IntKind.i64.wrap ((IntKind.i64.wrap ((hdl ((el a i).prog) j) + 1)) + 1)))) + 1)) + 1)) + 1)) + 1)) + 1)) + 1)) + 1)) + 1)) + 1))))), (5, .v (I (i : Int)))], []⟩) (.cons (Q_idx (S.arg ha) (l := (a).length) (k := i) (i := (i : Int)) rfl rfl (by omega) Go.Proofs.Try.underlying47 (by kernel_rfl)) (.cons (Q_cell (S.arg ha) (t := 37) (k := i) (j := 14) (v := slv ((el a i).seen).length ((pa.2 i).seen).1) (by omega) (by kernel_rfl) (by kernel_rfl)) (.cons (Q_call fun w hw => c_laws_heldIntS w ((el a i).seen) ((pa.2 i).seen) (rd_of (RGuest.seen (d := (el a i)) (LRd.el (S.arg ha) i (by omega))) hw) (IntKind.i64.wrap ((IntKind.i64.wrap ((IntKind.i64.wrap ((IntKind.i64.wrap ((IntKind.i64.wrap ((IntKind.i64.wrap ((IntKind.i64.wrap ((IntKind.i64.wrap ((IntKind.i64.wrap ((hdl ((el a i).live) (hdl ((el a i).written) (IntKind.i64.wrap ((IntKind.i64.wrap ((hdl ((el a i).prog) j) + 1)) + 1)))) + 1)) + 1)) + 1)) + 1)) + 1)) + 1)) + 1)) + 1)) + 1))) .nil))) (by kernel_rfl) ?_
                                clear S; intro ac w β S
                                refine RG.done rfl (nx_then ?_)
                                refine wp_seq ?_
                                refine RG.start ?_
                                refine S.quiet (k := 2) (keep := [0, 1, 5, 159]) (m := 0) (σ' := ⟨[(0, .v (slv (a).length pa.1)), (1, .v (I (hdl ((el a i).seen) (IntKind.i64.wrap ((IntKind.i64.wrap ((IntKind.i64.wrap ((IntKind.i64.wrap ((IntKind.i64.wrap ((IntKind.i64.wrap ((IntKind.i64.wrap ((IntKind.i64.wrap ((IntKind.i64.wrap ((hdl ((el a i).live) (hdl ((el a i).written) (IntKind.i64.wrap ((IntKind.i64.wrap ((hdl ((el a i).prog) j) + 1)) + 1)))) + 1)) + 1)) + 1)) + 1)) + 1)) + 1)) + 1)) + 1)) + 1))))), (5, .v (I (i : Int))), (159, .v (B (decide ((hdl ((el a i).seen) (IntKind.i64.wrap ((IntKind.i64.wrap ((IntKind.i64.wrap ((IntKind.i64.wrap ((IntKind.i64.wrap ((IntKind.i64.wrap ((IntKind.i64.wrap ((IntKind.i64.wrap ((IntKind.i64.wrap ((hdl ((el a i).live) (hdl ((el a i).written) (IntKind.i64.wrap ((IntKind.i64.wrap ((hdl ((el a i).prog) j) + 1)) + 1)))) + 1)) + 1)) + 1)) + 1)) + 1)) + 1)) + 1)) + 1)) + 1))) < 0))))], []⟩) .nil (by kernel_rfl) ?_
                                clear S; intro ac w β S
                                refine RG.done rfl (nx_then ?_)
                                refine S.cond (e := (decide ((hdl ((el a i).seen) (IntKind.i64.wrap ((IntKind.i64.wrap ((IntKind.i64.wrap ((IntKind.i64.wrap ((IntKind.i64.wrap ((IntKind.i64.wrap ((IntKind.i64.wrap ((IntKind.i64.wrap ((IntKind.i64.wrap ((hdl ((el a i).live) (hdl ((el a i).written) (IntKind.i64.wrap ((IntKind.i64.wrap ((hdl ((el a i).prog) j) + 1)) + 1)))) + 1)) + 1)) + 1)) + 1)) + 1)) + 1)) + 1)) + 1)) + 1))) < 0))) (by kernel_rfl) (fun h51 => ?_) (fun h51 => ?_)
                                · have g52 : (hdl ((el a i).seen) (IntKind.i64.wrap ((IntKind.i64.wrap ((IntKind.i64.wrap ((IntKind.i64.wrap ((IntKind.i64.wrap ((IntKind.i64.wrap ((IntKind.i64.wrap ((IntKind.i64.wrap ((IntKind.i64.wrap ((hdl ((el a i).live) (hdl ((el a i).written) (IntKind.i64.wrap ((IntKind.i64.wrap ((hdl ((el a i).prog) j) + 1)) + 1)))) + 1)) + 1)) + 1)) + 1)) + 1)) + 1)) + 1)) + 1)) + 1))) < 0 := of_decide_eq_true h51
                                  refine wp_seq ?_
                                  refine RG.start ?_
                                  refine S.quiet (k := 1) (keep := [4]) (m := 0) (σ' := ⟨[(4, .v (I (-1)))], []⟩) .nil (by kernel_rfl) ?_
                                  clear S; intro ac w β S
                                  refine RG.done rfl (nx_then ?_)
                                  refine wp_ret (rt_block (rt_then (rt_then (rt_block (rt_then ?_)))))
                                  refine S.ret (vs := [I (-1)]) (by kernel_rfl) ?_
                                  exact ⟨retI (show (-1) = hdl a k by clear S; (first | (rw [hr, hd_end (by omega)]; done) | (rw [hr, hd_step (by omega)]; simp [he_Guest, hdi, hdb, hdc, *]; done) | (rw [hr, hd_step (by omega)]; simp_all [he_Guest, hdi, hdb, hdc]; done))), S.chg⟩
                                · have g53 : ¬ ((hdl ((el a i).seen) (IntKind.i64.wrap ((IntKind.i64.wrap ((IntKind.i64.wrap ((IntKind.i64.wrap ((IntKind.i64.wrap ((IntKind.i64.wrap ((IntKind.i64.wrap ((IntKind.i64.wrap ((IntKind.i64.wrap ((hdl ((el a i).live) (hdl ((el a i).written) (IntKind.i64.wrap ((IntKind.i64.wrap ((hdl ((el a i).prog) j) + 1)) + 1)))) + 1)) + 1)) + 1)) + 1)) + 1)) + 1)) + 1)) + 1)) + 1))) < 0) := of_decide_eq_false h51
                                  refine wp_skip (nx_block (nx_then ?_))
                                  refine RG.start ?_
                                  refine S.quiet (k := 3) (keep := [0, 1, 5]) (m := 0) (σ' := ⟨[(0, .v (slv (a).length pa.1)), (1, .v (I (hdl ((el a i).seen) (IntKind.i64.wrap ((IntKind.i64.wrap ((IntKind.i64.wrap ((IntKind.i64.wrap ((IntKind.i64.wrap ((IntKind.i64.wrap ((IntKind.i64.wrap ((IntKind.i64.wrap ((IntKind.i64.wrap ((hdl ((el a i).live) (hdl ((el a i).written) (IntKind.i64.wrap ((IntKind.i64.wrap ((hdl ((el a i).prog) j) + 1)) + 1)))) + 1)) + 1)) + 1)) + 1)) + 1)) + 1)) + 1)) + 1)) + 1))))), (5, .v (I ((i : Int) + 1)))], []⟩) (.cons (Q_add (x := (i : Int)) (y := 1) ⟨by omega, by omega⟩) .nil) (by kernel_rfl) ?_
                                  clear S; intro ac w β S
                                  refine RG.done rfl (nx_then ?_)
                                  replace S := S.prune (keep := [0, 1, 5]) (m := 0) (σ' := ⟨[(0, .v (slv (a).length pa.1)), (1, .v (I (hdl ((el a i).seen) (IntKind.i64.wrap ((IntKind.i64.wrap ((IntKind.i64.wrap ((IntKind.i64.wrap ((IntKind.i64.wrap ((IntKind.i64.wrap ((IntKind.i64.wrap ((IntKind.i64.wrap ((IntKind.i64.wrap ((hdl ((el a i).live) (hdl ((el a i).written) (IntKind.i64.wrap ((IntKind.i64.wrap ((hdl ((el a i).prog) j) + 1)) + 1)))) + 1)) + 1)) + 1)) + 1)) + 1)) + 1)) + 1)) + 1)) + 1))))), (5, .v (I ((i : Int) + 1)))], []⟩) (by kernel_rfl)
                                  refine ⟨a.length - (i + 1), by omega, i + 1, (hdl ((el a i).seen) (IntKind.i64.wrap ((IntKind.i64.wrap ((IntKind.i64.wrap ((IntKind.i64.wrap ((IntKind.i64.wrap ((IntKind.i64.wrap ((IntKind.i64.wrap ((IntKind.i64.wrap ((IntKind.i64.wrap ((hdl ((el a i).live) (hdl ((el a i).written) (IntKind.i64.wrap ((IntKind.i64.wrap ((hdl ((el a i).prog) j) + 1)) + 1)))) + 1)) + 1)) + 1)) + 1)) + 1)) + 1)) + 1)) + 1)) + 1))), _, _, _, rfl, ?_, ?_, S.cast (by kernel_rfl)⟩
                                  · clear S; first | omega | (simp [*]; done) | (simp [*]; omega)
                                  · clear S; (rw [hr, hd_step (by omega)]; simp [he_Guest, hdi, hdb, hdc, *])
  · have g54 : ¬ ((i : Int) < ((a).length : Int)) := of_decide_eq_false h1
    refine wp_exit (ex_then (ex_then (ex_hit (nx_then ?_))))
    refine wp_seq ?_
    refine RG.start ?_
    refine S.quiet (k := 2) (keep := [4]) (m := 0) (σ' := ⟨[(4, .v (I j))], []⟩) .nil (by kernel_rfl) ?_
    clear S; intro ac w β S
    refine RG.done rfl (nx_then ?_)
    refine wp_ret ?_
    refine S.ret (vs := [I j]) (by kernel_rfl) ?_
    exact ⟨retI (show j = hdl a k by clear S; (first | (rw [hr, hd_end (by omega)]; done) | (rw [hr, hd_step (by omega)]; simp [he_Guest, hdi, hdb, hdc, *]; done) | (rw [hr, hd_step (by omega)]; simp_all [he_Guest, hdi, hdb, hdc]; done))), S.chg⟩

set_option maxRecDepth 100000 in
theorem c_laws_heldKeptS (w0 : World) (a : List TKept) (pa : LP TKept) (ha : GT.rd KK (Lt w0.heap.size) w0 a pa) (k : Int) : Calls Go.Proofs.Try.prog 96 [slv (a).length pa.1, I k].toArray w0 (fun e w' => e = .returned (I (hdl a k)) ∧ Chg NoB w0 w') := by
  refine Calls.walk (args := [slv (a).length pa.1, I k]) NoB Go.Proofs.Try.func96 rfl rfl ?_
  intro ac β S
  have hlea : a.length ≤ 4194304 := LRd.le ha
  refine wp_seq ?_
  refine RG.start ?_
  refine S.quiet (k := 1) (keep := [0, 1]) (m := 0) (σ' := ⟨[(0, .v (slv (a).length pa.1)), (1, .v (I k))], []⟩) .nil (by kernel_rfl) ?_
  clear S; intro ac w β S
  refine RG.done rfl (nx_then ?_)
  refine wp_seq ?_
  refine wp_seq ?_
  refine RG.start ?_
  refine S.quiet (k := 1) (keep := [0, 1, 5]) (m := 0) (σ' := ⟨[(0, .v (slv (a).length pa.1)), (1, .v (I k)), (5, .v (I 0))], []⟩) .nil (by kernel_rfl) ?_
  clear S; intro ac w β S
  refine RG.done rfl (nx_then ?_)
  refine wp_block ?_
  replace S := S.prune (keep := [0, 1, 5]) (m := 0) (σ' := ⟨[(0, .v (slv (a).length pa.1)), (1, .v (I k)), (5, .v (I 0))], []⟩) (by kernel_rfl)
  refine wp_loop_down (fun mm ac w => ∃ (i : Nat) (j : Int)  (u : World) (N : Bl) (β : Nat → Nat), mm = a.length - i ∧ (i ≤ a.length) ∧ (hdl a k = hdlc (a.drop i) j id) ∧ St Go.Proofs.Try.prog Go.Proofs.Try.f96.ntmps w0 NoB u N β ⟨[(0, .v (slv (a).length pa.1)), (1, .v (I j)), (5, .v (I (i : Int)))], []⟩ ac w) _ ⟨0, k, _, _, _, rfl, (by first | omega | (simp; done) | (simp; omega)), (by rfl), S.cast (by kernel_rfl)⟩ ?_
  clear S
  rintro mm ac w ⟨i, j, u, N, β, rfl, hi, hr, S⟩
  refine wp_seq ?_
  refine wp_seq ?_
  refine RG.start ?_
  refine S.quiet (k := 4) (keep := [0, 1, 5, 9]) (m := 0) (σ' := ⟨[(0, .v (slv (a).length pa.1)), (1, .v (I j)), (5, .v (I (i : Int))), (9, .v (B (decide ((i : Int) < ((a).length : Int)))))], []⟩) .nil (by kernel_rfl) ?_
  clear S; intro ac w β S
  refine RG.done rfl (nx_then ?_)
  refine S.cond (e := (decide ((i : Int) < ((a).length : Int)))) (by kernel_rfl) (fun h1 => ?_) (fun h1 => ?_)
  · have g2 : (i : Int) < ((a).length : Int) := of_decide_eq_true h1
    refine wp_skip (nx_then ?_)
    refine wp_seq ?_
    refine wp_block ?_
    refine wp_seq ?_
    refine RG.start ?_
    refine S.quiet (k := 8) (keep := [0, 1, 5]) (m := 0) (σ' := ⟨[(0, .v (slv (a).length pa.1)), (1, .v (I (hdl ((el a i).known) j))), (5, .v (I (i : Int)))], []⟩) (.cons (Q_idx (S.arg ha) (l := (a).length) (k := i) (i := (i : Int)) rfl rfl (by omega) Go.Proofs.Try.underlying48 (by kernel_rfl)) (.cons (Q_cell (S.arg ha) (t := 46) (k := i) (j := 0) (v := slv ((el a i).known).length ((pa.2 i).known).1) (by omega) (by kernel_rfl) (by kernel_rfl)) (.cons (Q_call fun w hw => c_laws_heldBoolS w ((el a i).known) ((pa.2 i).known) (rd_of (RKept.known (d := (el a i)) (LRd.el (S.arg ha) i (by omega))) hw) j) .nil))) (by kernel_rfl) ?_
    clear S; intro ac w β S
    refine RG.done rfl (nx_then ?_)
    refine wp_seq ?_
    refine wp_seq ?_
    refine RG.start ?_
    refine S.quiet (k := 2) (keep := [0, 1, 5, 20]) (m := 0) (σ' := ⟨[(0, .v (slv (a).length pa.1)), (1, .v (I (hdl ((el a i).known) j))), (5, .v (I (i : Int))), (20, .v (B (decide ((hdl ((el a i).known) j) < 0))))], []⟩) .nil (by kernel_rfl) ?_
    clear S; intro ac w β S
    refine RG.done rfl (nx_then ?_)
    refine S.cond (e := (decide ((hdl ((el a i).known) j) < 0))) (by kernel_rfl) (fun h3 => ?_) (fun h3 => ?_)
    · have g4 : (hdl ((el a i).known) j) < 0 := of_decide_eq_true h3
      refine wp_seq ?_
      refine RG.start ?_
      refine S.quiet (k := 1) (keep := [4]) (m := 0) (σ' := ⟨[(4, .v (I (-1)))], []⟩) .nil (by kernel_rfl) ?_
      clear S; intro ac w β S
      refine RG.done rfl (nx_then ?_)
      refine wp_ret (rt_then (rt_block (rt_then (rt_then (rt_block (rt_then ?_))))))
      refine S.ret (vs := [I (-1)]) (by kernel_rfl) ?_
      exact ⟨retI (show (-1) = hdl a k by clear S; (first | (rw [hr, hd_end (by omega)]; done) | (rw [hr, hd_step (by omega)]; simp [he_Kept, hdi, hdb, hdc, *]; done) | (rw [hr, hd_step (by omega)]; simp_all [he_Kept, hdi, hdb, hdc]; done))), S.chg⟩
    · have g5 : ¬ ((hdl ((el a i).known) j) < 0) := of_decide_eq_false h3
      refine wp_skip (nx_then ?_)
      refine wp_seq ?_
      refine RG.start ?_
      refine S.quiet (k := 8) (keep := [0, 1, 5]) (m := 0) (σ' := ⟨[(0, .v (slv (a).length pa.1)), (1, .v (I (hdl ((el a i).slots) (hdl ((el a i).known) j)))), (5, .v (I (i : Int)))], []⟩) (.cons (Q_idx (S.arg ha) (l := (a).length) (k := i) (i := (i : Int)) rfl rfl (by omega) Go.Proofs.Try.underlying48 (by kernel_rfl)) (.cons (Q_cell (S.arg ha) (t := 45) (k := i) (j := 1) (v := slv ((el a i).slots).length ((pa.2 i).slots).1) (by omega) (by kernel_rfl) (by kernel_rfl)) (.cons (Q_call fun w hw => c_laws_heldSlotS w ((el a i).slots) ((pa.2 i).slots) (rd_of (RKept.slots (d := (el a i)) (LRd.el (S.arg ha) i (by omega))) hw) (hdl ((el a i).known) j)) .nil))) (by kernel_rfl) ?_
      clear S; intro ac w β S
      refine RG.done rfl (nx_then ?_)
      refine wp_seq ?_
      refine RG.start ?_
      refine S.quiet (k := 2) (keep := [0, 1, 5, 29]) (m := 0) (σ' := ⟨[(0, .v (slv (a).length pa.1)), (1, .v (I (hdl ((el a i).slots) (hdl ((el a i).known) j)))), (5, .v (I (i : Int))), (29, .v (B (decide ((hdl ((el a i).slots) (hdl ((el a i).known) j)) < 0))))], []⟩) .nil (by kernel_rfl) ?_
      clear S; intro ac w β S
      refine RG.done rfl (nx_then ?_)
      refine S.cond (e := (decide ((hdl ((el a i).slots) (hdl ((el a i).known) j)) < 0))) (by kernel_rfl) (fun h6 => ?_) (fun h6 => ?_)
      · have g7 : (hdl ((el a i).slots) (hdl ((el a i).known) j)) < 0 := of_decide_eq_true h6
        refine wp_seq ?_
        refine RG.start ?_
        refine S.quiet (k := 1) (keep := [4]) (m := 0) (σ' := ⟨[(4, .v (I (-1)))], []⟩) .nil (by kernel_rfl) ?_
        clear S; intro ac w β S
        refine RG.done rfl (nx_then ?_)
        refine wp_ret (rt_block (rt_then (rt_then (rt_block (rt_then ?_)))))
        refine S.ret (vs := [I (-1)]) (by kernel_rfl) ?_
        exact ⟨retI (show (-1) = hdl a k by clear S; (first | (rw [hr, hd_end (by omega)]; done) | (rw [hr, hd_step (by omega)]; simp [he_Kept, hdi, hdb, hdc, *]; done) | (rw [hr, hd_step (by omega)]; simp_all [he_Kept, hdi, hdb, hdc]; done))), S.chg⟩
      · have g8 : ¬ ((hdl ((el a i).slots) (hdl ((el a i).known) j)) < 0) := of_decide_eq_false h6
        refine wp_skip (nx_block (nx_then ?_))
        refine RG.start ?_
        refine S.quiet (k := 3) (keep := [0, 1, 5]) (m := 0) (σ' := ⟨[(0, .v (slv (a).length pa.1)), (1, .v (I (hdl ((el a i).slots) (hdl ((el a i).known) j)))), (5, .v (I ((i : Int) + 1)))], []⟩) (.cons (Q_add (x := (i : Int)) (y := 1) ⟨by omega, by omega⟩) .nil) (by kernel_rfl) ?_
        clear S; intro ac w β S
        refine RG.done rfl (nx_then ?_)
        replace S := S.prune (keep := [0, 1, 5]) (m := 0) (σ' := ⟨[(0, .v (slv (a).length pa.1)), (1, .v (I (hdl ((el a i).slots) (hdl ((el a i).known) j)))), (5, .v (I ((i : Int) + 1)))], []⟩) (by kernel_rfl)
        refine ⟨a.length - (i + 1), by omega, i + 1, (hdl ((el a i).slots) (hdl ((el a i).known) j)), _, _, _, rfl, ?_, ?_, S.cast (by kernel_rfl)⟩
        · clear S; first | omega | (simp [*]; done) | (simp [*]; omega)
        · clear S; (rw [hr, hd_step (by omega)]; simp [he_Kept, hdi, hdb, hdc, *])
  · have g9 : ¬ ((i : Int) < ((a).length : Int)) := of_decide_eq_false h1
    refine wp_exit (ex_then (ex_then (ex_hit (nx_then ?_))))
    refine wp_seq ?_
    refine RG.start ?_
    refine S.quiet (k := 2) (keep := [4]) (m := 0) (σ' := ⟨[(4, .v (I j))], []⟩) .nil (by kernel_rfl) ?_
    clear S; intro ac w β S
    refine RG.done rfl (nx_then ?_)
    refine wp_ret ?_
    refine S.ret (vs := [I j]) (by kernel_rfl) ?_
    exact ⟨retI (show j = hdl a k by clear S; (first | (rw [hr, hd_end (by omega)]; done) | (rw [hr, hd_step (by omega)]; simp [he_Kept, hdi, hdb, hdc, *]; done) | (rw [hr, hd_step (by omega)]; simp_all [he_Kept, hdi, hdb, hdc]; done))), S.chg⟩

set_option maxRecDepth 100000 in
theorem c_laws_heldMon (w0 : World) (a : TMon) (pa : PMon) (ha : GT.rd KK (Lt w0.heap.size) w0 a pa) (k : Int) : Calls Go.Proofs.Try.prog 30 [GT.val (α := TMon) a pa, I k].toArray w0 (fun e w' => e = .returned (I (hdT_Mon a k)) ∧ Chg NoB w0 w') := by
  refine Calls.walk (args := [GT.val (α := TMon) a pa, I k]) NoB Go.Proofs.Try.func30 rfl rfl ?_
  intro ac β S
  have hlea_outer : a.outer.length ≤ 4194304 := LRd.le (RMon.outer (d := a) ha)
  have hlea_out : a.out.length ≤ 4194304 := LRd.le (RMon.out (d := a) ha)
  have hlea_dirty : a.dirty.length ≤ 4194304 := LRd.le (RMon.dirty (d := a) ha)
  have hlea_guests : a.guests.length ≤ 4194304 := LRd.le (RMon.guests (d := a) ha)
  have hlea_outs : a.outs.length ≤ 4194304 := LRd.le (RMon.outs (d := a) ha)
  have hlea_tables : a.tables.length ≤ 4194304 := LRd.le (RMon.tables (d := a) ha)
  refine wp_seq ?_
  refine RG.start ?_
  refine S.quiet (k := 2) (keep := [1, 2]) (m := 1) (σ' := ⟨[(1, .v (I k)), (2, .p 0 0)], [GT.cells (α := TMon) a pa]⟩) .nil (by kernel_rfl) ?_
  clear S; intro ac w β S
  refine RG.done rfl (nx_then ?_)
  refine wp_seq ?_
  refine RG.start ?_
  refine S.quiet (k := 5) (keep := [1, 2]) (m := 1) (σ' := ⟨[(1, .v (I (hdl a.outer k))), (2, .p 0 0)], [GT.cells (α := TMon) a pa]⟩) (.cons (Q_call fun w hw => c_laws_heldSlotS w a.outer pa.outer (rd_of (RMon.outer (d := a) (S.arg ha)) hw) k) .nil) (by kernel_rfl) ?_
  clear S; intro ac w β S
  refine RG.done rfl (nx_then ?_)
  refine wp_seq ?_
  refine wp_seq ?_
  refine RG.start ?_
  refine S.quiet (k := 2) (keep := [1, 2, 10]) (m := 1) (σ' := ⟨[(1, .v (I (hdl a.outer k))), (2, .p 0 0), (10, .v (B (decide ((hdl a.outer k) < 0))))], [GT.cells (α := TMon) a pa]⟩) .nil (by kernel_rfl) ?_
  clear S; intro ac w β S
  refine RG.done rfl (nx_then ?_)
  refine S.cond (e := (decide ((hdl a.outer k) < 0))) (by kernel_rfl) (fun h1 => ?_) (fun h1 => ?_)
  · have g2 : (hdl a.outer k) < 0 := of_decide_eq_true h1
    refine wp_seq ?_
    refine RG.start ?_
    refine S.quiet (k := 1) (keep := [4]) (m := 0) (σ' := ⟨[(4, .v (I (-1)))], []⟩) .nil (by kernel_rfl) ?_
    clear S; intro ac w β S
    refine RG.done rfl (nx_then ?_)
    refine wp_ret (rt_then ?_)
    refine S.ret (vs := [I (-1)]) (by kernel_rfl) ?_
    exact ⟨retI (show (-1) = hdT_Mon a k by clear S; (simp [hdT_Mon, hdc, *])), S.chg⟩
  · have g3 : ¬ ((hdl a.outer k) < 0) := of_decide_eq_false h1
    refine wp_skip (nx_then ?_)
    refine wp_seq ?_
    refine RG.start ?_
    refine S.quiet (k := 5) (keep := [1, 2]) (m := 1) (σ' := ⟨[(1, .v (I (hdl a.out (hdl a.outer k)))), (2, .p 0 0)], [GT.cells (α := TMon) a pa]⟩) (.cons (Q_call fun w hw => c_laws_heldIntSS w a.out pa.out (rd_of (RMon.out (d := a) (S.arg ha)) hw) (hdl a.outer k)) .nil) (by kernel_rfl) ?_
    clear S; intro ac w β S
    refine RG.done rfl (nx_then ?_)
    refine wp_seq ?_
    refine wp_seq ?_
    refine RG.start ?_
    refine S.quiet (k := 2) (keep := [1, 2, 16]) (m := 1) (σ' := ⟨[(1, .v (I (hdl a.out (hdl a.outer k)))), (2, .p 0 0), (16, .v (B (decide ((hdl a.out (hdl a.outer k)) < 0))))], [GT.cells (α := TMon) a pa]⟩) .nil (by kernel_rfl) ?_
    clear S; intro ac w β S
    refine RG.done rfl (nx_then ?_)
    refine S.cond (e := (decide ((hdl a.out (hdl a.outer k)) < 0))) (by kernel_rfl) (fun h4 => ?_) (fun h4 => ?_)
    · have g5 : (hdl a.out (hdl a.outer k)) < 0 := of_decide_eq_true h4
      refine wp_seq ?_
      refine RG.start ?_
      refine S.quiet (k := 1) (keep := [4]) (m := 0) (σ' := ⟨[(4, .v (I (-1)))], []⟩) .nil (by kernel_rfl) ?_
      clear S; intro ac w β S
      refine RG.done rfl (nx_then ?_)
      refine wp_ret (rt_then ?_)
      refine S.ret (vs := [I (-1)]) (by kernel_rfl) ?_
      exact ⟨retI (show (-1) = hdT_Mon a k by clear S; (simp [hdT_Mon, hdc, *])), S.chg⟩
    · have g6 : ¬ ((hdl a.out (hdl a.outer k)) < 0) := of_decide_eq_false h4
      refine wp_skip (nx_then ?_)
      refine wp_seq ?_
      refine RG.start ?_
      refine S.quiet (k := 5) (keep := [1, 2]) (m := 1) (σ' := ⟨[(1, .v (I (hdl a.dirty (hdl a.out (hdl a.outer k))))), (2, .p 0 0)], [GT.cells (α := TMon) a pa]⟩) (.cons (Q_call fun w hw => c_laws_heldBoolS w a.dirty pa.dirty (rd_of (RMon.dirty (d := a) (S.arg ha)) hw) (hdl a.out (hdl a.outer k))) .nil) (by kernel_rfl) ?_
      clear S; intro ac w β S
      refine RG.done rfl (nx_then ?_)
      refine wp_seq ?_
      refine wp_seq ?_
      refine RG.start ?_
      refine S.quiet (k := 2) (keep := [1, 2, 22]) (m := 1) (σ' := ⟨[(1, .v (I (hdl a.dirty (hdl a.out (hdl a.outer k))))), (2, .p 0 0), (22, .v (B (decide ((hdl a.dirty (hdl a.out (hdl a.outer k))) < 0))))], [GT.cells (α := TMon) a pa]⟩) .nil (by kernel_rfl) ?_
      clear S; intro ac w β S
      refine RG.done rfl (nx_then ?_)
      refine S.cond (e := (decide ((hdl a.dirty (hdl a.out (hdl a.outer k))) < 0))) (by kernel_rfl) (fun h7 => ?_) (fun h7 => ?_)
      · have g8 : (hdl a.dirty (hdl a.out (hdl a.outer k))) < 0 := of_decide_eq_true h7
        refine wp_seq ?_
        refine RG.start ?_
        refine S.quiet (k := 1) (keep := [4]) (m := 0) (σ' := ⟨[(4, .v (I (-1)))], []⟩) .nil (by kernel_rfl) ?_
        clear S; intro ac w β S
        refine RG.done rfl (nx_then ?_)
        refine wp_ret (rt_then ?_)
        refine S.ret (vs := [I (-1)]) (by kernel_rfl) ?_
        exact ⟨retI (show (-1) = hdT_Mon a k by clear S; (simp [hdT_Mon, hdc, *])), S.chg⟩
      · have g9 : ¬ ((hdl a.dirty (hdl a.out (hdl a.outer k))) < 0) := of_decide_eq_false h7
        refine wp_skip (nx_then ?_)
        refine wp_seq ?_
        refine RG.start ?_
        refine S.quiet (k := 5) (keep := [1, 2]) (m := 1) (σ' := ⟨[(1, .v (I (hdl a.guests (hdl a.dirty (hdl a.out (hdl a.outer k)))))), (2, .p 0 0)], [GT.cells (α := TMon) a pa]⟩) (.cons (Q_call fun w hw => c_laws_heldGuestS w a.guests pa.guests (rd_of (RMon.guests (d := a) (S.arg ha)) hw) (hdl a.dirty (hdl a.out (hdl a.outer k)))) .nil) (by kernel_rfl) ?_
        clear S; intro ac w β S
        refine RG.done rfl (nx_then ?_)
        refine wp_seq ?_
        refine wp_seq ?_
        refine RG.start ?_
        refine S.quiet (k := 2) (keep := [1, 2, 28]) (m := 1) (σ' := ⟨[(1, .v (I (hdl a.guests (hdl a.dirty (hdl a.out (hdl a.outer k)))))), (2, .p 0 0), (28, .v (B (decide ((hdl a.guests (hdl a.dirty (hdl a.out (hdl a.outer k)))) < 0))))], [GT.cells (α := TMon) a pa]⟩) .nil (by kernel_rfl) ?_
        clear S; intro ac w β S
        refine RG.done rfl (nx_then ?_)
        refine S.cond (e := (decide ((hdl a.guests (hdl a.dirty (hdl a.out (hdl a.outer k)))) < 0))) (by kernel_rfl) (fun h10 => ?_) (fun h10 => ?_)
        · have g11 : (hdl a.guests (hdl a.dirty (hdl a.out (hdl a.outer k)))) < 0 := of_decide_eq_true h10
          refine wp_seq ?_
          refine RG.start ?_
          refine S.quiet (k := 1) (keep := [4]) (m := 0) (σ' := ⟨[(4, .v (I (-1)))], []⟩) .nil (by kernel_rfl) ?_
          clear S; intro ac w β S
          refine RG.done rfl (nx_then ?_)
          refine wp_ret (rt_then ?_)
          refine S.ret (vs := [I (-1)]) (by kernel_rfl) ?_
          exact ⟨retI (show (-1) = hdT_Mon a k by clear S; (simp [hdT_Mon, hdc, *])), S.chg⟩
        · have g12 : ¬ ((hdl a.guests (hdl a.dirty (hdl a.out (hdl a.outer k)))) < 0) := of_decide_eq_false h10
          refine wp_skip (nx_then ?_)
          refine wp_seq ?_
          refine RG.start ?_
          refine S.quiet (k := 5) (keep := [1, 2]) (m := 1) (σ' := ⟨[(1, .v (I (hdl a.outs (hdl a.guests (hdl a.dirty (hdl a.out (hdl a.outer k))))))), (2, .p 0 0)], [GT.cells (α := TMon) a pa]⟩) (.cons (Q_call fun w hw => c_laws_heldIntS w a.outs pa.outs (rd_of (RMon.outs (d := a) (S.arg ha)) hw) (hdl a.guests (hdl a.dirty (hdl a.out (hdl a.outer k))))) .nil) (by kernel_rfl) ?_
          clear S; intro ac w β S
          refine RG.done rfl (nx_then ?_)
          refine wp_seq ?_
          refine wp_seq ?_
          refine RG.start ?_
          refine S.quiet (k := 2) (keep := [1, 2, 34]) (m := 1) (σ' := ⟨[(1, .v (I (hdl a.outs (hdl a.guests (hdl a.dirty (hdl a.out (hdl a.outer k))))))), (2, .p 0 0), (34, .v (B (decide ((hdl a.outs (hdl a.guests (hdl a.dirty (hdl a.out (hdl a.outer k))))) < 0))))], [GT.cells (α := TMon) a pa]⟩) .nil (by kernel_rfl) ?_
          clear S; intro ac w β S
          refine RG.done rfl (nx_then ?_)
          refine S.cond (e := (decide ((hdl a.outs (hdl a.guests (hdl a.dirty (hdl a.out (hdl a.outer k))))) < 0))) (by kernel_rfl) (fun h13 => ?_) (fun h13 => ?_)
          · have g14 : (hdl a.outs (hdl a.guests (hdl a.dirty (hdl a.out (hdl a.outer k))))) < 0 := of_decide_eq_true h13
            refine wp_seq ?_
            refine RG.start ?_
            refine S.quiet (k := 1) (keep := [4]) (m := 0) (σ' := ⟨[(4, .v (I (-1)))], []⟩) .nil (by kernel_rfl) ?_
            clear S; intro ac w β S
            refine RG.done rfl (nx_then ?_)
            refine wp_ret (rt_then ?_)
            refine S.ret (vs := [I (-1)]) (by kernel_rfl) ?_
            exact ⟨retI (show (-1) = hdT_Mon a k by clear S; (simp [hdT_Mon, hdc, *])), S.chg⟩
          · have g15 : ¬ ((hdl a.outs (hdl a.guests (hdl a.dirty (hdl a.out (hdl a.outer k))))) < 0) := of_decide_eq_false h13
            refine wp_skip (nx_then ?_)
            refine wp_seq ?_
            refine RG.start ?_
            refine S.quiet (k := 5) (keep := [1]) (m := 0) (σ' := ⟨[(1, .v (I (hdl a.tables (hdl a.outs (hdl a.guests (hdl a.dirty (hdl a.out (hdl a.outer k))))))))], []⟩) (.cons (Q_call fun w hw => c_laws_heldKeptS w a.tables pa.tables (rd_of (RMon.tables (d := a) (S.arg ha)) hw) (hdl a.outs (hdl a.guests (hdl a.dirty (hdl a.out (hdl a.outer k)))))) .nil) (by kernel_rfl) ?_
            clear S; intro ac w β S
            refine RG.done rfl (nx_then ?_)
            refine wp_seq ?_
            refine wp_seq ?_
            refine RG.start ?_
            refine S.quiet (k := 2) (keep := [1, 40]) (m := 0) (σ' := ⟨[(1, .v (I (hdl a.tables (hdl a.outs (hdl a.guests (hdl a.dirty (hdl a.out (hdl a.outer k)))))))), (40, .v (B (decide ((hdl a.tables (hdl a.outs (hdl a.guests (hdl a.dirty (hdl a.out (hdl a.outer k)))))) < 0))))], []⟩) .nil (by kernel_rfl) ?_
            clear S; intro ac w β S
            refine RG.done rfl (nx_then ?_)
            refine S.cond (e := (decide ((hdl a.tables (hdl a.outs (hdl a.guests (hdl a.dirty (hdl a.out (hdl a.outer k)))))) < 0))) (by kernel_rfl) (fun h16 => ?_) (fun h16 => ?_)
            · have g17 : (hdl a.tables (hdl a.outs (hdl a.guests (hdl a.dirty (hdl a.out (hdl a.outer k)))))) < 0 := of_decide_eq_true h16
              refine wp_seq ?_
              refine RG.start ?_
              refine S.quiet (k := 1) (keep := [4]) (m := 0) (σ' := ⟨[(4, .v (I (-1)))], []⟩) .nil (by kernel_rfl) ?_
              clear S; intro ac w β S
              refine RG.done rfl (nx_then ?_)
              refine wp_ret (rt_then ?_)
              refine S.ret (vs := [I (-1)]) (by kernel_rfl) ?_
              exact ⟨retI (show (-1) = hdT_Mon a k by clear S; (simp [hdT_Mon, hdc, *])), S.chg⟩
            · have g18 : ¬ ((hdl a.tables (hdl a.outs (hdl a.guests (hdl a.dirty (hdl a.out (hdl a.outer k)))))) < 0) := of_decide_eq_false h16
              refine wp_skip (nx_then ?_)
              refine wp_seq ?_
              refine RG.start ?_
              refine S.quiet (k := 2) (keep := [4]) (m := 0) (σ' := ⟨[(4, .v (I (hdl a.tables (hdl a.outs (hdl a.guests (hdl a.dirty (hdl a.out (hdl a.outer k))))))))], []⟩) .nil (by kernel_rfl) ?_
              clear S; intro ac w β S
              refine RG.done rfl (nx_then ?_)
              refine wp_ret ?_
              refine S.ret (vs := [I (hdl a.tables (hdl a.outs (hdl a.guests (hdl a.dirty (hdl a.out (hdl a.outer k))))))]) (by kernel_rfl) ?_
              exact ⟨retI (show (hdl a.tables (hdl a.outs (hdl a.guests (hdl a.dirty (hdl a.out (hdl a.outer k)))))) = hdT_Mon a k by clear S; (simp [hdT_Mon, hdc, *])), S.chg⟩

set_option maxRecDepth 100000 in
theorem c_laws_FnExactMonAt (w0 : World) (aH : THost) (paH : PHost) (haH : GT.rd KR (Lt w0.heap.size) w0 aH paH) (aM : Int) : Calls Go.Proofs.Try.prog 8 [GT.val (α := THost) aH paH, I aM].toArray w0 (fun e w' => e = .returned (B true) ∧ Chg NoB w0 w') := by
  refine Calls.walk (args := [GT.val (α := THost) aH paH, I aM]) NoB Go.Proofs.Try.func8 rfl rfl ?_
  intro ac β S
  refine wp_seq ?_
  refine RG.start ?_
  refine S.quiet (k := 2) (keep := [1, 2]) (m := 1) (σ' := ⟨[(1, .v (I aM)), (2, .p 0 0)], [GT.cells (α := THost) aH paH]⟩) .nil (by kernel_rfl) ?_
  clear S; intro ac w β S
  refine RG.done rfl (nx_then ?_)
  refine wp_seq ?_
  refine RG.start ?_
  refine S.quiet (k := 1) (keep := [1, 2, 5]) (m := 1) (σ' := ⟨[(1, .v (I aM)), (2, .p 0 0), (5, .v (I 1048576))], [GT.cells (α := THost) aH paH]⟩) .nil (by kernel_rfl) ?_
  clear S; intro ac w β S
  refine RG.done rfl (nx_then ?_)
  refine wp_seq ?_
  refine RG.start ?_
  have b1 := f_sz_cs (SZ.sz aH) 1048576
  refine S.quiet (k := 4) (keep := [1, 2, 5]) (m := 1) (σ' := ⟨[(1, .v (I aM)), (2, .p 0 0), (5, .v (I (f_sz (SZ.sz aH) 1048576)))], [GT.cells (α := THost) aH paH]⟩) (.cons (Q_call fun w hw => c_laws_szHost w aH paH (rd_of (S.arg haH) hw) 1048576 (by omega) (by omega)) .nil) (by kernel_rfl) ?_
  clear S; intro ac w β S
  refine RG.done rfl (nx_then ?_)
  refine wp_seq ?_
  refine wp_seq ?_
  refine RG.start ?_
  refine S.quiet (k := 2) (keep := [1, 2, 20]) (m := 1) (σ' := ⟨[(1, .v (I aM)), (2, .p 0 0), (20, .v (B (decide ((f_sz (SZ.sz aH) 1048576) < 0))))], [GT.cells (α := THost) aH paH]⟩) .nil (by kernel_rfl) ?_
  clear S; intro ac w β S
  refine RG.done rfl (nx_then ?_)
  refine S.cond (e := (decide ((f_sz (SZ.sz aH) 1048576) < 0))) (by kernel_rfl) (fun h2 => ?_) (fun h2 => ?_)
  · have g3 : (f_sz (SZ.sz aH) 1048576) < 0 := of_decide_eq_true h2
    refine wp_seq ?_
    refine RG.start ?_
    refine S.quiet (k := 1) (keep := [4]) (m := 0) (σ' := ⟨[(4, .v (B true))], []⟩) .nil (by kernel_rfl) ?_
    clear S; intro ac w β S
    refine RG.done rfl (nx_then ?_)
    refine wp_ret (rt_then ?_)
    refine S.ret (vs := [B true]) (by kernel_rfl) ?_
    exact ⟨retB (show true = true by clear S; first | rfl | (exfalso; omega) | (exfalso; simp_all; done) | (exfalso; simp_all; omega)), S.chg⟩
  · have g4 : ¬ ((f_sz (SZ.sz aH) 1048576) < 0) := of_decide_eq_false h2
    have hkaH : GT.rd KK (Lt w0.heap.size) w0 aH paH := SZ.cut haH (show SZ.sz aH ≤ 4194304 by omega)
    have hcaH : SZ.sz aH ≤ 1048576 := by omega
    refine wp_skip (nx_then ?_)
    refine wp_seq ?_
    refine RG.start ?_
    refine S.quiet (k := 1) (keep := [1, 2, 22]) (m := 1) (σ' := ⟨[(1, .v (I aM)), (2, .p 0 0), (22, .v (GT.val (α := THost) aH paH))], [GT.cells (α := THost) aH paH]⟩) .nil (by kernel_rfl) ?_
    clear S; intro ac w β S
    refine RG.op rfl (S.call1 (r := aH) (d := 23) (c_laws_toHost w aH paH (S.rd (S.arg hkaH))) (by kernel_rfl) rfl ?_)
    clear S; intro ac w N q5 F6 S up o7 d8
    clear up d8
    obtain ⟨F9, F12, F15, F18, o10, o13, o16, o19, s11, s14, s17, s20, d21, d22, d23, d24, d25, d26⟩ := sp_Host o7
    refine S.quiet (k := 1) (keep := [1, 2, 23, 24]) (m := 1) (σ' := ⟨[(1, .v (I aM)), (2, .p 0 0), (23, .v (GT.val (α := THost) aH q5)), (24, .v (I aM))], [GT.cells (α := THost) aH paH]⟩) .nil (by kernel_rfl) ?_
    clear S; intro ac w β S
    refine RG.op rfl (S.call2 (r := (f_monAt aH aM).1) (r' := (f_monAt aH aM).2) (d := 25) (c_spec_MonAt w aH q5 (S.rd (show GT.rd KK _ _ aH q5 from ⟨o10.rn, o13.rn, o16.rn, o19.rn⟩)) aM) (by kernel_rfl) rfl ?_)
    clear S; intro ac w N q27 q28 F29 F30 S up o31 o32 d33 d34 d35
    have d36 : Disj F9 F30 := fun b x y => d34 b (o10.sub b x) y
    have d37 : Disj F12 F30 := fun b x y => d34 b (o13.sub b x) y
    have d38 : Disj F15 F30 := fun b x y => d34 b (o16.sub b x) y
    have d39 : Disj F18 F30 := fun b x y => d34 b (o19.sub b x) y
    have d40 : Disj F9 F29 := fun b x y => d33 b (o10.sub b x) y
    have d41 : Disj F12 F29 := fun b x y => d33 b (o13.sub b x) y
    have d42 : Disj F15 F29 := fun b x y => d33 b (o16.sub b x) y
    have d43 : Disj F18 F29 := fun b x y => d33 b (o19.sub b x) y
    replace o10 := o10.up up
    replace o13 := o13.up up
    replace o16 := o16.up up
    replace o19 := o19.up up
    clear up d33
    clear d34
    have i59 : In64 ((f_monAt aH aM).1).pend := RMon.pend (d := ((f_monAt aH aM).1)) o31.rn
    have i60 : In64 ((f_monAt aH aM).1).traps := RMon.traps (d := ((f_monAt aH aM).1)) o31.rn
    have i64 : In64 ((f_monAt aH aM).1).owned := RMon.owned (d := ((f_monAt aH aM).1)) o31.rn
    obtain ⟨F44, F47, F50, F53, F56, F61, o45, o48, o51, o54, o57, o62, s46, s49, s52, s55, s58, s63, d65, d66, d67, d68, d69, d70, d71, d72, d73, d74, d75, d76, d77, d78, d79⟩ := sp_Mon o31
    refine S.quiet (k := 6) (keep := [1, 2, 6, 7]) (m := 2) (σ' := ⟨[(1, .v (I aM)), (2, .p 0 0), (6, .p 1 0), (7, .v (B ((f_monAt aH aM).2)))], [GT.cells (α := THost) aH paH, [slv (((f_monAt aH aM).1).outer).length q27.outer.1, slv (((f_monAt aH aM).1).out).length q27.out.1, slv (((f_monAt aH aM).1).dirty).length q27.dirty.1, slv (((f_monAt aH aM).1).guests).length q27.guests.1, slv (((f_monAt aH aM).1).outs).length q27.outs.1, I (((f_monAt aH aM).1).pend), I (((f_monAt aH aM).1).traps), slv (((f_monAt aH aM).1).tables).length q27.tables.1, I (((f_monAt aH aM).1).owned)]]⟩) .nil (by kernel_rfl) ?_
    clear S; intro ac w β S
    refine RG.done rfl (nx_then ?_)
    refine wp_seq ?_
    refine RG.start ?_
    refine S.quiet (k := 1) (keep := [1, 2, 6, 7, 28]) (m := 2) (σ' := ⟨[(1, .v (I aM)), (2, .p 0 0), (6, .p 1 0), (7, .v (B ((f_monAt aH aM).2))), (28, .v (GT.val (α := THost) aH paH))], [GT.cells (α := THost) aH paH, [slv (((f_monAt aH aM).1).outer).length q27.outer.1, slv (((f_monAt aH aM).1).out).length q27.out.1, slv (((f_monAt aH aM).1).dirty).length q27.dirty.1, slv (((f_monAt aH aM).1).guests).length q27.guests.1, slv (((f_monAt aH aM).1).outs).length q27.outs.1, I (((f_monAt aH aM).1).pend), I (((f_monAt aH aM).1).traps), slv (((f_monAt aH aM).1).tables).length q27.tables.1, I (((f_monAt aH aM).1).owned)]]⟩) .nil (by kernel_rfl) ?_
    clear S; intro ac w β S
    refine RG.op rfl (S.call1 (r := aH) (d := 29) (c_laws_toHost w aH paH (S.rd (S.arg hkaH))) (by kernel_rfl) rfl ?_)
    clear S; intro ac w N q80 F81 S up o82 d83
    have d84 : Disj F44 F81 := fun b x y => d83 b (o45.sub b x) y
    have d85 : Disj F47 F81 := fun b x y => d83 b (o48.sub b x) y
    have d86 : Disj F50 F81 := fun b x y => d83 b (o51.sub b x) y
    have d87 : Disj F53 F81 := fun b x y => d83 b (o54.sub b x) y
    have d88 : Disj F56 F81 := fun b x y => d83 b (o57.sub b x) y
    have d89 : Disj F61 F81 := fun b x y => d83 b (o62.sub b x) y
    replace o45 := o45.up up
    replace o48 := o48.up up
    replace o51 := o51.up up
    replace o54 := o54.up up
    replace o57 := o57.up up
    replace o62 := o62.up up
    clear up d83
    obtain ⟨F90, F93, F96, F99, o91, o94, o97, o100, s92, s95, s98, s101, d102, d103, d104, d105, d106, d107⟩ := sp_Host o82
    refine S.quiet (k := 2) (keep := [1, 2, 6, 7, 8]) (m := 3) (σ' := ⟨[(1, .v (I aM)), (2, .p 0 0), (6, .p 1 0), (7, .v (B ((f_monAt aH aM).2))), (8, .p 2 0)], [GT.cells (α := THost) aH paH, [slv (((f_monAt aH aM).1).outer).length q27.outer.1, slv (((f_monAt aH aM).1).out).length q27.out.1, slv (((f_monAt aH aM).1).dirty).length q27.dirty.1, slv (((f_monAt aH aM).1).guests).length q27.guests.1, slv (((f_monAt aH aM).1).outs).length q27.outs.1, I (((f_monAt aH aM).1).pend), I (((f_monAt aH aM).1).traps), slv (((f_monAt aH aM).1).tables).length q27.tables.1, I (((f_monAt aH aM).1).owned)], [slv (aH.mem).length q80.mem.1, slv (aH.mons).length q80.mons.1, slv (aH.buf).length q80.buf.1, slv (aH.iobuf).length q80.iobuf.1]]⟩) .nil (by kernel_rfl) ?_
    clear S; intro ac w β S
    refine RG.done rfl (nx_then ?_)
    refine wp_seq ?_
    refine RG.start ?_
    refine S.quiet (k := 2) (keep := [1, 2, 6, 7, 8, 31, 32]) (m := 3) (σ' := ⟨[(1, .v (I aM)), (2, .p 0 0), (6, .p 1 0), (7, .v (B ((f_monAt aH aM).2))), (8, .p 2 0), (31, .v (GT.val (α := THost) aH q80)), (32, .v (I aM))], [GT.cells (α := THost) aH paH, [slv (((f_monAt aH aM).1).outer).length q27.outer.1, slv (((f_monAt aH aM).1).out).length q27.out.1, slv (((f_monAt aH aM).1).dirty).length q27.dirty.1, slv (((f_monAt aH aM).1).guests).length q27.guests.1, slv (((f_monAt aH aM).1).outs).length q27.outs.1, I (((f_monAt aH aM).1).pend), I (((f_monAt aH aM).1).traps), slv (((f_monAt aH aM).1).tables).length q27.tables.1, I (((f_monAt aH aM).1).owned)], [slv (aH.mem).length q80.mem.1, slv (aH.mons).length q80.mons.1, slv (aH.buf).length q80.buf.1, slv (aH.iobuf).length q80.iobuf.1]]⟩) .nil (by kernel_rfl) ?_
    clear S; intro ac w β S
    refine RG.op rfl (S.call2 (r := (f_monAt aH aM).1) (r' := (f_monAt aH aM).2) (d := 33) (c_impl_MonAt w aH q80 (S.rd (show GT.rd KK _ _ aH q80 from ⟨o91.rn, o94.rn, o97.rn, o100.rn⟩)) aM) (by kernel_rfl) rfl ?_)
    clear S; intro ac w N q108 q109 F110 F111 S up o112 o113 d114 d115 d116
    have d117 : Disj F44 F111 := fun b x y => d115 b (o45.sub b x) y
    have d118 : Disj F47 F111 := fun b x y => d115 b (o48.sub b x) y
    have d119 : Disj F50 F111 := fun b x y => d115 b (o51.sub b x) y
    have d120 : Disj F53 F111 := fun b x y => d115 b (o54.sub b x) y
    have d121 : Disj F56 F111 := fun b x y => d115 b (o57.sub b x) y
    have d122 : Disj F61 F111 := fun b x y => d115 b (o62.sub b x) y
    have d123 : Disj F90 F111 := fun b x y => d115 b (o91.sub b x) y
    have d124 : Disj F93 F111 := fun b x y => d115 b (o94.sub b x) y
    have d125 : Disj F96 F111 := fun b x y => d115 b (o97.sub b x) y
    have d126 : Disj F99 F111 := fun b x y => d115 b (o100.sub b x) y
    have d127 : Disj F44 F110 := fun b x y => d114 b (o45.sub b x) y
    have d128 : Disj F47 F110 := fun b x y => d114 b (o48.sub b x) y
    have d129 : Disj F50 F110 := fun b x y => d114 b (o51.sub b x) y
    have d130 : Disj F53 F110 := fun b x y => d114 b (o54.sub b x) y
    have d131 : Disj F56 F110 := fun b x y => d114 b (o57.sub b x) y
    have d132 : Disj F61 F110 := fun b x y => d114 b (o62.sub b x) y
    have d133 : Disj F90 F110 := fun b x y => d114 b (o91.sub b x) y
    have d134 : Disj F93 F110 := fun b x y => d114 b (o94.sub b x) y
    have d135 : Disj F96 F110 := fun b x y => d114 b (o97.sub b x) y
    have d136 : Disj F99 F110 := fun b x y => d114 b (o100.sub b x) y
    replace o45 := o45.up up
    replace o48 := o48.up up
    replace o51 := o51.up up
    replace o54 := o54.up up
    replace o57 := o57.up up
    replace o62 := o62.up up
    replace o91 := o91.up up
    replace o94 := o94.up up
    replace o97 := o97.up up
    replace o100 := o100.up up
    clear up d114
    clear d115
    have i152 : In64 ((f_monAt aH aM).1).pend := RMon.pend (d := ((f_monAt aH aM).1)) o112.rn
    have i153 : In64 ((f_monAt aH aM).1).traps := RMon.traps (d := ((f_monAt aH aM).1)) o112.rn
    have i157 : In64 ((f_monAt aH aM).1).owned := RMon.owned (d := ((f_monAt aH aM).1)) o112.rn
    obtain ⟨F137, F140, F143, F146, F149, F154, o138, o141, o144, o147, o150, o155, s139, s142, s145, s148, s151, s156, d158, d159, d160, d161, d162, d163, d164, d165, d166, d167, d168, d169, d170, d171, d172⟩ := sp_Mon o112
    refine S.quiet (k := 6) (keep := [1, 2, 6, 7, 8, 9, 10]) (m := 4) (σ' := ⟨[(1, .v (I aM)), (2, .p 0 0), (6, .p 1 0), (7, .v (B ((f_monAt aH aM).2))), (8, .p 2 0), (9, .p 3 0), (10, .v (B ((f_monAt aH aM).2)))], [GT.cells (α := THost) aH paH, [slv (((f_monAt aH aM).1).outer).length q27.outer.1, slv (((f_monAt aH aM).1).out).length q27.out.1, slv (((f_monAt aH aM).1).dirty).length q27.dirty.1, slv (((f_monAt aH aM).1).guests).length q27.guests.1, slv (((f_monAt aH aM).1).outs).length q27.outs.1, I (((f_monAt aH aM).1).pend), I (((f_monAt aH aM).1).traps), slv (((f_monAt aH aM).1).tables).length q27.tables.1, I (((f_monAt aH aM).1).owned)], [slv (aH.mem).length q80.mem.1, slv (aH.mons).length q80.mons.1, slv (aH.buf).length q80.buf.1, slv (aH.iobuf).length q80.iobuf.1], [slv (((f_monAt aH aM).1).outer).length q108.outer.1, slv (((f_monAt aH aM).1).out).length q108.out.1, slv (((f_monAt aH aM).1).dirty).length q108.dirty.1, slv (((f_monAt aH aM).1).guests).length q108.guests.1, slv (((f_monAt aH aM).1).outs).length q108.outs.1, I (((f_monAt aH aM).1).pend), I (((f_monAt aH aM).1).traps), slv (((f_monAt aH aM).1).tables).length q108.tables.1, I (((f_monAt aH aM).1).owned)]]⟩) .nil (by kernel_rfl) ?_
    clear S; intro ac w β S
    refine RG.done rfl (nx_then ?_)
    refine wp_seq ?_
    refine wp_seq ?_
    refine RG.start ?_
    refine S.quiet (k := 5) (keep := [1, 2, 6, 7, 8, 9, 10, 40]) (m := 4) (σ' := ⟨[(1, .v (I aM)), (2, .p 0 0), (6, .p 1 0), (7, .v (B ((f_monAt aH aM).2))), (8, .p 2 0), (9, .p 3 0), (10, .v (B ((f_monAt aH aM).2))), (40, .v (B (!(decide (((f_monAt aH aM).1) = ((f_monAt aH aM).1))))))], [GT.cells (α := THost) aH paH, [slv (((f_monAt aH aM).1).outer).length q27.outer.1, slv (((f_monAt aH aM).1).out).length q27.out.1, slv (((f_monAt aH aM).1).dirty).length q27.dirty.1, slv (((f_monAt aH aM).1).guests).length q27.guests.1, slv (((f_monAt aH aM).1).outs).length q27.outs.1, I (((f_monAt aH aM).1).pend), I (((f_monAt aH aM).1).traps), slv (((f_monAt aH aM).1).tables).length q27.tables.1, I (((f_monAt aH aM).1).owned)], [slv (aH.mem).length q80.mem.1, slv (aH.mons).length q80.mons.1, slv (aH.buf).length q80.buf.1, slv (aH.iobuf).length q80.iobuf.1], [slv (((f_monAt aH aM).1).outer).length q108.outer.1, slv (((f_monAt aH aM).1).out).length q108.out.1, slv (((f_monAt aH aM).1).dirty).length q108.dirty.1, slv (((f_monAt aH aM).1).guests).length q108.guests.1, slv (((f_monAt aH aM).1).outs).length q108.outs.1, I (((f_monAt aH aM).1).pend), I (((f_monAt aH aM).1).traps), slv (((f_monAt aH aM).1).tables).length q108.tables.1, I (((f_monAt aH aM).1).owned)]]⟩) (.cons (Q_call fun w hw => c_laws_eqMon w ((f_monAt aH aM).1) q108 (rd_of (show GT.rd KK _ _ ((f_monAt aH aM).1) q108 from ⟨o138.rn, o141.rn, o144.rn, o147.rn, o150.rn, i152, i153, o155.rn, i157⟩) hw) ((f_monAt aH aM).1) q27 (rd_of (show GT.rd KK _ _ ((f_monAt aH aM).1) q27 from ⟨o45.rn, o48.rn, o51.rn, o54.rn, o57.rn, i59, i60, o62.rn, i64⟩) hw)) .nil) (by kernel_rfl) ?_
    clear S; intro ac w β S
    rcases Bool.eq_false_or_eq_true (!(decide (((f_monAt aH aM).1) = ((f_monAt aH aM).1)))) with h173 | h173 <;> rw [h173] at S
    · have h174 : (decide (((f_monAt aH aM).1) = ((f_monAt aH aM).1))) = false := not_t h173
      have g175 := of_decide_eq_false h174
      refine S.quiet (k := 4) (keep := [1, 2, 6, 7, 8, 9, 10, 44]) (m := 4) (σ' := ⟨[(1, .v (I aM)), (2, .p 0 0), (6, .p 1 0), (7, .v (B ((f_monAt aH aM).2))), (8, .p 2 0), (9, .p 3 0), (10, .v (B ((f_monAt aH aM).2))), (44, .v (B true))], [GT.cells (α := THost) aH paH, [slv (((f_monAt aH aM).1).outer).length q27.outer.1, slv (((f_monAt aH aM).1).out).length q27.out.1, slv (((f_monAt aH aM).1).dirty).length q27.dirty.1, slv (((f_monAt aH aM).1).guests).length q27.guests.1, slv (((f_monAt aH aM).1).outs).length q27.outs.1, I (((f_monAt aH aM).1).pend), I (((f_monAt aH aM).1).traps), slv (((f_monAt aH aM).1).tables).length q27.tables.1, I (((f_monAt aH aM).1).owned)], [slv (aH.mem).length q80.mem.1, slv (aH.mons).length q80.mons.1, slv (aH.buf).length q80.buf.1, slv (aH.iobuf).length q80.iobuf.1], [slv (((f_monAt aH aM).1).outer).length q108.outer.1, slv (((f_monAt aH aM).1).out).length q108.out.1, slv (((f_monAt aH aM).1).dirty).length q108.dirty.1, slv (((f_monAt aH aM).1).guests).length q108.guests.1, slv (((f_monAt aH aM).1).outs).length q108.outs.1, I (((f_monAt aH aM).1).pend), I (((f_monAt aH aM).1).traps), slv (((f_monAt aH aM).1).tables).length q108.tables.1, I (((f_monAt aH aM).1).owned)]]⟩) .nil (by kernel_rfl) ?_
      clear S; intro ac w β S
      refine RG.done rfl (nx_then ?_)
      refine S.cond (e := true) (by kernel_rfl) (fun _ => ?_) (fun hx => by cases hx)
      refine wp_seq ?_
      refine RG.start ?_
      refine S.quiet (k := 1) (keep := [4]) (m := 0) (σ' := ⟨[(4, .v (B false))], []⟩) .nil (by kernel_rfl) ?_
      clear S; intro ac w β S
      refine RG.done rfl (nx_then ?_)
      refine wp_ret (rt_then ?_)
      refine S.ret (vs := [B false]) (by kernel_rfl) ?_
      exact ⟨retB (show false = true by clear S; first | rfl | (exfalso; omega) | (exfalso; simp_all; done) | (exfalso; simp_all; omega)), S.chg⟩
    · have h176 : (decide (((f_monAt aH aM).1) = ((f_monAt aH aM).1))) = true := not_f h173
      have g177 := of_decide_eq_true h176
      refine S.quiet (k := 4) (keep := [1, 2, 6, 7, 8, 9, 10, 44]) (m := 4) (σ' := ⟨[(1, .v (I aM)), (2, .p 0 0), (6, .p 1 0), (7, .v (B ((f_monAt aH aM).2))), (8, .p 2 0), (9, .p 3 0), (10, .v (B ((f_monAt aH aM).2))), (44, .v (B (!((f_monAt aH aM).2 == (f_monAt aH aM).2))))], [GT.cells (α := THost) aH paH, [slv (((f_monAt aH aM).1).outer).length q27.outer.1, slv (((f_monAt aH aM).1).out).length q27.out.1, slv (((f_monAt aH aM).1).dirty).length q27.dirty.1, slv (((f_monAt aH aM).1).guests).length q27.guests.1, slv (((f_monAt aH aM).1).outs).length q27.outs.1, I (((f_monAt aH aM).1).pend), I (((f_monAt aH aM).1).traps), slv (((f_monAt aH aM).1).tables).length q27.tables.1, I (((f_monAt aH aM).1).owned)], [slv (aH.mem).length q80.mem.1, slv (aH.mons).length q80.mons.1, slv (aH.buf).length q80.buf.1, slv (aH.iobuf).length q80.iobuf.1], [slv (((f_monAt aH aM).1).outer).length q108.outer.1, slv (((f_monAt aH aM).1).out).length q108.out.1, slv (((f_monAt aH aM).1).dirty).length q108.dirty.1, slv (((f_monAt aH aM).1).guests).length q108.guests.1, slv (((f_monAt aH aM).1).outs).length q108.outs.1, I (((f_monAt aH aM).1).pend), I (((f_monAt aH aM).1).traps), slv (((f_monAt aH aM).1).tables).length q108.tables.1, I (((f_monAt aH aM).1).owned)]]⟩) .nil (by kernel_rfl) ?_
      clear S; intro ac w β S
      refine RG.done rfl (nx_then ?_)
      refine S.cond (e := (!((f_monAt aH aM).2 == (f_monAt aH aM).2))) (by kernel_rfl) (fun h178 => ?_) (fun h178 => ?_)
      · have h179 : ((f_monAt aH aM).2 == (f_monAt aH aM).2) = false := not_t h178
        have g180 : ¬ ((f_monAt aH aM).2 = (f_monAt aH aM).2) := ne_of_beq_false h179
        refine wp_seq ?_
        refine RG.start ?_
        refine S.quiet (k := 1) (keep := [4]) (m := 0) (σ' := ⟨[(4, .v (B false))], []⟩) .nil (by kernel_rfl) ?_
        clear S; intro ac w β S
        refine RG.done rfl (nx_then ?_)
        refine wp_ret (rt_then ?_)
        refine S.ret (vs := [B false]) (by kernel_rfl) ?_
        exact ⟨retB (show false = true by clear S; first | rfl | (exfalso; omega) | (exfalso; simp_all; done) | (exfalso; simp_all; omega)), S.chg⟩
      · have h181 : ((f_monAt aH aM).2 == (f_monAt aH aM).2) = true := not_f h178
        have g182 : (f_monAt aH aM).2 = (f_monAt aH aM).2 := eq_of_beq h181
        refine wp_skip (nx_then ?_)
        refine wp_seq ?_
        refine wp_seq ?_
        refine S.draw0 (f := 5) 5 rfl rfl ?_
        clear S; intro w S
        refine S.hoist (i := 0) (path := []) (keep := [1, 2, 6, 7, 8, 9, 10, 45]) (m := 4) (σ' := ⟨[(1, .v (I aM)), (2, .p 0 0), (6, .p 1 0), (7, .v (B ((f_monAt aH aM).2))), (8, .p 2 0), (9, .p 3 0), (10, .v (B ((f_monAt aH aM).2))), (45, .v (GT.val (α := THost) aH q80))], [GT.cells (α := THost) aH paH, [slv (((f_monAt aH aM).1).outer).length q27.outer.1, slv (((f_monAt aH aM).1).out).length q27.out.1, slv (((f_monAt aH aM).1).dirty).length q27.dirty.1, slv (((f_monAt aH aM).1).guests).length q27.guests.1, slv (((f_monAt aH aM).1).outs).length q27.outs.1, I (((f_monAt aH aM).1).pend), I (((f_monAt aH aM).1).traps), slv (((f_monAt aH aM).1).tables).length q27.tables.1, I (((f_monAt aH aM).1).owned)], [slv (aH.mem).length q80.mem.1, slv (aH.mons).length q80.mons.1, slv (aH.buf).length q80.buf.1, slv (aH.iobuf).length q80.iobuf.1], [slv (((f_monAt aH aM).1).outer).length q108.outer.1, slv (((f_monAt aH aM).1).out).length q108.out.1, slv (((f_monAt aH aM).1).dirty).length q108.dirty.1, slv (((f_monAt aH aM).1).guests).length q108.guests.1, slv (((f_monAt aH aM).1).outs).length q108.outs.1, I (((f_monAt aH aM).1).pend), I (((f_monAt aH aM).1).traps), slv (((f_monAt aH aM).1).tables).length q108.tables.1, I (((f_monAt aH aM).1).owned)]]⟩) (by kernel_rfl) (by kernel_rfl) .nil (by kernel_rfl) ?_
        clear S; intro ac S
        refine S.hoist (i := 1) (path := []) (keep := [1, 2, 6, 7, 8, 9, 10, 45, 46]) (m := 4) (σ' := ⟨[(1, .v (I aM)), (2, .p 0 0), (6, .p 1 0), (7, .v (B ((f_monAt aH aM).2))), (8, .p 2 0), (9, .p 3 0), (10, .v (B ((f_monAt aH aM).2))), (45, .v (GT.val (α := THost) aH q80)), (46, .v (GT.val (α := THost) aH paH))], [GT.cells (α := THost) aH paH, [slv (((f_monAt aH aM).1).outer).length q27.outer.1, slv (((f_monAt aH aM).1).out).length q27.out.1, slv (((f_monAt aH aM).1).dirty).length q27.dirty.1, slv (((f_monAt aH aM).1).guests).length q27.guests.1, slv (((f_monAt aH aM).1).outs).length q27.outs.1, I (((f_monAt aH aM).1).pend), I (((f_monAt aH aM).1).traps), slv (((f_monAt aH aM).1).tables).length q27.tables.1, I (((f_monAt aH aM).1).owned)], [slv (aH.mem).length q80.mem.1, slv (aH.mons).length q80.mons.1, slv (aH.buf).length q80.buf.1, slv (aH.iobuf).length q80.iobuf.1], [slv (((f_monAt aH aM).1).outer).length q108.outer.1, slv (((f_monAt aH aM).1).out).length q108.out.1, slv (((f_monAt aH aM).1).dirty).length q108.dirty.1, slv (((f_monAt aH aM).1).guests).length q108.guests.1, slv (((f_monAt aH aM).1).outs).length q108.outs.1, I (((f_monAt aH aM).1).pend), I (((f_monAt aH aM).1).traps), slv (((f_monAt aH aM).1).tables).length q108.tables.1, I (((f_monAt aH aM).1).owned)]]⟩) (by kernel_rfl) (by kernel_rfl) .nil (by kernel_rfl) ?_
        clear S; intro ac S
        refine WD.one (i := 2) (by kernel_rfl) ?_
        refine id (S.call1 (r := aH) (d := 47) (c_laws_toHost w aH paH (S.rd (S.arg hkaH))) (by kernel_rfl) rfl ?_)
        clear S; intro ac w N q183 F184 S up o185 d186
        refine WD.next S up rfl ?_
        have d187 : Disj F44 F184 := fun b x y => d186 b (o45.sub b x) y
        have d188 : Disj F47 F184 := fun b x y => d186 b (o48.sub b x) y
        have d189 : Disj F50 F184 := fun b x y => d186 b (o51.sub b x) y
        have d190 : Disj F53 F184 := fun b x y => d186 b (o54.sub b x) y
        have d191 : Disj F56 F184 := fun b x y => d186 b (o57.sub b x) y
        have d192 : Disj F61 F184 := fun b x y => d186 b (o62.sub b x) y
        have d193 : Disj F90 F184 := fun b x y => d186 b (o91.sub b x) y
        have d194 : Disj F93 F184 := fun b x y => d186 b (o94.sub b x) y
        have d195 : Disj F96 F184 := fun b x y => d186 b (o97.sub b x) y
        have d196 : Disj F99 F184 := fun b x y => d186 b (o100.sub b x) y
        have d197 : Disj F137 F184 := fun b x y => d186 b (o138.sub b x) y
        have d198 : Disj F140 F184 := fun b x y => d186 b (o141.sub b x) y
        have d199 : Disj F143 F184 := fun b x y => d186 b (o144.sub b x) y
        have d200 : Disj F146 F184 := fun b x y => d186 b (o147.sub b x) y
        have d201 : Disj F149 F184 := fun b x y => d186 b (o150.sub b x) y
        have d202 : Disj F154 F184 := fun b x y => d186 b (o155.sub b x) y
        replace o45 := o45.up up
        replace o48 := o48.up up
        replace o51 := o51.up up
        replace o54 := o54.up up
        replace o57 := o57.up up
        replace o62 := o62.up up
        replace o91 := o91.up up
        replace o94 := o94.up up
        replace o97 := o97.up up
        replace o100 := o100.up up
        replace o138 := o138.up up
        replace o141 := o141.up up
        replace o144 := o144.up up
        replace o147 := o147.up up
        replace o150 := o150.up up
        replace o155 := o155.up up
        clear up d186
        obtain ⟨F203, F206, F209, F212, o204, o207, o210, o213, s205, s208, s211, s214, d215, d216, d217, d218, d219, d220⟩ := sp_Host o185
        refine WD.one (i := 3) (by kernel_rfl) ?_
        refine S.stepq (i := 3) (keep := [1, 2, 6, 7, 8, 9, 10, 48]) (m := 4) (σ' := ⟨[(1, .v (I aM)), (2, .p 0 0), (6, .p 1 0), (7, .v (B ((f_monAt aH aM).2))), (8, .p 2 0), (9, .p 3 0), (10, .v (B ((f_monAt aH aM).2))), (48, .v (B (decide (aH = aH))))], [GT.cells (α := THost) aH paH, [slv (((f_monAt aH aM).1).outer).length q27.outer.1, slv (((f_monAt aH aM).1).out).length q27.out.1, slv (((f_monAt aH aM).1).dirty).length q27.dirty.1, slv (((f_monAt aH aM).1).guests).length q27.guests.1, slv (((f_monAt aH aM).1).outs).length q27.outs.1, I (((f_monAt aH aM).1).pend), I (((f_monAt aH aM).1).traps), slv (((f_monAt aH aM).1).tables).length q27.tables.1, I (((f_monAt aH aM).1).owned)], [slv (aH.mem).length q80.mem.1, slv (aH.mons).length q80.mons.1, slv (aH.buf).length q80.buf.1, slv (aH.iobuf).length q80.iobuf.1], [slv (((f_monAt aH aM).1).outer).length q108.outer.1, slv (((f_monAt aH aM).1).out).length q108.out.1, slv (((f_monAt aH aM).1).dirty).length q108.dirty.1, slv (((f_monAt aH aM).1).guests).length q108.guests.1, slv (((f_monAt aH aM).1).outs).length q108.outs.1, I (((f_monAt aH aM).1).pend), I (((f_monAt aH aM).1).traps), slv (((f_monAt aH aM).1).tables).length q108.tables.1, I (((f_monAt aH aM).1).owned)]]⟩) (.cons (Q_call fun w hw => c_laws_eqHost w aH q80 (rd_of (show GT.rd KK _ _ aH q80 from ⟨o91.rn, o94.rn, o97.rn, o100.rn⟩) hw) aH q183 (rd_of (show GT.rd KK _ _ aH q183 from ⟨o204.rn, o207.rn, o210.rn, o213.rn⟩) hw)) .nil) (by kernel_rfl) ?_
        clear S; intro ac w β S hβ
        refine WD.stay S hβ (fun _ _ h => h) ?_
        clear hβ
        refine S.hoist (i := 4) (path := []) (keep := [1, 2, 6, 7, 8, 9, 10, 49]) (m := 4) (σ' := ⟨[(1, .v (I aM)), (2, .p 0 0), (6, .p 1 0), (7, .v (B ((f_monAt aH aM).2))), (8, .p 2 0), (9, .p 3 0), (10, .v (B ((f_monAt aH aM).2))), (49, .v (B (!(decide (aH = aH)))))], [GT.cells (α := THost) aH paH, [slv (((f_monAt aH aM).1).outer).length q27.outer.1, slv (((f_monAt aH aM).1).out).length q27.out.1, slv (((f_monAt aH aM).1).dirty).length q27.dirty.1, slv (((f_monAt aH aM).1).guests).length q27.guests.1, slv (((f_monAt aH aM).1).outs).length q27.outs.1, I (((f_monAt aH aM).1).pend), I (((f_monAt aH aM).1).traps), slv (((f_monAt aH aM).1).tables).length q27.tables.1, I (((f_monAt aH aM).1).owned)], [slv (aH.mem).length q80.mem.1, slv (aH.mons).length q80.mons.1, slv (aH.buf).length q80.buf.1, slv (aH.iobuf).length q80.iobuf.1], [slv (((f_monAt aH aM).1).outer).length q108.outer.1, slv (((f_monAt aH aM).1).out).length q108.out.1, slv (((f_monAt aH aM).1).dirty).length q108.dirty.1, slv (((f_monAt aH aM).1).guests).length q108.guests.1, slv (((f_monAt aH aM).1).outs).length q108.outs.1, I (((f_monAt aH aM).1).pend), I (((f_monAt aH aM).1).traps), slv (((f_monAt aH aM).1).tables).length q108.tables.1, I (((f_monAt aH aM).1).owned)]]⟩) (by kernel_rfl) (by kernel_rfl) .nil (by kernel_rfl) ?_
        clear S; intro ac S
        refine WD.done (by kernel_rfl) ?_ _
        replace S := S.prune (keep := [1, 2, 6, 7, 8, 9, 10, 49]) (m := 4) (σ' := ⟨[(1, .v (I aM)), (2, .p 0 0), (6, .p 1 0), (7, .v (B ((f_monAt aH aM).2))), (8, .p 2 0), (9, .p 3 0), (10, .v (B ((f_monAt aH aM).2))), (49, .v (B (!(decide (aH = aH)))))], [GT.cells (α := THost) aH paH, [slv (((f_monAt aH aM).1).outer).length q27.outer.1, slv (((f_monAt aH aM).1).out).length q27.out.1, slv (((f_monAt aH aM).1).dirty).length q27.dirty.1, slv (((f_monAt aH aM).1).guests).length q27.guests.1, slv (((f_monAt aH aM).1).outs).length q27.outs.1, I (((f_monAt aH aM).1).pend), I (((f_monAt aH aM).1).traps), slv (((f_monAt aH aM).1).tables).length q27.tables.1, I (((f_monAt aH aM).1).owned)], [slv (aH.mem).length q80.mem.1, slv (aH.mons).length q80.mons.1, slv (aH.buf).length q80.buf.1, slv (aH.iobuf).length q80.iobuf.1], [slv (((f_monAt aH aM).1).outer).length q108.outer.1, slv (((f_monAt aH aM).1).out).length q108.out.1, slv (((f_monAt aH aM).1).dirty).length q108.dirty.1, slv (((f_monAt aH aM).1).guests).length q108.guests.1, slv (((f_monAt aH aM).1).outs).length q108.outs.1, I (((f_monAt aH aM).1).pend), I (((f_monAt aH aM).1).traps), slv (((f_monAt aH aM).1).tables).length q108.tables.1, I (((f_monAt aH aM).1).owned)]]⟩) (by kernel_rfl)
        refine id (nx_then ?_)
        refine S.cond (e := (!(decide (aH = aH)))) (by kernel_rfl) (fun h221 => ?_) (fun h221 => ?_)
        · have h222 : (decide (aH = aH)) = false := not_t h221
          have g223 := of_decide_eq_false h222
          refine wp_seq ?_
          refine RG.start ?_
          refine S.quiet (k := 1) (keep := [4]) (m := 0) (σ' := ⟨[(4, .v (B false))], []⟩) .nil (by kernel_rfl) ?_
          clear S; intro ac w β S
          refine RG.done rfl (nx_then ?_)
          refine wp_ret (rt_then ?_)
          refine S.ret (vs := [B false]) (by kernel_rfl) ?_
          exact ⟨retB (show false = true by clear S; first | rfl | (exfalso; omega) | (exfalso; simp_all; done) | (exfalso; simp_all; omega)), S.chg⟩
        · have h224 : (decide (aH = aH)) = true := not_f h221
          have g225 := of_decide_eq_true h224
          refine wp_skip (nx_then ?_)
          refine wp_seq ?_
          refine RG.start ?_
          refine S.quiet (k := 1) (keep := [1, 2, 6, 7, 8, 9, 10, 11]) (m := 4) (σ' := ⟨[(1, .v (I aM)), (2, .p 0 0), (6, .p 1 0), (7, .v (B ((f_monAt aH aM).2))), (8, .p 2 0), (9, .p 3 0), (10, .v (B ((f_monAt aH aM).2))), (11, .v (I 1))], [GT.cells (α := THost) aH paH, [slv (((f_monAt aH aM).1).outer).length q27.outer.1, slv (((f_monAt aH aM).1).out).length q27.out.1, slv (((f_monAt aH aM).1).dirty).length q27.dirty.1, slv (((f_monAt aH aM).1).guests).length q27.guests.1, slv (((f_monAt aH aM).1).outs).length q27.outs.1, I (((f_monAt aH aM).1).pend), I (((f_monAt aH aM).1).traps), slv (((f_monAt aH aM).1).tables).length q27.tables.1, I (((f_monAt aH aM).1).owned)], [slv (aH.mem).length q80.mem.1, slv (aH.mons).length q80.mons.1, slv (aH.buf).length q80.buf.1, slv (aH.iobuf).length q80.iobuf.1], [slv (((f_monAt aH aM).1).outer).length q108.outer.1, slv (((f_monAt aH aM).1).out).length q108.out.1, slv (((f_monAt aH aM).1).dirty).length q108.dirty.1, slv (((f_monAt aH aM).1).guests).length q108.guests.1, slv (((f_monAt aH aM).1).outs).length q108.outs.1, I (((f_monAt aH aM).1).pend), I (((f_monAt aH aM).1).traps), slv (((f_monAt aH aM).1).tables).length q108.tables.1, I (((f_monAt aH aM).1).owned)]]⟩) .nil (by kernel_rfl) ?_
          clear S; intro ac w β S
          refine RG.done rfl (nx_then ?_)
          refine wp_seq ?_
          refine RG.start ?_
          refine S.quiet (k := 2) (keep := [1, 2, 6, 7, 9, 10, 50, 51]) (m := 4) (σ' := ⟨[(1, .v (I aM)), (2, .p 0 0), (6, .p 1 0), (7, .v (B ((f_monAt aH aM).2))), (9, .p 3 0), (10, .v (B ((f_monAt aH aM).2))), (50, .v (GT.val (α := THost) aH q80)), (51, .v (I 1))], [GT.cells (α := THost) aH paH, [slv (((f_monAt aH aM).1).outer).length q27.outer.1, slv (((f_monAt aH aM).1).out).length q27.out.1, slv (((f_monAt aH aM).1).dirty).length q27.dirty.1, slv (((f_monAt aH aM).1).guests).length q27.guests.1, slv (((f_monAt aH aM).1).outs).length q27.outs.1, I (((f_monAt aH aM).1).pend), I (((f_monAt aH aM).1).traps), slv (((f_monAt aH aM).1).tables).length q27.tables.1, I (((f_monAt aH aM).1).owned)], [slv (aH.mem).length q80.mem.1, slv (aH.mons).length q80.mons.1, slv (aH.buf).length q80.buf.1, slv (aH.iobuf).length q80.iobuf.1], [slv (((f_monAt aH aM).1).outer).length q108.outer.1, slv (((f_monAt aH aM).1).out).length q108.out.1, slv (((f_monAt aH aM).1).dirty).length q108.dirty.1, slv (((f_monAt aH aM).1).guests).length q108.guests.1, slv (((f_monAt aH aM).1).outs).length q108.outs.1, I (((f_monAt aH aM).1).pend), I (((f_monAt aH aM).1).traps), slv (((f_monAt aH aM).1).tables).length q108.tables.1, I (((f_monAt aH aM).1).owned)]]⟩) .nil (by kernel_rfl) ?_
          clear S; intro ac w β S
          have o226 := ow_Host (x := aH) (p := q80) o91 o94 o97 o100 d102 d103 d104 d105 d106 d107 
          refine RG.op rfl (S.callX (hd := hdT_Host) (d := 52) o226 (c_laws_markHost w aH q80 (uniB [F90, F93, F96, F99]) (S.ownw o226) (fun b hb => (S.sep b (o226.sub b hb)).1) 1 (by omega) (by omega)) (by kernel_rfl) rfl ?_)
          clear S; intro ac w N q227 y228 k229 S up o230 c231 x232 b233 b234
          replace o45 := o45.upF (Disj.symm (Disj.or (Disj.part (Disj.symm d84) s92) (Disj.or (Disj.part (Disj.symm d84) s95) (Disj.or (Disj.part (Disj.symm d84) s98) (Disj.or (Disj.part (Disj.symm d84) s101) Disj.nob))))) up
          replace o48 := o48.upF (Disj.symm (Disj.or (Disj.part (Disj.symm d85) s92) (Disj.or (Disj.part (Disj.symm d85) s95) (Disj.or (Disj.part (Disj.symm d85) s98) (Disj.or (Disj.part (Disj.symm d85) s101) Disj.nob))))) up
          replace o51 := o51.upF (Disj.symm (Disj.or (Disj.part (Disj.symm d86) s92) (Disj.or (Disj.part (Disj.symm d86) s95) (Disj.or (Disj.part (Disj.symm d86) s98) (Disj.or (Disj.part (Disj.symm d86) s101) Disj.nob))))) up
          replace o54 := o54.upF (Disj.symm (Disj.or (Disj.part (Disj.symm d87) s92) (Disj.or (Disj.part (Disj.symm d87) s95) (Disj.or (Disj.part (Disj.symm d87) s98) (Disj.or (Disj.part (Disj.symm d87) s101) Disj.nob))))) up
          replace o57 := o57.upF (Disj.symm (Disj.or (Disj.part (Disj.symm d88) s92) (Disj.or (Disj.part (Disj.symm d88) s95) (Disj.or (Disj.part (Disj.symm d88) s98) (Disj.or (Disj.part (Disj.symm d88) s101) Disj.nob))))) up
          replace o62 := o62.upF (Disj.symm (Disj.or (Disj.part (Disj.symm d89) s92) (Disj.or (Disj.part (Disj.symm d89) s95) (Disj.or (Disj.part (Disj.symm d89) s98) (Disj.or (Disj.part (Disj.symm d89) s101) Disj.nob))))) up
          replace o138 := o138.upF (Disj.symm (Disj.or (Disj.symm (Disj.part (Disj.symm d133) s139)) (Disj.or (Disj.symm (Disj.part (Disj.symm d134) s139)) (Disj.or (Disj.symm (Disj.part (Disj.symm d135) s139)) (Disj.or (Disj.symm (Disj.part (Disj.symm d136) s139)) Disj.nob))))) up
          replace o141 := o141.upF (Disj.symm (Disj.or (Disj.symm (Disj.part (Disj.symm d133) s142)) (Disj.or (Disj.symm (Disj.part (Disj.symm d134) s142)) (Disj.or (Disj.symm (Disj.part (Disj.symm d135) s142)) (Disj.or (Disj.symm (Disj.part (Disj.symm d136) s142)) Disj.nob))))) up
          replace o144 := o144.upF (Disj.symm (Disj.or (Disj.symm (Disj.part (Disj.symm d133) s145)) (Disj.or (Disj.symm (Disj.part (Disj.symm d134) s145)) (Disj.or (Disj.symm (Disj.part (Disj.symm d135) s145)) (Disj.or (Disj.symm (Disj.part (Disj.symm d136) s145)) Disj.nob))))) up
          replace o147 := o147.upF (Disj.symm (Disj.or (Disj.symm (Disj.part (Disj.symm d133) s148)) (Disj.or (Disj.symm (Disj.part (Disj.symm d134) s148)) (Disj.or (Disj.symm (Disj.part (Disj.symm d135) s148)) (Disj.or (Disj.symm (Disj.part (Disj.symm d136) s148)) Disj.nob))))) up
          replace o150 := o150.upF (Disj.symm (Disj.or (Disj.symm (Disj.part (Disj.symm d133) s151)) (Disj.or (Disj.symm (Disj.part (Disj.symm d134) s151)) (Disj.or (Disj.symm (Disj.part (Disj.symm d135) s151)) (Disj.or (Disj.symm (Disj.part (Disj.symm d136) s151)) Disj.nob))))) up
          replace o155 := o155.upF (Disj.symm (Disj.or (Disj.symm (Disj.part (Disj.symm d133) s156)) (Disj.or (Disj.symm (Disj.part (Disj.symm d134) s156)) (Disj.or (Disj.symm (Disj.part (Disj.symm d135) s156)) (Disj.or (Disj.symm (Disj.part (Disj.symm d136) s156)) Disj.nob))))) up
          clear up
          replace S := S.prune (keep := [1, 2, 6, 7, 9, 10, 51, 52]) (m := 4) (σ' := ⟨[(1, .v (I aM)), (2, .p 0 0), (6, .p 1 0), (7, .v (B ((f_monAt aH aM).2))), (9, .p 3 0), (10, .v (B ((f_monAt aH aM).2))), (51, .v (I 1)), (52, .v (I k229))], [GT.cells (α := THost) aH paH, [slv (((f_monAt aH aM).1).outer).length q27.outer.1, slv (((f_monAt aH aM).1).out).length q27.out.1, slv (((f_monAt aH aM).1).dirty).length q27.dirty.1, slv (((f_monAt aH aM).1).guests).length q27.guests.1, slv (((f_monAt aH aM).1).outs).length q27.outs.1, I (((f_monAt aH aM).1).pend), I (((f_monAt aH aM).1).traps), slv (((f_monAt aH aM).1).tables).length q27.tables.1, I (((f_monAt aH aM).1).owned)], [slv (aH.mem).length q80.mem.1, slv (aH.mons).length q80.mons.1, slv (aH.buf).length q80.buf.1, slv (aH.iobuf).length q80.iobuf.1], [slv (((f_monAt aH aM).1).outer).length q108.outer.1, slv (((f_monAt aH aM).1).out).length q108.out.1, slv (((f_monAt aH aM).1).dirty).length q108.dirty.1, slv (((f_monAt aH aM).1).guests).length q108.guests.1, slv (((f_monAt aH aM).1).outs).length q108.outs.1, I (((f_monAt aH aM).1).pend), I (((f_monAt aH aM).1).traps), slv (((f_monAt aH aM).1).tables).length q108.tables.1, I (((f_monAt aH aM).1).owned)]]⟩) (by kernel_rfl)
          obtain ⟨F235, F238, F241, F244, o236, o239, o242, o245, s237, s240, s243, s246, d247, d248, d249, d250, d251, d252⟩ := sp_Host o230
          have hw0 : [slv (y228.mem).length q227.mem.1, slv (y228.mons).length q227.mons.1, slv (y228.buf).length q227.buf.1, slv (y228.iobuf).length q227.iobuf.1] = [slv (aH.mem).length q80.mem.1, slv (aH.mons).length q80.mons.1, slv (aH.buf).length q80.buf.1, slv (aH.iobuf).length q80.iobuf.1] := c231
          replace S := S.cast (σ' := ⟨[(1, .v (I aM)), (2, .p 0 0), (6, .p 1 0), (7, .v (B ((f_monAt aH aM).2))), (9, .p 3 0), (10, .v (B ((f_monAt aH aM).2))), (51, .v (I 1)), (52, .v (I k229))], [GT.cells (α := THost) aH paH, [slv (((f_monAt aH aM).1).outer).length q27.outer.1, slv (((f_monAt aH aM).1).out).length q27.out.1, slv (((f_monAt aH aM).1).dirty).length q27.dirty.1, slv (((f_monAt aH aM).1).guests).length q27.guests.1, slv (((f_monAt aH aM).1).outs).length q27.outs.1, I (((f_monAt aH aM).1).pend), I (((f_monAt aH aM).1).traps), slv (((f_monAt aH aM).1).tables).length q27.tables.1, I (((f_monAt aH aM).1).owned)], [slv (y228.mem).length q227.mem.1, slv (y228.mons).length q227.mons.1, slv (y228.buf).length q227.buf.1, slv (y228.iobuf).length q227.iobuf.1], [slv (((f_monAt aH aM).1).outer).length q108.outer.1, slv (((f_monAt aH aM).1).out).length q108.out.1, slv (((f_monAt aH aM).1).dirty).length q108.dirty.1, slv (((f_monAt aH aM).1).guests).length q108.guests.1, slv (((f_monAt aH aM).1).outs).length q108.outs.1, I (((f_monAt aH aM).1).pend), I (((f_monAt aH aM).1).traps), slv (((f_monAt aH aM).1).tables).length q108.tables.1, I (((f_monAt aH aM).1).owned)]]⟩) (by rw [hw0])
          clear hw0
          refine S.quiet (k := 1) (keep := [1, 2, 6, 7, 9, 10, 11]) (m := 4) (σ' := ⟨[(1, .v (I aM)), (2, .p 0 0), (6, .p 1 0), (7, .v (B ((f_monAt aH aM).2))), (9, .p 3 0), (10, .v (B ((f_monAt aH aM).2))), (11, .v (I k229))], [GT.cells (α := THost) aH paH, [slv (((f_monAt aH aM).1).outer).length q27.outer.1, slv (((f_monAt aH aM).1).out).length q27.out.1, slv (((f_monAt aH aM).1).dirty).length q27.dirty.1, slv (((f_monAt aH aM).1).guests).length q27.guests.1, slv (((f_monAt aH aM).1).outs).length q27.outs.1, I (((f_monAt aH aM).1).pend), I (((f_monAt aH aM).1).traps), slv (((f_monAt aH aM).1).tables).length q27.tables.1, I (((f_monAt aH aM).1).owned)], [slv (y228.mem).length q227.mem.1, slv (y228.mons).length q227.mons.1, slv (y228.buf).length q227.buf.1, slv (y228.iobuf).length q227.iobuf.1], [slv (((f_monAt aH aM).1).outer).length q108.outer.1, slv (((f_monAt aH aM).1).out).length q108.out.1, slv (((f_monAt aH aM).1).dirty).length q108.dirty.1, slv (((f_monAt aH aM).1).guests).length q108.guests.1, slv (((f_monAt aH aM).1).outs).length q108.outs.1, I (((f_monAt aH aM).1).pend), I (((f_monAt aH aM).1).traps), slv (((f_monAt aH aM).1).tables).length q108.tables.1, I (((f_monAt aH aM).1).owned)]]⟩) .nil (by kernel_rfl) ?_
          clear S; intro ac w β S
          refine RG.done rfl (nx_then ?_)
          refine wp_seq ?_
          refine wp_seq ?_
          refine RG.start ?_
          refine S.quiet (k := 3) (keep := [1, 2, 6, 7, 9, 10, 55]) (m := 4) (σ' := ⟨[(1, .v (I aM)), (2, .p 0 0), (6, .p 1 0), (7, .v (B ((f_monAt aH aM).2))), (9, .p 3 0), (10, .v (B ((f_monAt aH aM).2))), (55, .v (B (decide (k229 < 0))))], [GT.cells (α := THost) aH paH, [slv (((f_monAt aH aM).1).outer).length q27.outer.1, slv (((f_monAt aH aM).1).out).length q27.out.1, slv (((f_monAt aH aM).1).dirty).length q27.dirty.1, slv (((f_monAt aH aM).1).guests).length q27.guests.1, slv (((f_monAt aH aM).1).outs).length q27.outs.1, I (((f_monAt aH aM).1).pend), I (((f_monAt aH aM).1).traps), slv (((f_monAt aH aM).1).tables).length q27.tables.1, I (((f_monAt aH aM).1).owned)], [slv (y228.mem).length q227.mem.1, slv (y228.mons).length q227.mons.1, slv (y228.buf).length q227.buf.1, slv (y228.iobuf).length q227.iobuf.1], [slv (((f_monAt aH aM).1).outer).length q108.outer.1, slv (((f_monAt aH aM).1).out).length q108.out.1, slv (((f_monAt aH aM).1).dirty).length q108.dirty.1, slv (((f_monAt aH aM).1).guests).length q108.guests.1, slv (((f_monAt aH aM).1).outs).length q108.outs.1, I (((f_monAt aH aM).1).pend), I (((f_monAt aH aM).1).traps), slv (((f_monAt aH aM).1).tables).length q108.tables.1, I (((f_monAt aH aM).1).owned)]]⟩) .nil (by kernel_rfl) ?_
          clear S; intro ac w β S
          rcases Bool.eq_false_or_eq_true (decide (k229 < 0)) with h253 | h253 <;> rw [h253] at S
          · have g254 : k229 < 0 := of_decide_eq_true h253
            refine S.quiet (k := 10) (keep := [1, 2, 6, 7, 9, 65]) (m := 4) (σ' := ⟨[(1, .v (I aM)), (2, .p 0 0), (6, .p 1 0), (7, .v (B ((f_monAt aH aM).2))), (9, .p 3 0), (65, .v (B true))], [GT.cells (α := THost) aH paH, [slv (((f_monAt aH aM).1).outer).length q27.outer.1, slv (((f_monAt aH aM).1).out).length q27.out.1, slv (((f_monAt aH aM).1).dirty).length q27.dirty.1, slv (((f_monAt aH aM).1).guests).length q27.guests.1, slv (((f_monAt aH aM).1).outs).length q27.outs.1, I (((f_monAt aH aM).1).pend), I (((f_monAt aH aM).1).traps), slv (((f_monAt aH aM).1).tables).length q27.tables.1, I (((f_monAt aH aM).1).owned)], [slv (y228.mem).length q227.mem.1, slv (y228.mons).length q227.mons.1, slv (y228.buf).length q227.buf.1, slv (y228.iobuf).length q227.iobuf.1], [slv (((f_monAt aH aM).1).outer).length q108.outer.1, slv (((f_monAt aH aM).1).out).length q108.out.1, slv (((f_monAt aH aM).1).dirty).length q108.dirty.1, slv (((f_monAt aH aM).1).guests).length q108.guests.1, slv (((f_monAt aH aM).1).outs).length q108.outs.1, I (((f_monAt aH aM).1).pend), I (((f_monAt aH aM).1).traps), slv (((f_monAt aH aM).1).tables).length q108.tables.1, I (((f_monAt aH aM).1).owned)]]⟩) .nil (by kernel_rfl) ?_
            clear S; intro ac w β S
            refine RG.done rfl (nx_then ?_)
            refine S.cond (e := true) (by kernel_rfl) (fun _ => ?_) (fun hx => by cases hx)
            refine wp_seq ?_
            refine RG.start ?_
            refine S.quiet (k := 1) (keep := [4]) (m := 0) (σ' := ⟨[(4, .v (B false))], []⟩) .nil (by kernel_rfl) ?_
            clear S; intro ac w β S
            refine RG.done rfl (nx_then ?_)
            refine wp_ret (rt_then ?_)
            refine S.ret (vs := [B false]) (by kernel_rfl) ?_
            exact ⟨retB (show false = true by clear S; first | rfl | (exfalso; omega) | (exfalso; simp_all; done) | (exfalso; simp_all; omega)), S.chg⟩
          · have g255 : ¬ (k229 < 0) := of_decide_eq_false h253
            refine S.quiet (k := 6) (keep := [1, 2, 6, 7, 9, 10, 61]) (m := 4) (σ' := ⟨[(1, .v (I aM)), (2, .p 0 0), (6, .p 1 0), (7, .v (B ((f_monAt aH aM).2))), (9, .p 3 0), (10, .v (B ((f_monAt aH aM).2))), (61, .v (B (!(decide (((f_monAt aH aM).1) = ((f_monAt aH aM).1))))))], [GT.cells (α := THost) aH paH, [slv (((f_monAt aH aM).1).outer).length q27.outer.1, slv (((f_monAt aH aM).1).out).length q27.out.1, slv (((f_monAt aH aM).1).dirty).length q27.dirty.1, slv (((f_monAt aH aM).1).guests).length q27.guests.1, slv (((f_monAt aH aM).1).outs).length q27.outs.1, I (((f_monAt aH aM).1).pend), I (((f_monAt aH aM).1).traps), slv (((f_monAt aH aM).1).tables).length q27.tables.1, I (((f_monAt aH aM).1).owned)], [slv (y228.mem).length q227.mem.1, slv (y228.mons).length q227.mons.1, slv (y228.buf).length q227.buf.1, slv (y228.iobuf).length q227.iobuf.1], [slv (((f_monAt aH aM).1).outer).length q108.outer.1, slv (((f_monAt aH aM).1).out).length q108.out.1, slv (((f_monAt aH aM).1).dirty).length q108.dirty.1, slv (((f_monAt aH aM).1).guests).length q108.guests.1, slv (((f_monAt aH aM).1).outs).length q108.outs.1, I (((f_monAt aH aM).1).pend), I (((f_monAt aH aM).1).traps), slv (((f_monAt aH aM).1).tables).length q108.tables.1, I (((f_monAt aH aM).1).owned)]]⟩) (.cons (Q_call fun w hw => c_laws_eqMon w ((f_monAt aH aM).1) q108 (rd_of (show GT.rd KK _ _ ((f_monAt aH aM).1) q108 from ⟨o138.rn, o141.rn, o144.rn, o147.rn, o150.rn, i152, i153, o155.rn, i157⟩) hw) ((f_monAt aH aM).1) q27 (rd_of (show GT.rd KK _ _ ((f_monAt aH aM).1) q27 from ⟨o45.rn, o48.rn, o51.rn, o54.rn, o57.rn, i59, i60, o62.rn, i64⟩) hw)) .nil) (by kernel_rfl) ?_
            clear S; intro ac w β S
            rw [h173] at S
            refine S.quiet (k := 4) (keep := [1, 2, 6, 7, 9, 65]) (m := 4) (σ' := ⟨[(1, .v (I aM)), (2, .p 0 0), (6, .p 1 0), (7, .v (B ((f_monAt aH aM).2))), (9, .p 3 0), (65, .v (B (!((f_monAt aH aM).2 == (f_monAt aH aM).2))))], [GT.cells (α := THost) aH paH, [slv (((f_monAt aH aM).1).outer).length q27.outer.1, slv (((f_monAt aH aM).1).out).length q27.out.1, slv (((f_monAt aH aM).1).dirty).length q27.dirty.1, slv (((f_monAt aH aM).1).guests).length q27.guests.1, slv (((f_monAt aH aM).1).outs).length q27.outs.1, I (((f_monAt aH aM).1).pend), I (((f_monAt aH aM).1).traps), slv (((f_monAt aH aM).1).tables).length q27.tables.1, I (((f_monAt aH aM).1).owned)], [slv (y228.mem).length q227.mem.1, slv (y228.mons).length q227.mons.1, slv (y228.buf).length q227.buf.1, slv (y228.iobuf).length q227.iobuf.1], [slv (((f_monAt aH aM).1).outer).length q108.outer.1, slv (((f_monAt aH aM).1).out).length q108.out.1, slv (((f_monAt aH aM).1).dirty).length q108.dirty.1, slv (((f_monAt aH aM).1).guests).length q108.guests.1, slv (((f_monAt aH aM).1).outs).length q108.outs.1, I (((f_monAt aH aM).1).pend), I (((f_monAt aH aM).1).traps), slv (((f_monAt aH aM).1).tables).length q108.tables.1, I (((f_monAt aH aM).1).owned)]]⟩) .nil (by kernel_rfl) ?_
            clear S; intro ac w β S
            refine RG.done rfl (nx_then ?_)
            refine S.cond (e := (!((f_monAt aH aM).2 == (f_monAt aH aM).2))) (by kernel_rfl) (fun h256 => ?_) (fun h256 => ?_)
            · have h257 : ((f_monAt aH aM).2 == (f_monAt aH aM).2) = false := not_t h256
              have g258 : ¬ ((f_monAt aH aM).2 = (f_monAt aH aM).2) := ne_of_beq_false h257
              refine wp_seq ?_
              refine RG.start ?_
              refine S.quiet (k := 1) (keep := [4]) (m := 0) (σ' := ⟨[(4, .v (B false))], []⟩) .nil (by kernel_rfl) ?_
              clear S; intro ac w β S
              refine RG.done rfl (nx_then ?_)
              refine wp_ret (rt_then ?_)
              refine S.ret (vs := [B false]) (by kernel_rfl) ?_
              exact ⟨retB (show false = true by clear S; first | rfl | (exfalso; omega) | (exfalso; simp_all; done) | (exfalso; simp_all; omega)), S.chg⟩
            · have h259 : ((f_monAt aH aM).2 == (f_monAt aH aM).2) = true := not_f h256
              have g260 : (f_monAt aH aM).2 = (f_monAt aH aM).2 := eq_of_beq h259
              refine wp_skip (nx_then ?_)
              refine wp_seq ?_
              refine RG.start ?_
              refine S.quiet (k := 1) (keep := [1, 2, 6, 7, 9, 12]) (m := 4) (σ' := ⟨[(1, .v (I aM)), (2, .p 0 0), (6, .p 1 0), (7, .v (B ((f_monAt aH aM).2))), (9, .p 3 0), (12, .v (I 1))], [GT.cells (α := THost) aH paH, [slv (((f_monAt aH aM).1).outer).length q27.outer.1, slv (((f_monAt aH aM).1).out).length q27.out.1, slv (((f_monAt aH aM).1).dirty).length q27.dirty.1, slv (((f_monAt aH aM).1).guests).length q27.guests.1, slv (((f_monAt aH aM).1).outs).length q27.outs.1, I (((f_monAt aH aM).1).pend), I (((f_monAt aH aM).1).traps), slv (((f_monAt aH aM).1).tables).length q27.tables.1, I (((f_monAt aH aM).1).owned)], [slv (y228.mem).length q227.mem.1, slv (y228.mons).length q227.mons.1, slv (y228.buf).length q227.buf.1, slv (y228.iobuf).length q227.iobuf.1], [slv (((f_monAt aH aM).1).outer).length q108.outer.1, slv (((f_monAt aH aM).1).out).length q108.out.1, slv (((f_monAt aH aM).1).dirty).length q108.dirty.1, slv (((f_monAt aH aM).1).guests).length q108.guests.1, slv (((f_monAt aH aM).1).outs).length q108.outs.1, I (((f_monAt aH aM).1).pend), I (((f_monAt aH aM).1).traps), slv (((f_monAt aH aM).1).tables).length q108.tables.1, I (((f_monAt aH aM).1).owned)]]⟩) .nil (by kernel_rfl) ?_
              clear S; intro ac w β S
              refine RG.done rfl (nx_then ?_)
              refine wp_seq ?_
              refine RG.start ?_
              refine S.quiet (k := 2) (keep := [1, 2, 6, 7, 9, 66, 67]) (m := 4) (σ' := ⟨[(1, .v (I aM)), (2, .p 0 0), (6, .p 1 0), (7, .v (B ((f_monAt aH aM).2))), (9, .p 3 0), (66, .v (GT.val (α := TMon) ((f_monAt aH aM).1) q108)), (67, .v (I 1))], [GT.cells (α := THost) aH paH, [slv (((f_monAt aH aM).1).outer).length q27.outer.1, slv (((f_monAt aH aM).1).out).length q27.out.1, slv (((f_monAt aH aM).1).dirty).length q27.dirty.1, slv (((f_monAt aH aM).1).guests).length q27.guests.1, slv (((f_monAt aH aM).1).outs).length q27.outs.1, I (((f_monAt aH aM).1).pend), I (((f_monAt aH aM).1).traps), slv (((f_monAt aH aM).1).tables).length q27.tables.1, I (((f_monAt aH aM).1).owned)], [slv (y228.mem).length q227.mem.1, slv (y228.mons).length q227.mons.1, slv (y228.buf).length q227.buf.1, slv (y228.iobuf).length q227.iobuf.1], [slv (((f_monAt aH aM).1).outer).length q108.outer.1, slv (((f_monAt aH aM).1).out).length q108.out.1, slv (((f_monAt aH aM).1).dirty).length q108.dirty.1, slv (((f_monAt aH aM).1).guests).length q108.guests.1, slv (((f_monAt aH aM).1).outs).length q108.outs.1, I (((f_monAt aH aM).1).pend), I (((f_monAt aH aM).1).traps), slv (((f_monAt aH aM).1).tables).length q108.tables.1, I (((f_monAt aH aM).1).owned)]]⟩) .nil (by kernel_rfl) ?_
              clear S; intro ac w β S
              have o261 := ow_Mon (x := (f_monAt aH aM).1) (p := q108) o138 o141 o144 o147 o150 o155 d158 d159 d160 d161 d162 d163 d164 d165 d166 d167 d168 d169 d170 d171 d172 i152 i153 i157
              have z270 : SZ.sz ((f_monAt aH aM).1) ≤ 123145327476736 := SB.bd (o261.rn)
              refine RG.op rfl (S.callX (hd := hdT_Mon) (d := 68) o261 (c_laws_markMon w ((f_monAt aH aM).1) q108 (uniB [F137, F140, F143, F146, F149, F154]) (S.ownw o261) (fun b hb => (S.sep b (o261.sub b hb)).1) 1 (by omega) (by omega)) (by kernel_rfl) rfl ?_)
              clear S; intro ac w N q262 y263 k264 S up o265 c266 x267 b268 b269
              replace o45 := o45.upF (Disj.symm (Disj.or (Disj.part (Disj.symm d127) s139) (Disj.or (Disj.part (Disj.symm d127) s142) (Disj.or (Disj.part (Disj.symm d127) s145) (Disj.or (Disj.part (Disj.symm d127) s148) (Disj.or (Disj.part (Disj.symm d127) s151) (Disj.or (Disj.part (Disj.symm d127) s156) Disj.nob))))))) up
              replace o48 := o48.upF (Disj.symm (Disj.or (Disj.part (Disj.symm d128) s139) (Disj.or (Disj.part (Disj.symm d128) s142) (Disj.or (Disj.part (Disj.symm d128) s145) (Disj.or (Disj.part (Disj.symm d128) s148) (Disj.or (Disj.part (Disj.symm d128) s151) (Disj.or (Disj.part (Disj.symm d128) s156) Disj.nob))))))) up
              replace o51 := o51.upF (Disj.symm (Disj.or (Disj.part (Disj.symm d129) s139) (Disj.or (Disj.part (Disj.symm d129) s142) (Disj.or (Disj.part (Disj.symm d129) s145) (Disj.or (Disj.part (Disj.symm d129) s148) (Disj.or (Disj.part (Disj.symm d129) s151) (Disj.or (Disj.part (Disj.symm d129) s156) Disj.nob))))))) up
              replace o54 := o54.upF (Disj.symm (Disj.or (Disj.part (Disj.symm d130) s139) (Disj.or (Disj.part (Disj.symm d130) s142) (Disj.or (Disj.part (Disj.symm d130) s145) (Disj.or (Disj.part (Disj.symm d130) s148) (Disj.or (Disj.part (Disj.symm d130) s151) (Disj.or (Disj.part (Disj.symm d130) s156) Disj.nob))))))) up
              replace o57 := o57.upF (Disj.symm (Disj.or (Disj.part (Disj.symm d131) s139) (Disj.or (Disj.part (Disj.symm d131) s142) (Disj.or (Disj.part (Disj.symm d131) s145) (Disj.or (Disj.part (Disj.symm d131) s148) (Disj.or (Disj.part (Disj.symm d131) s151) (Disj.or (Disj.part (Disj.symm d131) s156) Disj.nob))))))) up
              replace o62 := o62.upF (Disj.symm (Disj.or (Disj.part (Disj.symm d132) s139) (Disj.or (Disj.part (Disj.symm d132) s142) (Disj.or (Disj.part (Disj.symm d132) s145) (Disj.or (Disj.part (Disj.symm d132) s148) (Disj.or (Disj.part (Disj.symm d132) s151) (Disj.or (Disj.part (Disj.symm d132) s156) Disj.nob))))))) up
              replace o236 := o236.upF (Disj.symm (Disj.or (Disj.symm (Disj.part (Disj.symm (Disj.symm (Disj.or (Disj.symm (Disj.part (Disj.symm d133) s139)) (Disj.or (Disj.symm (Disj.part (Disj.symm d134) s139)) (Disj.or (Disj.symm (Disj.part (Disj.symm d135) s139)) (Disj.or (Disj.symm (Disj.part (Disj.symm d136) s139)) Disj.nob)))))) s237)) (Disj.or (Disj.symm (Disj.part (Disj.symm (Disj.symm (Disj.or (Disj.symm (Disj.part (Disj.symm d133) s142)) (Disj.or (Disj.symm (Disj.part (Disj.symm d134) s142)) (Disj.or (Disj.symm (Disj.part (Disj.symm d135) s142)) (Disj.or (Disj.symm (Disj.part (Disj.symm d136) s142)) Disj.nob)))))) s237)) (Disj.or (Disj.symm (Disj.part (Disj.symm (Disj.symm (Disj.or (Disj.symm (Disj.part (Disj.symm d133) s145)) (Disj.or (Disj.symm (Disj.part (Disj.symm d134) s145)) (Disj.or (Disj.symm (Disj.part (Disj.symm d135) s145)) (Disj.or (Disj.symm (Disj.part (Disj.symm d136) s145)) Disj.nob)))))) s237)) (Disj.or (Disj.symm (Disj.part (Disj.symm (Disj.symm (Disj.or (Disj.symm (Disj.part (Disj.symm d133) s148)) (Disj.or (Disj.symm (Disj.part (Disj.symm d134) s148)) (Disj.or (Disj.symm (Disj.part (Disj.symm d135) s148)) (Disj.or (Disj.symm (Disj.part (Disj.symm d136) s148)) Disj.nob)))))) s237)) (Disj.or (Disj.symm (Disj.part (Disj.symm (Disj.symm (Disj.or (Disj.symm (Disj.part (Disj.symm d133) s151)) (Disj.or (Disj.symm (Disj.part (Disj.symm d134) s151)) (Disj.or (Disj.symm (Disj.part (Disj.symm d135) s151)) (Disj.or (Disj.symm (Disj.part (Disj.symm d136) s151)) Disj.nob)))))) s237)) (Disj.or (Disj.symm (Disj.part (Disj.symm (Disj.symm (Disj.or (Disj.symm (Disj.part (Disj.symm d133) s156)) (Disj.or (Disj.symm (Disj.part (Disj.symm d134) s156)) (Disj.or (Disj.symm (Disj.part (Disj.symm d135) s156)) (Disj.or (Disj.symm (Disj.part (Disj.symm d136) s156)) Disj.nob)))))) s237)) Disj.nob))))))) up
              replace o239 := o239.upF (Disj.symm (Disj.or (Disj.symm (Disj.part (Disj.symm (Disj.symm (Disj.or (Disj.symm (Disj.part (Disj.symm d133) s139)) (Disj.or (Disj.symm (Disj.part (Disj.symm d134) s139)) (Disj.or (Disj.symm (Disj.part (Disj.symm d135) s139)) (Disj.or (Disj.symm (Disj.part (Disj.symm d136) s139)) Disj.nob)))))) s240)) (Disj.or (Disj.symm (Disj.part (Disj.symm (Disj.symm (Disj.or (Disj.symm (Disj.part (Disj.symm d133) s142)) (Disj.or (Disj.symm (Disj.part (Disj.symm d134) s142)) (Disj.or (Disj.symm (Disj.part (Disj.symm d135) s142)) (Disj.or (Disj.symm (Disj.part (Disj.symm d136) s142)) Disj.nob)))))) s240)) (Disj.or (Disj.symm (Disj.part (Disj.symm (Disj.symm (Disj.or (Disj.symm (Disj.part (Disj.symm d133) s145)) (Disj.or (Disj.symm (Disj.part (Disj.symm d134) s145)) (Disj.or (Disj.symm (Disj.part (Disj.symm d135) s145)) (Disj.or (Disj.symm (Disj.part (Disj.symm d136) s145)) Disj.nob)))))) s240)) (Disj.or (Disj.symm (Disj.part (Disj.symm (Disj.symm (Disj.or (Disj.symm (Disj.part (Disj.symm d133) s148)) (Disj.or (Disj.symm (Disj.part (Disj.symm d134) s148)) (Disj.or (Disj.symm (Disj.part (Disj.symm d135) s148)) (Disj.or (Disj.symm (Disj.part (Disj.symm d136) s148)) Disj.nob)))))) s240)) (Disj.or (Disj.symm (Disj.part (Disj.symm (Disj.symm (Disj.or (Disj.symm (Disj.part (Disj.symm d133) s151)) (Disj.or (Disj.symm (Disj.part (Disj.symm d134) s151)) (Disj.or (Disj.symm (Disj.part (Disj.symm d135) s151)) (Disj.or (Disj.symm (Disj.part (Disj.symm d136) s151)) Disj.nob)))))) s240)) (Disj.or (Disj.symm (Disj.part (Disj.symm (Disj.symm (Disj.or (Disj.symm (Disj.part (Disj.symm d133) s156)) (Disj.or (Disj.symm (Disj.part (Disj.symm d134) s156)) (Disj.or (Disj.symm (Disj.part (Disj.symm d135) s156)) (Disj.or (Disj.symm (Disj.part (Disj.symm d136) s156)) Disj.nob)))))) s240)) Disj.nob))))))) up
              replace o242 := o242.upF (Disj.symm (Disj.or (Disj.symm (Disj.part (Disj.symm (Disj.symm (Disj.or (Disj.symm (Disj.part (Disj.symm d133) s139)) (Disj.or (Disj.symm (Disj.part (Disj.symm d134) s139)) (Disj.or (Disj.symm (Disj.part (Disj.symm d135) s139)) (Disj.or (Disj.symm (Disj.part (Disj.symm d136) s139)) Disj.nob)))))) s243)) (Disj.or (Disj.symm (Disj.part (Disj.symm (Disj.symm (Disj.or (Disj.symm (Disj.part (Disj.symm d133) s142)) (Disj.or (Disj.symm (Disj.part (Disj.symm d134) s142)) (Disj.or (Disj.symm (Disj.part (Disj.symm d135) s142)) (Disj.or (Disj.symm (Disj.part (Disj.symm d136) s142)) Disj.nob)))))) s243)) (Disj.or (Disj.symm (Disj.part (Disj.symm (Disj.symm (Disj.or (Disj.symm (Disj.part (Disj.symm d133) s145)) (Disj.or (Disj.symm (Disj.part (Disj.symm d134) s145)) (Disj.or (Disj.symm (Disj.part (Disj.symm d135) s145)) (Disj.or (Disj.symm (Disj.part (Disj.symm d136) s145)) Disj.nob)))))) s243)) (Disj.or (Disj.symm (Disj.part (Disj.symm (Disj.symm (Disj.or (Disj.symm (Disj.part (Disj.symm d133) s148)) (Disj.or (Disj.symm (Disj.part (Disj.symm d134) s148)) (Disj.or (Disj.symm (Disj.part (Disj.symm d135) s148)) (Disj.or (Disj.symm (Disj.part (Disj.symm d136) s148)) Disj.nob)))))) s243)) (Disj.or (Disj.symm (Disj.part (Disj.symm (Disj.symm (Disj.or (Disj.symm (Disj.part (Disj.symm d133) s151)) (Disj.or (Disj.symm (Disj.part (Disj.symm d134) s151)) (Disj.or (Disj.symm (Disj.part (Disj.symm d135) s151)) (Disj.or (Disj.symm (Disj.part (Disj.symm d136) s151)) Disj.nob)))))) s243)) (Disj.or (Disj.symm (Disj.part (Disj.symm (Disj.symm (Disj.or (Disj.symm (Disj.part (Disj.symm d133) s156)) (Disj.or (Disj.symm (Disj.part (Disj.symm d134) s156)) (Disj.or (Disj.symm (Disj.part (Disj.symm d135) s156)) (Disj.or (Disj.symm (Disj.part (Disj.symm d136) s156)) Disj.nob)))))) s243)) Disj.nob))))))) up
              replace o245 := o245.upF (Disj.symm (Disj.or (Disj.symm (Disj.part (Disj.symm (Disj.symm (Disj.or (Disj.symm (Disj.part (Disj.symm d133) s139)) (Disj.or (Disj.symm (Disj.part (Disj.symm d134) s139)) (Disj.or (Disj.symm (Disj.part (Disj.symm d135) s139)) (Disj.or (Disj.symm (Disj.part (Disj.symm d136) s139)) Disj.nob)))))) s246)) (Disj.or (Disj.symm (Disj.part (Disj.symm (Disj.symm (Disj.or (Disj.symm (Disj.part (Disj.symm d133) s142)) (Disj.or (Disj.symm (Disj.part (Disj.symm d134) s142)) (Disj.or (Disj.symm (Disj.part (Disj.symm d135) s142)) (Disj.or (Disj.symm (Disj.part (Disj.symm d136) s142)) Disj.nob)))))) s246)) (Disj.or (Disj.symm (Disj.part (Disj.symm (Disj.symm (Disj.or (Disj.symm (Disj.part (Disj.symm d133) s145)) (Disj.or (Disj.symm (Disj.part (Disj.symm d134) s145)) (Disj.or (Disj.symm (Disj.part (Disj.symm d135) s145)) (Disj.or (Disj.symm (Disj.part (Disj.symm d136) s145)) Disj.nob)))))) s246)) (Disj.or (Disj.symm (Disj.part (Disj.symm (Disj.symm (Disj.or (Disj.symm (Disj.part (Disj.symm d133) s148)) (Disj.or (Disj.symm (Disj.part (Disj.symm d134) s148)) (Disj.or (Disj.symm (Disj.part (Disj.symm d135) s148)) (Disj.or (Disj.symm (Disj.part (Disj.symm d136) s148)) Disj.nob)))))) s246)) (Disj.or (Disj.symm (Disj.part (Disj.symm (Disj.symm (Disj.or (Disj.symm (Disj.part (Disj.symm d133) s151)) (Disj.or (Disj.symm (Disj.part (Disj.symm d134) s151)) (Disj.or (Disj.symm (Disj.part (Disj.symm d135) s151)) (Disj.or (Disj.symm (Disj.part (Disj.symm d136) s151)) Disj.nob)))))) s246)) (Disj.or (Disj.symm (Disj.part (Disj.symm (Disj.symm (Disj.or (Disj.symm (Disj.part (Disj.symm d133) s156)) (Disj.or (Disj.symm (Disj.part (Disj.symm d134) s156)) (Disj.or (Disj.symm (Disj.part (Disj.symm d135) s156)) (Disj.or (Disj.symm (Disj.part (Disj.symm d136) s156)) Disj.nob)))))) s246)) Disj.nob))))))) up
              clear up
              replace S := S.prune (keep := [1, 2, 6, 7, 9, 67, 68]) (m := 4) (σ' := ⟨[(1, .v (I aM)), (2, .p 0 0), (6, .p 1 0), (7, .v (B ((f_monAt aH aM).2))), (9, .p 3 0), (67, .v (I 1)), (68, .v (I k264))], [GT.cells (α := THost) aH paH, [slv (((f_monAt aH aM).1).outer).length q27.outer.1, slv (((f_monAt aH aM).1).out).length q27.out.1, slv (((f_monAt aH aM).1).dirty).length q27.dirty.1, slv (((f_monAt aH aM).1).guests).length q27.guests.1, slv (((f_monAt aH aM).1).outs).length q27.outs.1, I (((f_monAt aH aM).1).pend), I (((f_monAt aH aM).1).traps), slv (((f_monAt aH aM).1).tables).length q27.tables.1, I (((f_monAt aH aM).1).owned)], [slv (y228.mem).length q227.mem.1, slv (y228.mons).length q227.mons.1, slv (y228.buf).length q227.buf.1, slv (y228.iobuf).length q227.iobuf.1], [slv (((f_monAt aH aM).1).outer).length q108.outer.1, slv (((f_monAt aH aM).1).out).length q108.out.1, slv (((f_monAt aH aM).1).dirty).length q108.dirty.1, slv (((f_monAt aH aM).1).guests).length q108.guests.1, slv (((f_monAt aH aM).1).outs).length q108.outs.1, I (((f_monAt aH aM).1).pend), I (((f_monAt aH aM).1).traps), slv (((f_monAt aH aM).1).tables).length q108.tables.1, I (((f_monAt aH aM).1).owned)]]⟩) (by kernel_rfl)
              have i286 : In64 y263.pend := RMon.pend (d := y263) o265.rn
              have i287 : In64 y263.traps := RMon.traps (d := y263) o265.rn
              have i291 : In64 y263.owned := RMon.owned (d := y263) o265.rn
              obtain ⟨F271, F274, F277, F280, F283, F288, o272, o275, o278, o281, o284, o289, s273, s276, s279, s282, s285, s290, d292, d293, d294, d295, d296, d297, d298, d299, d300, d301, d302, d303, d304, d305, d306⟩ := sp_Mon o265
              have hw0 : [slv (y263.outer).length q262.outer.1, slv (y263.out).length q262.out.1, slv (y263.dirty).length q262.dirty.1, slv (y263.guests).length q262.guests.1, slv (y263.outs).length q262.outs.1, I y263.pend, I y263.traps, slv (y263.tables).length q262.tables.1, I y263.owned] = [slv (((f_monAt aH aM).1).outer).length q108.outer.1, slv (((f_monAt aH aM).1).out).length q108.out.1, slv (((f_monAt aH aM).1).dirty).length q108.dirty.1, slv (((f_monAt aH aM).1).guests).length q108.guests.1, slv (((f_monAt aH aM).1).outs).length q108.outs.1, I (((f_monAt aH aM).1).pend), I (((f_monAt aH aM).1).traps), slv (((f_monAt aH aM).1).tables).length q108.tables.1, I (((f_monAt aH aM).1).owned)] := c266
              replace S := S.cast (σ' := ⟨[(1, .v (I aM)), (2, .p 0 0), (6, .p 1 0), (7, .v (B ((f_monAt aH aM).2))), (9, .p 3 0), (67, .v (I 1)), (68, .v (I k264))], [GT.cells (α := THost) aH paH, [slv (((f_monAt aH aM).1).outer).length q27.outer.1, slv (((f_monAt aH aM).1).out).length q27.out.1, slv (((f_monAt aH aM).1).dirty).length q27.dirty.1, slv (((f_monAt aH aM).1).guests).length q27.guests.1, slv (((f_monAt aH aM).1).outs).length q27.outs.1, I (((f_monAt aH aM).1).pend), I (((f_monAt aH aM).1).traps), slv (((f_monAt aH aM).1).tables).length q27.tables.1, I (((f_monAt aH aM).1).owned)], [slv (y228.mem).length q227.mem.1, slv (y228.mons).length q227.mons.1, slv (y228.buf).length q227.buf.1, slv (y228.iobuf).length q227.iobuf.1], [slv (y263.outer).length q262.outer.1, slv (y263.out).length q262.out.1, slv (y263.dirty).length q262.dirty.1, slv (y263.guests).length q262.guests.1, slv (y263.outs).length q262.outs.1, I y263.pend, I y263.traps, slv (y263.tables).length q262.tables.1, I y263.owned]]⟩) (by rw [hw0])
              clear hw0
              refine S.quiet (k := 1) (keep := [1, 2, 6, 7, 9, 12]) (m := 4) (σ' := ⟨[(1, .v (I aM)), (2, .p 0 0), (6, .p 1 0), (7, .v (B ((f_monAt aH aM).2))), (9, .p 3 0), (12, .v (I k264))], [GT.cells (α := THost) aH paH, [slv (((f_monAt aH aM).1).outer).length q27.outer.1, slv (((f_monAt aH aM).1).out).length q27.out.1, slv (((f_monAt aH aM).1).dirty).length q27.dirty.1, slv (((f_monAt aH aM).1).guests).length q27.guests.1, slv (((f_monAt aH aM).1).outs).length q27.outs.1, I (((f_monAt aH aM).1).pend), I (((f_monAt aH aM).1).traps), slv (((f_monAt aH aM).1).tables).length q27.tables.1, I (((f_monAt aH aM).1).owned)], [slv (y228.mem).length q227.mem.1, slv (y228.mons).length q227.mons.1, slv (y228.buf).length q227.buf.1, slv (y228.iobuf).length q227.iobuf.1], [slv (y263.outer).length q262.outer.1, slv (y263.out).length q262.out.1, slv (y263.dirty).length q262.dirty.1, slv (y263.guests).length q262.guests.1, slv (y263.outs).length q262.outs.1, I y263.pend, I y263.traps, slv (y263.tables).length q262.tables.1, I y263.owned]]⟩) .nil (by kernel_rfl) ?_
              clear S; intro ac w β S
              refine RG.done rfl (nx_then ?_)
              refine wp_seq ?_
              refine RG.start ?_
              refine S.quiet (k := 1) (keep := [1, 2, 6, 7, 9, 12, 13]) (m := 4) (σ' := ⟨[(1, .v (I aM)), (2, .p 0 0), (6, .p 1 0), (7, .v (B ((f_monAt aH aM).2))), (9, .p 3 0), (12, .v (I k264)), (13, .v (I 1))], [GT.cells (α := THost) aH paH, [slv (((f_monAt aH aM).1).outer).length q27.outer.1, slv (((f_monAt aH aM).1).out).length q27.out.1, slv (((f_monAt aH aM).1).dirty).length q27.dirty.1, slv (((f_monAt aH aM).1).guests).length q27.guests.1, slv (((f_monAt aH aM).1).outs).length q27.outs.1, I (((f_monAt aH aM).1).pend), I (((f_monAt aH aM).1).traps), slv (((f_monAt aH aM).1).tables).length q27.tables.1, I (((f_monAt aH aM).1).owned)], [slv (y228.mem).length q227.mem.1, slv (y228.mons).length q227.mons.1, slv (y228.buf).length q227.buf.1, slv (y228.iobuf).length q227.iobuf.1], [slv (y263.outer).length q262.outer.1, slv (y263.out).length q262.out.1, slv (y263.dirty).length q262.dirty.1, slv (y263.guests).length q262.guests.1, slv (y263.outs).length q262.outs.1, I y263.pend, I y263.traps, slv (y263.tables).length q262.tables.1, I y263.owned]]⟩) .nil (by kernel_rfl) ?_
              clear S; intro ac w β S
              refine RG.done rfl (nx_then ?_)
              refine wp_seq ?_
              refine RG.start ?_
              refine S.quiet (k := 4) (keep := [1, 2, 6, 7, 9, 12, 13]) (m := 4) (σ' := ⟨[(1, .v (I aM)), (2, .p 0 0), (6, .p 1 0), (7, .v (B ((f_monAt aH aM).2))), (9, .p 3 0), (12, .v (I k264)), (13, .v (I (hdT_Mon y263 1)))], [GT.cells (α := THost) aH paH, [slv (((f_monAt aH aM).1).outer).length q27.outer.1, slv (((f_monAt aH aM).1).out).length q27.out.1, slv (((f_monAt aH aM).1).dirty).length q27.dirty.1, slv (((f_monAt aH aM).1).guests).length q27.guests.1, slv (((f_monAt aH aM).1).outs).length q27.outs.1, I (((f_monAt aH aM).1).pend), I (((f_monAt aH aM).1).traps), slv (((f_monAt aH aM).1).tables).length q27.tables.1, I (((f_monAt aH aM).1).owned)], [slv (y228.mem).length q227.mem.1, slv (y228.mons).length q227.mons.1, slv (y228.buf).length q227.buf.1, slv (y228.iobuf).length q227.iobuf.1], [slv (y263.outer).length q262.outer.1, slv (y263.out).length q262.out.1, slv (y263.dirty).length q262.dirty.1, slv (y263.guests).length q262.guests.1, slv (y263.outs).length q262.outs.1, I y263.pend, I y263.traps, slv (y263.tables).length q262.tables.1, I y263.owned]]⟩) (.cons (Q_call fun w hw => c_laws_heldMon w y263 q262 (rd_of (show GT.rd KK _ _ y263 q262 from ⟨o272.rn, o275.rn, o278.rn, o281.rn, o284.rn, i286, i287, o289.rn, i291⟩) hw) 1) .nil) (by kernel_rfl) ?_
              clear S; intro ac w β S
              refine RG.done rfl (nx_then ?_)
              refine wp_seq ?_
              refine wp_seq ?_
              refine RG.start ?_
              refine S.quiet (k := 2) (keep := [1, 2, 6, 7, 9, 12, 13, 73]) (m := 4) (σ' := ⟨[(1, .v (I aM)), (2, .p 0 0), (6, .p 1 0), (7, .v (B ((f_monAt aH aM).2))), (9, .p 3 0), (12, .v (I k264)), (13, .v (I (hdT_Mon y263 1))), (73, .v (B (decide ((hdT_Mon y263 1) < 0))))], [GT.cells (α := THost) aH paH, [slv (((f_monAt aH aM).1).outer).length q27.outer.1, slv (((f_monAt aH aM).1).out).length q27.out.1, slv (((f_monAt aH aM).1).dirty).length q27.dirty.1, slv (((f_monAt aH aM).1).guests).length q27.guests.1, slv (((f_monAt aH aM).1).outs).length q27.outs.1, I (((f_monAt aH aM).1).pend), I (((f_monAt aH aM).1).traps), slv (((f_monAt aH aM).1).tables).length q27.tables.1, I (((f_monAt aH aM).1).owned)], [slv (y228.mem).length q227.mem.1, slv (y228.mons).length q227.mons.1, slv (y228.buf).length q227.buf.1, slv (y228.iobuf).length q227.iobuf.1], [slv (y263.outer).length q262.outer.1, slv (y263.out).length q262.out.1, slv (y263.dirty).length q262.dirty.1, slv (y263.guests).length q262.guests.1, slv (y263.outs).length q262.outs.1, I y263.pend, I y263.traps, slv (y263.tables).length q262.tables.1, I y263.owned]]⟩) .nil (by kernel_rfl) ?_
              clear S; intro ac w β S
              refine RG.done rfl (nx_then ?_)
              refine S.cond (e := (decide ((hdT_Mon y263 1) < 0))) (by kernel_rfl) (fun h307 => ?_) (fun h307 => ?_)
              · have g308 : (hdT_Mon y263 1) < 0 := of_decide_eq_true h307
                refine wp_seq ?_
                refine RG.start ?_
                refine S.quiet (k := 1) (keep := [4]) (m := 0) (σ' := ⟨[(4, .v (B false))], []⟩) .nil (by kernel_rfl) ?_
                clear S; intro ac w β S
                refine RG.done rfl (nx_then ?_)
                refine wp_ret (rt_then ?_)
                refine S.ret (vs := [B false]) (by kernel_rfl) ?_
                exact ⟨retB (show false = true by clear S; first | rfl | (exfalso; omega) | (exfalso; simp_all; done) | (exfalso; simp_all; omega)), S.chg⟩
              · have g309 : ¬ ((hdT_Mon y263 1) < 0) := of_decide_eq_false h307
                refine wp_skip (nx_then ?_)
                refine wp_seq ?_
                refine wp_seq ?_
                refine RG.start ?_
                refine S.quiet (k := 3) (keep := [1, 2, 6, 7, 9, 12, 76]) (m := 4) (σ' := ⟨[(1, .v (I aM)), (2, .p 0 0), (6, .p 1 0), (7, .v (B ((f_monAt aH aM).2))), (9, .p 3 0), (12, .v (I k264)), (76, .v (B ((hdT_Mon y263 1) != k264)))], [GT.cells (α := THost) aH paH, [slv (((f_monAt aH aM).1).outer).length q27.outer.1, slv (((f_monAt aH aM).1).out).length q27.out.1, slv (((f_monAt aH aM).1).dirty).length q27.dirty.1, slv (((f_monAt aH aM).1).guests).length q27.guests.1, slv (((f_monAt aH aM).1).outs).length q27.outs.1, I (((f_monAt aH aM).1).pend), I (((f_monAt aH aM).1).traps), slv (((f_monAt aH aM).1).tables).length q27.tables.1, I (((f_monAt aH aM).1).owned)], [slv (y228.mem).length q227.mem.1, slv (y228.mons).length q227.mons.1, slv (y228.buf).length q227.buf.1, slv (y228.iobuf).length q227.iobuf.1], [slv (y263.outer).length q262.outer.1, slv (y263.out).length q262.out.1, slv (y263.dirty).length q262.dirty.1, slv (y263.guests).length q262.guests.1, slv (y263.outs).length q262.outs.1, I y263.pend, I y263.traps, slv (y263.tables).length q262.tables.1, I y263.owned]]⟩) .nil (by kernel_rfl) ?_
                clear S; intro ac w β S
                refine RG.done rfl (nx_then ?_)
                refine S.cond (e := ((hdT_Mon y263 1) != k264)) (by kernel_rfl) (fun h310 => ?_) (fun h310 => ?_)
                · have g311 : ¬ ((hdT_Mon y263 1) = k264) := bne_iff_ne.1 h310
                  refine wp_seq ?_
                  refine RG.start ?_
                  refine S.quiet (k := 1) (keep := [4]) (m := 0) (σ' := ⟨[(4, .v (B false))], []⟩) .nil (by kernel_rfl) ?_
                  clear S; intro ac w β S
                  refine RG.done rfl (nx_then ?_)
                  refine wp_ret (rt_then ?_)
                  refine S.ret (vs := [B false]) (by kernel_rfl) ?_
                  exact ⟨retB (show false = true by clear S; first | rfl | (exfalso; omega) | (exfalso; simp_all; done) | (exfalso; simp_all; omega)), S.chg⟩
                · have g312 : (hdT_Mon y263 1) = k264 := ne_f h310
                  refine wp_skip (nx_then ?_)
                  refine wp_seq ?_
                  refine RG.start ?_
                  refine S.quiet (k := 1) (keep := [1, 6, 7, 9, 12, 78]) (m := 4) (σ' := ⟨[(1, .v (I aM)), (6, .p 1 0), (7, .v (B ((f_monAt aH aM).2))), (9, .p 3 0), (12, .v (I k264)), (78, .v (GT.val (α := THost) aH paH))], [GT.cells (α := THost) aH paH, [slv (((f_monAt aH aM).1).outer).length q27.outer.1, slv (((f_monAt aH aM).1).out).length q27.out.1, slv (((f_monAt aH aM).1).dirty).length q27.dirty.1, slv (((f_monAt aH aM).1).guests).length q27.guests.1, slv (((f_monAt aH aM).1).outs).length q27.outs.1, I (((f_monAt aH aM).1).pend), I (((f_monAt aH aM).1).traps), slv (((f_monAt aH aM).1).tables).length q27.tables.1, I (((f_monAt aH aM).1).owned)], [slv (y228.mem).length q227.mem.1, slv (y228.mons).length q227.mons.1, slv (y228.buf).length q227.buf.1, slv (y228.iobuf).length q227.iobuf.1], [slv (y263.outer).length q262.outer.1, slv (y263.out).length q262.out.1, slv (y263.dirty).length q262.dirty.1, slv (y263.guests).length q262.guests.1, slv (y263.outs).length q262.outs.1, I y263.pend, I y263.traps, slv (y263.tables).length q262.tables.1, I y263.owned]]⟩) .nil (by kernel_rfl) ?_
                  clear S; intro ac w β S
                  refine RG.op rfl (S.call1 (r := aH) (d := 79) (c_laws_toHost w aH paH (S.rd (S.arg hkaH))) (by kernel_rfl) rfl ?_)
                  clear S; intro ac w N q313 F314 S up o315 d316
                  have d317 : Disj F44 F314 := fun b x y => d316 b (o45.sub b x) y
                  have d318 : Disj F47 F314 := fun b x y => d316 b (o48.sub b x) y
                  have d319 : Disj F50 F314 := fun b x y => d316 b (o51.sub b x) y
                  have d320 : Disj F53 F314 := fun b x y => d316 b (o54.sub b x) y
                  have d321 : Disj F56 F314 := fun b x y => d316 b (o57.sub b x) y
                  have d322 : Disj F61 F314 := fun b x y => d316 b (o62.sub b x) y
                  have d323 : Disj F235 F314 := fun b x y => d316 b (o236.sub b x) y
                  have d324 : Disj F238 F314 := fun b x y => d316 b (o239.sub b x) y
                  have d325 : Disj F241 F314 := fun b x y => d316 b (o242.sub b x) y
                  have d326 : Disj F244 F314 := fun b x y => d316 b (o245.sub b x) y
                  have d327 : Disj F271 F314 := fun b x y => d316 b (o272.sub b x) y
                  have d328 : Disj F274 F314 := fun b x y => d316 b (o275.sub b x) y
                  have d329 : Disj F277 F314 := fun b x y => d316 b (o278.sub b x) y
                  have d330 : Disj F280 F314 := fun b x y => d316 b (o281.sub b x) y
                  have d331 : Disj F283 F314 := fun b x y => d316 b (o284.sub b x) y
                  have d332 : Disj F288 F314 := fun b x y => d316 b (o289.sub b x) y
                  replace o45 := o45.up up
                  replace o48 := o48.up up
                  replace o51 := o51.up up
                  replace o54 := o54.up up
                  replace o57 := o57.up up
                  replace o62 := o62.up up
                  replace o236 := o236.up up
                  replace o239 := o239.up up
                  replace o242 := o242.up up
                  replace o245 := o245.up up
                  replace o272 := o272.up up
                  replace o275 := o275.up up
                  replace o278 := o278.up up
                  replace o281 := o281.up up
                  replace o284 := o284.up up
                  replace o289 := o289.up up
                  clear up d316
                  obtain ⟨F333, F336, F339, F342, o334, o337, o340, o343, s335, s338, s341, s344, d345, d346, d347, d348, d349, d350⟩ := sp_Host o315
                  refine S.quiet (k := 1) (keep := [6, 7, 9, 12, 79, 80]) (m := 4) (σ' := ⟨[(6, .p 1 0), (7, .v (B ((f_monAt aH aM).2))), (9, .p 3 0), (12, .v (I k264)), (79, .v (GT.val (α := THost) aH q313)), (80, .v (I aM))], [GT.cells (α := THost) aH paH, [slv (((f_monAt aH aM).1).outer).length q27.outer.1, slv (((f_monAt aH aM).1).out).length q27.out.1, slv (((f_monAt aH aM).1).dirty).length q27.dirty.1, slv (((f_monAt aH aM).1).guests).length q27.guests.1, slv (((f_monAt aH aM).1).outs).length q27.outs.1, I (((f_monAt aH aM).1).pend), I (((f_monAt aH aM).1).traps), slv (((f_monAt aH aM).1).tables).length q27.tables.1, I (((f_monAt aH aM).1).owned)], [slv (y228.mem).length q227.mem.1, slv (y228.mons).length q227.mons.1, slv (y228.buf).length q227.buf.1, slv (y228.iobuf).length q227.iobuf.1], [slv (y263.outer).length q262.outer.1, slv (y263.out).length q262.out.1, slv (y263.dirty).length q262.dirty.1, slv (y263.guests).length q262.guests.1, slv (y263.outs).length q262.outs.1, I y263.pend, I y263.traps, slv (y263.tables).length q262.tables.1, I y263.owned]]⟩) .nil (by kernel_rfl) ?_
                  clear S; intro ac w β S
                  refine RG.op rfl (S.call2 (r := (f_monAt aH aM).1) (r' := (f_monAt aH aM).2) (d := 81) (c_impl_MonAt w aH q313 (S.rd (show GT.rd KK _ _ aH q313 from ⟨o334.rn, o337.rn, o340.rn, o343.rn⟩)) aM) (by kernel_rfl) rfl ?_)
                  clear S; intro ac w N q351 q352 F353 F354 S up o355 o356 d357 d358 d359
                  have d360 : Disj F44 F354 := fun b x y => d358 b (o45.sub b x) y
                  have d361 : Disj F47 F354 := fun b x y => d358 b (o48.sub b x) y
                  have d362 : Disj F50 F354 := fun b x y => d358 b (o51.sub b x) y
                  have d363 : Disj F53 F354 := fun b x y => d358 b (o54.sub b x) y
                  have d364 : Disj F56 F354 := fun b x y => d358 b (o57.sub b x) y
                  have d365 : Disj F61 F354 := fun b x y => d358 b (o62.sub b x) y
                  have d366 : Disj F235 F354 := fun b x y => d358 b (o236.sub b x) y
                  have d367 : Disj F238 F354 := fun b x y => d358 b (o239.sub b x) y
                  have d368 : Disj F241 F354 := fun b x y => d358 b (o242.sub b x) y
                  have d369 : Disj F244 F354 := fun b x y => d358 b (o245.sub b x) y
                  have d370 : Disj F271 F354 := fun b x y => d358 b (o272.sub b x) y
                  have d371 : Disj F274 F354 := fun b x y => d358 b (o275.sub b x) y
                  have d372 : Disj F277 F354 := fun b x y => d358 b (o278.sub b x) y
                  have d373 : Disj F280 F354 := fun b x y => d358 b (o281.sub b x) y
                  have d374 : Disj F283 F354 := fun b x y => d358 b (o284.sub b x) y
                  have d375 : Disj F288 F354 := fun b x y => d358 b (o289.sub b x) y
                  have d376 : Disj F333 F354 := fun b x y => d358 b (o334.sub b x) y
                  have d377 : Disj F336 F354 := fun b x y => d358 b (o337.sub b x) y
                  have d378 : Disj F339 F354 := fun b x y => d358 b (o340.sub b x) y
                  have d379 : Disj F342 F354 := fun b x y => d358 b (o343.sub b x) y
                  have d380 : Disj F44 F353 := fun b x y => d357 b (o45.sub b x) y
                  have d381 : Disj F47 F353 := fun b x y => d357 b (o48.sub b x) y
                  have d382 : Disj F50 F353 := fun b x y => d357 b (o51.sub b x) y
                  have d383 : Disj F53 F353 := fun b x y => d357 b (o54.sub b x) y
                  have d384 : Disj F56 F353 := fun b x y => d357 b (o57.sub b x) y
                  have d385 : Disj F61 F353 := fun b x y => d357 b (o62.sub b x) y
                  have d386 : Disj F235 F353 := fun b x y => d357 b (o236.sub b x) y
                  have d387 : Disj F238 F353 := fun b x y => d357 b (o239.sub b x) y
                  have d388 : Disj F241 F353 := fun b x y => d357 b (o242.sub b x) y
                  have d389 : Disj F244 F353 := fun b x y => d357 b (o245.sub b x) y
                  have d390 : Disj F271 F353 := fun b x y => d357 b (o272.sub b x) y
                  have d391 : Disj F274 F353 := fun b x y => d357 b (o275.sub b x) y
                  have d392 : Disj F277 F353 := fun b x y => d357 b (o278.sub b x) y
                  have d393 : Disj F280 F353 := fun b x y => d357 b (o281.sub b x) y
                  have d394 : Disj F283 F353 := fun b x y => d357 b (o284.sub b x) y
                  have d395 : Disj F288 F353 := fun b x y => d357 b (o289.sub b x) y
                  have d396 : Disj F333 F353 := fun b x y => d357 b (o334.sub b x) y
                  have d397 : Disj F336 F353 := fun b x y => d357 b (o337.sub b x) y
                  have d398 : Disj F339 F353 := fun b x y => d357 b (o340.sub b x) y
                  have d399 : Disj F342 F353 := fun b x y => d357 b (o343.sub b x) y
                  replace o45 := o45.up up
                  replace o48 := o48.up up
                  replace o51 := o51.up up
                  replace o54 := o54.up up
                  replace o57 := o57.up up
                  replace o62 := o62.up up
                  replace o236 := o236.up up
                  replace o239 := o239.up up
                  replace o242 := o242.up up
                  replace o245 := o245.up up
                  replace o272 := o272.up up
                  replace o275 := o275.up up
                  replace o278 := o278.up up
                  replace o281 := o281.up up
                  replace o284 := o284.up up
                  replace o289 := o289.up up
                  replace o334 := o334.up up
                  replace o337 := o337.up up
                  replace o340 := o340.up up
                  replace o343 := o343.up up
                  clear up d357
                  clear d358
                  have i415 : In64 ((f_monAt aH aM).1).pend := RMon.pend (d := ((f_monAt aH aM).1)) o355.rn
                  have i416 : In64 ((f_monAt aH aM).1).traps := RMon.traps (d := ((f_monAt aH aM).1)) o355.rn
                  have i420 : In64 ((f_monAt aH aM).1).owned := RMon.owned (d := ((f_monAt aH aM).1)) o355.rn
                  obtain ⟨F400, F403, F406, F409, F412, F417, o401, o404, o407, o410, o413, o418, s402, s405, s408, s411, s414, s419, d421, d422, d423, d424, d425, d426, d427, d428, d429, d430, d431, d432, d433, d434, d435⟩ := sp_Mon o355
                  refine S.quiet (k := 6) (keep := [6, 7, 9, 12, 14, 15]) (m := 5) (σ' := ⟨[(6, .p 1 0), (7, .v (B ((f_monAt aH aM).2))), (9, .p 3 0), (12, .v (I k264)), (14, .p 4 0), (15, .v (B ((f_monAt aH aM).2)))], [GT.cells (α := THost) aH paH, [slv (((f_monAt aH aM).1).outer).length q27.outer.1, slv (((f_monAt aH aM).1).out).length q27.out.1, slv (((f_monAt aH aM).1).dirty).length q27.dirty.1, slv (((f_monAt aH aM).1).guests).length q27.guests.1, slv (((f_monAt aH aM).1).outs).length q27.outs.1, I (((f_monAt aH aM).1).pend), I (((f_monAt aH aM).1).traps), slv (((f_monAt aH aM).1).tables).length q27.tables.1, I (((f_monAt aH aM).1).owned)], [slv (y228.mem).length q227.mem.1, slv (y228.mons).length q227.mons.1, slv (y228.buf).length q227.buf.1, slv (y228.iobuf).length q227.iobuf.1], [slv (y263.outer).length q262.outer.1, slv (y263.out).length q262.out.1, slv (y263.dirty).length q262.dirty.1, slv (y263.guests).length q262.guests.1, slv (y263.outs).length q262.outs.1, I y263.pend, I y263.traps, slv (y263.tables).length q262.tables.1, I y263.owned], [slv (((f_monAt aH aM).1).outer).length q351.outer.1, slv (((f_monAt aH aM).1).out).length q351.out.1, slv (((f_monAt aH aM).1).dirty).length q351.dirty.1, slv (((f_monAt aH aM).1).guests).length q351.guests.1, slv (((f_monAt aH aM).1).outs).length q351.outs.1, I (((f_monAt aH aM).1).pend), I (((f_monAt aH aM).1).traps), slv (((f_monAt aH aM).1).tables).length q351.tables.1, I (((f_monAt aH aM).1).owned)]]⟩) .nil (by kernel_rfl) ?_
                  clear S; intro ac w β S
                  refine RG.done rfl (nx_then ?_)
                  refine wp_seq ?_
                  refine wp_seq ?_
                  refine RG.start ?_
                  refine S.quiet (k := 5) (keep := [7, 9, 12, 15, 88]) (m := 4) (σ' := ⟨[(7, .v (B ((f_monAt aH aM).2))), (9, .p 3 0), (12, .v (I k264)), (15, .v (B ((f_monAt aH aM).2))), (88, .v (B (!(decide (((f_monAt aH aM).1) = ((f_monAt aH aM).1))))))], [GT.cells (α := THost) aH paH, [slv (((f_monAt aH aM).1).outer).length q27.outer.1, slv (((f_monAt aH aM).1).out).length q27.out.1, slv (((f_monAt aH aM).1).dirty).length q27.dirty.1, slv (((f_monAt aH aM).1).guests).length q27.guests.1, slv (((f_monAt aH aM).1).outs).length q27.outs.1, I (((f_monAt aH aM).1).pend), I (((f_monAt aH aM).1).traps), slv (((f_monAt aH aM).1).tables).length q27.tables.1, I (((f_monAt aH aM).1).owned)], [slv (y228.mem).length q227.mem.1, slv (y228.mons).length q227.mons.1, slv (y228.buf).length q227.buf.1, slv (y228.iobuf).length q227.iobuf.1], [slv (y263.outer).length q262.outer.1, slv (y263.out).length q262.out.1, slv (y263.dirty).length q262.dirty.1, slv (y263.guests).length q262.guests.1, slv (y263.outs).length q262.outs.1, I y263.pend, I y263.traps, slv (y263.tables).length q262.tables.1, I y263.owned]]⟩) (.cons (Q_call fun w hw => c_laws_eqMon w ((f_monAt aH aM).1) q351 (rd_of (show GT.rd KK _ _ ((f_monAt aH aM).1) q351 from ⟨o401.rn, o404.rn, o407.rn, o410.rn, o413.rn, i415, i416, o418.rn, i420⟩) hw) ((f_monAt aH aM).1) q27 (rd_of (show GT.rd KK _ _ ((f_monAt aH aM).1) q27 from ⟨o45.rn, o48.rn, o51.rn, o54.rn, o57.rn, i59, i60, o62.rn, i64⟩) hw)) .nil) (by kernel_rfl) ?_
                  clear S; intro ac w β S
                  rw [h173] at S
                  refine S.quiet (k := 4) (keep := [9, 12, 92]) (m := 4) (σ' := ⟨[(9, .p 3 0), (12, .v (I k264)), (92, .v (B (!((f_monAt aH aM).2 == (f_monAt aH aM).2))))], [GT.cells (α := THost) aH paH, [slv (((f_monAt aH aM).1).outer).length q27.outer.1, slv (((f_monAt aH aM).1).out).length q27.out.1, slv (((f_monAt aH aM).1).dirty).length q27.dirty.1, slv (((f_monAt aH aM).1).guests).length q27.guests.1, slv (((f_monAt aH aM).1).outs).length q27.outs.1, I (((f_monAt aH aM).1).pend), I (((f_monAt aH aM).1).traps), slv (((f_monAt aH aM).1).tables).length q27.tables.1, I (((f_monAt aH aM).1).owned)], [slv (y228.mem).length q227.mem.1, slv (y228.mons).length q227.mons.1, slv (y228.buf).length q227.buf.1, slv (y228.iobuf).length q227.iobuf.1], [slv (y263.outer).length q262.outer.1, slv (y263.out).length q262.out.1, slv (y263.dirty).length q262.dirty.1, slv (y263.guests).length q262.guests.1, slv (y263.outs).length q262.outs.1, I y263.pend, I y263.traps, slv (y263.tables).length q262.tables.1, I y263.owned]]⟩) .nil (by kernel_rfl) ?_
                  clear S; intro ac w β S
                  refine RG.done rfl (nx_then ?_)
                  refine S.cond (e := (!((f_monAt aH aM).2 == (f_monAt aH aM).2))) (by kernel_rfl) (fun h436 => ?_) (fun h436 => ?_)
                  · have h437 : ((f_monAt aH aM).2 == (f_monAt aH aM).2) = false := not_t h436
                    have g438 : ¬ ((f_monAt aH aM).2 = (f_monAt aH aM).2) := ne_of_beq_false h437
                    refine wp_seq ?_
                    refine RG.start ?_
                    refine S.quiet (k := 1) (keep := [4]) (m := 0) (σ' := ⟨[(4, .v (B false))], []⟩) .nil (by kernel_rfl) ?_
                    clear S; intro ac w β S
                    refine RG.done rfl (nx_then ?_)
                    refine wp_ret (rt_then ?_)
                    refine S.ret (vs := [B false]) (by kernel_rfl) ?_
                    exact ⟨retB (show false = true by clear S; first | rfl | (exfalso; omega) | (exfalso; simp_all; done) | (exfalso; simp_all; omega)), S.chg⟩
                  · have h439 : ((f_monAt aH aM).2 == (f_monAt aH aM).2) = true := not_f h436
                    have g440 : (f_monAt aH aM).2 = (f_monAt aH aM).2 := eq_of_beq h439
                    refine wp_skip (nx_then ?_)
                    refine wp_seq ?_
                    refine RG.start ?_
                    refine S.quiet (k := 1) (keep := [9, 12, 13]) (m := 4) (σ' := ⟨[(9, .p 3 0), (12, .v (I k264)), (13, .v (I 1))], [GT.cells (α := THost) aH paH, [slv (((f_monAt aH aM).1).outer).length q27.outer.1, slv (((f_monAt aH aM).1).out).length q27.out.1, slv (((f_monAt aH aM).1).dirty).length q27.dirty.1, slv (((f_monAt aH aM).1).guests).length q27.guests.1, slv (((f_monAt aH aM).1).outs).length q27.outs.1, I (((f_monAt aH aM).1).pend), I (((f_monAt aH aM).1).traps), slv (((f_monAt aH aM).1).tables).length q27.tables.1, I (((f_monAt aH aM).1).owned)], [slv (y228.mem).length q227.mem.1, slv (y228.mons).length q227.mons.1, slv (y228.buf).length q227.buf.1, slv (y228.iobuf).length q227.iobuf.1], [slv (y263.outer).length q262.outer.1, slv (y263.out).length q262.out.1, slv (y263.dirty).length q262.dirty.1, slv (y263.guests).length q262.guests.1, slv (y263.outs).length q262.outs.1, I y263.pend, I y263.traps, slv (y263.tables).length q262.tables.1, I y263.owned]]⟩) .nil (by kernel_rfl) ?_
                    clear S; intro ac w β S
                    refine RG.done rfl (nx_then ?_)
                    refine wp_seq ?_
                    refine RG.start ?_
                    refine S.quiet (k := 4) (keep := [12, 13]) (m := 0) (σ' := ⟨[(12, .v (I k264)), (13, .v (I (hdT_Mon y263 1)))], []⟩) (.cons (Q_call fun w hw => c_laws_heldMon w y263 q262 (rd_of (show GT.rd KK _ _ y263 q262 from ⟨o272.rn, o275.rn, o278.rn, o281.rn, o284.rn, i286, i287, o289.rn, i291⟩) hw) 1) .nil) (by kernel_rfl) ?_
                    clear S; intro ac w β S
                    refine RG.done rfl (nx_then ?_)
                    refine wp_seq ?_
                    refine wp_seq ?_
                    refine RG.start ?_
                    refine S.quiet (k := 2) (keep := [12, 13, 97]) (m := 0) (σ' := ⟨[(12, .v (I k264)), (13, .v (I (hdT_Mon y263 1))), (97, .v (B (decide ((hdT_Mon y263 1) < 0))))], []⟩) .nil (by kernel_rfl) ?_
                    clear S; intro ac w β S
                    refine RG.done rfl (nx_then ?_)
                    refine S.cond (e := (decide ((hdT_Mon y263 1) < 0))) (by kernel_rfl) (fun h441 => ?_) (fun h441 => ?_)
                    · have g442 : (hdT_Mon y263 1) < 0 := of_decide_eq_true h441
                      refine wp_seq ?_
                      refine RG.start ?_
                      refine S.quiet (k := 1) (keep := [4]) (m := 0) (σ' := ⟨[(4, .v (B false))], []⟩) .nil (by kernel_rfl) ?_
                      clear S; intro ac w β S
                      refine RG.done rfl (nx_then ?_)
                      refine wp_ret (rt_then ?_)
                      refine S.ret (vs := [B false]) (by kernel_rfl) ?_
                      exact ⟨retB (show false = true by clear S; first | rfl | (exfalso; omega) | (exfalso; simp_all; done) | (exfalso; simp_all; omega)), S.chg⟩
                    · have g443 : ¬ ((hdT_Mon y263 1) < 0) := of_decide_eq_false h441
                      refine wp_skip (nx_then ?_)
                      refine wp_seq ?_
                      refine wp_seq ?_
                      refine RG.start ?_
                      refine S.quiet (k := 3) (keep := [100]) (m := 0) (σ' := ⟨[(100, .v (B ((hdT_Mon y263 1) != k264)))], []⟩) .nil (by kernel_rfl) ?_
                      clear S; intro ac w β S
                      refine RG.done rfl (nx_then ?_)
                      refine S.cond (e := ((hdT_Mon y263 1) != k264)) (by kernel_rfl) (fun h444 => ?_) (fun h444 => ?_)
                      · have g445 : ¬ ((hdT_Mon y263 1) = k264) := bne_iff_ne.1 h444
                        refine wp_seq ?_
                        refine RG.start ?_
                        refine S.quiet (k := 1) (keep := [4]) (m := 0) (σ' := ⟨[(4, .v (B false))], []⟩) .nil (by kernel_rfl) ?_
                        clear S; intro ac w β S
                        refine RG.done rfl (nx_then ?_)
                        refine wp_ret (rt_then ?_)
                        refine S.ret (vs := [B false]) (by kernel_rfl) ?_
                        exact ⟨retB (show false = true by clear S; first | rfl | (exfalso; omega) | (exfalso; simp_all; done) | (exfalso; simp_all; omega)), S.chg⟩
                      · have g446 : (hdT_Mon y263 1) = k264 := ne_f h444
                        refine wp_skip (nx_then ?_)
                        refine wp_seq ?_
                        refine RG.start ?_
                        refine S.quiet (k := 1) (keep := [4]) (m := 0) (σ' := ⟨[(4, .v (B true))], []⟩) .nil (by kernel_rfl) ?_
                        clear S; intro ac w β S
                        refine RG.done rfl (nx_then ?_)
                        refine wp_ret ?_
                        refine S.ret (vs := [B true]) (by kernel_rfl) ?_
                        exact ⟨retB (show true = true by clear S; first | rfl | (exfalso; omega) | (exfalso; simp_all; done) | (exfalso; simp_all; omega)), S.chg⟩

end Go.Proofs.Ytcoabfmpdnlfdaa
