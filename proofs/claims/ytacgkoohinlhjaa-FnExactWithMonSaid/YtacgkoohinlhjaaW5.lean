/- The walks: what each function that the laws reach computes (part 5). -/
import Derived.Test.YtacgkoohinlhjaaW4
import Derived.Test.YtacgkoohinlhjaaProg
import Derived.KernelRfl
namespace Go.Proofs.Ytacgkoohinlhjaa
open Go
set_option linter.unusedVariables false
set_option linter.unusedSimpArgs false

set_option maxRecDepth 100000 in
theorem c_laws_heldMonS (w0 : World) (a : List TMon) (pa : LP TMon) (ha : GT.rd KK (Lt w0.heap.size) w0 a pa) (k : Int) : Calls Try.prog 69 [slv (a).length pa.1, I k].toArray w0 (fun e w' => e = .returned (I (hdl a k)) ∧ Chg NoB w0 w') := by
  refine Calls.walk (args := [slv (a).length pa.1, I k]) NoB Try.func69 rfl rfl ?_
  intro ac β S
  have hlea : a.length ≤ 4194304 := LRd.le ha
  refine wp_seq ?_
  refine RG.start ?_
  refine S.quiet (k := 1) (keep := [0, 1]) (m := 0) (σ' := ⟨[(0, .v (slv (a).length pa.1)), (1, .v (I k))], []⟩) .nil (by kernel_rfl) ?_
  clear S; intro ac w β S
  refine RG.done rfl (nx_then ?_)
  refine wp_seq ?_
  refine wp_seq ?_
  refine RG.start ?_
  refine S.quiet (k := 1) (keep := [0, 1, 5]) (m := 0) (σ' := ⟨[(0, .v (slv (a).length pa.1)), (1, .v (I k)), (5, .v (I 0))], []⟩) .nil (by kernel_rfl) ?_
  clear S; intro ac w β S
  refine RG.done rfl (nx_then ?_)
  refine wp_block ?_
  replace S := S.prune (keep := [0, 1, 5]) (m := 0) (σ' := ⟨[(0, .v (slv (a).length pa.1)), (1, .v (I k)), (5, .v (I 0))], []⟩) (by kernel_rfl)
  refine wp_loop_down (fun mm ac w => ∃ (i : Nat) (j : Int)  (u : World) (N : Bl) (β : Nat → Nat), mm = a.length - i ∧ (i ≤ a.length) ∧ (hdl a k = hdlc (a.drop i) j id) ∧ St Try.prog Try.f69.ntmps w0 NoB u N β ⟨[(0, .v (slv (a).length pa.1)), (1, .v (I j)), (5, .v (I (i : Int)))], []⟩ ac w) _ ⟨0, k, _, _, _, rfl, (by first | omega | (simp; done) | (simp; omega)), (by rfl), S.cast (by kernel_rfl)⟩ ?_
  clear S
  rintro mm ac w ⟨i, j, u, N, β, rfl, hi, hr, S⟩
  refine wp_seq ?_
  refine wp_seq ?_
  refine RG.start ?_
  refine S.quiet (k := 4) (keep := [0, 1, 5, 9]) (m := 0) (σ' := ⟨[(0, .v (slv (a).length pa.1)), (1, .v (I j)), (5, .v (I (i : Int))), (9, .v (B (decide ((i : Int) < ((a).length : Int)))))], []⟩) .nil (by kernel_rfl) ?_
  clear S; intro ac w β S
  refine RG.done rfl (nx_then ?_)
  refine S.cond (e := (decide ((i : Int) < ((a).length : Int)))) (by kernel_rfl) (fun h1 => ?_) (fun h1 => ?_)
  · have g2 : (i : Int) < ((a).length : Int) := of_decide_eq_true h1
    refine wp_skip (nx_then ?_)
    refine wp_seq ?_
    refine wp_block ?_
    refine wp_seq ?_
    refine RG.start ?_
    refine S.quiet (k := 8) (keep := [0, 1, 5]) (m := 0) (σ' := ⟨[(0, .v (slv (a).length pa.1)), (1, .v (I (hdl ((el a i).outer) j))), (5, .v (I (i : Int)))], []⟩) (.cons (Q_idx (S.arg ha) (l := (a).length) (k := i) (i := (i : Int)) rfl rfl (by omega) Try.underlying36 (by kernel_rfl)) (.cons (Q_cell (S.arg ha) (t := 42) (k := i) (j := 0) (v := slv ((el a i).outer).length ((pa.2 i).outer).1) (by omega) (by kernel_rfl) (by kernel_rfl)) (.cons (Q_call fun w hw => c_laws_heldSlotS w ((el a i).outer) ((pa.2 i).outer) (rd_of (RMon.outer (d := (el a i)) (LRd.el (S.arg ha) i (by omega))) hw) j) .nil))) (by kernel_rfl) ?_
    clear S; intro ac w β S
    refine RG.done rfl (nx_then ?_)
    refine wp_seq ?_
    refine wp_seq ?_
    refine RG.start ?_
    refine S.quiet (k := 2) (keep := [0, 1, 5, 20]) (m := 0) (σ' := ⟨[(0, .v (slv (a).length pa.1)), (1, .v (I (hdl ((el a i).outer) j))), (5, .v (I (i : Int))), (20, .v (B (decide ((hdl ((el a i).outer) j) < 0))))], []⟩) .nil (by kernel_rfl) ?_
    clear S; intro ac w β S
    refine RG.done rfl (nx_then ?_)
    refine S.cond (e := (decide ((hdl ((el a i).outer) j) < 0))) (by kernel_rfl) (fun h3 => ?_) (fun h3 => ?_)
    · have g4 : (hdl ((el a i).outer) j) < 0 := of_decide_eq_true h3
      refine wp_seq ?_
      refine RG.start ?_
      refine S.quiet (k := 1) (keep := [4]) (m := 0) (σ' := ⟨[(4, .v (I (-1)))], []⟩) .nil (by kernel_rfl) ?_
      clear S; intro ac w β S
      refine RG.done rfl (nx_then ?_)
      refine wp_ret (rt_then (rt_block (rt_then (rt_then (rt_block (rt_then ?_))))))
      refine S.ret (vs := [I (-1)]) (by kernel_rfl) ?_
      exact ⟨retI (show (-1) = hdl a k by clear S; (first | (rw [hr, hd_end (by omega)]; done) | (rw [hr, hd_step (by omega)]; simp [he_Mon, hdi, hdb, hdc, *]; done) | (rw [hr, hd_step (by omega)]; simp_all [he_Mon, hdi, hdb, hdc]; done))), S.chg⟩
    · have g5 : ¬ ((hdl ((el a i).outer) j) < 0) := of_decide_eq_false h3
      refine wp_skip (nx_then ?_)
      refine wp_seq ?_
      refine RG.start ?_
      refine S.quiet (k := 8) (keep := [0, 1, 5]) (m := 0) (σ' := ⟨[(0, .v (slv (a).length pa.1)), (1, .v (I (hdl ((el a i).out) (hdl ((el a i).outer) j)))), (5, .v (I (i : Int)))], []⟩) (.cons (Q_idx (S.arg ha) (l := (a).length) (k := i) (i := (i : Int)) rfl rfl (by omega) Try.underlying36 (by kernel_rfl)) (.cons (Q_cell (S.arg ha) (t := 22) (k := i) (j := 1) (v := slv ((el a i).out).length ((pa.2 i).out).1) (by omega) (by kernel_rfl) (by kernel_rfl)) (.cons (Q_call fun w hw => c_laws_heldIntSS w ((el a i).out) ((pa.2 i).out) (rd_of (RMon.out (d := (el a i)) (LRd.el (S.arg ha) i (by omega))) hw) (hdl ((el a i).outer) j)) .nil))) (by kernel_rfl) ?_
      clear S; intro ac w β S
      refine RG.done rfl (nx_then ?_)
      refine wp_seq ?_
      refine wp_seq ?_
      refine RG.start ?_
      refine S.quiet (k := 2) (keep := [0, 1, 5, 29]) (m := 0) (σ' := ⟨[(0, .v (slv (a).length pa.1)), (1, .v (I (hdl ((el a i).out) (hdl ((el a i).outer) j)))), (5, .v (I (i : Int))), (29, .v (B (decide ((hdl ((el a i).out) (hdl ((el a i).outer) j)) < 0))))], []⟩) .nil (by kernel_rfl) ?_
      clear S; intro ac w β S
      refine RG.done rfl (nx_then ?_)
      refine S.cond (e := (decide ((hdl ((el a i).out) (hdl ((el a i).outer) j)) < 0))) (by kernel_rfl) (fun h6 => ?_) (fun h6 => ?_)
      · have g7 : (hdl ((el a i).out) (hdl ((el a i).outer) j)) < 0 := of_decide_eq_true h6
        refine wp_seq ?_
        refine RG.start ?_
        refine S.quiet (k := 1) (keep := [4]) (m := 0) (σ' := ⟨[(4, .v (I (-1)))], []⟩) .nil (by kernel_rfl) ?_
        clear S; intro ac w β S
        refine RG.done rfl (nx_then ?_)
        refine wp_ret (rt_then (rt_block (rt_then (rt_then (rt_block (rt_then ?_))))))
        refine S.ret (vs := [I (-1)]) (by kernel_rfl) ?_
        exact ⟨retI (show (-1) = hdl a k by clear S; (first | (rw [hr, hd_end (by omega)]; done) | (rw [hr, hd_step (by omega)]; simp [he_Mon, hdi, hdb, hdc, *]; done) | (rw [hr, hd_step (by omega)]; simp_all [he_Mon, hdi, hdb, hdc]; done))), S.chg⟩
      · have g8 : ¬ ((hdl ((el a i).out) (hdl ((el a i).outer) j)) < 0) := of_decide_eq_false h6
        refine wp_skip (nx_then ?_)
        refine wp_seq ?_
        refine RG.start ?_
        refine S.quiet (k := 8) (keep := [0, 1, 5]) (m := 0) (σ' := ⟨[(0, .v (slv (a).length pa.1)), (1, .v (I (hdl ((el a i).dirty) (hdl ((el a i).out) (hdl ((el a i).outer) j))))), (5, .v (I (i : Int)))], []⟩) (.cons (Q_idx (S.arg ha) (l := (a).length) (k := i) (i := (i : Int)) rfl rfl (by omega) Try.underlying36 (by kernel_rfl)) (.cons (Q_cell (S.arg ha) (t := 28) (k := i) (j := 2) (v := slv ((el a i).dirty).length ((pa.2 i).dirty).1) (by omega) (by kernel_rfl) (by kernel_rfl)) (.cons (Q_call fun w hw => c_laws_heldBoolS w ((el a i).dirty) ((pa.2 i).dirty) (rd_of (RMon.dirty (d := (el a i)) (LRd.el (S.arg ha) i (by omega))) hw) (hdl ((el a i).out) (hdl ((el a i).outer) j))) .nil))) (by kernel_rfl) ?_
        clear S; intro ac w β S
        refine RG.done rfl (nx_then ?_)
        refine wp_seq ?_
        refine wp_seq ?_
        refine RG.start ?_
        refine S.quiet (k := 2) (keep := [0, 1, 5, 38]) (m := 0) (σ' := ⟨[(0, .v (slv (a).length pa.1)), (1, .v (I (hdl ((el a i).dirty) (hdl ((el a i).out) (hdl ((el a i).outer) j))))), (5, .v (I (i : Int))), (38, .v (B (decide ((hdl ((el a i).dirty) (hdl ((el a i).out) (hdl ((el a i).outer) j))) < 0))))], []⟩) .nil (by kernel_rfl) ?_
        clear S; intro ac w β S
        refine RG.done rfl (nx_then ?_)
        refine S.cond (e := (decide ((hdl ((el a i).dirty) (hdl ((el a i).out) (hdl ((el a i).outer) j))) < 0))) (by kernel_rfl) (fun h9 => ?_) (fun h9 => ?_)
        · have g10 : (hdl ((el a i).dirty) (hdl ((el a i).out) (hdl ((el a i).outer) j))) < 0 := of_decide_eq_true h9
          refine wp_seq ?_
          refine RG.start ?_
          refine S.quiet (k := 1) (keep := [4]) (m := 0) (σ' := ⟨[(4, .v (I (-1)))], []⟩) .nil (by kernel_rfl) ?_
          clear S; intro ac w β S
          refine RG.done rfl (nx_then ?_)
          refine wp_ret (rt_then (rt_block (rt_then (rt_then (rt_block (rt_then ?_))))))
          refine S.ret (vs := [I (-1)]) (by kernel_rfl) ?_
          exact ⟨retI (show (-1) = hdl a k by clear S; (first | (rw [hr, hd_end (by omega)]; done) | (rw [hr, hd_step (by omega)]; simp [he_Mon, hdi, hdb, hdc, *]; done) | (rw [hr, hd_step (by omega)]; simp_all [he_Mon, hdi, hdb, hdc]; done))), S.chg⟩
        · have g11 : ¬ ((hdl ((el a i).dirty) (hdl ((el a i).out) (hdl ((el a i).outer) j))) < 0) := of_decide_eq_false h9
          refine wp_skip (nx_then ?_)
          refine wp_seq ?_
          refine RG.start ?_
          refine S.quiet (k := 8) (keep := [0, 1, 5]) (m := 0) (σ' := ⟨[(0, .v (slv (a).length pa.1)), (1, .v (I (hdl ((el a i).guests) (hdl ((el a i).dirty) (hdl ((el a i).out) (hdl ((el a i).outer) j)))))), (5, .v (I (i : Int)))], []⟩) (.cons (Q_idx (S.arg ha) (l := (a).length) (k := i) (i := (i : Int)) rfl rfl (by omega) Try.underlying36 (by kernel_rfl)) (.cons (Q_cell (S.arg ha) (t := 43) (k := i) (j := 3) (v := slv ((el a i).guests).length ((pa.2 i).guests).1) (by omega) (by kernel_rfl) (by kernel_rfl)) (.cons (Q_call fun w hw => c_laws_heldGuestS w ((el a i).guests) ((pa.2 i).guests) (rd_of (RMon.guests (d := (el a i)) (LRd.el (S.arg ha) i (by omega))) hw) (hdl ((el a i).dirty) (hdl ((el a i).out) (hdl ((el a i).outer) j)))) .nil))) (by kernel_rfl) ?_
          clear S; intro ac w β S
          refine RG.done rfl (nx_then ?_)
          refine wp_seq ?_
          refine wp_seq ?_
          refine RG.start ?_
          refine S.quiet (k := 2) (keep := [0, 1, 5, 47]) (m := 0) (σ' := ⟨[(0, .v (slv (a).length pa.1)), (1, .v (I (hdl ((el a i).guests) (hdl ((el a i).dirty) (hdl ((el a i).out) (hdl ((el a i).outer) j)))))), (5, .v (I (i : Int))), (47, .v (B (decide ((hdl ((el a i).guests) (hdl ((el a i).dirty) (hdl ((el a i).out) (hdl ((el a i).outer) j)))) < 0))))], []⟩) .nil (by kernel_rfl) ?_
          clear S; intro ac w β S
          refine RG.done rfl (nx_then ?_)
          refine S.cond (e := (decide ((hdl ((el a i).guests) (hdl ((el a i).dirty) (hdl ((el a i).out) (hdl ((el a i).outer) j)))) < 0))) (by kernel_rfl) (fun h12 => ?_) (fun h12 => ?_)
          · have g13 : (hdl ((el a i).guests) (hdl ((el a i).dirty) (hdl ((el a i).out) (hdl ((el a i).outer) j)))) < 0 := of_decide_eq_true h12
            refine wp_seq ?_
            refine RG.start ?_
            refine S.quiet (k := 1) (keep := [4]) (m := 0) (σ' := ⟨[(4, .v (I (-1)))], []⟩) .nil (by kernel_rfl) ?_
            clear S; intro ac w β S
            refine RG.done rfl (nx_then ?_)
            refine wp_ret (rt_then (rt_block (rt_then (rt_then (rt_block (rt_then ?_))))))
            refine S.ret (vs := [I (-1)]) (by kernel_rfl) ?_
            exact ⟨retI (show (-1) = hdl a k by clear S; (first | (rw [hr, hd_end (by omega)]; done) | (rw [hr, hd_step (by omega)]; simp [he_Mon, hdi, hdb, hdc, *]; done) | (rw [hr, hd_step (by omega)]; simp_all [he_Mon, hdi, hdb, hdc]; done))), S.chg⟩
          · have g14 : ¬ ((hdl ((el a i).guests) (hdl ((el a i).dirty) (hdl ((el a i).out) (hdl ((el a i).outer) j)))) < 0) := of_decide_eq_false h12
            refine wp_skip (nx_then ?_)
            refine wp_seq ?_
            refine RG.start ?_
            refine S.quiet (k := 8) (keep := [0, 1, 5]) (m := 0) (σ' := ⟨[(0, .v (slv (a).length pa.1)), (1, .v (I (hdl ((el a i).outs) (hdl ((el a i).guests) (hdl ((el a i).dirty) (hdl ((el a i).out) (hdl ((el a i).outer) j))))))), (5, .v (I (i : Int)))], []⟩) (.cons (Q_idx (S.arg ha) (l := (a).length) (k := i) (i := (i : Int)) rfl rfl (by omega) Try.underlying36 (by kernel_rfl)) (.cons (Q_cell (S.arg ha) (t := 30) (k := i) (j := 4) (v := slv ((el a i).outs).length ((pa.2 i).outs).1) (by omega) (by kernel_rfl) (by kernel_rfl)) (.cons (Q_call fun w hw => c_laws_heldIntS w ((el a i).outs) ((pa.2 i).outs) (rd_of (RMon.outs (d := (el a i)) (LRd.el (S.arg ha) i (by omega))) hw) (hdl ((el a i).guests) (hdl ((el a i).dirty) (hdl ((el a i).out) (hdl ((el a i).outer) j))))) .nil))) (by kernel_rfl) ?_
            clear S; intro ac w β S
            refine RG.done rfl (nx_then ?_)
            refine wp_seq ?_
            refine wp_seq ?_
            refine RG.start ?_
            refine S.quiet (k := 2) (keep := [0, 1, 5, 56]) (m := 0) (σ' := ⟨[(0, .v (slv (a).length pa.1)), (1, .v (I (hdl ((el a i).outs) (hdl ((el a i).guests) (hdl ((el a i).dirty) (hdl ((el a i).out) (hdl ((el a i).outer) j))))))), (5, .v (I (i : Int))), (56, .v (B (decide ((hdl ((el a i).outs) (hdl ((el a i).guests) (hdl ((el a i).dirty) (hdl ((el a i).out) (hdl ((el a i).outer) j))))) < 0))))], []⟩) .nil (by kernel_rfl) ?_
            clear S; intro ac w β S
            refine RG.done rfl (nx_then ?_)
            refine S.cond (e := (decide ((hdl ((el a i).outs) (hdl ((el a i).guests) (hdl ((el a i).dirty) (hdl ((el a i).out) (hdl ((el a i).outer) j))))) < 0))) (by kernel_rfl) (fun h15 => ?_) (fun h15 => ?_)
            · have g16 : (hdl ((el a i).outs) (hdl ((el a i).guests) (hdl ((el a i).dirty) (hdl ((el a i).out) (hdl ((el a i).outer) j))))) < 0 := of_decide_eq_true h15
              refine wp_seq ?_
              refine RG.start ?_
              refine S.quiet (k := 1) (keep := [4]) (m := 0) (σ' := ⟨[(4, .v (I (-1)))], []⟩) .nil (by kernel_rfl) ?_
              clear S; intro ac w β S
              refine RG.done rfl (nx_then ?_)
              refine wp_ret (rt_then (rt_block (rt_then (rt_then (rt_block (rt_then ?_))))))
              refine S.ret (vs := [I (-1)]) (by kernel_rfl) ?_
              exact ⟨retI (show (-1) = hdl a k by clear S; (first | (rw [hr, hd_end (by omega)]; done) | (rw [hr, hd_step (by omega)]; simp [he_Mon, hdi, hdb, hdc, *]; done) | (rw [hr, hd_step (by omega)]; simp_all [he_Mon, hdi, hdb, hdc]; done))), S.chg⟩
            · have g17 : ¬ ((hdl ((el a i).outs) (hdl ((el a i).guests) (hdl ((el a i).dirty) (hdl ((el a i).out) (hdl ((el a i).outer) j))))) < 0) := of_decide_eq_false h15
              refine wp_skip (nx_then ?_)
              refine wp_seq ?_
              refine wp_seq ?_
              refine RG.start ?_
              refine S.quiet (k := 7) (keep := [0, 1, 5, 63]) (m := 0) (σ' := ⟨[(0, .v (slv (a).length pa.1)), (1, .v (I (hdl ((el a i).outs) (hdl ((el a i).guests) (hdl ((el a i).dirty) (hdl ((el a i).out) (hdl ((el a i).outer) j))))))), (5, .v (I (i : Int))), (63, .v (B ((el a i).pend != (hdl ((el a i).outs) (hdl ((el a i).guests) (hdl ((el a i).dirty) (hdl ((el a i).out) (hdl ((el a i).outer) j))))))))], []⟩) (.cons (Q_idx (S.arg ha) (l := (a).length) (k := i) (i := (i : Int)) rfl rfl (by omega) Try.underlying36 (by kernel_rfl)) (.cons (Q_cell (S.arg ha) (t := 3) (k := i) (j := 5) (v := I ((el a i).pend)) (by omega) (by kernel_rfl) (by kernel_rfl)) .nil)) (by kernel_rfl) ?_
              clear S; intro ac w β S
              refine RG.done rfl (nx_then ?_)
              refine S.cond (e := ((el a i).pend != (hdl ((el a i).outs) (hdl ((el a i).guests) (hdl ((el a i).dirty) (hdl ((el a i).out) (hdl ((el a i).outer) j))))))) (by kernel_rfl) (fun h18 => ?_) (fun h18 => ?_)
              · have g19 : ¬ ((el a i).pend = (hdl ((el a i).outs) (hdl ((el a i).guests) (hdl ((el a i).dirty) (hdl ((el a i).out) (hdl ((el a i).outer) j)))))) := bne_iff_ne.1 h18
                refine wp_seq ?_
                refine RG.start ?_
                refine S.quiet (k := 1) (keep := [4]) (m := 0) (σ' := ⟨[(4, .v (I (-1)))], []⟩) .nil (by kernel_rfl) ?_
                clear S; intro ac w β S
                refine RG.done rfl (nx_then ?_)
                refine wp_ret (rt_then (rt_block (rt_then (rt_then (rt_block (rt_then ?_))))))
                refine S.ret (vs := [I (-1)]) (by kernel_rfl) ?_
                exact ⟨retI (show (-1) = hdl a k by clear S; (first | (rw [hr, hd_end (by omega)]; done) | (rw [hr, hd_step (by omega)]; simp [he_Mon, hdi, hdb, hdc, *]; done) | (rw [hr, hd_step (by omega)]; simp_all [he_Mon, hdi, hdb, hdc]; done))), S.chg⟩
              · have g20 : (el a i).pend = (hdl ((el a i).outs) (hdl ((el a i).guests) (hdl ((el a i).dirty) (hdl ((el a i).out) (hdl ((el a i).outer) j))))) := ne_f h18
                refine wp_skip (nx_then ?_)
                refine wp_seq ?_
                refine RG.start ?_
                refine S.quiet (k := 3) (keep := [0, 1, 5]) (m := 0) (σ' := ⟨[(0, .v (slv (a).length pa.1)), (1, .v (I (IntKind.i64.wrap ((hdl ((el a i).outs) (hdl ((el a i).guests) (hdl ((el a i).dirty) (hdl ((el a i).out) (hdl ((el a i).outer) j))))) + 1)))), (5, .v (I (i : Int)))], []⟩) (.cons (Q_addw (x := (hdl ((el a i).outs) (hdl ((el a i).guests) (hdl ((el a i).dirty) (hdl ((el a i).out) (hdl ((el a i).outer) j)))))) (y := 1)) .nil) (by kernel_rfl) ?_
                clear S; intro ac w β S
                refine RG.done rfl (nx_then ?_)
                refine wp_seq ?_
                refine wp_seq ?_
                refine RG.start ?_
                refine S.quiet (k := 7) (keep := [0, 1, 5, 72]) (m := 0) (σ' := ⟨[(0, .v (slv (a).length pa.1)), (1, .v (I (IntKind.i64.wrap ((hdl ((el a i).outs) (hdl ((el a i).guests) (hdl ((el a i).dirty) (hdl ((el a i).out) (hdl ((el a i).outer) j))))) + 1)))), (5, .v (I (i : Int))), (72, .v (B ((el a i).traps != (IntKind.i64.wrap ((hdl ((el a i).outs) (hdl ((el a i).guests) (hdl ((el a i).dirty) (hdl ((el a i).out) (hdl ((el a i).outer) j))))) + 1)))))], []⟩) (.cons (Q_idx (S.arg ha) (l := (a).length) (k := i) (i := (i : Int)) rfl rfl (by omega) Try.underlying36 (by kernel_rfl)) (.cons (Q_cell (S.arg ha) (t := 3) (k := i) (j := 6) (v := I ((el a i).traps)) (by omega) (by kernel_rfl) (by kernel_rfl)) .nil)) (by kernel_rfl) ?_
                clear S; intro ac w β S
                refine RG.done rfl (nx_then ?_)
                refine S.cond (e := ((el a i).traps != (IntKind.i64.wrap ((hdl ((el a i).outs) (hdl ((el a i).guests) (hdl ((el a i).dirty) (hdl ((el a i).out) (hdl ((el a i).outer) j))))) + 1)))) (by kernel_rfl) (fun h21 => ?_) (fun h21 => ?_)
                · have g22 : ¬ ((el a i).traps = (IntKind.i64.wrap ((hdl ((el a i).outs) (hdl ((el a i).guests) (hdl ((el a i).dirty) (hdl ((el a i).out) (hdl ((el a i).outer) j))))) + 1))) := bne_iff_ne.1 h21
                  refine wp_seq ?_
                  refine RG.start ?_
                  refine S.quiet (k := 1) (keep := [4]) (m := 0) (σ' := ⟨[(4, .v (I (-1)))], []⟩) .nil (by kernel_rfl) ?_
                  clear S; intro ac w β S
                  refine RG.done rfl (nx_then ?_)
                  refine wp_ret (rt_then (rt_block (rt_then (rt_then (rt_block (rt_then ?_))))))
                  refine S.ret (vs := [I (-1)]) (by kernel_rfl) ?_
                  exact ⟨retI (show (-1) = hdl a k by clear S; (first | (rw [hr, hd_end (by omega)]; done) | (rw [hr, hd_step (by omega)]; simp [he_Mon, hdi, hdb, hdc, *]; done) | (rw [hr, hd_step (by omega)]; simp_all [he_Mon, hdi, hdb, hdc]; done))), S.chg⟩
                · have g23 : (el a i).traps = (IntKind.i64.wrap ((hdl ((el a i).outs) (hdl ((el a i).guests) (hdl ((el a i).dirty) (hdl ((el a i).out) (hdl ((el a i).outer) j))))) + 1)) := ne_f h21
                  refine wp_skip (nx_then ?_)
                  refine wp_seq ?_
                  refine RG.start ?_
                  refine S.quiet (k := 3) (keep := [0, 1, 5]) (m := 0) (σ' := ⟨[(0, .v (slv (a).length pa.1)), (1, .v (I (IntKind.i64.wrap ((IntKind.i64.wrap ((hdl ((el a i).outs) (hdl ((el a i).guests) (hdl ((el a i).dirty) (hdl ((el a i).out) (hdl ((el a i).outer) j))))) + 1)) + 1)))), (5, .v (I (i : Int)))], []⟩) (.cons (Q_addw (x := (IntKind.i64.wrap ((hdl ((el a i).outs) (hdl ((el a i).guests) (hdl ((el a i).dirty) (hdl ((el a i).out) (hdl ((el a i).outer) j))))) + 1))) (y := 1)) .nil) (by kernel_rfl) ?_
                  clear S; intro ac w β S
                  refine RG.done rfl (nx_then ?_)
                  refine wp_seq ?_
                  refine RG.start ?_
                  refine S.quiet (k := 8) (keep := [0, 1, 5]) (m := 0) (σ' := ⟨[(0, .v (slv (a).length pa.1)), (1, .v (I (hdl ((el a i).tables) (IntKind.i64.wrap ((IntKind.i64.wrap ((hdl ((el a i).outs) (hdl ((el a i).guests) (hdl ((el a i).dirty) (hdl ((el a i).out) (hdl ((el a i).outer) j))))) + 1)) + 1))))), (5, .v (I (i : Int)))], []⟩) (.cons (Q_idx (S.arg ha) (l := (a).length) (k := i) (i := (i : Int)) rfl rfl (by omega) Try.underlying36 (by kernel_rfl)) (.cons (Q_cell (S.arg ha) (t := 44) (k := i) (j := 7) (v := slv ((el a i).tables).length ((pa.2 i).tables).1) (by omega) (by kernel_rfl) (by kernel_rfl)) (.cons (Q_call fun w hw => c_laws_heldKeptS w ((el a i).tables) ((pa.2 i).tables) (rd_of (RMon.tables (d := (el a i)) (LRd.el (S.arg ha) i (by omega))) hw) (IntKind.i64.wrap ((IntKind.i64.wrap ((hdl ((el a i).outs) (hdl ((el a i).guests) (hdl ((el a i).dirty) (hdl ((el a i).out) (hdl ((el a i).outer) j))))) + 1)) + 1))) .nil))) (by kernel_rfl) ?_
                  clear S; intro ac w β S
                  refine RG.done rfl (nx_then ?_)
                  refine wp_seq ?_
                  refine wp_seq ?_
                  refine RG.start ?_
                  refine S.quiet (k := 2) (keep := [0, 1, 5, 83]) (m := 0) (σ' := ⟨[(0, .v (slv (a).length pa.1)), (1, .v (I (hdl ((el a i).tables) (IntKind.i64.wrap ((IntKind.i64.wrap ((hdl ((el a i).outs) (hdl ((el a i).guests) (hdl ((el a i).dirty) (hdl ((el a i).out) (hdl ((el a i).outer) j))))) + 1)) + 1))))), (5, .v (I (i : Int))), (83, .v (B (decide ((hdl ((el a i).tables) (IntKind.i64.wrap ((IntKind.i64.wrap ((hdl ((el a i).outs) (hdl ((el a i).guests) (hdl ((el a i).dirty) (hdl ((el a i).out) (hdl ((el a i).outer) j))))) + 1)) + 1))) < 0))))], []⟩) .nil (by kernel_rfl) ?_
                  clear S; intro ac w β S
                  refine RG.done rfl (nx_then ?_)
                  refine S.cond (e := (decide ((hdl ((el a i).tables) (IntKind.i64.wrap ((IntKind.i64.wrap ((hdl ((el a i).outs) (hdl ((el a i).guests) (hdl ((el a i).dirty) (hdl ((el a i).out) (hdl ((el a i).outer) j))))) + 1)) + 1))) < 0))) (by kernel_rfl) (fun h24 => ?_) (fun h24 => ?_)
                  · have g25 : (hdl ((el a i).tables) (IntKind.i64.wrap ((IntKind.i64.wrap ((hdl ((el a i).outs) (hdl ((el a i).guests) (hdl ((el a i).dirty) (hdl ((el a i).out) (hdl ((el a i).outer) j))))) + 1)) + 1))) < 0 := of_decide_eq_true h24
                    refine wp_seq ?_
                    refine RG.start ?_
                    refine S.quiet (k := 1) (keep := [4]) (m := 0) (σ' := ⟨[(4, .v (I (-1)))], []⟩) .nil (by kernel_rfl) ?_
                    clear S; intro ac w β S
                    refine RG.done rfl (nx_then ?_)
                    refine wp_ret (rt_then (rt_block (rt_then (rt_then (rt_block (rt_then ?_))))))
                    refine S.ret (vs := [I (-1)]) (by kernel_rfl) ?_
                    exact ⟨retI (show (-1) = hdl a k by clear S; (first | (rw [hr, hd_end (by omega)]; done) | (rw [hr, hd_step (by omega)]; simp [he_Mon, hdi, hdb, hdc, *]; done) | (rw [hr, hd_step (by omega)]; simp_all [he_Mon, hdi, hdb, hdc]; done))), S.chg⟩
                  · have g26 : ¬ ((hdl ((el a i).tables) (IntKind.i64.wrap ((IntKind.i64.wrap ((hdl ((el a i).outs) (hdl ((el a i).guests) (hdl ((el a i).dirty) (hdl ((el a i).out) (hdl ((el a i).outer) j))))) + 1)) + 1))) < 0) := of_decide_eq_false h24
                    refine wp_skip (nx_then ?_)
                    refine wp_seq ?_
                    refine wp_seq ?_
                    refine RG.start ?_
                    refine S.quiet (k := 7) (keep := [0, 1, 5, 90]) (m := 0) (σ' := ⟨[(0, .v (slv (a).length pa.1)), (1, .v (I (hdl ((el a i).tables) (IntKind.i64.wrap ((IntKind.i64.wrap ((hdl ((el a i).outs) (hdl ((el a i).guests) (hdl ((el a i).dirty) (hdl ((el a i).out) (hdl ((el a i).outer) j))))) + 1)) + 1))))), (5, .v (I (i : Int))), (90, .v (B ((el a i).owned != (hdl ((el a i).tables) (IntKind.i64.wrap ((IntKind.i64.wrap ((hdl ((el a i).outs) (hdl ((el a i).guests) (hdl ((el a i).dirty) (hdl ((el a i).out) (hdl ((el a i).outer) j))))) + 1)) + 1))))))], []⟩) (.cons (Q_idx (S.arg ha) (l := (a).length) (k := i) (i := (i : Int)) rfl rfl (by omega) Try.underlying36 (by kernel_rfl)) (.cons (Q_cell (S.arg ha) (t := 3) (k := i) (j := 8) (v := I ((el a i).owned)) (by omega) (by kernel_rfl) (by kernel_rfl)) .nil)) (by kernel_rfl) ?_
                    clear S; intro ac w β S
                    refine RG.done rfl (nx_then ?_)
                    refine S.cond (e := ((el a i).owned != (hdl ((el a i).tables) (IntKind.i64.wrap ((IntKind.i64.wrap ((hdl ((el a i).outs) (hdl ((el a i).guests) (hdl ((el a i).dirty) (hdl ((el a i).out) (hdl ((el a i).outer) j))))) + 1)) + 1))))) (by kernel_rfl) (fun h27 => ?_) (fun h27 => ?_)
                    · have g28 : ¬ ((el a i).owned = (hdl ((el a i).tables) (IntKind.i64.wrap ((IntKind.i64.wrap ((hdl ((el a i).outs) (hdl ((el a i).guests) (hdl ((el a i).dirty) (hdl ((el a i).out) (hdl ((el a i).outer) j))))) + 1)) + 1)))) := bne_iff_ne.1 h27
                      refine wp_seq ?_
                      refine RG.start ?_
                      refine S.quiet (k := 1) (keep := [4]) (m := 0) (σ' := ⟨[(4, .v (I (-1)))], []⟩) .nil (by kernel_rfl) ?_
                      clear S; intro ac w β S
                      refine RG.done rfl (nx_then ?_)
                      refine wp_ret (rt_then (rt_block (rt_then (rt_then (rt_block (rt_then ?_))))))
                      refine S.ret (vs := [I (-1)]) (by kernel_rfl) ?_
                      exact ⟨retI (show (-1) = hdl a k by clear S; (first | (rw [hr, hd_end (by omega)]; done) | (rw [hr, hd_step (by omega)]; simp [he_Mon, hdi, hdb, hdc, *]; done) | (rw [hr, hd_step (by omega)]; simp_all [he_Mon, hdi, hdb, hdc]; done))), S.chg⟩
                    · have g29 : (el a i).owned = (hdl ((el a i).tables) (IntKind.i64.wrap ((IntKind.i64.wrap ((hdl ((el a i).outs) (hdl ((el a i).guests) (hdl ((el a i).dirty) (hdl ((el a i).out) (hdl ((el a i).outer) j))))) + 1)) + 1))) := ne_f h27
                      refine wp_skip (nx_then ?_)
                      refine RG.start ?_
                      refine S.quiet (k := 3) (keep := [0, 1, 5]) (m := 0) (σ' := ⟨[(0, .v (slv (a).length pa.1)), (1, .v (I (IntKind.i64.wrap ((hdl ((el a i).tables) (IntKind.i64.wrap ((IntKind.i64.wrap ((hdl ((el a i).outs) (hdl ((el a i).guests) (hdl ((el a i).dirty) (hdl ((el a i).out) (hdl ((el a i).outer) j))))) + 1)) + 1))) + 1)))), (5, .v (I (i : Int)))], []⟩) (.cons (Q_addw (x := (hdl ((el a i).tables) (IntKind.i64.wrap ((IntKind.i64.wrap ((hdl ((el a i).outs) (hdl ((el a i).guests) (hdl ((el a i).dirty) (hdl ((el a i).out) (hdl ((el a i).outer) j))))) + 1)) + 1)))) (y := 1)) .nil) (by kernel_rfl) ?_
                      clear S; intro ac w β S
                      refine RG.done rfl (nx_block (nx_then ?_))
                      refine RG.start ?_
                      refine S.quiet (k := 3) (keep := [0, 1, 5]) (m := 0) (σ' := ⟨[(0, .v (slv (a).length pa.1)), (1, .v (I (IntKind.i64.wrap ((hdl ((el a i).tables) (IntKind.i64.wrap ((IntKind.i64.wrap ((hdl ((el a i).outs) (hdl ((el a i).guests) (hdl ((el a i).dirty) (hdl ((el a i).out) (hdl ((el a i).outer) j))))) + 1)) + 1))) + 1)))), (5, .v (I ((i : Int) + 1)))], []⟩) (.cons (Q_add (x := (i : Int)) (y := 1) ⟨by omega, by omega⟩) .nil) (by kernel_rfl) ?_
                      clear S; intro ac w β S
                      refine RG.done rfl (nx_then ?_)
                      replace S := S.prune (keep := [0, 1, 5]) (m := 0) (σ' := ⟨[(0, .v (slv (a).length pa.1)), (1, .v (I (IntKind.i64.wrap ((hdl ((el a i).tables) (IntKind.i64.wrap ((IntKind.i64.wrap ((hdl ((el a i).outs) (hdl ((el a i).guests) (hdl ((el a i).dirty) (hdl ((el a i).out) (hdl ((el a i).outer) j))))) + 1)) + 1))) + 1)))), (5, .v (I ((i : Int) + 1)))], []⟩) (by kernel_rfl)
                      refine ⟨a.length - (i + 1), by omega, i + 1, (IntKind.i64.wrap ((hdl ((el a i).tables) (IntKind.i64.wrap ((IntKind.i64.wrap ((hdl ((el a i).outs) (hdl ((el a i).guests) (hdl ((el a i).dirty) (hdl ((el a i).out) (hdl ((el a i).outer) j))))) + 1)) + 1))) + 1)), _, _, _, rfl, ?_, ?_, S.cast (by kernel_rfl)⟩
                      · clear S; first | omega | (simp [*]; done) | (simp [*]; omega)
                      · clear S; (rw [hr, hd_step (by omega)]; simp [he_Mon, hdi, hdb, hdc, *])
  · have g30 : ¬ ((i : Int) < ((a).length : Int)) := of_decide_eq_false h1
    refine wp_exit (ex_then (ex_then (ex_hit (nx_then ?_))))
    refine wp_seq ?_
    refine RG.start ?_
    refine S.quiet (k := 2) (keep := [4]) (m := 0) (σ' := ⟨[(4, .v (I j))], []⟩) .nil (by kernel_rfl) ?_
    clear S; intro ac w β S
    refine RG.done rfl (nx_then ?_)
    refine wp_ret ?_
    refine S.ret (vs := [I j]) (by kernel_rfl) ?_
    exact ⟨retI (show j = hdl a k by clear S; (first | (rw [hr, hd_end (by omega)]; done) | (rw [hr, hd_step (by omega)]; simp [he_Mon, hdi, hdb, hdc, *]; done) | (rw [hr, hd_step (by omega)]; simp_all [he_Mon, hdi, hdb, hdc]; done))), S.chg⟩

set_option maxRecDepth 100000 in
theorem c_laws_heldEntryS (w0 : World) (a : List TEntry) (pa : LP TEntry) (ha : GT.rd KK (Lt w0.heap.size) w0 a pa) (k : Int) : Calls Try.prog 70 [slv (a).length pa.1, I k].toArray w0 (fun e w' => e = .returned (I (hdl a k)) ∧ Chg NoB w0 w') := by
  refine Calls.walk (args := [slv (a).length pa.1, I k]) NoB Try.func70 rfl rfl ?_
  intro ac β S
  have hlea : a.length ≤ 4194304 := LRd.le ha
  refine wp_seq ?_
  refine RG.start ?_
  refine S.quiet (k := 1) (keep := [0, 1]) (m := 0) (σ' := ⟨[(0, .v (slv (a).length pa.1)), (1, .v (I k))], []⟩) .nil (by kernel_rfl) ?_
  clear S; intro ac w β S
  refine RG.done rfl (nx_then ?_)
  refine wp_seq ?_
  refine wp_seq ?_
  refine RG.start ?_
  refine S.quiet (k := 1) (keep := [0, 1, 5]) (m := 0) (σ' := ⟨[(0, .v (slv (a).length pa.1)), (1, .v (I k)), (5, .v (I 0))], []⟩) .nil (by kernel_rfl) ?_
  clear S; intro ac w β S
  refine RG.done rfl (nx_then ?_)
  refine wp_block ?_
  replace S := S.prune (keep := [0, 1, 5]) (m := 0) (σ' := ⟨[(0, .v (slv (a).length pa.1)), (1, .v (I k)), (5, .v (I 0))], []⟩) (by kernel_rfl)
  refine wp_loop_down (fun mm ac w => ∃ (i : Nat) (j : Int)  (u : World) (N : Bl) (β : Nat → Nat), mm = a.length - i ∧ (i ≤ a.length) ∧ (hdl a k = hdlc (a.drop i) j id) ∧ St Try.prog Try.f70.ntmps w0 NoB u N β ⟨[(0, .v (slv (a).length pa.1)), (1, .v (I j)), (5, .v (I (i : Int)))], []⟩ ac w) _ ⟨0, k, _, _, _, rfl, (by first | omega | (simp; done) | (simp; omega)), (by rfl), S.cast (by kernel_rfl)⟩ ?_
  clear S
  rintro mm ac w ⟨i, j, u, N, β, rfl, hi, hr, S⟩
  refine wp_seq ?_
  refine wp_seq ?_
  refine RG.start ?_
  refine S.quiet (k := 4) (keep := [0, 1, 5, 9]) (m := 0) (σ' := ⟨[(0, .v (slv (a).length pa.1)), (1, .v (I j)), (5, .v (I (i : Int))), (9, .v (B (decide ((i : Int) < ((a).length : Int)))))], []⟩) .nil (by kernel_rfl) ?_
  clear S; intro ac w β S
  refine RG.done rfl (nx_then ?_)
  refine S.cond (e := (decide ((i : Int) < ((a).length : Int)))) (by kernel_rfl) (fun h1 => ?_) (fun h1 => ?_)
  · have g2 : (i : Int) < ((a).length : Int) := of_decide_eq_true h1
    refine wp_skip (nx_then ?_)
    refine wp_seq ?_
    refine wp_block ?_
    refine wp_seq ?_
    refine wp_seq ?_
    refine RG.start ?_
    refine S.quiet (k := 7) (keep := [0, 1, 5, 18]) (m := 0) (σ' := ⟨[(0, .v (slv (a).length pa.1)), (1, .v (I j)), (5, .v (I (i : Int))), (18, .v (B ((el a i).tag != j)))], []⟩) (.cons (Q_idx (S.arg ha) (l := (a).length) (k := i) (i := (i : Int)) rfl rfl (by omega) Try.underlying37 (by kernel_rfl)) (.cons (Q_cell (S.arg ha) (t := 3) (k := i) (j := 0) (v := I ((el a i).tag)) (by omega) (by kernel_rfl) (by kernel_rfl)) .nil)) (by kernel_rfl) ?_
    clear S; intro ac w β S
    refine RG.done rfl (nx_then ?_)
    refine S.cond (e := ((el a i).tag != j)) (by kernel_rfl) (fun h3 => ?_) (fun h3 => ?_)
    · have g4 : ¬ ((el a i).tag = j) := bne_iff_ne.1 h3
      refine wp_seq ?_
      refine RG.start ?_
      refine S.quiet (k := 1) (keep := [4]) (m := 0) (σ' := ⟨[(4, .v (I (-1)))], []⟩) .nil (by kernel_rfl) ?_
      clear S; intro ac w β S
      refine RG.done rfl (nx_then ?_)
      refine wp_ret (rt_then (rt_block (rt_then (rt_then (rt_block (rt_then ?_))))))
      refine S.ret (vs := [I (-1)]) (by kernel_rfl) ?_
      exact ⟨retI (show (-1) = hdl a k by clear S; (first | (rw [hr, hd_end (by omega)]; done) | (rw [hr, hd_step (by omega)]; simp [he_Entry, hdi, hdb, hdc, *]; done) | (rw [hr, hd_step (by omega)]; simp_all [he_Entry, hdi, hdb, hdc]; done))), S.chg⟩
    · have g5 : (el a i).tag = j := ne_f h3
      refine wp_skip (nx_then ?_)
      refine wp_seq ?_
      refine RG.start ?_
      refine S.quiet (k := 3) (keep := [0, 1, 5]) (m := 0) (σ' := ⟨[(0, .v (slv (a).length pa.1)), (1, .v (I (IntKind.i64.wrap (j + 1)))), (5, .v (I (i : Int)))], []⟩) (.cons (Q_addw (x := j) (y := 1)) .nil) (by kernel_rfl) ?_
      clear S; intro ac w β S
      refine RG.done rfl (nx_then ?_)
      refine wp_seq ?_
      refine wp_seq ?_
      refine RG.start ?_
      refine S.quiet (k := 7) (keep := [0, 1, 5, 27]) (m := 0) (σ' := ⟨[(0, .v (slv (a).length pa.1)), (1, .v (I (IntKind.i64.wrap (j + 1)))), (5, .v (I (i : Int))), (27, .v (B ((el a i).page != (IntKind.i64.wrap (j + 1)))))], []⟩) (.cons (Q_idx (S.arg ha) (l := (a).length) (k := i) (i := (i : Int)) rfl rfl (by omega) Try.underlying37 (by kernel_rfl)) (.cons (Q_cell (S.arg ha) (t := 3) (k := i) (j := 1) (v := I ((el a i).page)) (by omega) (by kernel_rfl) (by kernel_rfl)) .nil)) (by kernel_rfl) ?_
      clear S; intro ac w β S
      refine RG.done rfl (nx_then ?_)
      refine S.cond (e := ((el a i).page != (IntKind.i64.wrap (j + 1)))) (by kernel_rfl) (fun h6 => ?_) (fun h6 => ?_)
      · have g7 : ¬ ((el a i).page = (IntKind.i64.wrap (j + 1))) := bne_iff_ne.1 h6
        refine wp_seq ?_
        refine RG.start ?_
        refine S.quiet (k := 1) (keep := [4]) (m := 0) (σ' := ⟨[(4, .v (I (-1)))], []⟩) .nil (by kernel_rfl) ?_
        clear S; intro ac w β S
        refine RG.done rfl (nx_then ?_)
        refine wp_ret (rt_then (rt_block (rt_then (rt_then (rt_block (rt_then ?_))))))
        refine S.ret (vs := [I (-1)]) (by kernel_rfl) ?_
        exact ⟨retI (show (-1) = hdl a k by clear S; (first | (rw [hr, hd_end (by omega)]; done) | (rw [hr, hd_step (by omega)]; simp [he_Entry, hdi, hdb, hdc, *]; done) | (rw [hr, hd_step (by omega)]; simp_all [he_Entry, hdi, hdb, hdc]; done))), S.chg⟩
      · have g8 : (el a i).page = (IntKind.i64.wrap (j + 1)) := ne_f h6
        refine wp_skip (nx_then ?_)
        refine wp_seq ?_
        refine RG.start ?_
        refine S.quiet (k := 3) (keep := [0, 1, 5]) (m := 0) (σ' := ⟨[(0, .v (slv (a).length pa.1)), (1, .v (I (IntKind.i64.wrap ((IntKind.i64.wrap (j + 1)) + 1)))), (5, .v (I (i : Int)))], []⟩) (.cons (Q_addw (x := (IntKind.i64.wrap (j + 1))) (y := 1)) .nil) (by kernel_rfl) ?_
        clear S; intro ac w β S
        refine RG.done rfl (nx_then ?_)
        refine wp_seq ?_
        refine wp_seq ?_
        refine RG.start ?_
        refine S.quiet (k := 7) (keep := [0, 1, 5, 36]) (m := 0) (σ' := ⟨[(0, .v (slv (a).length pa.1)), (1, .v (I (IntKind.i64.wrap ((IntKind.i64.wrap (j + 1)) + 1)))), (5, .v (I (i : Int))), (36, .v (B ((el a i).host != (IntKind.i64.wrap ((IntKind.i64.wrap (j + 1)) + 1)))))], []⟩) (.cons (Q_idx (S.arg ha) (l := (a).length) (k := i) (i := (i : Int)) rfl rfl (by omega) Try.underlying37 (by kernel_rfl)) (.cons (Q_cell (S.arg ha) (t := 3) (k := i) (j := 2) (v := I ((el a i).host)) (by omega) (by kernel_rfl) (by kernel_rfl)) .nil)) (by kernel_rfl) ?_
        clear S; intro ac w β S
        refine RG.done rfl (nx_then ?_)
        refine S.cond (e := ((el a i).host != (IntKind.i64.wrap ((IntKind.i64.wrap (j + 1)) + 1)))) (by kernel_rfl) (fun h9 => ?_) (fun h9 => ?_)
        · have g10 : ¬ ((el a i).host = (IntKind.i64.wrap ((IntKind.i64.wrap (j + 1)) + 1))) := bne_iff_ne.1 h9
          refine wp_seq ?_
          refine RG.start ?_
          refine S.quiet (k := 1) (keep := [4]) (m := 0) (σ' := ⟨[(4, .v (I (-1)))], []⟩) .nil (by kernel_rfl) ?_
          clear S; intro ac w β S
          refine RG.done rfl (nx_then ?_)
          refine wp_ret (rt_then (rt_block (rt_then (rt_then (rt_block (rt_then ?_))))))
          refine S.ret (vs := [I (-1)]) (by kernel_rfl) ?_
          exact ⟨retI (show (-1) = hdl a k by clear S; (first | (rw [hr, hd_end (by omega)]; done) | (rw [hr, hd_step (by omega)]; simp [he_Entry, hdi, hdb, hdc, *]; done) | (rw [hr, hd_step (by omega)]; simp_all [he_Entry, hdi, hdb, hdc]; done))), S.chg⟩
        · have g11 : (el a i).host = (IntKind.i64.wrap ((IntKind.i64.wrap (j + 1)) + 1)) := ne_f h9
          refine wp_skip (nx_then ?_)
          refine wp_seq ?_
          refine RG.start ?_
          refine S.quiet (k := 3) (keep := [0, 1, 5]) (m := 0) (σ' := ⟨[(0, .v (slv (a).length pa.1)), (1, .v (I (IntKind.i64.wrap ((IntKind.i64.wrap ((IntKind.i64.wrap (j + 1)) + 1)) + 1)))), (5, .v (I (i : Int)))], []⟩) (.cons (Q_addw (x := (IntKind.i64.wrap ((IntKind.i64.wrap (j + 1)) + 1))) (y := 1)) .nil) (by kernel_rfl) ?_
          clear S; intro ac w β S
          refine RG.done rfl (nx_then ?_)
          refine wp_seq ?_
          refine wp_seq ?_
          refine RG.start ?_
          refine S.quiet (k := 7) (keep := [0, 1, 5, 45]) (m := 0) (σ' := ⟨[(0, .v (slv (a).length pa.1)), (1, .v (I (IntKind.i64.wrap ((IntKind.i64.wrap ((IntKind.i64.wrap (j + 1)) + 1)) + 1)))), (5, .v (I (i : Int))), (45, .v (B ((el a i).rights != (IntKind.i64.wrap ((IntKind.i64.wrap ((IntKind.i64.wrap (j + 1)) + 1)) + 1)))))], []⟩) (.cons (Q_idx (S.arg ha) (l := (a).length) (k := i) (i := (i : Int)) rfl rfl (by omega) Try.underlying37 (by kernel_rfl)) (.cons (Q_cell (S.arg ha) (t := 3) (k := i) (j := 3) (v := I ((el a i).rights)) (by omega) (by kernel_rfl) (by kernel_rfl)) .nil)) (by kernel_rfl) ?_
          clear S; intro ac w β S
          refine RG.done rfl (nx_then ?_)
          refine S.cond (e := ((el a i).rights != (IntKind.i64.wrap ((IntKind.i64.wrap ((IntKind.i64.wrap (j + 1)) + 1)) + 1)))) (by kernel_rfl) (fun h12 => ?_) (fun h12 => ?_)
          · have g13 : ¬ ((el a i).rights = (IntKind.i64.wrap ((IntKind.i64.wrap ((IntKind.i64.wrap (j + 1)) + 1)) + 1))) := bne_iff_ne.1 h12
            refine wp_seq ?_
            refine RG.start ?_
            refine S.quiet (k := 1) (keep := [4]) (m := 0) (σ' := ⟨[(4, .v (I (-1)))], []⟩) .nil (by kernel_rfl) ?_
            clear S; intro ac w β S
            refine RG.done rfl (nx_then ?_)
            refine wp_ret (rt_then (rt_block (rt_then (rt_then (rt_block (rt_then ?_))))))
            refine S.ret (vs := [I (-1)]) (by kernel_rfl) ?_
            exact ⟨retI (show (-1) = hdl a k by clear S; (first | (rw [hr, hd_end (by omega)]; done) | (rw [hr, hd_step (by omega)]; simp [he_Entry, hdi, hdb, hdc, *]; done) | (rw [hr, hd_step (by omega)]; simp_all [he_Entry, hdi, hdb, hdc]; done))), S.chg⟩
          · have g14 : (el a i).rights = (IntKind.i64.wrap ((IntKind.i64.wrap ((IntKind.i64.wrap (j + 1)) + 1)) + 1)) := ne_f h12
            refine wp_skip (nx_then ?_)
            refine RG.start ?_
            refine S.quiet (k := 3) (keep := [0, 1, 5]) (m := 0) (σ' := ⟨[(0, .v (slv (a).length pa.1)), (1, .v (I (IntKind.i64.wrap ((IntKind.i64.wrap ((IntKind.i64.wrap ((IntKind.i64.wrap (j + 1)) + 1)) + 1)) + 1)))), (5, .v (I (i : Int)))], []⟩) (.cons (Q_addw (x := (IntKind.i64.wrap ((IntKind.i64.wrap ((IntKind.i64.wrap (j + 1)) + 1)) + 1))) (y := 1)) .nil) (by kernel_rfl) ?_
            clear S; intro ac w β S
            refine RG.done rfl (nx_block (nx_then ?_))
            refine RG.start ?_
            refine S.quiet (k := 3) (keep := [0, 1, 5]) (m := 0) (σ' := ⟨[(0, .v (slv (a).length pa.1)), (1, .v (I (IntKind.i64.wrap ((IntKind.i64.wrap ((IntKind.i64.wrap ((IntKind.i64.wrap (j + 1)) + 1)) + 1)) + 1)))), (5, .v (I ((i : Int) + 1)))], []⟩) (.cons (Q_add (x := (i : Int)) (y := 1) ⟨by omega, by omega⟩) .nil) (by kernel_rfl) ?_
            clear S; intro ac w β S
            refine RG.done rfl (nx_then ?_)
            replace S := S.prune (keep := [0, 1, 5]) (m := 0) (σ' := ⟨[(0, .v (slv (a).length pa.1)), (1, .v (I (IntKind.i64.wrap ((IntKind.i64.wrap ((IntKind.i64.wrap ((IntKind.i64.wrap (j + 1)) + 1)) + 1)) + 1)))), (5, .v (I ((i : Int) + 1)))], []⟩) (by kernel_rfl)
            refine ⟨a.length - (i + 1), by omega, i + 1, (IntKind.i64.wrap ((IntKind.i64.wrap ((IntKind.i64.wrap ((IntKind.i64.wrap (j + 1)) + 1)) + 1)) + 1)), _, _, _, rfl, ?_, ?_, S.cast (by kernel_rfl)⟩
            · clear S; first | omega | (simp [*]; done) | (simp [*]; omega)
            · clear S; (rw [hr, hd_step (by omega)]; simp [he_Entry, hdi, hdb, hdc, *])
  · have g15 : ¬ ((i : Int) < ((a).length : Int)) := of_decide_eq_false h1
    refine wp_exit (ex_then (ex_then (ex_hit (nx_then ?_))))
    refine wp_seq ?_
    refine RG.start ?_
    refine S.quiet (k := 2) (keep := [4]) (m := 0) (σ' := ⟨[(4, .v (I j))], []⟩) .nil (by kernel_rfl) ?_
    clear S; intro ac w β S
    refine RG.done rfl (nx_then ?_)
    refine wp_ret ?_
    refine S.ret (vs := [I j]) (by kernel_rfl) ?_
    exact ⟨retI (show j = hdl a k by clear S; (first | (rw [hr, hd_end (by omega)]; done) | (rw [hr, hd_step (by omega)]; simp [he_Entry, hdi, hdb, hdc, *]; done) | (rw [hr, hd_step (by omega)]; simp_all [he_Entry, hdi, hdb, hdc]; done))), S.chg⟩

set_option maxRecDepth 100000 in
theorem c_laws_heldHost (w0 : World) (a : THost) (pa : PHost) (ha : GT.rd KK (Lt w0.heap.size) w0 a pa) (k : Int) : Calls Try.prog 17 [GT.val (α := THost) a pa, I k].toArray w0 (fun e w' => e = .returned (I (hdT_Host a k)) ∧ Chg NoB w0 w') := by
  refine Calls.walk (args := [GT.val (α := THost) a pa, I k]) NoB Try.func17 rfl rfl ?_
  intro ac β S
  have hlea_mem : a.mem.length ≤ 4194304 := LRd.le (RHost.mem (d := a) ha)
  have hlea_mons : a.mons.length ≤ 4194304 := LRd.le (RHost.mons (d := a) ha)
  have hlea_buf : a.buf.length ≤ 4194304 := LRd.le (RHost.buf (d := a) ha)
  have hlea_iobuf : a.iobuf.length ≤ 4194304 := LRd.le (RHost.iobuf (d := a) ha)
  refine wp_seq ?_
  refine RG.start ?_
  refine S.quiet (k := 2) (keep := [1, 2]) (m := 1) (σ' := ⟨[(1, .v (I k)), (2, .p 0 0)], [GT.cells (α := THost) a pa]⟩) .nil (by kernel_rfl) ?_
  clear S; intro ac w β S
  refine RG.done rfl (nx_then ?_)
  refine wp_seq ?_
  refine RG.start ?_
  refine S.quiet (k := 5) (keep := [1, 2]) (m := 1) (σ' := ⟨[(1, .v (I (hdl a.mem k))), (2, .p 0 0)], [GT.cells (α := THost) a pa]⟩) (.cons (Q_call fun w hw => c_laws_heldIntSS w a.mem pa.mem (rd_of (RHost.mem (d := a) (S.arg ha)) hw) k) .nil) (by kernel_rfl) ?_
  clear S; intro ac w β S
  refine RG.done rfl (nx_then ?_)
  refine wp_seq ?_
  refine wp_seq ?_
  refine RG.start ?_
  refine S.quiet (k := 2) (keep := [1, 2, 10]) (m := 1) (σ' := ⟨[(1, .v (I (hdl a.mem k))), (2, .p 0 0), (10, .v (B (decide ((hdl a.mem k) < 0))))], [GT.cells (α := THost) a pa]⟩) .nil (by kernel_rfl) ?_
  clear S; intro ac w β S
  refine RG.done rfl (nx_then ?_)
  refine S.cond (e := (decide ((hdl a.mem k) < 0))) (by kernel_rfl) (fun h1 => ?_) (fun h1 => ?_)
  · have g2 : (hdl a.mem k) < 0 := of_decide_eq_true h1
    refine wp_seq ?_
    refine RG.start ?_
    refine S.quiet (k := 1) (keep := [4]) (m := 0) (σ' := ⟨[(4, .v (I (-1)))], []⟩) .nil (by kernel_rfl) ?_
    clear S; intro ac w β S
    refine RG.done rfl (nx_then ?_)
    refine wp_ret (rt_then ?_)
    refine S.ret (vs := [I (-1)]) (by kernel_rfl) ?_
    exact ⟨retI (show (-1) = hdT_Host a k by clear S; (simp [hdT_Host, hdc, *])), S.chg⟩
  · have g3 : ¬ ((hdl a.mem k) < 0) := of_decide_eq_false h1
    refine wp_skip (nx_then ?_)
    refine wp_seq ?_
    refine RG.start ?_
    refine S.quiet (k := 5) (keep := [1, 2]) (m := 1) (σ' := ⟨[(1, .v (I (hdl a.mons (hdl a.mem k)))), (2, .p 0 0)], [GT.cells (α := THost) a pa]⟩) (.cons (Q_call fun w hw => c_laws_heldMonS w a.mons pa.mons (rd_of (RHost.mons (d := a) (S.arg ha)) hw) (hdl a.mem k)) .nil) (by kernel_rfl) ?_
    clear S; intro ac w β S
    refine RG.done rfl (nx_then ?_)
    refine wp_seq ?_
    refine wp_seq ?_
    refine RG.start ?_
    refine S.quiet (k := 2) (keep := [1, 2, 16]) (m := 1) (σ' := ⟨[(1, .v (I (hdl a.mons (hdl a.mem k)))), (2, .p 0 0), (16, .v (B (decide ((hdl a.mons (hdl a.mem k)) < 0))))], [GT.cells (α := THost) a pa]⟩) .nil (by kernel_rfl) ?_
    clear S; intro ac w β S
    refine RG.done rfl (nx_then ?_)
    refine S.cond (e := (decide ((hdl a.mons (hdl a.mem k)) < 0))) (by kernel_rfl) (fun h4 => ?_) (fun h4 => ?_)
    · have g5 : (hdl a.mons (hdl a.mem k)) < 0 := of_decide_eq_true h4
      refine wp_seq ?_
      refine RG.start ?_
      refine S.quiet (k := 1) (keep := [4]) (m := 0) (σ' := ⟨[(4, .v (I (-1)))], []⟩) .nil (by kernel_rfl) ?_
      clear S; intro ac w β S
      refine RG.done rfl (nx_then ?_)
      refine wp_ret (rt_then ?_)
      refine S.ret (vs := [I (-1)]) (by kernel_rfl) ?_
      exact ⟨retI (show (-1) = hdT_Host a k by clear S; (simp [hdT_Host, hdc, *])), S.chg⟩
    · have g6 : ¬ ((hdl a.mons (hdl a.mem k)) < 0) := of_decide_eq_false h4
      refine wp_skip (nx_then ?_)
      refine wp_seq ?_
      refine RG.start ?_
      refine S.quiet (k := 5) (keep := [1, 2]) (m := 1) (σ' := ⟨[(1, .v (I (hdl a.buf (hdl a.mons (hdl a.mem k))))), (2, .p 0 0)], [GT.cells (α := THost) a pa]⟩) (.cons (Q_call fun w hw => c_laws_heldEntryS w a.buf pa.buf (rd_of (RHost.buf (d := a) (S.arg ha)) hw) (hdl a.mons (hdl a.mem k))) .nil) (by kernel_rfl) ?_
      clear S; intro ac w β S
      refine RG.done rfl (nx_then ?_)
      refine wp_seq ?_
      refine wp_seq ?_
      refine RG.start ?_
      refine S.quiet (k := 2) (keep := [1, 2, 22]) (m := 1) (σ' := ⟨[(1, .v (I (hdl a.buf (hdl a.mons (hdl a.mem k))))), (2, .p 0 0), (22, .v (B (decide ((hdl a.buf (hdl a.mons (hdl a.mem k))) < 0))))], [GT.cells (α := THost) a pa]⟩) .nil (by kernel_rfl) ?_
      clear S; intro ac w β S
      refine RG.done rfl (nx_then ?_)
      refine S.cond (e := (decide ((hdl a.buf (hdl a.mons (hdl a.mem k))) < 0))) (by kernel_rfl) (fun h7 => ?_) (fun h7 => ?_)
      · have g8 : (hdl a.buf (hdl a.mons (hdl a.mem k))) < 0 := of_decide_eq_true h7
        refine wp_seq ?_
        refine RG.start ?_
        refine S.quiet (k := 1) (keep := [4]) (m := 0) (σ' := ⟨[(4, .v (I (-1)))], []⟩) .nil (by kernel_rfl) ?_
        clear S; intro ac w β S
        refine RG.done rfl (nx_then ?_)
        refine wp_ret (rt_then ?_)
        refine S.ret (vs := [I (-1)]) (by kernel_rfl) ?_
        exact ⟨retI (show (-1) = hdT_Host a k by clear S; (simp [hdT_Host, hdc, *])), S.chg⟩
      · have g9 : ¬ ((hdl a.buf (hdl a.mons (hdl a.mem k))) < 0) := of_decide_eq_false h7
        refine wp_skip (nx_then ?_)
        refine wp_seq ?_
        refine RG.start ?_
        refine S.quiet (k := 5) (keep := [1]) (m := 0) (σ' := ⟨[(1, .v (I (hdl a.iobuf (hdl a.buf (hdl a.mons (hdl a.mem k))))))], []⟩) (.cons (Q_call fun w hw => c_laws_heldEntryS w a.iobuf pa.iobuf (rd_of (RHost.iobuf (d := a) (S.arg ha)) hw) (hdl a.buf (hdl a.mons (hdl a.mem k)))) .nil) (by kernel_rfl) ?_
        clear S; intro ac w β S
        refine RG.done rfl (nx_then ?_)
        refine wp_seq ?_
        refine wp_seq ?_
        refine RG.start ?_
        refine S.quiet (k := 2) (keep := [1, 28]) (m := 0) (σ' := ⟨[(1, .v (I (hdl a.iobuf (hdl a.buf (hdl a.mons (hdl a.mem k)))))), (28, .v (B (decide ((hdl a.iobuf (hdl a.buf (hdl a.mons (hdl a.mem k)))) < 0))))], []⟩) .nil (by kernel_rfl) ?_
        clear S; intro ac w β S
        refine RG.done rfl (nx_then ?_)
        refine S.cond (e := (decide ((hdl a.iobuf (hdl a.buf (hdl a.mons (hdl a.mem k)))) < 0))) (by kernel_rfl) (fun h10 => ?_) (fun h10 => ?_)
        · have g11 : (hdl a.iobuf (hdl a.buf (hdl a.mons (hdl a.mem k)))) < 0 := of_decide_eq_true h10
          refine wp_seq ?_
          refine RG.start ?_
          refine S.quiet (k := 1) (keep := [4]) (m := 0) (σ' := ⟨[(4, .v (I (-1)))], []⟩) .nil (by kernel_rfl) ?_
          clear S; intro ac w β S
          refine RG.done rfl (nx_then ?_)
          refine wp_ret (rt_then ?_)
          refine S.ret (vs := [I (-1)]) (by kernel_rfl) ?_
          exact ⟨retI (show (-1) = hdT_Host a k by clear S; (simp [hdT_Host, hdc, *])), S.chg⟩
        · have g12 : ¬ ((hdl a.iobuf (hdl a.buf (hdl a.mons (hdl a.mem k)))) < 0) := of_decide_eq_false h10
          refine wp_skip (nx_then ?_)
          refine wp_seq ?_
          refine RG.start ?_
          refine S.quiet (k := 2) (keep := [4]) (m := 0) (σ' := ⟨[(4, .v (I (hdl a.iobuf (hdl a.buf (hdl a.mons (hdl a.mem k))))))], []⟩) .nil (by kernel_rfl) ?_
          clear S; intro ac w β S
          refine RG.done rfl (nx_then ?_)
          refine wp_ret ?_
          refine S.ret (vs := [I (hdl a.iobuf (hdl a.buf (hdl a.mons (hdl a.mem k))))]) (by kernel_rfl) ?_
          exact ⟨retI (show (hdl a.iobuf (hdl a.buf (hdl a.mons (hdl a.mem k)))) = hdT_Host a k by clear S; (simp [hdT_Host, hdc, *])), S.chg⟩

set_option maxRecDepth 100000 in
theorem c_laws_FnExactWithMon (w0 : World) (aH : THost) (paH : PHost) (haH : GT.rd KR (Lt w0.heap.size) w0 aH paH) (aM : Int) (aX : TMon) (paX : PMon) (haX : GT.rd KR (Lt w0.heap.size) w0 aX paX) : Calls Try.prog 3 [GT.val (α := THost) aH paH, I aM, GT.val (α := TMon) aX paX].toArray w0 (fun e w' => e = .returned (B true) ∧ Chg NoB w0 w') := by
  refine Calls.walk (args := [GT.val (α := THost) aH paH, I aM, GT.val (α := TMon) aX paX]) NoB Try.func3 rfl rfl ?_
  intro ac β S
  refine wp_seq ?_
  refine RG.start ?_
  refine S.quiet (k := 3) (keep := [1, 3, 5]) (m := 2) (σ' := ⟨[(1, .v (I aM)), (3, .p 0 0), (5, .p 1 0)], [GT.cells (α := THost) aH paH, GT.cells (α := TMon) aX paX]⟩) .nil (by kernel_rfl) ?_
  clear S; intro ac w β S
  refine RG.done rfl (nx_then ?_)
  refine wp_seq ?_
  refine RG.start ?_
  refine S.quiet (k := 1) (keep := [1, 3, 5, 7]) (m := 2) (σ' := ⟨[(1, .v (I aM)), (3, .p 0 0), (5, .p 1 0), (7, .v (I 1048576))], [GT.cells (α := THost) aH paH, GT.cells (α := TMon) aX paX]⟩) .nil (by kernel_rfl) ?_
  clear S; intro ac w β S
  refine RG.done rfl (nx_then ?_)
  refine wp_seq ?_
  refine RG.start ?_
  have b1 := f_sz_cs (SZ.sz aH) 1048576
  refine S.quiet (k := 4) (keep := [1, 3, 5, 7]) (m := 2) (σ' := ⟨[(1, .v (I aM)), (3, .p 0 0), (5, .p 1 0), (7, .v (I (f_sz (SZ.sz aH) 1048576)))], [GT.cells (α := THost) aH paH, GT.cells (α := TMon) aX paX]⟩) (.cons (Q_call fun w hw => c_laws_szHost w aH paH (rd_of (S.arg haH) hw) 1048576 (by omega) (by omega)) .nil) (by kernel_rfl) ?_
  clear S; intro ac w β S
  refine RG.done rfl (nx_then ?_)
  refine wp_seq ?_
  refine wp_seq ?_
  refine RG.start ?_
  refine S.quiet (k := 2) (keep := [1, 3, 5, 7, 20]) (m := 2) (σ' := ⟨[(1, .v (I aM)), (3, .p 0 0), (5, .p 1 0), (7, .v (I (f_sz (SZ.sz aH) 1048576))), (20, .v (B (decide ((f_sz (SZ.sz aH) 1048576) < 0))))], [GT.cells (α := THost) aH paH, GT.cells (α := TMon) aX paX]⟩) .nil (by kernel_rfl) ?_
  clear S; intro ac w β S
  refine RG.done rfl (nx_then ?_)
  refine S.cond (e := (decide ((f_sz (SZ.sz aH) 1048576) < 0))) (by kernel_rfl) (fun h2 => ?_) (fun h2 => ?_)
  · have g3 : (f_sz (SZ.sz aH) 1048576) < 0 := of_decide_eq_true h2
    refine wp_seq ?_
    refine RG.start ?_
    refine S.quiet (k := 1) (keep := [6]) (m := 0) (σ' := ⟨[(6, .v (B true))], []⟩) .nil (by kernel_rfl) ?_
    clear S; intro ac w β S
    refine RG.done rfl (nx_then ?_)
    refine wp_ret (rt_then ?_)
    refine S.ret (vs := [B true]) (by kernel_rfl) ?_
    exact ⟨retB (show true = true by clear S; first | rfl | (exfalso; omega) | (exfalso; simp_all; done) | (exfalso; simp_all; omega)), S.chg⟩
  · have g4 : ¬ ((f_sz (SZ.sz aH) 1048576) < 0) := of_decide_eq_false h2
    have hkaH : GT.rd KK (Lt w0.heap.size) w0 aH paH := SZ.cut haH (show SZ.sz aH ≤ 4194304 by omega)
    have hcaH : SZ.sz aH ≤ 1048576 := by omega
    refine wp_skip (nx_then ?_)
    refine wp_seq ?_
    refine RG.start ?_
    have b5 := f_sz_cs (SZ.sz aX) (f_sz (SZ.sz aH) 1048576)
    refine S.quiet (k := 4) (keep := [1, 3, 5, 7]) (m := 2) (σ' := ⟨[(1, .v (I aM)), (3, .p 0 0), (5, .p 1 0), (7, .v (I (f_sz (SZ.sz aX) (f_sz (SZ.sz aH) 1048576))))], [GT.cells (α := THost) aH paH, GT.cells (α := TMon) aX paX]⟩) (.cons (Q_call fun w hw => c_laws_szMon w aX paX (rd_of (S.arg haX) hw) (f_sz (SZ.sz aH) 1048576) (by omega) (by omega)) .nil) (by kernel_rfl) ?_
    clear S; intro ac w β S
    refine RG.done rfl (nx_then ?_)
    refine wp_seq ?_
    refine wp_seq ?_
    refine RG.start ?_
    refine S.quiet (k := 2) (keep := [1, 3, 5, 25]) (m := 2) (σ' := ⟨[(1, .v (I aM)), (3, .p 0 0), (5, .p 1 0), (25, .v (B (decide ((f_sz (SZ.sz aX) (f_sz (SZ.sz aH) 1048576)) < 0))))], [GT.cells (α := THost) aH paH, GT.cells (α := TMon) aX paX]⟩) .nil (by kernel_rfl) ?_
    clear S; intro ac w β S
    refine RG.done rfl (nx_then ?_)
    refine S.cond (e := (decide ((f_sz (SZ.sz aX) (f_sz (SZ.sz aH) 1048576)) < 0))) (by kernel_rfl) (fun h6 => ?_) (fun h6 => ?_)
    · have g7 : (f_sz (SZ.sz aX) (f_sz (SZ.sz aH) 1048576)) < 0 := of_decide_eq_true h6
      refine wp_seq ?_
      refine RG.start ?_
      refine S.quiet (k := 1) (keep := [6]) (m := 0) (σ' := ⟨[(6, .v (B true))], []⟩) .nil (by kernel_rfl) ?_
      clear S; intro ac w β S
      refine RG.done rfl (nx_then ?_)
      refine wp_ret (rt_then ?_)
      refine S.ret (vs := [B true]) (by kernel_rfl) ?_
      exact ⟨retB (show true = true by clear S; first | rfl | (exfalso; omega) | (exfalso; simp_all; done) | (exfalso; simp_all; omega)), S.chg⟩
    · have g8 : ¬ ((f_sz (SZ.sz aX) (f_sz (SZ.sz aH) 1048576)) < 0) := of_decide_eq_false h6
      have hkaX : GT.rd KK (Lt w0.heap.size) w0 aX paX := SZ.cut haX (show SZ.sz aX ≤ 4194304 by omega)
      have hcaX : SZ.sz aX ≤ 1048576 := by omega
      refine wp_skip (nx_then ?_)
      refine wp_seq ?_
      replace S := S.prune (keep := [1, 3, 5, 25]) (m := 2) (σ' := ⟨[(1, .v (I aM)), (3, .p 0 0), (5, .p 1 0), (25, .v (B (decide ((f_sz (SZ.sz aX) (f_sz (SZ.sz aH) 1048576)) < 0))))], [GT.cells (α := THost) aH paH, GT.cells (α := TMon) aX paX]⟩) (by kernel_rfl)
      obtain ⟨u0, N0, β0, S⟩ : ∃ (u0 : World) (N0 : Bl) (β0 : Nat → Nat), St Try.prog Try.f3.ntmps w0 NoB u0 N0 β0 ⟨[(1, .v (I aM)), (3, .p 0 0), (5, .p 1 0), (25, .v (B (decide ((f_sz (SZ.sz aX) (f_sz (SZ.sz aH) 1048576)) < 0))))], [GT.cells (α := THost) aH paH, GT.cells (α := TMon) aX paX]⟩ ac w := ⟨_, _, _, S.cast (by kernel_rfl)⟩
      refine wp_region_cut (fun ac w => ∃ (q37 : GT.Ptr (THost)) (F38 : Bl) (u : World) (N : Bl) (β : Nat → Nat), St Try.prog Try.f3.ntmps w0 NoB u N β ⟨[(1, .v (I aM)), (3, .p 0 0), (5, .p 1 0), (8, .p 2 0)], [GT.cells (α := THost) aH paH, GT.cells (α := TMon) aX paX, GT.cells (α := THost) (f_withMon aH aM aX) q37]⟩ ac w ∧ Ow w0 NoB u N F38 (f_withMon aH aM aX) q37) ?_ ?_
      · refine S.draw0 (f := 8) 7 rfl rfl ?_
        clear S; intro w S
        refine S.hoist (i := 0) (path := [0]) (keep := [1, 3, 5, 26]) (m := 2) (σ' := ⟨[(1, .v (I aM)), (3, .p 0 0), (5, .p 1 0), (26, .v (GT.val (α := THost) aH paH))], [GT.cells (α := THost) aH paH, GT.cells (α := TMon) aX paX]⟩) (by kernel_rfl) (by kernel_rfl) .nil (by kernel_rfl) ?_
        clear S; intro ac S
        refine S.hoist (i := 2) (path := [2]) (keep := [1, 3, 5, 26, 28]) (m := 2) (σ' := ⟨[(1, .v (I aM)), (3, .p 0 0), (5, .p 1 0), (26, .v (GT.val (α := THost) aH paH)), (28, .v (I aM))], [GT.cells (α := THost) aH paH, GT.cells (α := TMon) aX paX]⟩) (by kernel_rfl) (by kernel_rfl) .nil (by kernel_rfl) ?_
        clear S; intro ac S
        refine S.hoist (i := 3) (path := [3]) (keep := [1, 3, 5, 26, 28, 29]) (m := 2) (σ' := ⟨[(1, .v (I aM)), (3, .p 0 0), (5, .p 1 0), (26, .v (GT.val (α := THost) aH paH)), (28, .v (I aM)), (29, .v (GT.val (α := TMon) aX paX))], [GT.cells (α := THost) aH paH, GT.cells (α := TMon) aX paX]⟩) (by kernel_rfl) (by kernel_rfl) .nil (by kernel_rfl) ?_
        clear S; intro ac S
        refine WD.nameW fun W hW => ?_
        refine WD.castW (l' := mkL 8 [0, 2, 3]) (by kernel_rfl) ?_
        have hK39 : ∀ (ac : Act) (w : World) (q37 : GT.Ptr (THost)) (F38 : Bl) (u : World) (N : Bl) (β : Nat → Nat) (S : St Try.prog Try.f3.ntmps w0 NoB u N β ⟨[(1, .v (I aM)), (3, .p 0 0), (5, .p 1 0), (8, .p 2 0)], [GT.cells (α := THost) aH paH, GT.cells (α := TMon) aX paX, GT.cells (α := THost) (f_withMon aH aM aX) q37]⟩ ac w) (o36 : Ow w0 NoB u N F38 (f_withMon aH aM aX) q37) (hb : ∀ b, N0 b → N b ∧ u.heap[b]? = u0.heap[b]?) (hB : ∀ k, k < 2 → β k = β0 k), W 0 (mkL 8 [0, 1, 2, 3, 4, 5, 6, 7]) ac w := by
          intro ac w q37 F38 u N β S o36 hb hB
          rw [hW]
          refine WD.done (by kernel_rfl) ?_ _
          replace S := S.prune (keep := [1, 3, 5, 8]) (m := 3) (σ' := ⟨[(1, .v (I aM)), (3, .p 0 0), (5, .p 1 0), (8, .p 2 0)], [GT.cells (α := THost) aH paH, GT.cells (α := TMon) aX paX, GT.cells (α := THost) (f_withMon aH aM aX) q37]⟩) (by kernel_rfl)
          exact ⟨rfl, q37, F38, _, _, _, S.cast (by kernel_rfl), o36⟩
        have hK40 : ∀ (ac : Act) (w : World) (q34 : GT.Ptr (THost)) (F35 : Bl) (u : World) (N : Bl) (β : Nat → Nat) (S : St Try.prog Try.f3.ntmps w0 NoB u N β ⟨[(1, .v (I aM)), (3, .p 0 0), (5, .p 1 0), (8, .p 2 0), (31, .v (GT.val (α := THost) (f_withMon aH aM aX) q34))], [GT.cells (α := THost) aH paH, GT.cells (α := TMon) aX paX, Zc THost]⟩ ac w) (o33 : Ow w0 NoB u N F35 (f_withMon aH aM aX) q34) (hb : ∀ b, N0 b → N b ∧ u.heap[b]? = u0.heap[b]?) (hB : ∀ k, k < 2 → β k = β0 k), W 1 (mkL 8 [0, 1, 2, 3, 4, 5, 6]) ac w := by
          intro ac w q34 F35 u N β S o33 hb hB
          rw [hW]
          refine WD.one (i := 7) (by kernel_rfl) ?_
          refine S.stepq (i := 7) (keep := [1, 3, 5, 8]) (m := 3) (σ' := ⟨[(1, .v (I aM)), (3, .p 0 0), (5, .p 1 0), (8, .p 2 0)], [GT.cells (α := THost) aH paH, GT.cells (α := TMon) aX paX, GT.cells (α := THost) (f_withMon aH aM aX) q34]⟩) .nil (by kernel_rfl) ?_
          clear S; intro ac w β S hβ
          have hB2 := fun k (hk : k < 2) => (hβ k (Nat.lt_of_lt_of_le hk (Nat.le_of_ble_eq_true rfl))).trans (hB k hk)
          refine WD.last (by kernel_rfl) ?_
          clear hβ
          exact WD.ofW hW (by kernel_rfl) (hK39 ac w q34 F35 _ _ _ (S.prune (keep := [1, 3, 5, 8]) (m := 3) (by kernel_rfl)) o33 hb hB2)
        have hK41 : ∀ (ac : Act) (w : World) (q34 : GT.Ptr (THost)) (F35 : Bl) (u : World) (N : Bl) (β : Nat → Nat) (S : St Try.prog Try.f3.ntmps w0 NoB u N β ⟨[(1, .v (I aM)), (3, .p 0 0), (5, .p 1 0), (31, .v (GT.val (α := THost) (f_withMon aH aM aX) q34))], [GT.cells (α := THost) aH paH, GT.cells (α := TMon) aX paX]⟩ ac w) (o33 : Ow w0 NoB u N F35 (f_withMon aH aM aX) q34) (hb : ∀ b, N0 b → N b ∧ u.heap[b]? = u0.heap[b]?) (hB : ∀ k, k < 2 → β k = β0 k), W 2 (mkL 8 [0, 1, 2, 3, 4, 5]) ac w := by
          intro ac w q34 F35 u N β S o33 hb hB
          rw [hW]
          refine WD.one (i := 6) (by kernel_rfl) ?_
          refine S.stepq (i := 6) (keep := [1, 3, 5, 8, 31]) (m := 3) (σ' := ⟨[(1, .v (I aM)), (3, .p 0 0), (5, .p 1 0), (8, .p 2 0), (31, .v (GT.val (α := THost) (f_withMon aH aM aX) q34))], [GT.cells (α := THost) aH paH, GT.cells (α := TMon) aX paX, Zc THost]⟩) .nil (by kernel_rfl) ?_
          clear S; intro ac w β S hβ
          have hB2 := fun k (hk : k < 2) => (hβ k (Nat.lt_of_lt_of_le hk (Nat.le_of_ble_eq_true rfl))).trans (hB k hk)
          refine WD.stayK S (fun b h => ⟨(hb b h).1, (hb b h).2⟩) hB2 (bx_app rfl) ?_
          clear hβ
          exact WD.ofW hW (by kernel_rfl) (hK40 ac w q34 F35 _ _ _ (S.prune (keep := [1, 3, 5, 8, 31]) (m := 3) (by kernel_rfl)) o33 hb hB2)
        have hK42 : ∀ (ac : Act) (w : World) (q15 : GT.Ptr (THost)) (F16 : Bl) (q24 : GT.Ptr (TMon)) (F25 : Bl) (u : World) (N : Bl) (β : Nat → Nat) (S : St Try.prog Try.f3.ntmps w0 NoB u N β ⟨[(1, .v (I aM)), (3, .p 0 0), (5, .p 1 0), (8, .p 2 0), (27, .v (GT.val (α := THost) aH q15)), (28, .v (I aM)), (30, .v (GT.val (α := TMon) aX q24))], [GT.cells (α := THost) aH paH, GT.cells (α := TMon) aX paX, Zc THost]⟩ ac w) (o14 : Ow w0 NoB u N F16 aH q15) (o23 : Ow w0 NoB u N F25 aX q24) (d43 : Disj F16 F25) (hb : ∀ b, N0 b → N b ∧ u.heap[b]? = u0.heap[b]?) (hB : ∀ k, k < 2 → β k = β0 k), W 2 (mkL 8 [0, 1, 2, 3, 4, 6]) ac w := by
          intro ac w q15 F16 q24 F25 u N β S o14 o23 d43 hb hB
          rw [hW]
          refine WD.one (i := 5) (by kernel_rfl) ?_
          refine id (S.call1 (r := f_withMon aH aM aX) (d := 31) (c_spec_WithMon w aH q15 (S.rd o14.rn) aM aX q24 (S.rd o23.rn)) (by kernel_rfl) rfl ?_)
          clear S; intro ac w N q44 F45 S up o46 d47
          have hb48 := fun b h => (⟨(up b (hb b h).1).1, (up b (hb b h).1).2.trans (hb b h).2⟩ : _ ∧ _)
          refine WD.stayK S (fun b h => ⟨(hb48 b h).1, (hb48 b h).2⟩) hB (bx_app rfl) ?_
          have d49 : Disj F16 F45 := fun b x y => d47 b (o14.sub b x) y
          have d50 : Disj F25 F45 := fun b x y => d47 b (o23.sub b x) y
          replace o14 := o14.up up
          replace o23 := o23.up up
          clear up d47
          exact WD.ofW hW (by kernel_rfl) (hK40 ac w q44 F45 _ _ _ (S.prune (keep := [1, 3, 5, 8, 31]) (m := 3) (by kernel_rfl)) o46 hb48 hB)
        have hK51 : ∀ (ac : Act) (w : World) (q15 : GT.Ptr (THost)) (F16 : Bl) (q24 : GT.Ptr (TMon)) (F25 : Bl) (u : World) (N : Bl) (β : Nat → Nat) (S : St Try.prog Try.f3.ntmps w0 NoB u N β ⟨[(1, .v (I aM)), (3, .p 0 0), (5, .p 1 0), (27, .v (GT.val (α := THost) aH q15)), (28, .v (I aM)), (30, .v (GT.val (α := TMon) aX q24))], [GT.cells (α := THost) aH paH, GT.cells (α := TMon) aX paX]⟩ ac w) (o14 : Ow w0 NoB u N F16 aH q15) (o23 : Ow w0 NoB u N F25 aX q24) (d52 : Disj F16 F25) (hb : ∀ b, N0 b → N b ∧ u.heap[b]? = u0.heap[b]?) (hB : ∀ k, k < 2 → β k = β0 k), W 3 (mkL 8 [0, 1, 2, 3, 4]) ac w := by
          intro ac w q15 F16 q24 F25 u N β S o14 o23 d52 hb hB
          rw [hW]
          refine WD.many (rs := [5, 6]) (by kernel_rfl) rfl (List.forall_mem_cons.2 ⟨?_, List.forall_mem_cons.2 ⟨?_, List.forall_mem_nil _⟩⟩)
          · refine id (S.call1 (r := f_withMon aH aM aX) (d := 31) (c_spec_WithMon w aH q15 (S.rd o14.rn) aM aX q24 (S.rd o23.rn)) (by kernel_rfl) rfl ?_)
            clear S; intro ac w N q53 F54 S up o55 d56
            have hb57 := fun b h => (⟨(up b (hb b h).1).1, (up b (hb b h).1).2.trans (hb b h).2⟩ : _ ∧ _)
            refine WD.stayK S (fun b h => ⟨(hb57 b h).1, (hb57 b h).2⟩) hB (fun _ _ h => h) ?_
            have d58 : Disj F16 F54 := fun b x y => d56 b (o14.sub b x) y
            have d59 : Disj F25 F54 := fun b x y => d56 b (o23.sub b x) y
            replace o14 := o14.up up
            replace o23 := o23.up up
            clear up d56
            exact WD.ofW hW (by kernel_rfl) (hK41 ac w q53 F54 _ _ _ (S.prune (keep := [1, 3, 5, 31]) (m := 2) (by kernel_rfl)) o55 hb57 hB)
          · refine S.stepq (i := 6) (keep := [1, 3, 5, 8, 27, 28, 30]) (m := 3) (σ' := ⟨[(1, .v (I aM)), (3, .p 0 0), (5, .p 1 0), (8, .p 2 0), (27, .v (GT.val (α := THost) aH q15)), (28, .v (I aM)), (30, .v (GT.val (α := TMon) aX q24))], [GT.cells (α := THost) aH paH, GT.cells (α := TMon) aX paX, Zc THost]⟩) .nil (by kernel_rfl) ?_
            clear S; intro ac w β S hβ
            have hB2 := fun k (hk : k < 2) => (hβ k (Nat.lt_of_lt_of_le hk (Nat.le_of_ble_eq_true rfl))).trans (hB k hk)
            refine WD.stayK S (fun b h => ⟨(hb b h).1, (hb b h).2⟩) hB2 (bx_app rfl) ?_
            clear hβ
            exact WD.ofW hW (by kernel_rfl) (hK42 ac w q15 F16 q24 F25 _ _ _ (S.prune (keep := [1, 3, 5, 8, 27, 28, 30]) (m := 3) (by kernel_rfl)) o14 o23 d52 hb hB2)
        have hK60 : ∀ (ac : Act) (w : World) (q15 : GT.Ptr (THost)) (F16 : Bl) (u : World) (N : Bl) (β : Nat → Nat) (S : St Try.prog Try.f3.ntmps w0 NoB u N β ⟨[(1, .v (I aM)), (3, .p 0 0), (5, .p 1 0), (8, .p 2 0), (27, .v (GT.val (α := THost) aH q15)), (28, .v (I aM)), (29, .v (GT.val (α := TMon) aX paX))], [GT.cells (α := THost) aH paH, GT.cells (α := TMon) aX paX, Zc THost]⟩ ac w) (o14 : Ow w0 NoB u N F16 aH q15) (hb : ∀ b, N0 b → N b ∧ u.heap[b]? = u0.heap[b]?) (hB : ∀ k, k < 2 → β k = β0 k), W 3 (mkL 8 [0, 1, 2, 3, 6]) ac w := by
          intro ac w q15 F16 u N β S o14 hb hB
          rw [hW]
          refine WD.one (i := 4) (by kernel_rfl) ?_
          refine id (S.call1 (r := aX) (d := 30) (c_laws_toMon w aX paX (S.rd (S.arg hkaX))) (by kernel_rfl) rfl ?_)
          clear S; intro ac w N q61 F62 S up o63 d64
          have hb65 := fun b h => (⟨(up b (hb b h).1).1, (up b (hb b h).1).2.trans (hb b h).2⟩ : _ ∧ _)
          refine WD.stayK S (fun b h => ⟨(hb65 b h).1, (hb65 b h).2⟩) hB (bx_app rfl) ?_
          have d66 : Disj F16 F62 := fun b x y => d64 b (o14.sub b x) y
          replace o14 := o14.up up
          clear up d64
          exact WD.ofW hW (by kernel_rfl) (hK42 ac w q15 F16 q61 F62 _ _ _ (S.prune (keep := [1, 3, 5, 8, 27, 28, 30]) (m := 3) (by kernel_rfl)) o14 o63 d66 hb65 hB)
        have hK67 : ∀ (ac : Act) (w : World) (q15 : GT.Ptr (THost)) (F16 : Bl) (u : World) (N : Bl) (β : Nat → Nat) (S : St Try.prog Try.f3.ntmps w0 NoB u N β ⟨[(1, .v (I aM)), (3, .p 0 0), (5, .p 1 0), (27, .v (GT.val (α := THost) aH q15)), (28, .v (I aM)), (29, .v (GT.val (α := TMon) aX paX))], [GT.cells (α := THost) aH paH, GT.cells (α := TMon) aX paX]⟩ ac w) (o14 : Ow w0 NoB u N F16 aH q15) (hb : ∀ b, N0 b → N b ∧ u.heap[b]? = u0.heap[b]?) (hB : ∀ k, k < 2 → β k = β0 k), W 4 (mkL 8 [0, 1, 2, 3]) ac w := by
          intro ac w q15 F16 u N β S o14 hb hB
          rw [hW]
          refine WD.many (rs := [4, 6]) (by kernel_rfl) rfl (List.forall_mem_cons.2 ⟨?_, List.forall_mem_cons.2 ⟨?_, List.forall_mem_nil _⟩⟩)
          · refine id (S.call1 (r := aX) (d := 30) (c_laws_toMon w aX paX (S.rd (S.arg hkaX))) (by kernel_rfl) rfl ?_)
            clear S; intro ac w N q68 F69 S up o70 d71
            have hb72 := fun b h => (⟨(up b (hb b h).1).1, (up b (hb b h).1).2.trans (hb b h).2⟩ : _ ∧ _)
            refine WD.stayK S (fun b h => ⟨(hb72 b h).1, (hb72 b h).2⟩) hB (fun _ _ h => h) ?_
            have d73 : Disj F16 F69 := fun b x y => d71 b (o14.sub b x) y
            replace o14 := o14.up up
            clear up d71
            exact WD.ofW hW (by kernel_rfl) (hK51 ac w q15 F16 q68 F69 _ _ _ (S.prune (keep := [1, 3, 5, 27, 28, 30]) (m := 2) (by kernel_rfl)) o14 o70 d73 hb72 hB)
          · refine S.stepq (i := 6) (keep := [1, 3, 5, 8, 27, 28, 29]) (m := 3) (σ' := ⟨[(1, .v (I aM)), (3, .p 0 0), (5, .p 1 0), (8, .p 2 0), (27, .v (GT.val (α := THost) aH q15)), (28, .v (I aM)), (29, .v (GT.val (α := TMon) aX paX))], [GT.cells (α := THost) aH paH, GT.cells (α := TMon) aX paX, Zc THost]⟩) .nil (by kernel_rfl) ?_
            clear S; intro ac w β S hβ
            have hB2 := fun k (hk : k < 2) => (hβ k (Nat.lt_of_lt_of_le hk (Nat.le_of_ble_eq_true rfl))).trans (hB k hk)
            refine WD.stayK S (fun b h => ⟨(hb b h).1, (hb b h).2⟩) hB2 (bx_app rfl) ?_
            clear hβ
            exact WD.ofW hW (by kernel_rfl) (hK60 ac w q15 F16 _ _ _ (S.prune (keep := [1, 3, 5, 8, 27, 28, 29]) (m := 3) (by kernel_rfl)) o14 hb hB2)
        have hK74 : ∀ (ac : Act) (w : World)  (u : World) (N : Bl) (β : Nat → Nat) (S : St Try.prog Try.f3.ntmps w0 NoB u N β ⟨[(1, .v (I aM)), (3, .p 0 0), (5, .p 1 0), (8, .p 2 0), (26, .v (GT.val (α := THost) aH paH)), (28, .v (I aM)), (29, .v (GT.val (α := TMon) aX paX))], [GT.cells (α := THost) aH paH, GT.cells (α := TMon) aX paX, Zc THost]⟩ ac w) (hb : ∀ b, N0 b → N b ∧ u.heap[b]? = u0.heap[b]?) (hB : ∀ k, k < 2 → β k = β0 k), W 4 (mkL 8 [0, 2, 3, 6]) ac w := by
          intro ac w  u N β S hb hB
          rw [hW]
          refine WD.one (i := 1) (by kernel_rfl) ?_
          refine id (S.call1 (r := aH) (d := 27) (c_laws_toHost w aH paH (S.rd (S.arg hkaH))) (by kernel_rfl) rfl ?_)
          clear S; intro ac w N q75 F76 S up o77 d78
          have hb79 := fun b h => (⟨(up b (hb b h).1).1, (up b (hb b h).1).2.trans (hb b h).2⟩ : _ ∧ _)
          refine WD.stayK S (fun b h => ⟨(hb79 b h).1, (hb79 b h).2⟩) hB (bx_app rfl) ?_
          clear up d78
          exact WD.ofW hW (by kernel_rfl) (hK60 ac w q75 F76 _ _ _ (S.prune (keep := [1, 3, 5, 8, 27, 28, 29]) (m := 3) (by kernel_rfl)) o77 hb79 hB)
        have hb : ∀ b, N0 b → N0 b ∧ u0.heap[b]? = u0.heap[b]? := fun b h => ⟨h, rfl⟩
        have hB : ∀ k, k < 2 → β0 k = β0 k := fun _ _ => rfl
        rw [hW]
        refine WD.many (rs := [1, 6]) (by kernel_rfl) rfl (List.forall_mem_cons.2 ⟨?_, List.forall_mem_cons.2 ⟨?_, List.forall_mem_nil _⟩⟩)
        · refine id (S.call1 (r := aH) (d := 27) (c_laws_toHost w aH paH (S.rd (S.arg hkaH))) (by kernel_rfl) rfl ?_)
          clear S; intro ac w N q80 F81 S up o82 d83
          have hb84 := fun b h => (⟨(up b (hb b h).1).1, (up b (hb b h).1).2.trans (hb b h).2⟩ : _ ∧ _)
          refine WD.stayK S (fun b h => ⟨(hb84 b h).1, (hb84 b h).2⟩) hB (fun _ _ h => h) ?_
          clear up d83
          exact WD.ofW hW (by kernel_rfl) (hK67 ac w q80 F81 _ _ _ (S.prune (keep := [1, 3, 5, 27, 28, 29]) (m := 2) (by kernel_rfl)) o82 hb84 hB)
        · refine S.stepq (i := 6) (keep := [1, 3, 5, 8, 26, 28, 29]) (m := 3) (σ' := ⟨[(1, .v (I aM)), (3, .p 0 0), (5, .p 1 0), (8, .p 2 0), (26, .v (GT.val (α := THost) aH paH)), (28, .v (I aM)), (29, .v (GT.val (α := TMon) aX paX))], [GT.cells (α := THost) aH paH, GT.cells (α := TMon) aX paX, Zc THost]⟩) .nil (by kernel_rfl) ?_
          clear S; intro ac w β S hβ
          have hB2 := fun k (hk : k < 2) => (hβ k (Nat.lt_of_lt_of_le hk (Nat.le_of_ble_eq_true rfl))).trans (hB k hk)
          refine WD.stayK S (fun b h => ⟨(hb b h).1, (hb b h).2⟩) hB2 (bx_app rfl) ?_
          clear hβ
          exact WD.ofW hW (by kernel_rfl) (hK74 ac w  _ _ _ (S.prune (keep := [1, 3, 5, 8, 26, 28, 29]) (m := 3) (by kernel_rfl))  hb hB2)
      clear S
      rintro ac w ⟨q37, F38, u, N, β, S, o36⟩
      refine id (nx_then ?_)
      refine wp_seq ?_
      refine RG.start ?_
      refine S.quiet (k := 1) (keep := [1, 3, 5, 8, 32]) (m := 3) (σ' := ⟨[(1, .v (I aM)), (3, .p 0 0), (5, .p 1 0), (8, .p 2 0), (32, .v (GT.val (α := THost) aH paH))], [GT.cells (α := THost) aH paH, GT.cells (α := TMon) aX paX, GT.cells (α := THost) (f_withMon aH aM aX) q37]⟩) .nil (by kernel_rfl) ?_
      clear S; intro ac w β S
      refine RG.op rfl (S.call1 (r := aH) (d := 33) (c_laws_toHost w aH paH (S.rd (S.arg hkaH))) (by kernel_rfl) rfl ?_)
      clear S; intro ac w N q85 F86 S up o87 d88
      have d89 : Disj F38 F86 := fun b x y => d88 b (o36.sub b x) y
      replace o36 := o36.up up
      clear up d88
      refine S.quiet (k := 2) (keep := [1, 3, 5, 8, 9]) (m := 4) (σ' := ⟨[(1, .v (I aM)), (3, .p 0 0), (5, .p 1 0), (8, .p 2 0), (9, .p 3 0)], [GT.cells (α := THost) aH paH, GT.cells (α := TMon) aX paX, GT.cells (α := THost) (f_withMon aH aM aX) q37, GT.cells (α := THost) aH q85]⟩) .nil (by kernel_rfl) ?_
      clear S; intro ac w β S
      refine RG.done rfl (nx_then ?_)
      refine wp_seq ?_
      refine RG.start ?_
      refine S.quiet (k := 1) (keep := [1, 3, 5, 8, 9, 34]) (m := 4) (σ' := ⟨[(1, .v (I aM)), (3, .p 0 0), (5, .p 1 0), (8, .p 2 0), (9, .p 3 0), (34, .v (GT.val (α := TMon) aX paX))], [GT.cells (α := THost) aH paH, GT.cells (α := TMon) aX paX, GT.cells (α := THost) (f_withMon aH aM aX) q37, GT.cells (α := THost) aH q85]⟩) .nil (by kernel_rfl) ?_
      clear S; intro ac w β S
      refine RG.op rfl (S.call1 (r := aX) (d := 35) (c_laws_toMon w aX paX (S.rd (S.arg hkaX))) (by kernel_rfl) rfl ?_)
      clear S; intro ac w N q90 F91 S up o92 d93
      have d94 : Disj F38 F91 := fun b x y => d93 b (o36.sub b x) y
      have d95 : Disj F86 F91 := fun b x y => d93 b (o87.sub b x) y
      replace o36 := o36.up up
      replace o87 := o87.up up
      clear up d93
      refine S.quiet (k := 2) (keep := [1, 3, 5, 8, 9, 10]) (m := 5) (σ' := ⟨[(1, .v (I aM)), (3, .p 0 0), (5, .p 1 0), (8, .p 2 0), (9, .p 3 0), (10, .p 4 0)], [GT.cells (α := THost) aH paH, GT.cells (α := TMon) aX paX, GT.cells (α := THost) (f_withMon aH aM aX) q37, GT.cells (α := THost) aH q85, GT.cells (α := TMon) aX q90]⟩) .nil (by kernel_rfl) ?_
      clear S; intro ac w β S
      refine RG.done rfl (nx_then ?_)
      refine wp_seq ?_
      refine RG.start ?_
      refine S.quiet (k := 3) (keep := [1, 3, 5, 8, 9, 10, 36, 37, 38]) (m := 5) (σ' := ⟨[(1, .v (I aM)), (3, .p 0 0), (5, .p 1 0), (8, .p 2 0), (9, .p 3 0), (10, .p 4 0), (36, .v (GT.val (α := THost) aH q85)), (37, .v (I aM)), (38, .v (GT.val (α := TMon) aX q90))], [GT.cells (α := THost) aH paH, GT.cells (α := TMon) aX paX, GT.cells (α := THost) (f_withMon aH aM aX) q37, GT.cells (α := THost) aH q85, GT.cells (α := TMon) aX q90]⟩) .nil (by kernel_rfl) ?_
      clear S; intro ac w β S
      refine RG.op rfl (S.call1 (r := f_withMon aH aM aX) (d := 39) (c_impl_WithMon w aH q85 (S.rd o87.rn) aM aX q90 (S.rd o92.rn)) (by kernel_rfl) rfl ?_)
      clear S; intro ac w N q96 F97 S up o98 d99
      have d100 : Disj F38 F97 := fun b x y => d99 b (o36.sub b x) y
      have d101 : Disj F86 F97 := fun b x y => d99 b (o87.sub b x) y
      have d102 : Disj F91 F97 := fun b x y => d99 b (o92.sub b x) y
      replace o36 := o36.up up
      replace o87 := o87.up up
      replace o92 := o92.up up
      clear up d99
      refine S.quiet (k := 2) (keep := [1, 3, 5, 8, 9, 10, 11]) (m := 6) (σ' := ⟨[(1, .v (I aM)), (3, .p 0 0), (5, .p 1 0), (8, .p 2 0), (9, .p 3 0), (10, .p 4 0), (11, .p 5 0)], [GT.cells (α := THost) aH paH, GT.cells (α := TMon) aX paX, GT.cells (α := THost) (f_withMon aH aM aX) q37, GT.cells (α := THost) aH q85, GT.cells (α := TMon) aX q90, GT.cells (α := THost) (f_withMon aH aM aX) q96]⟩) .nil (by kernel_rfl) ?_
      clear S; intro ac w β S
      refine RG.done rfl (nx_then ?_)
      refine wp_seq ?_
      refine wp_seq ?_
      refine RG.start ?_
      refine S.quiet (k := 4) (keep := [1, 3, 5, 8, 9, 10, 11, 43]) (m := 6) (σ' := ⟨[(1, .v (I aM)), (3, .p 0 0), (5, .p 1 0), (8, .p 2 0), (9, .p 3 0), (10, .p 4 0), (11, .p 5 0), (43, .v (B (!(decide ((f_withMon aH aM aX) = (f_withMon aH aM aX))))))], [GT.cells (α := THost) aH paH, GT.cells (α := TMon) aX paX, GT.cells (α := THost) (f_withMon aH aM aX) q37, GT.cells (α := THost) aH q85, GT.cells (α := TMon) aX q90, GT.cells (α := THost) (f_withMon aH aM aX) q96]⟩) (.cons (Q_call fun w hw => c_laws_eqHost w (f_withMon aH aM aX) q96 (rd_of o98.rn hw) (f_withMon aH aM aX) q37 (rd_of o36.rn hw)) .nil) (by kernel_rfl) ?_
      clear S; intro ac w β S
      refine RG.done rfl (nx_then ?_)
      refine S.cond (e := (!(decide ((f_withMon aH aM aX) = (f_withMon aH aM aX))))) (by kernel_rfl) (fun h103 => ?_) (fun h103 => ?_)
      · have h104 : (decide ((f_withMon aH aM aX) = (f_withMon aH aM aX))) = false := not_t h103
        have g105 := of_decide_eq_false h104
        refine wp_seq ?_
        refine RG.start ?_
        refine S.quiet (k := 1) (keep := [6]) (m := 0) (σ' := ⟨[(6, .v (B false))], []⟩) .nil (by kernel_rfl) ?_
        clear S; intro ac w β S
        refine RG.done rfl (nx_then ?_)
        refine wp_ret (rt_then ?_)
        refine S.ret (vs := [B false]) (by kernel_rfl) ?_
        exact ⟨retB (show false = true by clear S; first | rfl | (exfalso; omega) | (exfalso; simp_all; done) | (exfalso; simp_all; omega)), S.chg⟩
      · have h106 : (decide ((f_withMon aH aM aX) = (f_withMon aH aM aX))) = true := not_f h103
        have g107 := of_decide_eq_true h106
        refine wp_skip (nx_then ?_)
        refine wp_seq ?_
        refine wp_seq ?_
        refine S.draw0 (f := 5) 5 rfl rfl ?_
        clear S; intro w S
        refine S.hoist (i := 0) (path := []) (keep := [1, 3, 5, 8, 9, 10, 11, 44]) (m := 6) (σ' := ⟨[(1, .v (I aM)), (3, .p 0 0), (5, .p 1 0), (8, .p 2 0), (9, .p 3 0), (10, .p 4 0), (11, .p 5 0), (44, .v (GT.val (α := THost) aH q85))], [GT.cells (α := THost) aH paH, GT.cells (α := TMon) aX paX, GT.cells (α := THost) (f_withMon aH aM aX) q37, GT.cells (α := THost) aH q85, GT.cells (α := TMon) aX q90, GT.cells (α := THost) (f_withMon aH aM aX) q96]⟩) (by kernel_rfl) (by kernel_rfl) .nil (by kernel_rfl) ?_
        clear S; intro ac S
        refine S.hoist (i := 1) (path := []) (keep := [1, 3, 5, 8, 9, 10, 11, 44, 45]) (m := 6) (σ' := ⟨[(1, .v (I aM)), (3, .p 0 0), (5, .p 1 0), (8, .p 2 0), (9, .p 3 0), (10, .p 4 0), (11, .p 5 0), (44, .v (GT.val (α := THost) aH q85)), (45, .v (GT.val (α := THost) aH paH))], [GT.cells (α := THost) aH paH, GT.cells (α := TMon) aX paX, GT.cells (α := THost) (f_withMon aH aM aX) q37, GT.cells (α := THost) aH q85, GT.cells (α := TMon) aX q90, GT.cells (α := THost) (f_withMon aH aM aX) q96]⟩) (by kernel_rfl) (by kernel_rfl) .nil (by kernel_rfl) ?_
        clear S; intro ac S
        refine WD.one (i := 2) (by kernel_rfl) ?_
        refine id (S.call1 (r := aH) (d := 46) (c_laws_toHost w aH paH (S.rd (S.arg hkaH))) (by kernel_rfl) rfl ?_)
        clear S; intro ac w N q108 F109 S up o110 d111
        refine WD.next S up rfl ?_
        have d112 : Disj F38 F109 := fun b x y => d111 b (o36.sub b x) y
        have d113 : Disj F86 F109 := fun b x y => d111 b (o87.sub b x) y
        have d114 : Disj F91 F109 := fun b x y => d111 b (o92.sub b x) y
        have d115 : Disj F97 F109 := fun b x y => d111 b (o98.sub b x) y
        replace o36 := o36.up up
        replace o87 := o87.up up
        replace o92 := o92.up up
        replace o98 := o98.up up
        clear up d111
        refine WD.one (i := 3) (by kernel_rfl) ?_
        refine S.stepq (i := 3) (keep := [1, 3, 5, 8, 9, 10, 11, 47]) (m := 6) (σ' := ⟨[(1, .v (I aM)), (3, .p 0 0), (5, .p 1 0), (8, .p 2 0), (9, .p 3 0), (10, .p 4 0), (11, .p 5 0), (47, .v (B (decide (aH = aH))))], [GT.cells (α := THost) aH paH, GT.cells (α := TMon) aX paX, GT.cells (α := THost) (f_withMon aH aM aX) q37, GT.cells (α := THost) aH q85, GT.cells (α := TMon) aX q90, GT.cells (α := THost) (f_withMon aH aM aX) q96]⟩) (.cons (Q_call fun w hw => c_laws_eqHost w aH q85 (rd_of o87.rn hw) aH q108 (rd_of o110.rn hw)) .nil) (by kernel_rfl) ?_
        clear S; intro ac w β S hβ
        refine WD.stay S hβ (fun _ _ h => h) ?_
        clear hβ
        refine S.hoist (i := 4) (path := []) (keep := [1, 3, 5, 8, 9, 10, 11, 48]) (m := 6) (σ' := ⟨[(1, .v (I aM)), (3, .p 0 0), (5, .p 1 0), (8, .p 2 0), (9, .p 3 0), (10, .p 4 0), (11, .p 5 0), (48, .v (B (!(decide (aH = aH)))))], [GT.cells (α := THost) aH paH, GT.cells (α := TMon) aX paX, GT.cells (α := THost) (f_withMon aH aM aX) q37, GT.cells (α := THost) aH q85, GT.cells (α := TMon) aX q90, GT.cells (α := THost) (f_withMon aH aM aX) q96]⟩) (by kernel_rfl) (by kernel_rfl) .nil (by kernel_rfl) ?_
        clear S; intro ac S
        refine WD.done (by kernel_rfl) ?_ _
        replace S := S.prune (keep := [1, 3, 5, 8, 9, 10, 11, 48]) (m := 6) (σ' := ⟨[(1, .v (I aM)), (3, .p 0 0), (5, .p 1 0), (8, .p 2 0), (9, .p 3 0), (10, .p 4 0), (11, .p 5 0), (48, .v (B (!(decide (aH = aH)))))], [GT.cells (α := THost) aH paH, GT.cells (α := TMon) aX paX, GT.cells (α := THost) (f_withMon aH aM aX) q37, GT.cells (α := THost) aH q85, GT.cells (α := TMon) aX q90, GT.cells (α := THost) (f_withMon aH aM aX) q96]⟩) (by kernel_rfl)
        refine id (nx_then ?_)
        refine S.cond (e := (!(decide (aH = aH)))) (by kernel_rfl) (fun h116 => ?_) (fun h116 => ?_)
        · have h117 : (decide (aH = aH)) = false := not_t h116
          have g118 := of_decide_eq_false h117
          refine wp_seq ?_
          refine RG.start ?_
          refine S.quiet (k := 1) (keep := [6]) (m := 0) (σ' := ⟨[(6, .v (B false))], []⟩) .nil (by kernel_rfl) ?_
          clear S; intro ac w β S
          refine RG.done rfl (nx_then ?_)
          refine wp_ret (rt_then ?_)
          refine S.ret (vs := [B false]) (by kernel_rfl) ?_
          exact ⟨retB (show false = true by clear S; first | rfl | (exfalso; omega) | (exfalso; simp_all; done) | (exfalso; simp_all; omega)), S.chg⟩
        · have h119 : (decide (aH = aH)) = true := not_f h116
          have g120 := of_decide_eq_true h119
          refine wp_skip (nx_then ?_)
          refine wp_seq ?_
          refine wp_seq ?_
          refine S.draw0 (f := 5) 5 rfl rfl ?_
          clear S; intro w S
          refine S.hoist (i := 0) (path := []) (keep := [1, 3, 5, 8, 9, 10, 11, 49]) (m := 6) (σ' := ⟨[(1, .v (I aM)), (3, .p 0 0), (5, .p 1 0), (8, .p 2 0), (9, .p 3 0), (10, .p 4 0), (11, .p 5 0), (49, .v (GT.val (α := TMon) aX q90))], [GT.cells (α := THost) aH paH, GT.cells (α := TMon) aX paX, GT.cells (α := THost) (f_withMon aH aM aX) q37, GT.cells (α := THost) aH q85, GT.cells (α := TMon) aX q90, GT.cells (α := THost) (f_withMon aH aM aX) q96]⟩) (by kernel_rfl) (by kernel_rfl) .nil (by kernel_rfl) ?_
          clear S; intro ac S
          refine S.hoist (i := 1) (path := []) (keep := [1, 3, 5, 8, 9, 10, 11, 49, 50]) (m := 6) (σ' := ⟨[(1, .v (I aM)), (3, .p 0 0), (5, .p 1 0), (8, .p 2 0), (9, .p 3 0), (10, .p 4 0), (11, .p 5 0), (49, .v (GT.val (α := TMon) aX q90)), (50, .v (GT.val (α := TMon) aX paX))], [GT.cells (α := THost) aH paH, GT.cells (α := TMon) aX paX, GT.cells (α := THost) (f_withMon aH aM aX) q37, GT.cells (α := THost) aH q85, GT.cells (α := TMon) aX q90, GT.cells (α := THost) (f_withMon aH aM aX) q96]⟩) (by kernel_rfl) (by kernel_rfl) .nil (by kernel_rfl) ?_
          clear S; intro ac S
          refine WD.one (i := 2) (by kernel_rfl) ?_
          refine id (S.call1 (r := aX) (d := 51) (c_laws_toMon w aX paX (S.rd (S.arg hkaX))) (by kernel_rfl) rfl ?_)
          clear S; intro ac w N q121 F122 S up o123 d124
          refine WD.next S up rfl ?_
          have d125 : Disj F38 F122 := fun b x y => d124 b (o36.sub b x) y
          have d126 : Disj F86 F122 := fun b x y => d124 b (o87.sub b x) y
          have d127 : Disj F91 F122 := fun b x y => d124 b (o92.sub b x) y
          have d128 : Disj F97 F122 := fun b x y => d124 b (o98.sub b x) y
          replace o36 := o36.up up
          replace o87 := o87.up up
          replace o92 := o92.up up
          replace o98 := o98.up up
          clear up d124
          refine WD.one (i := 3) (by kernel_rfl) ?_
          refine S.stepq (i := 3) (keep := [1, 3, 5, 8, 9, 10, 11, 52]) (m := 6) (σ' := ⟨[(1, .v (I aM)), (3, .p 0 0), (5, .p 1 0), (8, .p 2 0), (9, .p 3 0), (10, .p 4 0), (11, .p 5 0), (52, .v (B (decide (aX = aX))))], [GT.cells (α := THost) aH paH, GT.cells (α := TMon) aX paX, GT.cells (α := THost) (f_withMon aH aM aX) q37, GT.cells (α := THost) aH q85, GT.cells (α := TMon) aX q90, GT.cells (α := THost) (f_withMon aH aM aX) q96]⟩) (.cons (Q_call fun w hw => c_laws_eqMon w aX q90 (rd_of o92.rn hw) aX q121 (rd_of o123.rn hw)) .nil) (by kernel_rfl) ?_
          clear S; intro ac w β S hβ
          refine WD.stay S hβ (fun _ _ h => h) ?_
          clear hβ
          refine S.hoist (i := 4) (path := []) (keep := [1, 3, 5, 8, 9, 10, 11, 53]) (m := 6) (σ' := ⟨[(1, .v (I aM)), (3, .p 0 0), (5, .p 1 0), (8, .p 2 0), (9, .p 3 0), (10, .p 4 0), (11, .p 5 0), (53, .v (B (!(decide (aX = aX)))))], [GT.cells (α := THost) aH paH, GT.cells (α := TMon) aX paX, GT.cells (α := THost) (f_withMon aH aM aX) q37, GT.cells (α := THost) aH q85, GT.cells (α := TMon) aX q90, GT.cells (α := THost) (f_withMon aH aM aX) q96]⟩) (by kernel_rfl) (by kernel_rfl) .nil (by kernel_rfl) ?_
          clear S; intro ac S
          refine WD.done (by kernel_rfl) ?_ _
          replace S := S.prune (keep := [1, 3, 5, 8, 9, 10, 11, 53]) (m := 6) (σ' := ⟨[(1, .v (I aM)), (3, .p 0 0), (5, .p 1 0), (8, .p 2 0), (9, .p 3 0), (10, .p 4 0), (11, .p 5 0), (53, .v (B (!(decide (aX = aX)))))], [GT.cells (α := THost) aH paH, GT.cells (α := TMon) aX paX, GT.cells (α := THost) (f_withMon aH aM aX) q37, GT.cells (α := THost) aH q85, GT.cells (α := TMon) aX q90, GT.cells (α := THost) (f_withMon aH aM aX) q96]⟩) (by kernel_rfl)
          refine id (nx_then ?_)
          refine S.cond (e := (!(decide (aX = aX)))) (by kernel_rfl) (fun h129 => ?_) (fun h129 => ?_)
          · have h130 : (decide (aX = aX)) = false := not_t h129
            have g131 := of_decide_eq_false h130
            refine wp_seq ?_
            refine RG.start ?_
            refine S.quiet (k := 1) (keep := [6]) (m := 0) (σ' := ⟨[(6, .v (B false))], []⟩) .nil (by kernel_rfl) ?_
            clear S; intro ac w β S
            refine RG.done rfl (nx_then ?_)
            refine wp_ret (rt_then ?_)
            refine S.ret (vs := [B false]) (by kernel_rfl) ?_
            exact ⟨retB (show false = true by clear S; first | rfl | (exfalso; omega) | (exfalso; simp_all; done) | (exfalso; simp_all; omega)), S.chg⟩
          · have h132 : (decide (aX = aX)) = true := not_f h129
            have g133 := of_decide_eq_true h132
            refine wp_skip (nx_then ?_)
            refine wp_seq ?_
            refine RG.start ?_
            refine S.quiet (k := 1) (keep := [1, 3, 5, 8, 9, 10, 11, 12]) (m := 6) (σ' := ⟨[(1, .v (I aM)), (3, .p 0 0), (5, .p 1 0), (8, .p 2 0), (9, .p 3 0), (10, .p 4 0), (11, .p 5 0), (12, .v (I 1))], [GT.cells (α := THost) aH paH, GT.cells (α := TMon) aX paX, GT.cells (α := THost) (f_withMon aH aM aX) q37, GT.cells (α := THost) aH q85, GT.cells (α := TMon) aX q90, GT.cells (α := THost) (f_withMon aH aM aX) q96]⟩) .nil (by kernel_rfl) ?_
            clear S; intro ac w β S
            refine RG.done rfl (nx_then ?_)
            refine wp_seq ?_
            refine RG.start ?_
            refine S.quiet (k := 2) (keep := [1, 3, 5, 8, 10, 11, 54, 55]) (m := 6) (σ' := ⟨[(1, .v (I aM)), (3, .p 0 0), (5, .p 1 0), (8, .p 2 0), (10, .p 4 0), (11, .p 5 0), (54, .v (GT.val (α := THost) aH q85)), (55, .v (I 1))], [GT.cells (α := THost) aH paH, GT.cells (α := TMon) aX paX, GT.cells (α := THost) (f_withMon aH aM aX) q37, GT.cells (α := THost) aH q85, GT.cells (α := TMon) aX q90, GT.cells (α := THost) (f_withMon aH aM aX) q96]⟩) .nil (by kernel_rfl) ?_
            clear S; intro ac w β S
            have z142 := sz_withMon aH aM aX
            refine RG.op rfl (S.callX (hd := hdT_Host) (d := 56) o87 (c_laws_markHost w aH q85 F86 (S.ownw o87) (fun b hb => (S.sep b (o87.sub b hb)).1) 1 (by omega) (by omega)) (by kernel_rfl) rfl ?_)
            clear S; intro ac w N q134 y135 k136 S up o137 c138 x139 b140 b141
            replace o36 := o36.upF d89 up
            replace o92 := o92.upF (Disj.symm d95) up
            replace o98 := o98.upF (Disj.symm d101) up
            clear up
            replace S := S.prune (keep := [1, 3, 5, 8, 10, 11, 55, 56]) (m := 6) (σ' := ⟨[(1, .v (I aM)), (3, .p 0 0), (5, .p 1 0), (8, .p 2 0), (10, .p 4 0), (11, .p 5 0), (55, .v (I 1)), (56, .v (I k136))], [GT.cells (α := THost) aH paH, GT.cells (α := TMon) aX paX, GT.cells (α := THost) (f_withMon aH aM aX) q37, GT.cells (α := THost) aH q85, GT.cells (α := TMon) aX q90, GT.cells (α := THost) (f_withMon aH aM aX) q96]⟩) (by kernel_rfl)
            have hw0 : GT.cells (α := THost) y135 q134 = GT.cells (α := THost) aH q85 := c138
            replace S := S.cast (σ' := ⟨[(1, .v (I aM)), (3, .p 0 0), (5, .p 1 0), (8, .p 2 0), (10, .p 4 0), (11, .p 5 0), (55, .v (I 1)), (56, .v (I k136))], [GT.cells (α := THost) aH paH, GT.cells (α := TMon) aX paX, GT.cells (α := THost) (f_withMon aH aM aX) q37, GT.cells (α := THost) y135 q134, GT.cells (α := TMon) aX q90, GT.cells (α := THost) (f_withMon aH aM aX) q96]⟩) (by rw [hw0])
            clear hw0
            refine S.quiet (k := 1) (keep := [1, 3, 5, 8, 10, 11, 12]) (m := 6) (σ' := ⟨[(1, .v (I aM)), (3, .p 0 0), (5, .p 1 0), (8, .p 2 0), (10, .p 4 0), (11, .p 5 0), (12, .v (I k136))], [GT.cells (α := THost) aH paH, GT.cells (α := TMon) aX paX, GT.cells (α := THost) (f_withMon aH aM aX) q37, GT.cells (α := THost) y135 q134, GT.cells (α := TMon) aX q90, GT.cells (α := THost) (f_withMon aH aM aX) q96]⟩) .nil (by kernel_rfl) ?_
            clear S; intro ac w β S
            refine RG.done rfl (nx_then ?_)
            refine wp_seq ?_
            refine RG.start ?_
            refine S.quiet (k := 2) (keep := [1, 3, 5, 8, 11, 57, 58]) (m := 6) (σ' := ⟨[(1, .v (I aM)), (3, .p 0 0), (5, .p 1 0), (8, .p 2 0), (11, .p 5 0), (57, .v (GT.val (α := TMon) aX q90)), (58, .v (I k136))], [GT.cells (α := THost) aH paH, GT.cells (α := TMon) aX paX, GT.cells (α := THost) (f_withMon aH aM aX) q37, GT.cells (α := THost) y135 q134, GT.cells (α := TMon) aX q90, GT.cells (α := THost) (f_withMon aH aM aX) q96]⟩) .nil (by kernel_rfl) ?_
            clear S; intro ac w β S
            have z151 := sz_withMon aH aM aX
            have z152 : SZ.sz aX ≤ 123145327476736 := SB.bd (o92.rn)
            refine RG.op rfl (S.callX (hd := hdT_Mon) (d := 59) o92 (c_laws_markMon w aX q90 F91 (S.ownw o92) (fun b hb => (S.sep b (o92.sub b hb)).1) k136 (by omega) (by omega)) (by kernel_rfl) rfl ?_)
            clear S; intro ac w N q143 y144 k145 S up o146 c147 x148 b149 b150
            replace o36 := o36.upF d94 up
            replace o98 := o98.upF (Disj.symm d102) up
            replace o137 := o137.upF (Disj.symm (Disj.symm d95)) up
            clear up
            replace S := S.prune (keep := [1, 3, 5, 8, 11, 58, 59]) (m := 6) (σ' := ⟨[(1, .v (I aM)), (3, .p 0 0), (5, .p 1 0), (8, .p 2 0), (11, .p 5 0), (58, .v (I k136)), (59, .v (I k145))], [GT.cells (α := THost) aH paH, GT.cells (α := TMon) aX paX, GT.cells (α := THost) (f_withMon aH aM aX) q37, GT.cells (α := THost) y135 q134, GT.cells (α := TMon) aX q90, GT.cells (α := THost) (f_withMon aH aM aX) q96]⟩) (by kernel_rfl)
            have hw0 : GT.cells (α := TMon) y144 q143 = GT.cells (α := TMon) aX q90 := c147
            replace S := S.cast (σ' := ⟨[(1, .v (I aM)), (3, .p 0 0), (5, .p 1 0), (8, .p 2 0), (11, .p 5 0), (58, .v (I k136)), (59, .v (I k145))], [GT.cells (α := THost) aH paH, GT.cells (α := TMon) aX paX, GT.cells (α := THost) (f_withMon aH aM aX) q37, GT.cells (α := THost) y135 q134, GT.cells (α := TMon) y144 q143, GT.cells (α := THost) (f_withMon aH aM aX) q96]⟩) (by rw [hw0])
            clear hw0
            refine S.quiet (k := 1) (keep := [1, 3, 5, 8, 11, 12]) (m := 6) (σ' := ⟨[(1, .v (I aM)), (3, .p 0 0), (5, .p 1 0), (8, .p 2 0), (11, .p 5 0), (12, .v (I k145))], [GT.cells (α := THost) aH paH, GT.cells (α := TMon) aX paX, GT.cells (α := THost) (f_withMon aH aM aX) q37, GT.cells (α := THost) y135 q134, GT.cells (α := TMon) y144 q143, GT.cells (α := THost) (f_withMon aH aM aX) q96]⟩) .nil (by kernel_rfl) ?_
            clear S; intro ac w β S
            refine RG.done rfl (nx_then ?_)
            refine wp_seq ?_
            refine wp_seq ?_
            refine RG.start ?_
            refine S.quiet (k := 3) (keep := [1, 3, 5, 8, 11, 62]) (m := 6) (σ' := ⟨[(1, .v (I aM)), (3, .p 0 0), (5, .p 1 0), (8, .p 2 0), (11, .p 5 0), (62, .v (B (decide (k145 < 0))))], [GT.cells (α := THost) aH paH, GT.cells (α := TMon) aX paX, GT.cells (α := THost) (f_withMon aH aM aX) q37, GT.cells (α := THost) y135 q134, GT.cells (α := TMon) y144 q143, GT.cells (α := THost) (f_withMon aH aM aX) q96]⟩) .nil (by kernel_rfl) ?_
            clear S; intro ac w β S
            rcases Bool.eq_false_or_eq_true (decide (k145 < 0)) with h153 | h153 <;> rw [h153] at S
            · have g154 : k145 < 0 := of_decide_eq_true h153
              refine S.quiet (k := 5) (keep := [1, 3, 5, 8, 11, 67]) (m := 6) (σ' := ⟨[(1, .v (I aM)), (3, .p 0 0), (5, .p 1 0), (8, .p 2 0), (11, .p 5 0), (67, .v (B true))], [GT.cells (α := THost) aH paH, GT.cells (α := TMon) aX paX, GT.cells (α := THost) (f_withMon aH aM aX) q37, GT.cells (α := THost) y135 q134, GT.cells (α := TMon) y144 q143, GT.cells (α := THost) (f_withMon aH aM aX) q96]⟩) .nil (by kernel_rfl) ?_
              clear S; intro ac w β S
              refine RG.done rfl (nx_then ?_)
              refine S.cond (e := true) (by kernel_rfl) (fun _ => ?_) (fun hx => by cases hx)
              refine wp_seq ?_
              refine RG.start ?_
              refine S.quiet (k := 1) (keep := [6]) (m := 0) (σ' := ⟨[(6, .v (B false))], []⟩) .nil (by kernel_rfl) ?_
              clear S; intro ac w β S
              refine RG.done rfl (nx_then ?_)
              refine wp_ret (rt_then ?_)
              refine S.ret (vs := [B false]) (by kernel_rfl) ?_
              exact ⟨retB (show false = true by clear S; first | rfl | (exfalso; omega) | (exfalso; simp_all; done) | (exfalso; simp_all; omega)), S.chg⟩
            · have g155 : ¬ (k145 < 0) := of_decide_eq_false h153
              refine S.quiet (k := 5) (keep := [1, 3, 5, 8, 11, 67]) (m := 6) (σ' := ⟨[(1, .v (I aM)), (3, .p 0 0), (5, .p 1 0), (8, .p 2 0), (11, .p 5 0), (67, .v (B (!(decide ((f_withMon aH aM aX) = (f_withMon aH aM aX))))))], [GT.cells (α := THost) aH paH, GT.cells (α := TMon) aX paX, GT.cells (α := THost) (f_withMon aH aM aX) q37, GT.cells (α := THost) y135 q134, GT.cells (α := TMon) y144 q143, GT.cells (α := THost) (f_withMon aH aM aX) q96]⟩) (.cons (Q_call fun w hw => c_laws_eqHost w (f_withMon aH aM aX) q96 (rd_of o98.rn hw) (f_withMon aH aM aX) q37 (rd_of o36.rn hw)) .nil) (by kernel_rfl) ?_
              clear S; intro ac w β S
              refine RG.done rfl (nx_then ?_)
              refine S.cond (e := (!(decide ((f_withMon aH aM aX) = (f_withMon aH aM aX))))) (by kernel_rfl) (fun h156 => ?_) (fun h156 => ?_)
              · have h157 : (decide ((f_withMon aH aM aX) = (f_withMon aH aM aX))) = false := not_t h156
                have g158 := of_decide_eq_false h157
                refine wp_seq ?_
                refine RG.start ?_
                refine S.quiet (k := 1) (keep := [6]) (m := 0) (σ' := ⟨[(6, .v (B false))], []⟩) .nil (by kernel_rfl) ?_
                clear S; intro ac w β S
                refine RG.done rfl (nx_then ?_)
                refine wp_ret (rt_then ?_)
                refine S.ret (vs := [B false]) (by kernel_rfl) ?_
                exact ⟨retB (show false = true by clear S; first | rfl | (exfalso; omega) | (exfalso; simp_all; done) | (exfalso; simp_all; omega)), S.chg⟩
              · have h159 : (decide ((f_withMon aH aM aX) = (f_withMon aH aM aX))) = true := not_f h156
                have g160 := of_decide_eq_true h159
                refine wp_skip (nx_then ?_)
                refine wp_seq ?_
                refine RG.start ?_
                refine S.quiet (k := 1) (keep := [1, 3, 5, 8, 11, 13]) (m := 6) (σ' := ⟨[(1, .v (I aM)), (3, .p 0 0), (5, .p 1 0), (8, .p 2 0), (11, .p 5 0), (13, .v (I 1))], [GT.cells (α := THost) aH paH, GT.cells (α := TMon) aX paX, GT.cells (α := THost) (f_withMon aH aM aX) q37, GT.cells (α := THost) y135 q134, GT.cells (α := TMon) y144 q143, GT.cells (α := THost) (f_withMon aH aM aX) q96]⟩) .nil (by kernel_rfl) ?_
                clear S; intro ac w β S
                refine RG.done rfl (nx_then ?_)
                refine wp_seq ?_
                refine RG.start ?_
                refine S.quiet (k := 2) (keep := [1, 3, 5, 8, 11, 68, 69]) (m := 6) (σ' := ⟨[(1, .v (I aM)), (3, .p 0 0), (5, .p 1 0), (8, .p 2 0), (11, .p 5 0), (68, .v (GT.val (α := THost) (f_withMon aH aM aX) q96)), (69, .v (I 1))], [GT.cells (α := THost) aH paH, GT.cells (α := TMon) aX paX, GT.cells (α := THost) (f_withMon aH aM aX) q37, GT.cells (α := THost) y135 q134, GT.cells (α := TMon) y144 q143, GT.cells (α := THost) (f_withMon aH aM aX) q96]⟩) .nil (by kernel_rfl) ?_
                clear S; intro ac w β S
                have z169 := sz_withMon aH aM aX
                refine RG.op rfl (S.callX (hd := hdT_Host) (d := 70) o98 (c_laws_markHost w (f_withMon aH aM aX) q96 F97 (S.ownw o98) (fun b hb => (S.sep b (o98.sub b hb)).1) 1 (by omega) (by omega)) (by kernel_rfl) rfl ?_)
                clear S; intro ac w N q161 y162 k163 S up o164 c165 x166 b167 b168
                replace o36 := o36.upF d100 up
                replace o137 := o137.upF (Disj.symm (Disj.symm d101)) up
                replace o146 := o146.upF (Disj.symm (Disj.symm d102)) up
                clear up
                replace S := S.prune (keep := [1, 3, 5, 8, 11, 69, 70]) (m := 6) (σ' := ⟨[(1, .v (I aM)), (3, .p 0 0), (5, .p 1 0), (8, .p 2 0), (11, .p 5 0), (69, .v (I 1)), (70, .v (I k163))], [GT.cells (α := THost) aH paH, GT.cells (α := TMon) aX paX, GT.cells (α := THost) (f_withMon aH aM aX) q37, GT.cells (α := THost) y135 q134, GT.cells (α := TMon) y144 q143, GT.cells (α := THost) (f_withMon aH aM aX) q96]⟩) (by kernel_rfl)
                have hw0 : GT.cells (α := THost) y162 q161 = GT.cells (α := THost) (f_withMon aH aM aX) q96 := c165
                replace S := S.cast (σ' := ⟨[(1, .v (I aM)), (3, .p 0 0), (5, .p 1 0), (8, .p 2 0), (11, .p 5 0), (69, .v (I 1)), (70, .v (I k163))], [GT.cells (α := THost) aH paH, GT.cells (α := TMon) aX paX, GT.cells (α := THost) (f_withMon aH aM aX) q37, GT.cells (α := THost) y135 q134, GT.cells (α := TMon) y144 q143, GT.cells (α := THost) y162 q161]⟩) (by rw [hw0])
                clear hw0
                refine S.quiet (k := 1) (keep := [1, 3, 5, 8, 11, 13]) (m := 6) (σ' := ⟨[(1, .v (I aM)), (3, .p 0 0), (5, .p 1 0), (8, .p 2 0), (11, .p 5 0), (13, .v (I k163))], [GT.cells (α := THost) aH paH, GT.cells (α := TMon) aX paX, GT.cells (α := THost) (f_withMon aH aM aX) q37, GT.cells (α := THost) y135 q134, GT.cells (α := TMon) y144 q143, GT.cells (α := THost) y162 q161]⟩) .nil (by kernel_rfl) ?_
                clear S; intro ac w β S
                refine RG.done rfl (nx_then ?_)
                refine wp_seq ?_
                refine RG.start ?_
                refine S.quiet (k := 1) (keep := [1, 3, 5, 8, 11, 13, 14]) (m := 6) (σ' := ⟨[(1, .v (I aM)), (3, .p 0 0), (5, .p 1 0), (8, .p 2 0), (11, .p 5 0), (13, .v (I k163)), (14, .v (I 1))], [GT.cells (α := THost) aH paH, GT.cells (α := TMon) aX paX, GT.cells (α := THost) (f_withMon aH aM aX) q37, GT.cells (α := THost) y135 q134, GT.cells (α := TMon) y144 q143, GT.cells (α := THost) y162 q161]⟩) .nil (by kernel_rfl) ?_
                clear S; intro ac w β S
                refine RG.done rfl (nx_then ?_)
                refine wp_seq ?_
                refine RG.start ?_
                refine S.quiet (k := 4) (keep := [1, 3, 5, 8, 11, 13, 14]) (m := 6) (σ' := ⟨[(1, .v (I aM)), (3, .p 0 0), (5, .p 1 0), (8, .p 2 0), (11, .p 5 0), (13, .v (I k163)), (14, .v (I (hdT_Host y162 1)))], [GT.cells (α := THost) aH paH, GT.cells (α := TMon) aX paX, GT.cells (α := THost) (f_withMon aH aM aX) q37, GT.cells (α := THost) y135 q134, GT.cells (α := TMon) y144 q143, GT.cells (α := THost) y162 q161]⟩) (.cons (Q_call fun w hw => c_laws_heldHost w y162 q161 (rd_of o164.rn hw) 1) .nil) (by kernel_rfl) ?_
                clear S; intro ac w β S
                refine RG.done rfl (nx_then ?_)
                refine wp_seq ?_
                refine wp_seq ?_
                refine RG.start ?_
                refine S.quiet (k := 2) (keep := [1, 3, 5, 8, 11, 13, 14, 75]) (m := 6) (σ' := ⟨[(1, .v (I aM)), (3, .p 0 0), (5, .p 1 0), (8, .p 2 0), (11, .p 5 0), (13, .v (I k163)), (14, .v (I (hdT_Host y162 1))), (75, .v (B (decide ((hdT_Host y162 1) < 0))))], [GT.cells (α := THost) aH paH, GT.cells (α := TMon) aX paX, GT.cells (α := THost) (f_withMon aH aM aX) q37, GT.cells (α := THost) y135 q134, GT.cells (α := TMon) y144 q143, GT.cells (α := THost) y162 q161]⟩) .nil (by kernel_rfl) ?_
                clear S; intro ac w β S
                refine RG.done rfl (nx_then ?_)
                refine S.cond (e := (decide ((hdT_Host y162 1) < 0))) (by kernel_rfl) (fun h170 => ?_) (fun h170 => ?_)
                · have g171 : (hdT_Host y162 1) < 0 := of_decide_eq_true h170
                  refine wp_seq ?_
                  refine RG.start ?_
                  refine S.quiet (k := 1) (keep := [6]) (m := 0) (σ' := ⟨[(6, .v (B false))], []⟩) .nil (by kernel_rfl) ?_
                  clear S; intro ac w β S
                  refine RG.done rfl (nx_then ?_)
                  refine wp_ret (rt_then ?_)
                  refine S.ret (vs := [B false]) (by kernel_rfl) ?_
                  exact ⟨retB (show false = true by clear S; first | rfl | (exfalso; omega) | (exfalso; simp_all; done) | (exfalso; simp_all; omega)), S.chg⟩
                · have g172 : ¬ ((hdT_Host y162 1) < 0) := of_decide_eq_false h170
                  refine wp_skip (nx_then ?_)
                  refine wp_seq ?_
                  refine wp_seq ?_
                  refine RG.start ?_
                  refine S.quiet (k := 3) (keep := [1, 3, 5, 8, 11, 13, 78]) (m := 6) (σ' := ⟨[(1, .v (I aM)), (3, .p 0 0), (5, .p 1 0), (8, .p 2 0), (11, .p 5 0), (13, .v (I k163)), (78, .v (B ((hdT_Host y162 1) != k163)))], [GT.cells (α := THost) aH paH, GT.cells (α := TMon) aX paX, GT.cells (α := THost) (f_withMon aH aM aX) q37, GT.cells (α := THost) y135 q134, GT.cells (α := TMon) y144 q143, GT.cells (α := THost) y162 q161]⟩) .nil (by kernel_rfl) ?_
                  clear S; intro ac w β S
                  refine RG.done rfl (nx_then ?_)
                  refine S.cond (e := ((hdT_Host y162 1) != k163)) (by kernel_rfl) (fun h173 => ?_) (fun h173 => ?_)
                  · have g174 : ¬ ((hdT_Host y162 1) = k163) := bne_iff_ne.1 h173
                    refine wp_seq ?_
                    refine RG.start ?_
                    refine S.quiet (k := 1) (keep := [6]) (m := 0) (σ' := ⟨[(6, .v (B false))], []⟩) .nil (by kernel_rfl) ?_
                    clear S; intro ac w β S
                    refine RG.done rfl (nx_then ?_)
                    refine wp_ret (rt_then ?_)
                    refine S.ret (vs := [B false]) (by kernel_rfl) ?_
                    exact ⟨retB (show false = true by clear S; first | rfl | (exfalso; omega) | (exfalso; simp_all; done) | (exfalso; simp_all; omega)), S.chg⟩
                  · have g175 : (hdT_Host y162 1) = k163 := ne_f h173
                    refine wp_skip (nx_then ?_)
                    refine wp_seq ?_
                    replace S := S.prune (keep := [1, 3, 5, 8, 11, 13, 78]) (m := 6) (σ' := ⟨[(1, .v (I aM)), (3, .p 0 0), (5, .p 1 0), (8, .p 2 0), (11, .p 5 0), (13, .v (I k163)), (78, .v (B ((hdT_Host y162 1) != k163)))], [GT.cells (α := THost) aH paH, GT.cells (α := TMon) aX paX, GT.cells (α := THost) (f_withMon aH aM aX) q37, GT.cells (α := THost) y135 q134, GT.cells (α := TMon) y144 q143, GT.cells (α := THost) y162 q161]⟩) (by kernel_rfl)
                    obtain ⟨u0, N0, β0, S, o36, o137, o146, o164⟩ : ∃ (u0 : World) (N0 : Bl) (β0 : Nat → Nat), St Try.prog Try.f3.ntmps w0 NoB u0 N0 β0 ⟨[(1, .v (I aM)), (3, .p 0 0), (5, .p 1 0), (8, .p 2 0), (11, .p 5 0), (13, .v (I k163)), (78, .v (B ((hdT_Host y162 1) != k163)))], [GT.cells (α := THost) aH paH, GT.cells (α := TMon) aX paX, GT.cells (α := THost) (f_withMon aH aM aX) q37, GT.cells (α := THost) y135 q134, GT.cells (α := TMon) y144 q143, GT.cells (α := THost) y162 q161]⟩ ac w ∧ Ow w0 NoB u0 N0 F38 (f_withMon aH aM aX) q37 ∧ Ow w0 NoB u0 N0 F86 y135 q134 ∧ Ow w0 NoB u0 N0 F91 y144 q143 ∧ Ow w0 NoB u0 N0 F97 y162 q161 := ⟨_, _, _, S.cast (by kernel_rfl), o36, o137, o146, o164⟩
                    refine wp_region_cut (fun ac w => ∃ (q216 : GT.Ptr (THost)) (F217 : Bl) (u : World) (N : Bl) (β : Nat → Nat), St Try.prog Try.f3.ntmps w0 NoB u N β ⟨[(8, .p 2 0), (11, .p 5 0), (13, .v (I k163)), (15, .p 6 0)], [GT.cells (α := THost) aH paH, GT.cells (α := TMon) aX paX, GT.cells (α := THost) (f_withMon aH aM aX) q37, GT.cells (α := THost) y135 q134, GT.cells (α := TMon) y144 q143, GT.cells (α := THost) y162 q161, GT.cells (α := THost) (f_withMon aH aM aX) q216]⟩ ac w ∧ Ow w0 NoB u N F38 (f_withMon aH aM aX) q37 ∧ Ow w0 NoB u N F86 y135 q134 ∧ Ow w0 NoB u N F91 y144 q143 ∧ Ow w0 NoB u N F97 y162 q161 ∧ Ow w0 NoB u N F217 (f_withMon aH aM aX) q216 ∧ Disj F38 F217 ∧ Disj F86 F217 ∧ Disj F91 F217 ∧ Disj F97 F217) ?_ ?_
                    · refine S.draw0 (f := 8) 7 rfl rfl ?_
                      clear S; intro w S
                      refine S.hoist (i := 0) (path := [0]) (keep := [1, 5, 8, 11, 13, 79]) (m := 6) (σ' := ⟨[(1, .v (I aM)), (5, .p 1 0), (8, .p 2 0), (11, .p 5 0), (13, .v (I k163)), (79, .v (GT.val (α := THost) aH paH))], [GT.cells (α := THost) aH paH, GT.cells (α := TMon) aX paX, GT.cells (α := THost) (f_withMon aH aM aX) q37, GT.cells (α := THost) y135 q134, GT.cells (α := TMon) y144 q143, GT.cells (α := THost) y162 q161]⟩) (by kernel_rfl) (by kernel_rfl) .nil (by kernel_rfl) ?_
                      clear S; intro ac S
                      refine S.hoist (i := 2) (path := [2]) (keep := [5, 8, 11, 13, 79, 81]) (m := 6) (σ' := ⟨[(5, .p 1 0), (8, .p 2 0), (11, .p 5 0), (13, .v (I k163)), (79, .v (GT.val (α := THost) aH paH)), (81, .v (I aM))], [GT.cells (α := THost) aH paH, GT.cells (α := TMon) aX paX, GT.cells (α := THost) (f_withMon aH aM aX) q37, GT.cells (α := THost) y135 q134, GT.cells (α := TMon) y144 q143, GT.cells (α := THost) y162 q161]⟩) (by kernel_rfl) (by kernel_rfl) .nil (by kernel_rfl) ?_
                      clear S; intro ac S
                      refine S.hoist (i := 3) (path := [3]) (keep := [8, 11, 13, 79, 81, 82]) (m := 6) (σ' := ⟨[(8, .p 2 0), (11, .p 5 0), (13, .v (I k163)), (79, .v (GT.val (α := THost) aH paH)), (81, .v (I aM)), (82, .v (GT.val (α := TMon) aX paX))], [GT.cells (α := THost) aH paH, GT.cells (α := TMon) aX paX, GT.cells (α := THost) (f_withMon aH aM aX) q37, GT.cells (α := THost) y135 q134, GT.cells (α := TMon) y144 q143, GT.cells (α := THost) y162 q161]⟩) (by kernel_rfl) (by kernel_rfl) .nil (by kernel_rfl) ?_
                      clear S; intro ac S
                      refine WD.nameW fun W hW => ?_
                      refine WD.castW (l' := mkL 8 [0, 2, 3]) (by kernel_rfl) ?_
                      have hK218 : ∀ (ac : Act) (w : World) (q216 : GT.Ptr (THost)) (F217 : Bl) (u : World) (N : Bl) (β : Nat → Nat) (S : St Try.prog Try.f3.ntmps w0 NoB u N β ⟨[(8, .p 2 0), (11, .p 5 0), (13, .v (I k163)), (15, .p 6 0)], [GT.cells (α := THost) aH paH, GT.cells (α := TMon) aX paX, GT.cells (α := THost) (f_withMon aH aM aX) q37, GT.cells (α := THost) y135 q134, GT.cells (α := TMon) y144 q143, GT.cells (α := THost) y162 q161, GT.cells (α := THost) (f_withMon aH aM aX) q216]⟩ ac w) (o36 : Ow w0 NoB u N F38 (f_withMon aH aM aX) q37) (o137 : Ow w0 NoB u N F86 y135 q134) (o146 : Ow w0 NoB u N F91 y144 q143) (o164 : Ow w0 NoB u N F97 y162 q161) (o215 : Ow w0 NoB u N F217 (f_withMon aH aM aX) q216) (d219 : Disj F38 F217) (d220 : Disj F86 F217) (d221 : Disj F91 F217) (d222 : Disj F97 F217) (hb : ∀ b, N0 b → N b ∧ u.heap[b]? = u0.heap[b]?) (hB : ∀ k, k < 6 → β k = β0 k), W 0 (mkL 8 [0, 1, 2, 3, 4, 5, 6, 7]) ac w := by
                        intro ac w q216 F217 u N β S o36 o137 o146 o164 o215 d219 d220 d221 d222 hb hB
                        rw [hW]
                        refine WD.done (by kernel_rfl) ?_ _
                        replace S := S.prune (keep := [8, 11, 13, 15]) (m := 7) (σ' := ⟨[(8, .p 2 0), (11, .p 5 0), (13, .v (I k163)), (15, .p 6 0)], [GT.cells (α := THost) aH paH, GT.cells (α := TMon) aX paX, GT.cells (α := THost) (f_withMon aH aM aX) q37, GT.cells (α := THost) y135 q134, GT.cells (α := TMon) y144 q143, GT.cells (α := THost) y162 q161, GT.cells (α := THost) (f_withMon aH aM aX) q216]⟩) (by kernel_rfl)
                        exact ⟨rfl, q216, F217, _, _, _, S.cast (by kernel_rfl), o36, o137, o146, o164, o215, d219, d220, d221, d222⟩
                      have hK223 : ∀ (ac : Act) (w : World) (q213 : GT.Ptr (THost)) (F214 : Bl) (u : World) (N : Bl) (β : Nat → Nat) (S : St Try.prog Try.f3.ntmps w0 NoB u N β ⟨[(8, .p 2 0), (11, .p 5 0), (13, .v (I k163)), (15, .p 6 0), (84, .v (GT.val (α := THost) (f_withMon aH aM aX) q213))], [GT.cells (α := THost) aH paH, GT.cells (α := TMon) aX paX, GT.cells (α := THost) (f_withMon aH aM aX) q37, GT.cells (α := THost) y135 q134, GT.cells (α := TMon) y144 q143, GT.cells (α := THost) y162 q161, Zc THost]⟩ ac w) (o36 : Ow w0 NoB u N F38 (f_withMon aH aM aX) q37) (o137 : Ow w0 NoB u N F86 y135 q134) (o146 : Ow w0 NoB u N F91 y144 q143) (o164 : Ow w0 NoB u N F97 y162 q161) (o212 : Ow w0 NoB u N F214 (f_withMon aH aM aX) q213) (d224 : Disj F38 F214) (d225 : Disj F86 F214) (d226 : Disj F91 F214) (d227 : Disj F97 F214) (hb : ∀ b, N0 b → N b ∧ u.heap[b]? = u0.heap[b]?) (hB : ∀ k, k < 6 → β k = β0 k), W 1 (mkL 8 [0, 1, 2, 3, 4, 5, 6]) ac w := by
                        intro ac w q213 F214 u N β S o36 o137 o146 o164 o212 d224 d225 d226 d227 hb hB
                        rw [hW]
                        refine WD.one (i := 7) (by kernel_rfl) ?_
                        refine S.stepq (i := 7) (keep := [8, 11, 13, 15]) (m := 7) (σ' := ⟨[(8, .p 2 0), (11, .p 5 0), (13, .v (I k163)), (15, .p 6 0)], [GT.cells (α := THost) aH paH, GT.cells (α := TMon) aX paX, GT.cells (α := THost) (f_withMon aH aM aX) q37, GT.cells (α := THost) y135 q134, GT.cells (α := TMon) y144 q143, GT.cells (α := THost) y162 q161, GT.cells (α := THost) (f_withMon aH aM aX) q213]⟩) .nil (by kernel_rfl) ?_
                        clear S; intro ac w β S hβ
                        have hB2 := fun k (hk : k < 6) => (hβ k (Nat.lt_of_lt_of_le hk (Nat.le_of_ble_eq_true rfl))).trans (hB k hk)
                        refine WD.last (by kernel_rfl) ?_
                        clear hβ
                        exact WD.ofW hW (by kernel_rfl) (hK218 ac w q213 F214 _ _ _ (S.prune (keep := [8, 11, 13, 15]) (m := 7) (by kernel_rfl)) o36 o137 o146 o164 o212 d224 d225 d226 d227 hb hB2)
                      have hK228 : ∀ (ac : Act) (w : World) (q213 : GT.Ptr (THost)) (F214 : Bl) (u : World) (N : Bl) (β : Nat → Nat) (S : St Try.prog Try.f3.ntmps w0 NoB u N β ⟨[(8, .p 2 0), (11, .p 5 0), (13, .v (I k163)), (84, .v (GT.val (α := THost) (f_withMon aH aM aX) q213))], [GT.cells (α := THost) aH paH, GT.cells (α := TMon) aX paX, GT.cells (α := THost) (f_withMon aH aM aX) q37, GT.cells (α := THost) y135 q134, GT.cells (α := TMon) y144 q143, GT.cells (α := THost) y162 q161]⟩ ac w) (o36 : Ow w0 NoB u N F38 (f_withMon aH aM aX) q37) (o137 : Ow w0 NoB u N F86 y135 q134) (o146 : Ow w0 NoB u N F91 y144 q143) (o164 : Ow w0 NoB u N F97 y162 q161) (o212 : Ow w0 NoB u N F214 (f_withMon aH aM aX) q213) (d229 : Disj F38 F214) (d230 : Disj F86 F214) (d231 : Disj F91 F214) (d232 : Disj F97 F214) (hb : ∀ b, N0 b → N b ∧ u.heap[b]? = u0.heap[b]?) (hB : ∀ k, k < 6 → β k = β0 k), W 2 (mkL 8 [0, 1, 2, 3, 4, 5]) ac w := by
                        intro ac w q213 F214 u N β S o36 o137 o146 o164 o212 d229 d230 d231 d232 hb hB
                        rw [hW]
                        refine WD.one (i := 6) (by kernel_rfl) ?_
                        refine S.stepq (i := 6) (keep := [8, 11, 13, 15, 84]) (m := 7) (σ' := ⟨[(8, .p 2 0), (11, .p 5 0), (13, .v (I k163)), (15, .p 6 0), (84, .v (GT.val (α := THost) (f_withMon aH aM aX) q213))], [GT.cells (α := THost) aH paH, GT.cells (α := TMon) aX paX, GT.cells (α := THost) (f_withMon aH aM aX) q37, GT.cells (α := THost) y135 q134, GT.cells (α := TMon) y144 q143, GT.cells (α := THost) y162 q161, Zc THost]⟩) .nil (by kernel_rfl) ?_
                        clear S; intro ac w β S hβ
                        have hB2 := fun k (hk : k < 6) => (hβ k (Nat.lt_of_lt_of_le hk (Nat.le_of_ble_eq_true rfl))).trans (hB k hk)
                        refine WD.stayK S (fun b h => ⟨(hb b h).1, (hb b h).2⟩) hB2 (bx_app rfl) ?_
                        clear hβ
                        exact WD.ofW hW (by kernel_rfl) (hK223 ac w q213 F214 _ _ _ (S.prune (keep := [8, 11, 13, 15, 84]) (m := 7) (by kernel_rfl)) o36 o137 o146 o164 o212 d229 d230 d231 d232 hb hB2)
                      have hK233 : ∀ (ac : Act) (w : World) (q186 : GT.Ptr (THost)) (F187 : Bl) (q199 : GT.Ptr (TMon)) (F200 : Bl) (u : World) (N : Bl) (β : Nat → Nat) (S : St Try.prog Try.f3.ntmps w0 NoB u N β ⟨[(8, .p 2 0), (11, .p 5 0), (13, .v (I k163)), (15, .p 6 0), (80, .v (GT.val (α := THost) aH q186)), (81, .v (I aM)), (83, .v (GT.val (α := TMon) aX q199))], [GT.cells (α := THost) aH paH, GT.cells (α := TMon) aX paX, GT.cells (α := THost) (f_withMon aH aM aX) q37, GT.cells (α := THost) y135 q134, GT.cells (α := TMon) y144 q143, GT.cells (α := THost) y162 q161, Zc THost]⟩ ac w) (o36 : Ow w0 NoB u N F38 (f_withMon aH aM aX) q37) (o137 : Ow w0 NoB u N F86 y135 q134) (o146 : Ow w0 NoB u N F91 y144 q143) (o164 : Ow w0 NoB u N F97 y162 q161) (o185 : Ow w0 NoB u N F187 aH q186) (o198 : Ow w0 NoB u N F200 aX q199) (d234 : Disj F38 F187) (d235 : Disj F38 F200) (d236 : Disj F86 F187) (d237 : Disj F86 F200) (d238 : Disj F91 F187) (d239 : Disj F91 F200) (d240 : Disj F97 F187) (d241 : Disj F97 F200) (d242 : Disj F187 F200) (hb : ∀ b, N0 b → N b ∧ u.heap[b]? = u0.heap[b]?) (hB : ∀ k, k < 6 → β k = β0 k), W 2 (mkL 8 [0, 1, 2, 3, 4, 6]) ac w := by
                        intro ac w q186 F187 q199 F200 u N β S o36 o137 o146 o164 o185 o198 d234 d235 d236 d237 d238 d239 d240 d241 d242 hb hB
                        rw [hW]
                        refine WD.one (i := 5) (by kernel_rfl) ?_
                        refine id (S.call1 (r := f_withMon aH aM aX) (d := 84) (c_impl_WithMon w aH q186 (S.rd o185.rn) aM aX q199 (S.rd o198.rn)) (by kernel_rfl) rfl ?_)
                        clear S; intro ac w N q243 F244 S up o245 d246
                        have hb247 := fun b h => (⟨(up b (hb b h).1).1, (up b (hb b h).1).2.trans (hb b h).2⟩ : _ ∧ _)
                        refine WD.stayK S (fun b h => ⟨(hb247 b h).1, (hb247 b h).2⟩) hB (bx_app rfl) ?_
                        have d248 : Disj F38 F244 := fun b x y => d246 b (o36.sub b x) y
                        have d249 : Disj F86 F244 := fun b x y => d246 b (o137.sub b x) y
                        have d250 : Disj F91 F244 := fun b x y => d246 b (o146.sub b x) y
                        have d251 : Disj F97 F244 := fun b x y => d246 b (o164.sub b x) y
                        have d252 : Disj F187 F244 := fun b x y => d246 b (o185.sub b x) y
                        have d253 : Disj F200 F244 := fun b x y => d246 b (o198.sub b x) y
                        replace o36 := o36.up up
                        replace o137 := o137.up up
                        replace o146 := o146.up up
                        replace o164 := o164.up up
                        replace o185 := o185.up up
                        replace o198 := o198.up up
                        clear up d246
                        exact WD.ofW hW (by kernel_rfl) (hK223 ac w q243 F244 _ _ _ (S.prune (keep := [8, 11, 13, 15, 84]) (m := 7) (by kernel_rfl)) o36 o137 o146 o164 o245 d248 d249 d250 d251 hb247 hB)
                      have hK254 : ∀ (ac : Act) (w : World) (q186 : GT.Ptr (THost)) (F187 : Bl) (q199 : GT.Ptr (TMon)) (F200 : Bl) (u : World) (N : Bl) (β : Nat → Nat) (S : St Try.prog Try.f3.ntmps w0 NoB u N β ⟨[(8, .p 2 0), (11, .p 5 0), (13, .v (I k163)), (80, .v (GT.val (α := THost) aH q186)), (81, .v (I aM)), (83, .v (GT.val (α := TMon) aX q199))], [GT.cells (α := THost) aH paH, GT.cells (α := TMon) aX paX, GT.cells (α := THost) (f_withMon aH aM aX) q37, GT.cells (α := THost) y135 q134, GT.cells (α := TMon) y144 q143, GT.cells (α := THost) y162 q161]⟩ ac w) (o36 : Ow w0 NoB u N F38 (f_withMon aH aM aX) q37) (o137 : Ow w0 NoB u N F86 y135 q134) (o146 : Ow w0 NoB u N F91 y144 q143) (o164 : Ow w0 NoB u N F97 y162 q161) (o185 : Ow w0 NoB u N F187 aH q186) (o198 : Ow w0 NoB u N F200 aX q199) (d255 : Disj F38 F187) (d256 : Disj F38 F200) (d257 : Disj F86 F187) (d258 : Disj F86 F200) (d259 : Disj F91 F187) (d260 : Disj F91 F200) (d261 : Disj F97 F187) (d262 : Disj F97 F200) (d263 : Disj F187 F200) (hb : ∀ b, N0 b → N b ∧ u.heap[b]? = u0.heap[b]?) (hB : ∀ k, k < 6 → β k = β0 k), W 3 (mkL 8 [0, 1, 2, 3, 4]) ac w := by
                        intro ac w q186 F187 q199 F200 u N β S o36 o137 o146 o164 o185 o198 d255 d256 d257 d258 d259 d260 d261 d262 d263 hb hB
                        rw [hW]
                        refine WD.many (rs := [5, 6]) (by kernel_rfl) rfl (List.forall_mem_cons.2 ⟨?_, List.forall_mem_cons.2 ⟨?_, List.forall_mem_nil _⟩⟩)
                        · refine id (S.call1 (r := f_withMon aH aM aX) (d := 84) (c_impl_WithMon w aH q186 (S.rd o185.rn) aM aX q199 (S.rd o198.rn)) (by kernel_rfl) rfl ?_)
                          clear S; intro ac w N q264 F265 S up o266 d267
                          have hb268 := fun b h => (⟨(up b (hb b h).1).1, (up b (hb b h).1).2.trans (hb b h).2⟩ : _ ∧ _)
                          refine WD.stayK S (fun b h => ⟨(hb268 b h).1, (hb268 b h).2⟩) hB (fun _ _ h => h) ?_
                          have d269 : Disj F38 F265 := fun b x y => d267 b (o36.sub b x) y
                          have d270 : Disj F86 F265 := fun b x y => d267 b (o137.sub b x) y
                          have d271 : Disj F91 F265 := fun b x y => d267 b (o146.sub b x) y
                          have d272 : Disj F97 F265 := fun b x y => d267 b (o164.sub b x) y
                          have d273 : Disj F187 F265 := fun b x y => d267 b (o185.sub b x) y
                          have d274 : Disj F200 F265 := fun b x y => d267 b (o198.sub b x) y
                          replace o36 := o36.up up
                          replace o137 := o137.up up
                          replace o146 := o146.up up
                          replace o164 := o164.up up
                          replace o185 := o185.up up
                          replace o198 := o198.up up
                          clear up d267
                          exact WD.ofW hW (by kernel_rfl) (hK228 ac w q264 F265 _ _ _ (S.prune (keep := [8, 11, 13, 84]) (m := 6) (by kernel_rfl)) o36 o137 o146 o164 o266 d269 d270 d271 d272 hb268 hB)
                        · refine S.stepq (i := 6) (keep := [8, 11, 13, 15, 80, 81, 83]) (m := 7) (σ' := ⟨[(8, .p 2 0), (11, .p 5 0), (13, .v (I k163)), (15, .p 6 0), (80, .v (GT.val (α := THost) aH q186)), (81, .v (I aM)), (83, .v (GT.val (α := TMon) aX q199))], [GT.cells (α := THost) aH paH, GT.cells (α := TMon) aX paX, GT.cells (α := THost) (f_withMon aH aM aX) q37, GT.cells (α := THost) y135 q134, GT.cells (α := TMon) y144 q143, GT.cells (α := THost) y162 q161, Zc THost]⟩) .nil (by kernel_rfl) ?_
                          clear S; intro ac w β S hβ
                          have hB2 := fun k (hk : k < 6) => (hβ k (Nat.lt_of_lt_of_le hk (Nat.le_of_ble_eq_true rfl))).trans (hB k hk)
                          refine WD.stayK S (fun b h => ⟨(hb b h).1, (hb b h).2⟩) hB2 (bx_app rfl) ?_
                          clear hβ
                          exact WD.ofW hW (by kernel_rfl) (hK233 ac w q186 F187 q199 F200 _ _ _ (S.prune (keep := [8, 11, 13, 15, 80, 81, 83]) (m := 7) (by kernel_rfl)) o36 o137 o146 o164 o185 o198 d255 d256 d257 d258 d259 d260 d261 d262 d263 hb hB2)
                      have hK275 : ∀ (ac : Act) (w : World) (q186 : GT.Ptr (THost)) (F187 : Bl) (u : World) (N : Bl) (β : Nat → Nat) (S : St Try.prog Try.f3.ntmps w0 NoB u N β ⟨[(8, .p 2 0), (11, .p 5 0), (13, .v (I k163)), (15, .p 6 0), (80, .v (GT.val (α := THost) aH q186)), (81, .v (I aM)), (82, .v (GT.val (α := TMon) aX paX))], [GT.cells (α := THost) aH paH, GT.cells (α := TMon) aX paX, GT.cells (α := THost) (f_withMon aH aM aX) q37, GT.cells (α := THost) y135 q134, GT.cells (α := TMon) y144 q143, GT.cells (α := THost) y162 q161, Zc THost]⟩ ac w) (o36 : Ow w0 NoB u N F38 (f_withMon aH aM aX) q37) (o137 : Ow w0 NoB u N F86 y135 q134) (o146 : Ow w0 NoB u N F91 y144 q143) (o164 : Ow w0 NoB u N F97 y162 q161) (o185 : Ow w0 NoB u N F187 aH q186) (d276 : Disj F38 F187) (d277 : Disj F86 F187) (d278 : Disj F91 F187) (d279 : Disj F97 F187) (hb : ∀ b, N0 b → N b ∧ u.heap[b]? = u0.heap[b]?) (hB : ∀ k, k < 6 → β k = β0 k), W 3 (mkL 8 [0, 1, 2, 3, 6]) ac w := by
                        intro ac w q186 F187 u N β S o36 o137 o146 o164 o185 d276 d277 d278 d279 hb hB
                        rw [hW]
                        refine WD.one (i := 4) (by kernel_rfl) ?_
                        refine id (S.call1 (r := aX) (d := 83) (c_laws_toMon w aX paX (S.rd (S.arg hkaX))) (by kernel_rfl) rfl ?_)
                        clear S; intro ac w N q280 F281 S up o282 d283
                        have hb284 := fun b h => (⟨(up b (hb b h).1).1, (up b (hb b h).1).2.trans (hb b h).2⟩ : _ ∧ _)
                        refine WD.stayK S (fun b h => ⟨(hb284 b h).1, (hb284 b h).2⟩) hB (bx_app rfl) ?_
                        have d285 : Disj F38 F281 := fun b x y => d283 b (o36.sub b x) y
                        have d286 : Disj F86 F281 := fun b x y => d283 b (o137.sub b x) y
                        have d287 : Disj F91 F281 := fun b x y => d283 b (o146.sub b x) y
                        have d288 : Disj F97 F281 := fun b x y => d283 b (o164.sub b x) y
                        have d289 : Disj F187 F281 := fun b x y => d283 b (o185.sub b x) y
                        replace o36 := o36.up up
                        replace o137 := o137.up up
                        replace o146 := o146.up up
                        replace o164 := o164.up up
                        replace o185 := o185.up up
                        clear up d283
                        exact WD.ofW hW (by kernel_rfl) (hK233 ac w q186 F187 q280 F281 _ _ _ (S.prune (keep := [8, 11, 13, 15, 80, 81, 83]) (m := 7) (by kernel_rfl)) o36 o137 o146 o164 o185 o282 d276 d285 d277 d286 d278 d287 d279 d288 d289 hb284 hB)
                      have hK290 : ∀ (ac : Act) (w : World) (q186 : GT.Ptr (THost)) (F187 : Bl) (u : World) (N : Bl) (β : Nat → Nat) (S : St Try.prog Try.f3.ntmps w0 NoB u N β ⟨[(8, .p 2 0), (11, .p 5 0), (13, .v (I k163)), (80, .v (GT.val (α := THost) aH q186)), (81, .v (I aM)), (82, .v (GT.val (α := TMon) aX paX))], [GT.cells (α := THost) aH paH, GT.cells (α := TMon) aX paX, GT.cells (α := THost) (f_withMon aH aM aX) q37, GT.cells (α := THost) y135 q134, GT.cells (α := TMon) y144 q143, GT.cells (α := THost) y162 q161]⟩ ac w) (o36 : Ow w0 NoB u N F38 (f_withMon aH aM aX) q37) (o137 : Ow w0 NoB u N F86 y135 q134) (o146 : Ow w0 NoB u N F91 y144 q143) (o164 : Ow w0 NoB u N F97 y162 q161) (o185 : Ow w0 NoB u N F187 aH q186) (d291 : Disj F38 F187) (d292 : Disj F86 F187) (d293 : Disj F91 F187) (d294 : Disj F97 F187) (hb : ∀ b, N0 b → N b ∧ u.heap[b]? = u0.heap[b]?) (hB : ∀ k, k < 6 → β k = β0 k), W 4 (mkL 8 [0, 1, 2, 3]) ac w := by
                        intro ac w q186 F187 u N β S o36 o137 o146 o164 o185 d291 d292 d293 d294 hb hB
                        rw [hW]
                        refine WD.many (rs := [4, 6]) (by kernel_rfl) rfl (List.forall_mem_cons.2 ⟨?_, List.forall_mem_cons.2 ⟨?_, List.forall_mem_nil _⟩⟩)
                        · refine id (S.call1 (r := aX) (d := 83) (c_laws_toMon w aX paX (S.rd (S.arg hkaX))) (by kernel_rfl) rfl ?_)
                          clear S; intro ac w N q295 F296 S up o297 d298
                          have hb299 := fun b h => (⟨(up b (hb b h).1).1, (up b (hb b h).1).2.trans (hb b h).2⟩ : _ ∧ _)
                          refine WD.stayK S (fun b h => ⟨(hb299 b h).1, (hb299 b h).2⟩) hB (fun _ _ h => h) ?_
                          have d300 : Disj F38 F296 := fun b x y => d298 b (o36.sub b x) y
                          have d301 : Disj F86 F296 := fun b x y => d298 b (o137.sub b x) y
                          have d302 : Disj F91 F296 := fun b x y => d298 b (o146.sub b x) y
                          have d303 : Disj F97 F296 := fun b x y => d298 b (o164.sub b x) y
                          have d304 : Disj F187 F296 := fun b x y => d298 b (o185.sub b x) y
                          replace o36 := o36.up up
                          replace o137 := o137.up up
                          replace o146 := o146.up up
                          replace o164 := o164.up up
                          replace o185 := o185.up up
                          clear up d298
                          exact WD.ofW hW (by kernel_rfl) (hK254 ac w q186 F187 q295 F296 _ _ _ (S.prune (keep := [8, 11, 13, 80, 81, 83]) (m := 6) (by kernel_rfl)) o36 o137 o146 o164 o185 o297 d291 d300 d292 d301 d293 d302 d294 d303 d304 hb299 hB)
                        · refine S.stepq (i := 6) (keep := [8, 11, 13, 15, 80, 81, 82]) (m := 7) (σ' := ⟨[(8, .p 2 0), (11, .p 5 0), (13, .v (I k163)), (15, .p 6 0), (80, .v (GT.val (α := THost) aH q186)), (81, .v (I aM)), (82, .v (GT.val (α := TMon) aX paX))], [GT.cells (α := THost) aH paH, GT.cells (α := TMon) aX paX, GT.cells (α := THost) (f_withMon aH aM aX) q37, GT.cells (α := THost) y135 q134, GT.cells (α := TMon) y144 q143, GT.cells (α := THost) y162 q161, Zc THost]⟩) .nil (by kernel_rfl) ?_
                          clear S; intro ac w β S hβ
                          have hB2 := fun k (hk : k < 6) => (hβ k (Nat.lt_of_lt_of_le hk (Nat.le_of_ble_eq_true rfl))).trans (hB k hk)
                          refine WD.stayK S (fun b h => ⟨(hb b h).1, (hb b h).2⟩) hB2 (bx_app rfl) ?_
                          clear hβ
                          exact WD.ofW hW (by kernel_rfl) (hK275 ac w q186 F187 _ _ _ (S.prune (keep := [8, 11, 13, 15, 80, 81, 82]) (m := 7) (by kernel_rfl)) o36 o137 o146 o164 o185 d291 d292 d293 d294 hb hB2)
                      have hK305 : ∀ (ac : Act) (w : World)  (u : World) (N : Bl) (β : Nat → Nat) (S : St Try.prog Try.f3.ntmps w0 NoB u N β ⟨[(8, .p 2 0), (11, .p 5 0), (13, .v (I k163)), (15, .p 6 0), (79, .v (GT.val (α := THost) aH paH)), (81, .v (I aM)), (82, .v (GT.val (α := TMon) aX paX))], [GT.cells (α := THost) aH paH, GT.cells (α := TMon) aX paX, GT.cells (α := THost) (f_withMon aH aM aX) q37, GT.cells (α := THost) y135 q134, GT.cells (α := TMon) y144 q143, GT.cells (α := THost) y162 q161, Zc THost]⟩ ac w) (o36 : Ow w0 NoB u N F38 (f_withMon aH aM aX) q37) (o137 : Ow w0 NoB u N F86 y135 q134) (o146 : Ow w0 NoB u N F91 y144 q143) (o164 : Ow w0 NoB u N F97 y162 q161) (hb : ∀ b, N0 b → N b ∧ u.heap[b]? = u0.heap[b]?) (hB : ∀ k, k < 6 → β k = β0 k), W 4 (mkL 8 [0, 2, 3, 6]) ac w := by
                        intro ac w  u N β S o36 o137 o146 o164 hb hB
                        rw [hW]
                        refine WD.one (i := 1) (by kernel_rfl) ?_
                        refine id (S.call1 (r := aH) (d := 80) (c_laws_toHost w aH paH (S.rd (S.arg hkaH))) (by kernel_rfl) rfl ?_)
                        clear S; intro ac w N q306 F307 S up o308 d309
                        have hb310 := fun b h => (⟨(up b (hb b h).1).1, (up b (hb b h).1).2.trans (hb b h).2⟩ : _ ∧ _)
                        refine WD.stayK S (fun b h => ⟨(hb310 b h).1, (hb310 b h).2⟩) hB (bx_app rfl) ?_
                        have d311 : Disj F38 F307 := fun b x y => d309 b (o36.sub b x) y
                        have d312 : Disj F86 F307 := fun b x y => d309 b (o137.sub b x) y
                        have d313 : Disj F91 F307 := fun b x y => d309 b (o146.sub b x) y
                        have d314 : Disj F97 F307 := fun b x y => d309 b (o164.sub b x) y
                        replace o36 := o36.up up
                        replace o137 := o137.up up
                        replace o146 := o146.up up
                        replace o164 := o164.up up
                        clear up d309
                        exact WD.ofW hW (by kernel_rfl) (hK275 ac w q306 F307 _ _ _ (S.prune (keep := [8, 11, 13, 15, 80, 81, 82]) (m := 7) (by kernel_rfl)) o36 o137 o146 o164 o308 d311 d312 d313 d314 hb310 hB)
                      have hb : ∀ b, N0 b → N0 b ∧ u0.heap[b]? = u0.heap[b]? := fun b h => ⟨h, rfl⟩
                      have hB : ∀ k, k < 6 → β0 k = β0 k := fun _ _ => rfl
                      rw [hW]
                      refine WD.many (rs := [1, 6]) (by kernel_rfl) rfl (List.forall_mem_cons.2 ⟨?_, List.forall_mem_cons.2 ⟨?_, List.forall_mem_nil _⟩⟩)
                      · refine id (S.call1 (r := aH) (d := 80) (c_laws_toHost w aH paH (S.rd (S.arg hkaH))) (by kernel_rfl) rfl ?_)
                        clear S; intro ac w N q315 F316 S up o317 d318
                        have hb319 := fun b h => (⟨(up b (hb b h).1).1, (up b (hb b h).1).2.trans (hb b h).2⟩ : _ ∧ _)
                        refine WD.stayK S (fun b h => ⟨(hb319 b h).1, (hb319 b h).2⟩) hB (fun _ _ h => h) ?_
                        have d320 : Disj F38 F316 := fun b x y => d318 b (o36.sub b x) y
                        have d321 : Disj F86 F316 := fun b x y => d318 b (o137.sub b x) y
                        have d322 : Disj F91 F316 := fun b x y => d318 b (o146.sub b x) y
                        have d323 : Disj F97 F316 := fun b x y => d318 b (o164.sub b x) y
                        replace o36 := o36.up up
                        replace o137 := o137.up up
                        replace o146 := o146.up up
                        replace o164 := o164.up up
                        clear up d318
                        exact WD.ofW hW (by kernel_rfl) (hK290 ac w q315 F316 _ _ _ (S.prune (keep := [8, 11, 13, 80, 81, 82]) (m := 6) (by kernel_rfl)) o36 o137 o146 o164 o317 d320 d321 d322 d323 hb319 hB)
                      · refine S.stepq (i := 6) (keep := [8, 11, 13, 15, 79, 81, 82]) (m := 7) (σ' := ⟨[(8, .p 2 0), (11, .p 5 0), (13, .v (I k163)), (15, .p 6 0), (79, .v (GT.val (α := THost) aH paH)), (81, .v (I aM)), (82, .v (GT.val (α := TMon) aX paX))], [GT.cells (α := THost) aH paH, GT.cells (α := TMon) aX paX, GT.cells (α := THost) (f_withMon aH aM aX) q37, GT.cells (α := THost) y135 q134, GT.cells (α := TMon) y144 q143, GT.cells (α := THost) y162 q161, Zc THost]⟩) .nil (by kernel_rfl) ?_
                        clear S; intro ac w β S hβ
                        have hB2 := fun k (hk : k < 6) => (hβ k (Nat.lt_of_lt_of_le hk (Nat.le_of_ble_eq_true rfl))).trans (hB k hk)
                        refine WD.stayK S (fun b h => ⟨(hb b h).1, (hb b h).2⟩) hB2 (bx_app rfl) ?_
                        clear hβ
                        exact WD.ofW hW (by kernel_rfl) (hK305 ac w  _ _ _ (S.prune (keep := [8, 11, 13, 15, 79, 81, 82]) (m := 7) (by kernel_rfl)) o36 o137 o146 o164 hb hB2)
                    clear S o36 o137 o146 o164
                    rintro ac w ⟨q216, F217, u, N, β, S, o36, o137, o146, o164, o215, d324, d325, d326, d327⟩
                    refine id (nx_then ?_)
                    refine wp_seq ?_
                    refine wp_seq ?_
                    refine RG.start ?_
                    refine S.quiet (k := 4) (keep := [11, 13, 88]) (m := 6) (σ' := ⟨[(11, .p 5 0), (13, .v (I k163)), (88, .v (B (!(decide ((f_withMon aH aM aX) = (f_withMon aH aM aX))))))], [GT.cells (α := THost) aH paH, GT.cells (α := TMon) aX paX, GT.cells (α := THost) (f_withMon aH aM aX) q37, GT.cells (α := THost) y135 q134, GT.cells (α := TMon) y144 q143, GT.cells (α := THost) y162 q161]⟩) (.cons (Q_call fun w hw => c_laws_eqHost w (f_withMon aH aM aX) q216 (rd_of o215.rn hw) (f_withMon aH aM aX) q37 (rd_of o36.rn hw)) .nil) (by kernel_rfl) ?_
                    clear S; intro ac w β S
                    refine RG.done rfl (nx_then ?_)
                    refine S.cond (e := (!(decide ((f_withMon aH aM aX) = (f_withMon aH aM aX))))) (by kernel_rfl) (fun h328 => ?_) (fun h328 => ?_)
                    · have h329 : (decide ((f_withMon aH aM aX) = (f_withMon aH aM aX))) = false := not_t h328
                      have g330 := of_decide_eq_false h329
                      refine wp_seq ?_
                      refine RG.start ?_
                      refine S.quiet (k := 1) (keep := [6]) (m := 0) (σ' := ⟨[(6, .v (B false))], []⟩) .nil (by kernel_rfl) ?_
                      clear S; intro ac w β S
                      refine RG.done rfl (nx_then ?_)
                      refine wp_ret (rt_then ?_)
                      refine S.ret (vs := [B false]) (by kernel_rfl) ?_
                      exact ⟨retB (show false = true by clear S; first | rfl | (exfalso; omega) | (exfalso; simp_all; done) | (exfalso; simp_all; omega)), S.chg⟩
                    · have h331 : (decide ((f_withMon aH aM aX) = (f_withMon aH aM aX))) = true := not_f h328
                      have g332 := of_decide_eq_true h331
                      refine wp_skip (nx_then ?_)
                      refine wp_seq ?_
                      refine RG.start ?_
                      refine S.quiet (k := 1) (keep := [11, 13, 14]) (m := 6) (σ' := ⟨[(11, .p 5 0), (13, .v (I k163)), (14, .v (I 1))], [GT.cells (α := THost) aH paH, GT.cells (α := TMon) aX paX, GT.cells (α := THost) (f_withMon aH aM aX) q37, GT.cells (α := THost) y135 q134, GT.cells (α := TMon) y144 q143, GT.cells (α := THost) y162 q161]⟩) .nil (by kernel_rfl) ?_
                      clear S; intro ac w β S
                      refine RG.done rfl (nx_then ?_)
                      refine wp_seq ?_
                      refine RG.start ?_
                      refine S.quiet (k := 4) (keep := [13, 14]) (m := 0) (σ' := ⟨[(13, .v (I k163)), (14, .v (I (hdT_Host y162 1)))], []⟩) (.cons (Q_call fun w hw => c_laws_heldHost w y162 q161 (rd_of o164.rn hw) 1) .nil) (by kernel_rfl) ?_
                      clear S; intro ac w β S
                      refine RG.done rfl (nx_then ?_)
                      refine wp_seq ?_
                      refine wp_seq ?_
                      refine RG.start ?_
                      refine S.quiet (k := 2) (keep := [13, 14, 93]) (m := 0) (σ' := ⟨[(13, .v (I k163)), (14, .v (I (hdT_Host y162 1))), (93, .v (B (decide ((hdT_Host y162 1) < 0))))], []⟩) .nil (by kernel_rfl) ?_
                      clear S; intro ac w β S
                      refine RG.done rfl (nx_then ?_)
                      refine S.cond (e := (decide ((hdT_Host y162 1) < 0))) (by kernel_rfl) (fun h333 => ?_) (fun h333 => ?_)
                      · have g334 : (hdT_Host y162 1) < 0 := of_decide_eq_true h333
                        refine wp_seq ?_
                        refine RG.start ?_
                        refine S.quiet (k := 1) (keep := [6]) (m := 0) (σ' := ⟨[(6, .v (B false))], []⟩) .nil (by kernel_rfl) ?_
                        clear S; intro ac w β S
                        refine RG.done rfl (nx_then ?_)
                        refine wp_ret (rt_then ?_)
                        refine S.ret (vs := [B false]) (by kernel_rfl) ?_
                        exact ⟨retB (show false = true by clear S; first | rfl | (exfalso; omega) | (exfalso; simp_all; done) | (exfalso; simp_all; omega)), S.chg⟩
                      · have g335 : ¬ ((hdT_Host y162 1) < 0) := of_decide_eq_false h333
                        refine wp_skip (nx_then ?_)
                        refine wp_seq ?_
                        refine wp_seq ?_
                        refine RG.start ?_
                        refine S.quiet (k := 3) (keep := [96]) (m := 0) (σ' := ⟨[(96, .v (B ((hdT_Host y162 1) != k163)))], []⟩) .nil (by kernel_rfl) ?_
                        clear S; intro ac w β S
                        refine RG.done rfl (nx_then ?_)
                        refine S.cond (e := ((hdT_Host y162 1) != k163)) (by kernel_rfl) (fun h336 => ?_) (fun h336 => ?_)
                        · have g337 : ¬ ((hdT_Host y162 1) = k163) := bne_iff_ne.1 h336
                          refine wp_seq ?_
                          refine RG.start ?_
                          refine S.quiet (k := 1) (keep := [6]) (m := 0) (σ' := ⟨[(6, .v (B false))], []⟩) .nil (by kernel_rfl) ?_
                          clear S; intro ac w β S
                          refine RG.done rfl (nx_then ?_)
                          refine wp_ret (rt_then ?_)
                          refine S.ret (vs := [B false]) (by kernel_rfl) ?_
                          exact ⟨retB (show false = true by clear S; first | rfl | (exfalso; omega) | (exfalso; simp_all; done) | (exfalso; simp_all; omega)), S.chg⟩
                        · have g338 : (hdT_Host y162 1) = k163 := ne_f h336
                          refine wp_skip (nx_then ?_)
                          refine wp_seq ?_
                          refine RG.start ?_
                          refine S.quiet (k := 1) (keep := [6]) (m := 0) (σ' := ⟨[(6, .v (B true))], []⟩) .nil (by kernel_rfl) ?_
                          clear S; intro ac w β S
                          refine RG.done rfl (nx_then ?_)
                          refine wp_ret ?_
                          refine S.ret (vs := [B true]) (by kernel_rfl) ?_
                          exact ⟨retB (show true = true by clear S; first | rfl | (exfalso; omega) | (exfalso; simp_all; done) | (exfalso; simp_all; omega)), S.chg⟩

end Go.Proofs.Ytacgkoohinlhjaa
