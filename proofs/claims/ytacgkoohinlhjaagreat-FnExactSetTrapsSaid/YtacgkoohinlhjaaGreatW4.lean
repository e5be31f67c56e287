/- The walks: what each function that the laws reach computes (part 4). -/
import Derived.Test.YtacgkoohinlhjaaGreatW3
import Derived.Test.YtacgkoohinlhjaaGreatProg
import Derived.KernelRfl
namespace Go.Proofs.YtacgkoohinlhjaaGreat
open Go
set_option linter.unusedVariables false
set_option linter.unusedSimpArgs false

set_option maxRecDepth 100000 in
theorem c_impl_MonOk (w0 : World) (m : TMon) (pm : PMon) (hm : GT.rd KK (Lt w0.heap.size) w0 m pm) : Calls Tryz.prog 58 [GT.val m pm].toArray w0 (fun e w' => e = .returned (B (f_monOk m)) ∧ Chg NoB w0 w') := by
  refine Calls.walk (args := [GT.val m pm]) NoB Tryz.func58 rfl rfl ?_
  intro ac β S
  have hlem_outer : m.outer.length ≤ 4194304 := LRd.le (RMon.outer (d := m) hm)
  have hlem_out : m.out.length ≤ 4194304 := LRd.le (RMon.out (d := m) hm)
  have hlem_dirty : m.dirty.length ≤ 4194304 := LRd.le (RMon.dirty (d := m) hm)
  have hlem_guests : m.guests.length ≤ 4194304 := LRd.le (RMon.guests (d := m) hm)
  have hlem_outs : m.outs.length ≤ 4194304 := LRd.le (RMon.outs (d := m) hm)
  have hlem_tables : m.tables.length ≤ 4194304 := LRd.le (RMon.tables (d := m) hm)
  refine wp_seq (RG.start ?_)
  refine S.q 2 [1] 1 ⟨[(1, .p 0 0)], [GT.cells m pm]⟩ .nil ?_; clear S; intro ac w β S
  refine RG.done rfl (nx_then (wp_seq (wp_seq (RG.start ?_))))
  refine S.q 6 [1, 12] 1 ⟨[(1, .p 0 0), (12, .v (B (!(f_within ((m.guests).length : Int) 1 2))))], [GT.cells m pm]⟩ (.cons (Q_call fun w hw => c_impl_within w ((m.guests).length : Int) 1 2) .nil) ?_; clear S; intro ac w β S
  rcases Bool.eq_false_or_eq_true (!(f_within ((m.guests).length : Int) 1 2)) with h1 | h1 <;> rw [h1] at S
  · have h2 : (f_within ((m.guests).length : Int) 1 2) = false := not_t h1
    have g3 := within_f h2
    refine S.q 50 [1, 62] 1 ⟨[(1, .p 0 0), (62, .v (B true))], [GT.cells m pm]⟩ .nil ?_; clear S; intro ac w β S
    refine RG.done rfl (nx_then ?_)
    refine S.c true (fun _ => ?_) (fun hx => by cases hx)
    refine wp_seq (RG.start ?_)
    refine S.q 1 [2] 0 ⟨[(2, .v (B false))], []⟩ .nil ?_; clear S; intro ac w β S
    refine RG.done rfl (nx_then (wp_ret (rt_then ?_)))
    refine S.r [B false] ?_
    exact ⟨retB (by clear S; (symm; rw [← Bool.not_eq_true]; intro hc; simp only [f_monOk, f_monHead, f_monTail, Bool.and_eq_true, decide_eq_true_eq, beq_iff_eq] at hc; first | omega | (simp_all; done) | (simp_all; omega) | (have hx := all_el (k := k) hc.1.2 (by omega); simp_all; done) | (have hx := rng_el (k := j) hc.2 (by omega); unfold f_pageSlot at hx; split at hx <;> first | (simp_all; done) | (simp_all; omega)))), S.chg⟩
  · have h4 : (f_within ((m.guests).length : Int) 1 2) = true := not_f h1
    have g5 := within_t h4
    refine S.q 9 [1, 21] 1 ⟨[(1, .p 0 0), (21, .v (B (((m.tables).length : Int) != ((m.guests).length : Int))))], [GT.cells m pm]⟩ .nil ?_; clear S; intro ac w β S
    rcases Bool.eq_false_or_eq_true (((m.tables).length : Int) != ((m.guests).length : Int)) with h6 | h6 <;> rw [h6] at S
    · have g7 : ¬ (((m.tables).length : Int) = ((m.guests).length : Int)) := bne_iff_ne.1 h6
      refine S.q 41 [1, 62] 1 ⟨[(1, .p 0 0), (62, .v (B true))], [GT.cells m pm]⟩ .nil ?_; clear S; intro ac w β S
      refine RG.done rfl (nx_then ?_)
      refine S.c true (fun _ => ?_) (fun hx => by cases hx)
      refine wp_seq (RG.start ?_)
      refine S.q 1 [2] 0 ⟨[(2, .v (B false))], []⟩ .nil ?_; clear S; intro ac w β S
      refine RG.done rfl (nx_then (wp_ret (rt_then ?_)))
      refine S.r [B false] ?_
      exact ⟨retB (by clear S; (symm; rw [← Bool.not_eq_true]; intro hc; simp only [f_monOk, f_monHead, f_monTail, Bool.and_eq_true, decide_eq_true_eq, beq_iff_eq] at hc; first | omega | (simp_all; done) | (simp_all; omega) | (have hx := all_el (k := k) hc.1.2 (by omega); simp_all; done) | (have hx := rng_el (k := j) hc.2 (by omega); unfold f_pageSlot at hx; split at hx <;> first | (simp_all; done) | (simp_all; omega)))), S.chg⟩
    · have g8 : ((m.tables).length : Int) = ((m.guests).length : Int) := ne_f h6
      refine S.q 6 [1, 27] 1 ⟨[(1, .p 0 0), (27, .v (B (!(f_tableOk m.outer 8 12))))], [GT.cells m pm]⟩ (.cons (Q_call fun w hw => c_impl_TableOk w m.outer pm.outer (rd_of (RMon.outer (d := m) (S.arg hm)) hw) 8 12 (by omega) (by omega)) .nil) ?_; clear S; intro ac w β S
      rcases Bool.eq_false_or_eq_true (!(f_tableOk m.outer 8 12)) with h9 | h9 <;> rw [h9] at S
      · have h10 : (f_tableOk m.outer 8 12) = false := not_t h9
        refine S.q 35 [1, 62] 1 ⟨[(1, .p 0 0), (62, .v (B true))], [GT.cells m pm]⟩ .nil ?_; clear S; intro ac w β S
        refine RG.done rfl (nx_then ?_)
        refine S.c true (fun _ => ?_) (fun hx => by cases hx)
        refine wp_seq (RG.start ?_)
        refine S.q 1 [2] 0 ⟨[(2, .v (B false))], []⟩ .nil ?_; clear S; intro ac w β S
        refine RG.done rfl (nx_then (wp_ret (rt_then ?_)))
        refine S.r [B false] ?_
        exact ⟨retB (by clear S; (symm; rw [← Bool.not_eq_true]; intro hc; simp only [f_monOk, f_monHead, f_monTail, Bool.and_eq_true, decide_eq_true_eq, beq_iff_eq] at hc; first | omega | (simp_all; done) | (simp_all; omega) | (have hx := all_el (k := k) hc.1.2 (by omega); simp_all; done) | (have hx := rng_el (k := j) hc.2 (by omega); unfold f_pageSlot at hx; split at hx <;> first | (simp_all; done) | (simp_all; omega)))), S.chg⟩
      · have h11 : (f_tableOk m.outer 8 12) = true := not_f h9
        have g12 := tableOk_t h11
        refine S.q 6 [1, 33] 1 ⟨[(1, .p 0 0), (33, .v (B (((m.out).length : Int) != 8)))], [GT.cells m pm]⟩ .nil ?_; clear S; intro ac w β S
        rcases Bool.eq_false_or_eq_true (((m.out).length : Int) != 8) with h13 | h13 <;> rw [h13] at S
        · have g14 : ¬ (((m.out).length : Int) = 8) := bne_iff_ne.1 h13
          refine S.q 29 [1, 62] 1 ⟨[(1, .p 0 0), (62, .v (B true))], [GT.cells m pm]⟩ .nil ?_; clear S; intro ac w β S
          refine RG.done rfl (nx_then ?_)
          refine S.c true (fun _ => ?_) (fun hx => by cases hx)
          refine wp_seq (RG.start ?_)
          refine S.q 1 [2] 0 ⟨[(2, .v (B false))], []⟩ .nil ?_; clear S; intro ac w β S
          refine RG.done rfl (nx_then (wp_ret (rt_then ?_)))
          refine S.r [B false] ?_
          exact ⟨retB (by clear S; (symm; rw [← Bool.not_eq_true]; intro hc; simp only [f_monOk, f_monHead, f_monTail, Bool.and_eq_true, decide_eq_true_eq, beq_iff_eq] at hc; first | omega | (simp_all; done) | (simp_all; omega) | (have hx := all_el (k := k) hc.1.2 (by omega); simp_all; done) | (have hx := rng_el (k := j) hc.2 (by omega); unfold f_pageSlot at hx; split at hx <;> first | (simp_all; done) | (simp_all; omega)))), S.chg⟩
        · have g15 : ((m.out).length : Int) = 8 := ne_f h13
          refine S.q 6 [1, 39] 1 ⟨[(1, .p 0 0), (39, .v (B (((m.dirty).length : Int) != 8)))], [GT.cells m pm]⟩ .nil ?_; clear S; intro ac w β S
          rcases Bool.eq_false_or_eq_true (((m.dirty).length : Int) != 8) with h16 | h16 <;> rw [h16] at S
          · have g17 : ¬ (((m.dirty).length : Int) = 8) := bne_iff_ne.1 h16
            refine S.q 23 [1, 62] 1 ⟨[(1, .p 0 0), (62, .v (B true))], [GT.cells m pm]⟩ .nil ?_; clear S; intro ac w β S
            refine RG.done rfl (nx_then ?_)
            refine S.c true (fun _ => ?_) (fun hx => by cases hx)
            refine wp_seq (RG.start ?_)
            refine S.q 1 [2] 0 ⟨[(2, .v (B false))], []⟩ .nil ?_; clear S; intro ac w β S
            refine RG.done rfl (nx_then (wp_ret (rt_then ?_)))
            refine S.r [B false] ?_
            exact ⟨retB (by clear S; (symm; rw [← Bool.not_eq_true]; intro hc; simp only [f_monOk, f_monHead, f_monTail, Bool.and_eq_true, decide_eq_true_eq, beq_iff_eq] at hc; first | omega | (simp_all; done) | (simp_all; omega) | (have hx := all_el (k := k) hc.1.2 (by omega); simp_all; done) | (have hx := rng_el (k := j) hc.2 (by omega); unfold f_pageSlot at hx; split at hx <;> first | (simp_all; done) | (simp_all; omega)))), S.chg⟩
          · have g18 : ((m.dirty).length : Int) = 8 := ne_f h16
            refine S.q 6 [1, 45] 1 ⟨[(1, .p 0 0), (45, .v (B (decide (((m.outs).length : Int) > 40))))], [GT.cells m pm]⟩ .nil ?_; clear S; intro ac w β S
            rcases Bool.eq_false_or_eq_true (decide (((m.outs).length : Int) > 40)) with h19 | h19 <;> rw [h19] at S
            · have g20 : ((m.outs).length : Int) > 40 := of_decide_eq_true h19
              refine S.q 17 [1, 62] 1 ⟨[(1, .p 0 0), (62, .v (B true))], [GT.cells m pm]⟩ .nil ?_; clear S; intro ac w β S
              refine RG.done rfl (nx_then ?_)
              refine S.c true (fun _ => ?_) (fun hx => by cases hx)
              refine wp_seq (RG.start ?_)
              refine S.q 1 [2] 0 ⟨[(2, .v (B false))], []⟩ .nil ?_; clear S; intro ac w β S
              refine RG.done rfl (nx_then (wp_ret (rt_then ?_)))
              refine S.r [B false] ?_
              exact ⟨retB (by clear S; (symm; rw [← Bool.not_eq_true]; intro hc; simp only [f_monOk, f_monHead, f_monTail, Bool.and_eq_true, decide_eq_true_eq, beq_iff_eq] at hc; first | omega | (simp_all; done) | (simp_all; omega) | (have hx := all_el (k := k) hc.1.2 (by omega); simp_all; done) | (have hx := rng_el (k := j) hc.2 (by omega); unfold f_pageSlot at hx; split at hx <;> first | (simp_all; done) | (simp_all; omega)))), S.chg⟩
            · have g21 : ¬ (((m.outs).length : Int) > 40) := of_decide_eq_false h19
              refine S.q 6 [1, 51] 1 ⟨[(1, .p 0 0), (51, .v (B (!(f_within m.pend 0 255))))], [GT.cells m pm]⟩ (.cons (Q_call fun w hw => c_impl_PendOk w m.pend) .nil) ?_; clear S; intro ac w β S
              rcases Bool.eq_false_or_eq_true (!(f_within m.pend 0 255)) with h22 | h22 <;> rw [h22] at S
              · have h23 : (f_within m.pend 0 255) = false := not_t h22
                have g24 := within_f h23
                refine S.q 11 [1, 62] 1 ⟨[(1, .p 0 0), (62, .v (B true))], [GT.cells m pm]⟩ .nil ?_; clear S; intro ac w β S
                refine RG.done rfl (nx_then ?_)
                refine S.c true (fun _ => ?_) (fun hx => by cases hx)
                refine wp_seq (RG.start ?_)
                refine S.q 1 [2] 0 ⟨[(2, .v (B false))], []⟩ .nil ?_; clear S; intro ac w β S
                refine RG.done rfl (nx_then (wp_ret (rt_then ?_)))
                refine S.r [B false] ?_
                exact ⟨retB (by clear S; (symm; rw [← Bool.not_eq_true]; intro hc; simp only [f_monOk, f_monHead, f_monTail, Bool.and_eq_true, decide_eq_true_eq, beq_iff_eq] at hc; first | omega | (simp_all; done) | (simp_all; omega) | (have hx := all_el (k := k) hc.1.2 (by omega); simp_all; done) | (have hx := rng_el (k := j) hc.2 (by omega); unfold f_pageSlot at hx; split at hx <;> first | (simp_all; done) | (simp_all; omega)))), S.chg⟩
              · have h25 : (f_within m.pend 0 255) = true := not_f h22
                have g26 := within_t h25
                refine S.q 6 [1, 57] 1 ⟨[(1, .p 0 0), (57, .v (B (!(f_within m.traps 0 3))))], [GT.cells m pm]⟩ (.cons (Q_call fun w hw => c_impl_within w m.traps 0 3) .nil) ?_; clear S; intro ac w β S
                rcases Bool.eq_false_or_eq_true (!(f_within m.traps 0 3)) with h27 | h27 <;> rw [h27] at S
                · have h28 : (f_within m.traps 0 3) = false := not_t h27
                  have g29 := within_f h28
                  refine S.q 5 [1, 62] 1 ⟨[(1, .p 0 0), (62, .v (B true))], [GT.cells m pm]⟩ .nil ?_; clear S; intro ac w β S
                  refine RG.done rfl (nx_then ?_)
                  refine S.c true (fun _ => ?_) (fun hx => by cases hx)
                  refine wp_seq (RG.start ?_)
                  refine S.q 1 [2] 0 ⟨[(2, .v (B false))], []⟩ .nil ?_; clear S; intro ac w β S
                  refine RG.done rfl (nx_then (wp_ret (rt_then ?_)))
                  refine S.r [B false] ?_
                  exact ⟨retB (by clear S; (symm; rw [← Bool.not_eq_true]; intro hc; simp only [f_monOk, f_monHead, f_monTail, Bool.and_eq_true, decide_eq_true_eq, beq_iff_eq] at hc; first | omega | (simp_all; done) | (simp_all; omega) | (have hx := all_el (k := k) hc.1.2 (by omega); simp_all; done) | (have hx := rng_el (k := j) hc.2 (by omega); unfold f_pageSlot at hx; split at hx <;> first | (simp_all; done) | (simp_all; omega)))), S.chg⟩
                · have h30 : (f_within m.traps 0 3) = true := not_f h27
                  have g31 := within_t h30
                  refine S.q 5 [1, 62] 1 ⟨[(1, .p 0 0), (62, .v (B (!(f_within m.owned 0 1000000000))))], [GT.cells m pm]⟩ (.cons (Q_call fun w hw => c_impl_within w m.owned 0 1000000000) .nil) ?_; clear S; intro ac w β S
                  refine RG.done rfl (nx_then ?_)
                  refine S.c (!(f_within m.owned 0 1000000000)) (fun h32 => ?_) (fun h32 => ?_)
                  · have h33 : (f_within m.owned 0 1000000000) = false := not_t h32
                    have g34 := within_f h33
                    refine wp_seq (RG.start ?_)
                    refine S.q 1 [2] 0 ⟨[(2, .v (B false))], []⟩ .nil ?_; clear S; intro ac w β S
                    refine RG.done rfl (nx_then (wp_ret (rt_then ?_)))
                    refine S.r [B false] ?_
                    exact ⟨retB (by clear S; (symm; rw [← Bool.not_eq_true]; intro hc; simp only [f_monOk, f_monHead, f_monTail, Bool.and_eq_true, decide_eq_true_eq, beq_iff_eq] at hc; first | omega | (simp_all; done) | (simp_all; omega) | (have hx := all_el (k := k) hc.1.2 (by omega); simp_all; done) | (have hx := rng_el (k := j) hc.2 (by omega); unfold f_pageSlot at hx; split at hx <;> first | (simp_all; done) | (simp_all; omega)))), S.chg⟩
                  · have h35 : (f_within m.owned 0 1000000000) = true := not_f h32
                    have g36 := within_t h35
                    refine wp_skip (nx_then (wp_seq (wp_seq (RG.start ?_))))
                    refine S.q 4 [1, 64, 65, 66] 1 ⟨[(1, .p 0 0), (64, .v (slv (m.guests).length pm.guests.1)), (65, .v (I ((m.guests).length : Int))), (66, .v (I 0))], [GT.cells m pm]⟩ .nil ?_; clear S; intro ac w β S
                    refine RG.done rfl (nx_then (wp_block ?_))
                    replace S := S.p [1, 64, 65, 66] 1 ⟨[(1, .p 0 0), (64, .v (slv (m.guests).length pm.guests.1)), (65, .v (I ((m.guests).length : Int))), (66, .v (I 0))], [GT.cells m pm]⟩
                    refine wp_loop_down (fun mm ac w => ∃ (k : Nat)  (u : World) (N : Bl) (β : Nat → Nat), mm = (m.guests).length - k ∧ (k ≤ (m.guests).length) ∧ (((m.guests).take k).all f_guestOk = true) ∧ St Tryz.prog Tryz.f58.ntmps w0 NoB u N β ⟨[(1, .p 0 0), (64, .v (slv (m.guests).length pm.guests.1)), (65, .v (I ((m.guests).length : Int))), (66, .v (I (k : Int)))], [GT.cells m pm]⟩ ac w) _ ⟨0, _, _, _, rfl, (by first | omega | (simp; done) | (simp; omega)), (by simp), S.cast (by kernel_rfl)⟩ ?_
                    clear S
                    rintro mm ac w ⟨k, u, N, β, rfl, hk, he, S⟩
                    refine wp_seq (RG.start ?_)
                    refine S.q 1 [1, 64, 65, 66, 67] 1 ⟨[(1, .p 0 0), (64, .v (slv (m.guests).length pm.guests.1)), (65, .v (I ((m.guests).length : Int))), (66, .v (I (k : Int))), (67, .v (B (decide ((k : Int) < ((m.guests).length : Int)))))], [GT.cells m pm]⟩ .nil ?_; clear S; intro ac w β S
                    refine RG.done rfl (nx_then (wp_seq ?_))
                    refine S.c (decide ((k : Int) < ((m.guests).length : Int))) (fun h37 => ?_) (fun h37 => ?_)
                    · have g38 : (k : Int) < ((m.guests).length : Int) := of_decide_eq_true h37
                      refine wp_skip (nx_then (wp_seq (wp_block (wp_seq (RG.start ?_)))))
                      refine S.q 4 [1, 4, 64, 65, 66] 2 ⟨[(1, .p 0 0), (4, .p 1 0), (64, .v (slv (m.guests).length pm.guests.1)), (65, .v (I ((m.guests).length : Int))), (66, .v (I (k : Int)))], [GT.cells m pm, GT.cells (el m.guests k) (pm.guests.2 k)]⟩ (.cons (Q_idx (RMon.guests (d := m) (S.arg hm)) (l := (m.guests).length) (k := k) (i := (k : Int)) rfl rfl (by omega) Tryz.underlying52 (by kernel_rfl)) (.cons (Q_el (RMon.guests (d := m) (S.arg hm)) (t := 108) (k := k) (by omega) rfl (by kernel_rfl) (by kernel_rfl)) .nil)) ?_; clear S; intro ac w β S
                      refine RG.done rfl (nx_then (wp_seq (RG.start ?_)))
                      refine S.q 3 [1, 64, 65, 66, 72] 1 ⟨[(1, .p 0 0), (64, .v (slv (m.guests).length pm.guests.1)), (65, .v (I ((m.guests).length : Int))), (66, .v (I (k : Int))), (72, .v (B (!(f_guestOk (el m.guests k)))))], [GT.cells m pm]⟩ (.cons (Q_call fun w hw => c_impl_GuestOk w (el m.guests k) (pm.guests.2 k) (rd_of (LRd.el (RMon.guests (d := m) (S.arg hm)) k (by omega)) hw)) .nil) ?_; clear S; intro ac w β S
                      refine RG.done rfl (nx_then ?_)
                      refine S.c (!(f_guestOk (el m.guests k))) (fun h39 => ?_) (fun h39 => ?_)
                      · have h40 : (f_guestOk (el m.guests k)) = false := not_t h39
                        refine wp_seq (RG.start ?_)
                        refine S.q 1 [2] 0 ⟨[(2, .v (B false))], []⟩ .nil ?_; clear S; intro ac w β S
                        refine RG.done rfl (nx_then (wp_ret (rt_block (rt_then (rt_then (rt_block (rt_then ?_)))))))
                        refine S.r [B false] ?_
                        exact ⟨retB (by clear S; (symm; rw [← Bool.not_eq_true]; intro hc; simp only [f_monOk, f_monHead, f_monTail, Bool.and_eq_true, decide_eq_true_eq, beq_iff_eq] at hc; first | omega | (simp_all; done) | (simp_all; omega) | (have hx := all_el (k := k) hc.1.2 (by omega); simp_all; done) | (have hx := rng_el (k := j) hc.2 (by omega); unfold f_pageSlot at hx; split at hx <;> first | (simp_all; done) | (simp_all; omega)))), S.chg⟩
                      · have h41 : (f_guestOk (el m.guests k)) = true := not_f h39
                        refine wp_skip (nx_block (nx_then (RG.start ?_)))
                        refine S.q 2 [1, 64, 65, 66] 1 ⟨[(1, .p 0 0), (64, .v (slv (m.guests).length pm.guests.1)), (65, .v (I ((m.guests).length : Int))), (66, .v (I ((k : Int) + 1)))], [GT.cells m pm]⟩ (.cons (Q_add (x := (k : Int)) (y := 1) ⟨by omega, by omega⟩) .nil) ?_; clear S; intro ac w β S
                        refine RG.done rfl (nx_then ?_)
                        replace S := S.p [1, 64, 65, 66] 1 ⟨[(1, .p 0 0), (64, .v (slv (m.guests).length pm.guests.1)), (65, .v (I ((m.guests).length : Int))), (66, .v (I ((k : Int) + 1)))], [GT.cells m pm]⟩
                        refine ⟨(m.guests).length - (k + 1), by omega, k + 1, _, _, _, rfl, ?_, ?_, S.cast (by kernel_rfl)⟩
                        · clear S; first | omega | (simp [*]; done) | (simp [*]; omega)
                        · clear S; exact all_step (by omega) he (by first | assumption | (simp only [f_slotOk, f_within] at *; simp_all; done) | (simp_all; done) | (simp_all; omega))
                    · have g42 : ¬ ((k : Int) < ((m.guests).length : Int)) := of_decide_eq_false h37
                      refine wp_exit (ex_then (ex_then (ex_hit (nx_then (wp_seq (wp_seq (RG.start ?_)))))))
                      refine S.q 4 [1, 75, 76, 77] 1 ⟨[(1, .p 0 0), (75, .v (slv (m.outer).length pm.outer.1)), (76, .v (I ((m.outer).length : Int))), (77, .v (I 0))], [GT.cells m pm]⟩ .nil ?_; clear S; intro ac w β S
                      refine RG.done rfl (nx_then (wp_block ?_))
                      replace S := S.p [1, 75, 76, 77] 1 ⟨[(1, .p 0 0), (75, .v (slv (m.outer).length pm.outer.1)), (76, .v (I ((m.outer).length : Int))), (77, .v (I 0))], [GT.cells m pm]⟩
                      refine wp_loop_down (fun mm ac w => ∃ (j : Nat)  (u : World) (N : Bl) (β : Nat → Nat), mm = m.outer.length - j ∧ (j ≤ m.outer.length) ∧ ((List.range j).all (f_pageSlot m) = true) ∧ St Tryz.prog Tryz.f58.ntmps w0 NoB u N β ⟨[(1, .p 0 0), (75, .v (slv (m.outer).length pm.outer.1)), (76, .v (I ((m.outer).length : Int))), (77, .v (I (j : Int)))], [GT.cells m pm]⟩ ac w) _ ⟨0, _, _, _, rfl, (by first | omega | (simp; done) | (simp; omega)), (by rfl), S.cast (by kernel_rfl)⟩ ?_
                      clear S
                      rintro mm ac w ⟨j, u, N, β, rfl, hj, hp, S⟩
                      have hlo : m.outer.length = 8 := by omega
                      have hlu : m.out.length = 8 := by omega
                      refine wp_seq (RG.start ?_)
                      refine S.q 1 [1, 75, 76, 77, 78] 1 ⟨[(1, .p 0 0), (75, .v (slv (m.outer).length pm.outer.1)), (76, .v (I ((m.outer).length : Int))), (77, .v (I (j : Int))), (78, .v (B (decide ((j : Int) < ((m.outer).length : Int)))))], [GT.cells m pm]⟩ .nil ?_; clear S; intro ac w β S
                      refine RG.done rfl (nx_then (wp_seq ?_))
                      refine S.c (decide ((j : Int) < ((m.outer).length : Int))) (fun h43 => ?_) (fun h43 => ?_)
                      · have g44 : (j : Int) < ((m.outer).length : Int) := of_decide_eq_true h43
                        refine wp_skip (nx_then (wp_seq (wp_block (wp_seq (RG.start ?_)))))
                        refine S.q 6 [1, 5, 6, 75, 76, 77] 2 ⟨[(1, .p 0 0), (5, .v (I (j : Int))), (6, .p 1 0), (75, .v (slv (m.outer).length pm.outer.1)), (76, .v (I ((m.outer).length : Int))), (77, .v (I (j : Int)))], [GT.cells m pm, GT.cells (el m.outer j) ()]⟩ (.cons (Q_idx (RMon.outer (d := m) (S.arg hm)) (l := (m.outer).length) (k := j) (i := (j : Int)) rfl rfl (by omega) Tryz.underlying50 (by kernel_rfl)) (.cons (Q_el (RMon.outer (d := m) (S.arg hm)) (t := 87) (k := j) (by omega) rfl (by kernel_rfl) (by kernel_rfl)) .nil)) ?_; clear S; intro ac w β S
                        refine RG.done rfl (nx_then (wp_seq ?_))
                        refine S.drawn (keep := [1, 5, 6, 75, 76, 77, 84]) (m := 2) (σ' := ⟨[(1, .p 0 0), (5, .v (I (j : Int))), (6, .p 1 0), (75, .v (slv (m.outer).length pm.outer.1)), (76, .v (I ((m.outer).length : Int))), (77, .v (I (j : Int))), (84, .v (B (decide ((el m.outer j) = ((⟨-1, 0⟩ : TSlot))))))], [GT.cells m pm, GT.cells (el m.outer j) ()]⟩) (.cons (Q_call fun w hw => c_impl_NoSlot w ) (.cons (Eq_eq_Slot (t := 87) (el m.outer j) ((⟨-1, 0⟩ : TSlot)) (by kernel_rfl)) .nil)) rfl (by kernel_rfl) (by kernel_rfl) ?_
                        clear S; intro ac w S
                        refine id (nx_then ?_)
                        refine S.c (decide ((el m.outer j) = ((⟨-1, 0⟩ : TSlot)))) (fun h45 => ?_) (fun h45 => ?_)
                        · refine wp_seq (RG.start ?_)
                          refine S.q 7 [1, 75, 76, 77, 91] 1 ⟨[(1, .p 0 0), (75, .v (slv (m.outer).length pm.outer.1)), (76, .v (I ((m.outer).length : Int))), (77, .v (I (j : Int))), (91, .v (B (!(f_pageOk (el m.out j)))))], [GT.cells m pm]⟩ (.cons (Q_idx (RMon.out (d := m) (S.arg hm)) (l := (m.out).length) (k := j) (i := (j : Int)) rfl rfl (by omega) Tryz.underlying22 (by kernel_rfl)) (.cons (Q_el1 (RMon.out (d := m) (S.arg hm)) (t := 53) (k := j) (by omega) rfl (by kernel_rfl)) (.cons (Q_call fun w hw => c_impl_PageOk w (el m.out j) (pm.out.2 j) (rd_of (LRd.el (RMon.out (d := m) (S.arg hm)) j (by omega)) hw)) .nil))) ?_; clear S; intro ac w β S
                          refine RG.done rfl (nx_then ?_)
                          refine S.c (!(f_pageOk (el m.out j))) (fun h46 => ?_) (fun h46 => ?_)
                          · have h47 : (f_pageOk (el m.out j)) = false := not_t h46
                            refine wp_seq (RG.start ?_)
                            refine S.q 1 [2] 0 ⟨[(2, .v (B false))], []⟩ .nil ?_; clear S; intro ac w β S
                            refine RG.done rfl (nx_then (wp_ret (rt_block (rt_then (rt_then (rt_block (rt_then ?_)))))))
                            refine S.r [B false] ?_
                            exact ⟨retB (by clear S; (symm; rw [← Bool.not_eq_true]; intro hc; simp only [f_monOk, f_monHead, f_monTail, Bool.and_eq_true, decide_eq_true_eq, beq_iff_eq] at hc; first | omega | (simp_all; done) | (simp_all; omega) | (have hx := all_el (k := k) hc.1.2 (by omega); simp_all; done) | (have hx := rng_el (k := j) hc.2 (by omega); unfold f_pageSlot at hx; split at hx <;> first | (simp_all; done) | (simp_all; omega)))), S.chg⟩
                          · have h48 : (f_pageOk (el m.out j)) = true := not_f h46
                            refine wp_skip (nx_block (nx_then (RG.start ?_)))
                            refine S.q 2 [1, 75, 76, 77] 1 ⟨[(1, .p 0 0), (75, .v (slv (m.outer).length pm.outer.1)), (76, .v (I ((m.outer).length : Int))), (77, .v (I ((j : Int) + 1)))], [GT.cells m pm]⟩ (.cons (Q_add (x := (j : Int)) (y := 1) ⟨by omega, by omega⟩) .nil) ?_; clear S; intro ac w β S
                            refine RG.done rfl (nx_then ?_)
                            replace S := S.p [1, 75, 76, 77] 1 ⟨[(1, .p 0 0), (75, .v (slv (m.outer).length pm.outer.1)), (76, .v (I ((m.outer).length : Int))), (77, .v (I ((j : Int) + 1)))], [GT.cells m pm]⟩
                            refine ⟨m.outer.length - (j + 1), by omega, j + 1, _, _, _, rfl, ?_, ?_, S.cast (by kernel_rfl)⟩
                            · clear S; first | omega | (simp [*]; done) | (simp [*]; omega)
                            · clear S; (refine rng_step hp ?_; unfold f_pageSlot; (repeat' split) <;> first | (exfalso; simp_all; done) | (simp_all; done) | (simp_all; omega))
                        · refine wp_seq (RG.start ?_)
                          refine S.q 5 [1, 5, 75, 76, 77, 96] 1 ⟨[(1, .p 0 0), (5, .v (I (j : Int))), (75, .v (slv (m.outer).length pm.outer.1)), (76, .v (I ((m.outer).length : Int))), (77, .v (I (j : Int))), (96, .v (B (!(f_enough ((el m.outer j).rights) 1))))], [GT.cells m pm]⟩ (.cons (Q_call fun w hw => c_impl_Enough w ((el m.outer j).rights) 1) .nil) ?_; clear S; intro ac w β S
                          rcases Bool.eq_false_or_eq_true (!(f_enough ((el m.outer j).rights) 1)) with h49 | h49 <;> rw [h49] at S
                          · have h50 : (f_enough ((el m.outer j).rights) 1) = false := not_t h49
                            refine S.q 8 [1, 75, 76, 77, 104] 1 ⟨[(1, .p 0 0), (75, .v (slv (m.outer).length pm.outer.1)), (76, .v (I ((m.outer).length : Int))), (77, .v (I (j : Int))), (104, .v (B true))], [GT.cells m pm]⟩ .nil ?_; clear S; intro ac w β S
                            refine RG.done rfl (nx_then ?_)
                            refine S.c true (fun _ => ?_) (fun hx => by cases hx)
                            refine wp_seq (RG.start ?_)
                            refine S.q 1 [2] 0 ⟨[(2, .v (B false))], []⟩ .nil ?_; clear S; intro ac w β S
                            refine RG.done rfl (nx_then (wp_ret (rt_block (rt_then (rt_then (rt_block (rt_then ?_)))))))
                            refine S.r [B false] ?_
                            exact ⟨retB (by clear S; (symm; rw [← Bool.not_eq_true]; intro hc; simp only [f_monOk, f_monHead, f_monTail, Bool.and_eq_true, decide_eq_true_eq, beq_iff_eq] at hc; first | omega | (simp_all; done) | (simp_all; omega) | (have hx := all_el (k := k) hc.1.2 (by omega); simp_all; done) | (have hx := rng_el (k := j) hc.2 (by omega); unfold f_pageSlot at hx; split at hx <;> first | (simp_all; done) | (simp_all; omega)))), S.chg⟩
                          · have h51 : (f_enough ((el m.outer j).rights) 1) = true := not_f h49
                            refine S.q 8 [1, 75, 76, 77, 104] 1 ⟨[(1, .p 0 0), (75, .v (slv (m.outer).length pm.outer.1)), (76, .v (I ((m.outer).length : Int))), (77, .v (I (j : Int))), (104, .v (B (decide ((((el m.out j)).length : Int) > 0))))], [GT.cells m pm]⟩ (.cons (Q_idx (RMon.out (d := m) (S.arg hm)) (l := (m.out).length) (k := j) (i := (j : Int)) rfl rfl (by omega) Tryz.underlying22 (by kernel_rfl)) (.cons (Q_el1 (RMon.out (d := m) (S.arg hm)) (t := 53) (k := j) (by omega) rfl (by kernel_rfl)) .nil)) ?_; clear S; intro ac w β S
                            refine RG.done rfl (nx_then ?_)
                            refine S.c (decide ((((el m.out j)).length : Int) > 0)) (fun h52 => ?_) (fun h52 => ?_)
                            · have g53 : (((el m.out j)).length : Int) > 0 := of_decide_eq_true h52
                              refine wp_seq (RG.start ?_)
                              refine S.q 1 [2] 0 ⟨[(2, .v (B false))], []⟩ .nil ?_; clear S; intro ac w β S
                              refine RG.done rfl (nx_then (wp_ret (rt_block (rt_then (rt_then (rt_block (rt_then ?_)))))))
                              refine S.r [B false] ?_
                              exact ⟨retB (by clear S; (symm; rw [← Bool.not_eq_true]; intro hc; simp only [f_monOk, f_monHead, f_monTail, Bool.and_eq_true, decide_eq_true_eq, beq_iff_eq] at hc; first | omega | (simp_all; done) | (simp_all; omega) | (have hx := all_el (k := k) hc.1.2 (by omega); simp_all; done) | (have hx := rng_el (k := j) hc.2 (by omega); unfold f_pageSlot at hx; split at hx <;> first | (simp_all; done) | (simp_all; omega)))), S.chg⟩
                            · have g54 : ¬ ((((el m.out j)).length : Int) > 0) := of_decide_eq_false h52
                              refine wp_skip (nx_block (nx_then (RG.start ?_)))
                              refine S.q 2 [1, 75, 76, 77] 1 ⟨[(1, .p 0 0), (75, .v (slv (m.outer).length pm.outer.1)), (76, .v (I ((m.outer).length : Int))), (77, .v (I ((j : Int) + 1)))], [GT.cells m pm]⟩ (.cons (Q_add (x := (j : Int)) (y := 1) ⟨by omega, by omega⟩) .nil) ?_; clear S; intro ac w β S
                              refine RG.done rfl (nx_then ?_)
                              replace S := S.p [1, 75, 76, 77] 1 ⟨[(1, .p 0 0), (75, .v (slv (m.outer).length pm.outer.1)), (76, .v (I ((m.outer).length : Int))), (77, .v (I ((j : Int) + 1)))], [GT.cells m pm]⟩
                              refine ⟨m.outer.length - (j + 1), by omega, j + 1, _, _, _, rfl, ?_, ?_, S.cast (by kernel_rfl)⟩
                              · clear S; first | omega | (simp [*]; done) | (simp [*]; omega)
                              · clear S; (refine rng_step hp ?_; unfold f_pageSlot; (repeat' split) <;> first | (exfalso; simp_all; done) | (simp_all; done) | (simp_all; omega))
                      · have g55 : ¬ ((j : Int) < ((m.outer).length : Int)) := of_decide_eq_false h43
                        refine wp_exit (ex_then (ex_then (ex_hit (nx_then (wp_seq (RG.start ?_))))))
                        refine S.q 1 [2] 0 ⟨[(2, .v (B true))], []⟩ .nil ?_; clear S; intro ac w β S
                        refine RG.done rfl (nx_then (wp_ret ?_))
                        refine S.r [B true] ?_
                        exact ⟨retB (by clear S; (first | rfl | (symm; simp only [f_monOk, f_monHead, f_monTail, Bool.and_eq_true, decide_eq_true_eq, beq_iff_eq]; (repeat' apply And.intro); all_goals first | assumption | omega | (simp_all; done) | (simp_all; omega) | (exact all_end (by omega) he) | ((have e8 : j = 8 := (by omega)); subst e8; exact hp)))), S.chg⟩

set_option maxRecDepth 100000 in
theorem c_impl_HostOk (w0 : World) (h : THost) (ph : PHost) (hh : GT.rd KK (Lt w0.heap.size) w0 h ph) : Calls Tryz.prog 25 [GT.val h ph].toArray w0 (fun e w' => e = .returned (B (f_hostOk h)) ∧ Chg NoB w0 w') := by
  refine Calls.walk (args := [GT.val h ph]) NoB Tryz.func25 rfl rfl ?_
  intro ac β S
  have hleh_mem : h.mem.length ≤ 4194304 := LRd.le (RHost.mem (d := h) hh)
  have hleh_mons : h.mons.length ≤ 4194304 := LRd.le (RHost.mons (d := h) hh)
  have hleh_buf : h.buf.length ≤ 4194304 := LRd.le (RHost.buf (d := h) hh)
  have hleh_iobuf : h.iobuf.length ≤ 4194304 := LRd.le (RHost.iobuf (d := h) hh)
  refine wp_seq (RG.start ?_)
  refine S.q 2 [1] 1 ⟨[(1, .p 0 0)], [GT.cells h ph]⟩ .nil ?_; clear S; intro ac w β S
  refine RG.done rfl (nx_then (wp_seq (wp_seq (RG.start ?_))))
  refine S.q 5 [1, 12] 1 ⟨[(1, .p 0 0), (12, .v (B (!(f_memOk h.mem 12))))], [GT.cells h ph]⟩ (.cons (Q_call fun w hw => c_impl_MemOk w h.mem ph.mem (rd_of (RHost.mem (d := h) (S.arg hh)) hw) 12) .nil) ?_; clear S; intro ac w β S
  rcases Bool.eq_false_or_eq_true (!(f_memOk h.mem 12)) with h1 | h1 <;> rw [h1] at S
  · have h2 : (f_memOk h.mem 12) = false := not_t h1
    refine S.q 18 [1, 30] 1 ⟨[(1, .p 0 0), (30, .v (B true))], [GT.cells h ph]⟩ .nil ?_; clear S; intro ac w β S
    refine RG.done rfl (nx_then ?_)
    refine S.c true (fun _ => ?_) (fun hx => by cases hx)
    refine wp_seq (RG.start ?_)
    refine S.q 1 [2] 0 ⟨[(2, .v (B false))], []⟩ .nil ?_; clear S; intro ac w β S
    refine RG.done rfl (nx_then (wp_ret (rt_then ?_)))
    refine S.r [B false] ?_
    exact ⟨retB (by clear S; (first | (symm; rw [← Bool.not_eq_true]; intro hc; simp only [f_hostOk, f_hostHead, Bool.and_eq_true] at hc; (first | (simp_all; done) | (simp_all; omega))) | (rw [hostOk_dead (fold_dead (k := i) (by omega) stepMon_none hu (stepMon_bad (by assumption)))]) | (rw [hostOk_dead (fold_dead (k := i) (by omega) stepMon_none hu ((stepMon_ok hmok).trans (fold_dead (k := k) (by omega) stepSlot_none hu2 (stepSlot_hit (by omega) (by assumption)))))]) | (unfold f_hostOk f_hostUsed f_hostHead; rw [take_all (by omega)] at hu; rw [hu]; simp_all; done))), S.chg⟩
  · have h3 : (f_memOk h.mem 12) = true := not_f h1
    refine S.q 7 [1, 19] 1 ⟨[(1, .p 0 0), (19, .v (B (!(f_within ((h.mons).length : Int) 1 3))))], [GT.cells h ph]⟩ (.cons (Q_call fun w hw => c_impl_within w ((h.mons).length : Int) 1 3) .nil) ?_; clear S; intro ac w β S
    rcases Bool.eq_false_or_eq_true (!(f_within ((h.mons).length : Int) 1 3)) with h4 | h4 <;> rw [h4] at S
    · have h5 : (f_within ((h.mons).length : Int) 1 3) = false := not_t h4
      have g6 := within_f h5
      refine S.q 11 [1, 30] 1 ⟨[(1, .p 0 0), (30, .v (B true))], [GT.cells h ph]⟩ .nil ?_; clear S; intro ac w β S
      refine RG.done rfl (nx_then ?_)
      refine S.c true (fun _ => ?_) (fun hx => by cases hx)
      refine wp_seq (RG.start ?_)
      refine S.q 1 [2] 0 ⟨[(2, .v (B false))], []⟩ .nil ?_; clear S; intro ac w β S
      refine RG.done rfl (nx_then (wp_ret (rt_then ?_)))
      refine S.r [B false] ?_
      exact ⟨retB (by clear S; (first | (symm; rw [← Bool.not_eq_true]; intro hc; simp only [f_hostOk, f_hostHead, Bool.and_eq_true] at hc; (first | (simp_all; done) | (simp_all; omega))) | (rw [hostOk_dead (fold_dead (k := i) (by omega) stepMon_none hu (stepMon_bad (by assumption)))]) | (rw [hostOk_dead (fold_dead (k := i) (by omega) stepMon_none hu ((stepMon_ok hmok).trans (fold_dead (k := k) (by omega) stepSlot_none hu2 (stepSlot_hit (by omega) (by assumption)))))]) | (unfold f_hostOk f_hostUsed f_hostHead; rw [take_all (by omega)] at hu; rw [hu]; simp_all; done))), S.chg⟩
    · have h7 : (f_within ((h.mons).length : Int) 1 3) = true := not_f h4
      have g8 := within_t h7
      refine S.q 6 [1, 25] 1 ⟨[(1, .p 0 0), (25, .v (B (!(f_bufferOk h.buf))))], [GT.cells h ph]⟩ (.cons (Q_call fun w hw => c_impl_BufferOk w h.buf ph.buf (rd_of (RHost.buf (d := h) (S.arg hh)) hw)) .nil) ?_; clear S; intro ac w β S
      rcases Bool.eq_false_or_eq_true (!(f_bufferOk h.buf)) with h9 | h9 <;> rw [h9] at S
      · have h10 : (f_bufferOk h.buf) = false := not_t h9
        refine S.q 5 [1, 30] 1 ⟨[(1, .p 0 0), (30, .v (B true))], [GT.cells h ph]⟩ .nil ?_; clear S; intro ac w β S
        refine RG.done rfl (nx_then ?_)
        refine S.c true (fun _ => ?_) (fun hx => by cases hx)
        refine wp_seq (RG.start ?_)
        refine S.q 1 [2] 0 ⟨[(2, .v (B false))], []⟩ .nil ?_; clear S; intro ac w β S
        refine RG.done rfl (nx_then (wp_ret (rt_then ?_)))
        refine S.r [B false] ?_
        exact ⟨retB (by clear S; (first | (symm; rw [← Bool.not_eq_true]; intro hc; simp only [f_hostOk, f_hostHead, Bool.and_eq_true] at hc; (first | (simp_all; done) | (simp_all; omega))) | (rw [hostOk_dead (fold_dead (k := i) (by omega) stepMon_none hu (stepMon_bad (by assumption)))]) | (rw [hostOk_dead (fold_dead (k := i) (by omega) stepMon_none hu ((stepMon_ok hmok).trans (fold_dead (k := k) (by omega) stepSlot_none hu2 (stepSlot_hit (by omega) (by assumption)))))]) | (unfold f_hostOk f_hostUsed f_hostHead; rw [take_all (by omega)] at hu; rw [hu]; simp_all; done))), S.chg⟩
      · have h11 : (f_bufferOk h.buf) = true := not_f h9
        refine S.q 5 [1, 30] 1 ⟨[(1, .p 0 0), (30, .v (B (!(f_bufferOk h.iobuf))))], [GT.cells h ph]⟩ (.cons (Q_call fun w hw => c_impl_BufferOk w h.iobuf ph.iobuf (rd_of (RHost.iobuf (d := h) (S.arg hh)) hw)) .nil) ?_; clear S; intro ac w β S
        refine RG.done rfl (nx_then ?_)
        refine S.c (!(f_bufferOk h.iobuf)) (fun h12 => ?_) (fun h12 => ?_)
        · have h13 : (f_bufferOk h.iobuf) = false := not_t h12
          refine wp_seq (RG.start ?_)
          refine S.q 1 [2] 0 ⟨[(2, .v (B false))], []⟩ .nil ?_; clear S; intro ac w β S
          refine RG.done rfl (nx_then (wp_ret (rt_then ?_)))
          refine S.r [B false] ?_
          exact ⟨retB (by clear S; (first | (symm; rw [← Bool.not_eq_true]; intro hc; simp only [f_hostOk, f_hostHead, Bool.and_eq_true] at hc; (first | (simp_all; done) | (simp_all; omega))) | (rw [hostOk_dead (fold_dead (k := i) (by omega) stepMon_none hu (stepMon_bad (by assumption)))]) | (rw [hostOk_dead (fold_dead (k := i) (by omega) stepMon_none hu ((stepMon_ok hmok).trans (fold_dead (k := k) (by omega) stepSlot_none hu2 (stepSlot_hit (by omega) (by assumption)))))]) | (unfold f_hostOk f_hostUsed f_hostHead; rw [take_all (by omega)] at hu; rw [hu]; simp_all; done))), S.chg⟩
        · have h14 : (f_bufferOk h.iobuf) = true := not_f h12
          refine wp_skip (nx_then (wp_seq (RG.start ?_)))
          refine RG.op rfl (S.make (α := Bool) (m := 12) (by' := 1) (d := 31) (by kernel_rfl) (by omega) (show 12 ≤ 4194304 by omega) ?_)
          clear S; intro ac w N q15 F16 S up o17 d18
          clear up d18
          refine S.q 1 [1, 3] 1 ⟨[(1, .p 0 0), (3, .v (slv 12 q15.1))], [GT.cells h ph]⟩ .nil ?_; clear S; intro ac w β S
          refine RG.done rfl (nx_then (wp_seq (wp_seq (RG.start ?_))))
          refine S.q 4 [3, 33, 34, 35] 0 ⟨[(3, .v (slv 12 q15.1)), (33, .v (slv (h.mons).length ph.mons.1)), (34, .v (I ((h.mons).length : Int))), (35, .v (I 0))], []⟩ .nil ?_; clear S; intro ac w β S
          refine RG.done rfl (nx_then (wp_block ?_))
          replace S := S.p [3, 33, 34, 35] 0 ⟨[(3, .v (slv 12 q15.1)), (33, .v (slv (h.mons).length ph.mons.1)), (34, .v (I ((h.mons).length : Int))), (35, .v (I 0))], []⟩
          refine wp_loop_down (fun mm ac w => ∃ (i : Nat) (us : List Bool) (q19 : GT.Ptr (List Bool)) (F20 : Bl) (u : World) (N : Bl) (β : Nat → Nat), mm = h.mons.length - i ∧ (i ≤ h.mons.length) ∧ ((h.mons.take i).foldl stepMon (some (List.replicate 12 false)) = some us) ∧ (us.length = 12) ∧ St Tryz.prog Tryz.f25.ntmps w0 NoB u N β ⟨[(3, .v (slv 12 q19.1)), (33, .v (slv (h.mons).length ph.mons.1)), (34, .v (I ((h.mons).length : Int))), (35, .v (I (i : Int)))], []⟩ ac w ∧ Ow w0 NoB u N F20 us q19) _ ⟨0, (List.replicate 12 (GT.dflt : Bool)), q15, F16, _, _, _, rfl, (by first | omega | (simp; done) | (simp; omega)), (by rfl), (by rfl), S.cast (by kernel_rfl), o17⟩ ?_
          clear S o17
          rintro mm ac w ⟨i, us, q19, F20, u, N, β, rfl, hi, hu, hul, S, o21⟩
          refine wp_seq (RG.start ?_)
          refine S.q 1 [3, 33, 34, 35, 36] 0 ⟨[(3, .v (slv 12 q19.1)), (33, .v (slv (h.mons).length ph.mons.1)), (34, .v (I ((h.mons).length : Int))), (35, .v (I (i : Int))), (36, .v (B (decide ((i : Int) < ((h.mons).length : Int)))))], []⟩ .nil ?_; clear S; intro ac w β S
          refine RG.done rfl (nx_then (wp_seq ?_))
          refine S.c (decide ((i : Int) < ((h.mons).length : Int))) (fun h22 => ?_) (fun h22 => ?_)
          · have g23 : (i : Int) < ((h.mons).length : Int) := of_decide_eq_true h22
            refine wp_skip (nx_then (wp_seq (wp_block (wp_seq (RG.start ?_)))))
            refine S.q 4 [3, 5, 33, 34, 35] 1 ⟨[(3, .v (slv 12 q19.1)), (5, .p 0 0), (33, .v (slv (h.mons).length ph.mons.1)), (34, .v (I ((h.mons).length : Int))), (35, .v (I (i : Int)))], [GT.cells (el h.mons i) (ph.mons.2 i)]⟩ (.cons (Q_idx (RHost.mons (d := h) (S.arg hh)) (l := (h.mons).length) (k := i) (i := (i : Int)) rfl rfl (by omega) Tryz.underlying28 (by kernel_rfl)) (.cons (Q_el (RHost.mons (d := h) (S.arg hh)) (t := 56) (k := i) (by omega) rfl (by kernel_rfl) (by kernel_rfl)) .nil)) ?_; clear S; intro ac w β S
            refine RG.done rfl (nx_then (wp_seq (wp_seq (RG.start ?_))))
            refine S.q 3 [3, 5, 33, 34, 35, 41] 1 ⟨[(3, .v (slv 12 q19.1)), (5, .p 0 0), (33, .v (slv (h.mons).length ph.mons.1)), (34, .v (I ((h.mons).length : Int))), (35, .v (I (i : Int))), (41, .v (B (!(f_monOk (el h.mons i)))))], [GT.cells (el h.mons i) (ph.mons.2 i)]⟩ (.cons (Q_call fun w hw => c_impl_MonOk w (el h.mons i) (ph.mons.2 i) (rd_of (LRd.el (RHost.mons (d := h) (S.arg hh)) i (by omega)) hw)) .nil) ?_; clear S; intro ac w β S
            refine RG.done rfl (nx_then ?_)
            refine S.c (!(f_monOk (el h.mons i))) (fun h24 => ?_) (fun h24 => ?_)
            · have h25 : (f_monOk (el h.mons i)) = false := not_t h24
              refine wp_seq (RG.start ?_)
              refine S.q 1 [2] 0 ⟨[(2, .v (B false))], []⟩ .nil ?_; clear S; intro ac w β S
              refine RG.done rfl (nx_then (wp_ret (rt_then (rt_block (rt_then (rt_then (rt_block (rt_then ?_))))))))
              refine S.r [B false] ?_
              exact ⟨retB (by clear S; (first | (symm; rw [← Bool.not_eq_true]; intro hc; simp only [f_hostOk, f_hostHead, Bool.and_eq_true] at hc; (first | (simp_all; done) | (simp_all; omega))) | (rw [hostOk_dead (fold_dead (k := i) (by omega) stepMon_none hu (stepMon_bad (by assumption)))]) | (rw [hostOk_dead (fold_dead (k := i) (by omega) stepMon_none hu ((stepMon_ok hmok).trans (fold_dead (k := k) (by omega) stepSlot_none hu2 (stepSlot_hit (by omega) (by assumption)))))]) | (unfold f_hostOk f_hostUsed f_hostHead; rw [take_all (by omega)] at hu; rw [hu]; simp_all; done))), S.chg⟩
            · have h26 : (f_monOk (el h.mons i)) = true := not_f h24
              have g27 := monOk_t h26
              refine wp_skip (nx_then (wp_seq (RG.start ?_)))
              refine S.q 4 [3, 33, 34, 35, 43, 44, 45] 0 ⟨[(3, .v (slv 12 q19.1)), (33, .v (slv (h.mons).length ph.mons.1)), (34, .v (I ((h.mons).length : Int))), (35, .v (I (i : Int))), (43, .v (slv ((el h.mons i).outer).length ((ph.mons.2 i).outer).1)), (44, .v (I (((el h.mons i).outer).length : Int))), (45, .v (I 0))], []⟩ .nil ?_; clear S; intro ac w β S
              refine RG.done rfl (nx_then (wp_block ?_))
              replace S := S.p [3, 33, 34, 35, 43, 44, 45] 0 ⟨[(3, .v (slv 12 q19.1)), (33, .v (slv (h.mons).length ph.mons.1)), (34, .v (I ((h.mons).length : Int))), (35, .v (I (i : Int))), (43, .v (slv ((el h.mons i).outer).length ((ph.mons.2 i).outer).1)), (44, .v (I (((el h.mons i).outer).length : Int))), (45, .v (I 0))], []⟩
              refine wp_loop_down (fun mm ac w => ∃ (k : Nat) (us2 : List Bool) (q28 : GT.Ptr (List Bool)) (F29 : Bl) (u : World) (N : Bl) (β : Nat → Nat), mm = (el h.mons i).outer.length - k ∧ (k ≤ (el h.mons i).outer.length) ∧ (((el h.mons i).outer.take k).foldl stepSlot (some us) = some us2) ∧ (us2.length = 12) ∧ St Tryz.prog Tryz.f25.ntmps w0 NoB u N β ⟨[(3, .v (slv 12 q28.1)), (33, .v (slv (h.mons).length ph.mons.1)), (34, .v (I ((h.mons).length : Int))), (35, .v (I (i : Int))), (43, .v (slv ((el h.mons i).outer).length ((ph.mons.2 i).outer).1)), (44, .v (I (((el h.mons i).outer).length : Int))), (45, .v (I (k : Int)))], []⟩ ac w ∧ Ow w0 NoB u N F29 us2 q28) _ ⟨0, us, q19, F20, _, _, _, rfl, (by first | omega | (simp; done) | (simp; omega)), (by rfl), (by omega), S.cast (by kernel_rfl), o21⟩ ?_
              clear S o21
              rintro mm ac w ⟨k, us2, q28, F29, u, N, β, rfl, hk, hu2, hul2, S, o30⟩
              have hmok : f_monOk (el h.mons i) = true := by assumption
              have hpg := page_lt hmok k
              have hol := (monOk_t hmok).1
              refine wp_seq (RG.start ?_)
              refine S.q 1 [3, 33, 34, 35, 43, 44, 45, 46] 0 ⟨[(3, .v (slv 12 q28.1)), (33, .v (slv (h.mons).length ph.mons.1)), (34, .v (I ((h.mons).length : Int))), (35, .v (I (i : Int))), (43, .v (slv ((el h.mons i).outer).length ((ph.mons.2 i).outer).1)), (44, .v (I (((el h.mons i).outer).length : Int))), (45, .v (I (k : Int))), (46, .v (B (decide ((k : Int) < (((el h.mons i).outer).length : Int)))))], []⟩ .nil ?_; clear S; intro ac w β S
              refine RG.done rfl (nx_then (wp_seq ?_))
              refine S.c (decide ((k : Int) < (((el h.mons i).outer).length : Int))) (fun h31 => ?_) (fun h31 => ?_)
              · have g32 : (k : Int) < (((el h.mons i).outer).length : Int) := of_decide_eq_true h31
                refine wp_skip (nx_then (wp_seq (wp_block (wp_seq (RG.start ?_)))))
                refine S.q 4 [3, 7, 33, 34, 35, 43, 44, 45] 1 ⟨[(3, .v (slv 12 q28.1)), (7, .p 0 0), (33, .v (slv (h.mons).length ph.mons.1)), (34, .v (I ((h.mons).length : Int))), (35, .v (I (i : Int))), (43, .v (slv ((el h.mons i).outer).length ((ph.mons.2 i).outer).1)), (44, .v (I (((el h.mons i).outer).length : Int))), (45, .v (I (k : Int)))], [GT.cells (el ((el h.mons i).outer) k) ()]⟩ (.cons (Q_idx (RMon.outer (d := (el h.mons i)) (LRd.el (RHost.mons (d := h) (S.arg hh)) i (by omega))) (l := ((el h.mons i).outer).length) (k := k) (i := (k : Int)) rfl rfl (by omega) Tryz.underlying50 (by kernel_rfl)) (.cons (Q_el (RMon.outer (d := (el h.mons i)) (LRd.el (RHost.mons (d := h) (S.arg hh)) i (by omega))) (t := 87) (k := k) (by omega) rfl (by kernel_rfl) (by kernel_rfl)) .nil)) ?_; clear S; intro ac w β S
                refine RG.done rfl (nx_then (wp_seq (wp_seq (RG.start ?_))))
                refine S.q 3 [3, 7, 33, 34, 35, 43, 44, 45, 51] 1 ⟨[(3, .v (slv 12 q28.1)), (7, .p 0 0), (33, .v (slv (h.mons).length ph.mons.1)), (34, .v (I ((h.mons).length : Int))), (35, .v (I (i : Int))), (43, .v (slv ((el h.mons i).outer).length ((ph.mons.2 i).outer).1)), (44, .v (I (((el h.mons i).outer).length : Int))), (45, .v (I (k : Int))), (51, .v (B (decide ((el ((el h.mons i).outer) k).page < 0))))], [GT.cells (el ((el h.mons i).outer) k) ()]⟩ .nil ?_; clear S; intro ac w β S
                refine RG.done rfl (nx_then ?_)
                refine S.c (decide ((el ((el h.mons i).outer) k).page < 0)) (fun h33 => ?_) (fun h33 => ?_)
                · have g34 : (el ((el h.mons i).outer) k).page < 0 := of_decide_eq_true h33
                  refine wp_exit (ex_then (ex_hit (nx_then (RG.start ?_))))
                  refine S.q 2 [3, 33, 34, 35, 43, 44, 45] 0 ⟨[(3, .v (slv 12 q28.1)), (33, .v (slv (h.mons).length ph.mons.1)), (34, .v (I ((h.mons).length : Int))), (35, .v (I (i : Int))), (43, .v (slv ((el h.mons i).outer).length ((ph.mons.2 i).outer).1)), (44, .v (I (((el h.mons i).outer).length : Int))), (45, .v (I ((k : Int) + 1)))], []⟩ (.cons (Q_add (x := (k : Int)) (y := 1) ⟨by omega, by omega⟩) .nil) ?_; clear S; intro ac w β S
                  refine RG.done rfl (nx_then ?_)
                  replace S := S.p [3, 33, 34, 35, 43, 44, 45] 0 ⟨[(3, .v (slv 12 q28.1)), (33, .v (slv (h.mons).length ph.mons.1)), (34, .v (I ((h.mons).length : Int))), (35, .v (I (i : Int))), (43, .v (slv ((el h.mons i).outer).length ((ph.mons.2 i).outer).1)), (44, .v (I (((el h.mons i).outer).length : Int))), (45, .v (I ((k : Int) + 1)))], []⟩
                  refine ⟨(el h.mons i).outer.length - (k + 1), by omega, k + 1, us2, q28, F29, _, _, _, rfl, ?_, ?_, ?_, S.cast (by kernel_rfl), o30⟩
                  · clear S; first | omega | (simp [*]; done) | (simp [*]; omega)
                  · clear S; (rw [fold_step (by omega), hu2]; first | exact stepSlot_neg (by omega) | exact stepSlot_new (by omega) (by assumption) | exact stepSlot_new (by omega) (by simp_all))
                  · clear S; (first | omega | (simp; omega))
                · have g35 : ¬ ((el ((el h.mons i).outer) k).page < 0) := of_decide_eq_false h33
                  refine wp_skip (nx_then (wp_seq (wp_seq (RG.start ?_))))
                  refine S.q 5 [3, 7, 33, 34, 35, 43, 44, 45, 56] 1 ⟨[(3, .v (slv 12 q28.1)), (7, .p 0 0), (33, .v (slv (h.mons).length ph.mons.1)), (34, .v (I ((h.mons).length : Int))), (35, .v (I (i : Int))), (43, .v (slv ((el h.mons i).outer).length ((ph.mons.2 i).outer).1)), (44, .v (I (((el h.mons i).outer).length : Int))), (45, .v (I (k : Int))), (56, .v (B (el us2 (((el ((el h.mons i).outer) k).page).toNat))))], [GT.cells (el ((el h.mons i).outer) k) ()]⟩ (.cons (Q_idx o30.rn (l := 12) (k := ((el ((el h.mons i).outer) k).page).toNat) (i := (el ((el h.mons i).outer) k).page) (by omega) (by omega) (by omega) Tryz.underlying51 (by kernel_rfl)) (.cons (Q_el1 o30.rn (t := 4) (k := ((el ((el h.mons i).outer) k).page).toNat) (by omega) rfl (by kernel_rfl)) .nil)) ?_; clear S; intro ac w β S
                  refine RG.done rfl (nx_then ?_)
                  refine S.c (el us2 (((el ((el h.mons i).outer) k).page).toNat)) (fun h36 => ?_) (fun h36 => ?_)
                  · refine wp_seq (RG.start ?_)
                    refine S.q 1 [2] 0 ⟨[(2, .v (B false))], []⟩ .nil ?_; clear S; intro ac w β S
                    refine RG.done rfl (nx_then (wp_ret (rt_then (rt_block (rt_then (rt_then (rt_block (rt_block (rt_then (rt_then (rt_block (rt_then ?_))))))))))))
                    refine S.r [B false] ?_
                    exact ⟨retB (by clear S; (first | (symm; rw [← Bool.not_eq_true]; intro hc; simp only [f_hostOk, f_hostHead, Bool.and_eq_true] at hc; (first | (simp_all; done) | (simp_all; omega))) | (rw [hostOk_dead (fold_dead (k := i) (by omega) stepMon_none hu (stepMon_bad (by assumption)))]) | (rw [hostOk_dead (fold_dead (k := i) (by omega) stepMon_none hu ((stepMon_ok hmok).trans (fold_dead (k := k) (by omega) stepSlot_none hu2 (stepSlot_hit (by omega) (by assumption)))))]) | (unfold f_hostOk f_hostUsed f_hostHead; rw [take_all (by omega)] at hu; rw [hu]; simp_all; done))), S.chg⟩
                  · refine wp_skip (nx_then (RG.start ?_))
                    refine S.q 4 [3, 33, 34, 35, 43, 44, 45, 60] 0 ⟨[(3, .v (slv 12 q28.1)), (33, .v (slv (h.mons).length ph.mons.1)), (34, .v (I ((h.mons).length : Int))), (35, .v (I (i : Int))), (43, .v (slv ((el h.mons i).outer).length ((ph.mons.2 i).outer).1)), (44, .v (I (((el h.mons i).outer).length : Int))), (45, .v (I (k : Int))), (60, .v (pt q28.1.b (q28.1.off + (((el ((el h.mons i).outer) k).page).toNat) * 1)))], []⟩ (.cons (Q_idx o30.rn (l := 12) (k := ((el ((el h.mons i).outer) k).page).toNat) (i := (el ((el h.mons i).outer) k).page) (by omega) (by omega) (by omega) Tryz.underlying51 (by kernel_rfl)) .nil) ?_; clear S; intro ac w β S
                    refine RG.op rfl (S.setEl (α := Bool) o30 (t := 4) (v := B true) (k := ((el ((el h.mons i).outer) k).page).toNat) (j := 0) (off := q28.1.off + (((el ((el h.mons i).outer) k).page).toNat) * 1) (y := true) (q := ()) (Fy := NoB) (by kernel_rfl) (by kernel_rfl) (by omega) (by kernel_rfl) (by kernel_rfl) (Nat.le_of_ble_eq_true (by kernel_rfl)) (by kernel_rfl) (fun _ _ _ => ⟨NoB, trivial, fun _ h => False.elim h⟩) (fun b _ h => False.elim h) (fun b h => False.elim h) (fun b h => False.elim h) ?_)
                    clear S; intro w N F38 q39 S up o37 d40 s41
                    clear up d40 o30
                    have l42 : (us2.set (((el ((el h.mons i).outer) k).page).toNat) true).length = (us2).length := List.length_set
                    replace S := S.p [3, 33, 34, 35, 43, 44, 45] 0 ⟨[(3, .v (slv 12 q28.1)), (33, .v (slv (h.mons).length ph.mons.1)), (34, .v (I ((h.mons).length : Int))), (35, .v (I (i : Int))), (43, .v (slv ((el h.mons i).outer).length ((ph.mons.2 i).outer).1)), (44, .v (I (((el h.mons i).outer).length : Int))), (45, .v (I (k : Int)))], []⟩
                    refine RG.done rfl (nx_block (nx_then (RG.start ?_)))
                    refine S.q 2 [3, 33, 34, 35, 43, 44, 45] 0 ⟨[(3, .v (slv 12 q28.1)), (33, .v (slv (h.mons).length ph.mons.1)), (34, .v (I ((h.mons).length : Int))), (35, .v (I (i : Int))), (43, .v (slv ((el h.mons i).outer).length ((ph.mons.2 i).outer).1)), (44, .v (I (((el h.mons i).outer).length : Int))), (45, .v (I ((k : Int) + 1)))], []⟩ (.cons (Q_add (x := (k : Int)) (y := 1) ⟨by omega, by omega⟩) .nil) ?_; clear S; intro ac w β S
                    refine RG.done rfl (nx_then ?_)
                    replace S := S.p [3, 33, 34, 35, 43, 44, 45] 0 ⟨[(3, .v (slv 12 q28.1)), (33, .v (slv (h.mons).length ph.mons.1)), (34, .v (I ((h.mons).length : Int))), (35, .v (I (i : Int))), (43, .v (slv ((el h.mons i).outer).length ((ph.mons.2 i).outer).1)), (44, .v (I (((el h.mons i).outer).length : Int))), (45, .v (I ((k : Int) + 1)))], []⟩
                    refine ⟨(el h.mons i).outer.length - (k + 1), by omega, k + 1, (us2.set (((el ((el h.mons i).outer) k).page).toNat) true), (q28.1, q39), F38, _, _, _, rfl, ?_, ?_, ?_, S.cast (by kernel_rfl), o37⟩
                    · clear S; first | omega | (simp [*]; done) | (simp [*]; omega)
                    · clear S; (rw [fold_step (by omega), hu2]; first | exact stepSlot_neg (by omega) | exact stepSlot_new (by omega) (by assumption) | exact stepSlot_new (by omega) (by simp_all))
                    · clear S; (first | omega | (simp; omega))
              · have g43 : ¬ ((k : Int) < (((el h.mons i).outer).length : Int)) := of_decide_eq_false h31
                refine wp_exit (ex_then (ex_then (ex_hit (nx_block (nx_then (RG.start ?_))))))
                refine S.q 2 [3, 33, 34, 35] 0 ⟨[(3, .v (slv 12 q28.1)), (33, .v (slv (h.mons).length ph.mons.1)), (34, .v (I ((h.mons).length : Int))), (35, .v (I ((i : Int) + 1)))], []⟩ (.cons (Q_add (x := (i : Int)) (y := 1) ⟨by omega, by omega⟩) .nil) ?_; clear S; intro ac w β S
                refine RG.done rfl (nx_then ?_)
                replace S := S.p [3, 33, 34, 35] 0 ⟨[(3, .v (slv 12 q28.1)), (33, .v (slv (h.mons).length ph.mons.1)), (34, .v (I ((h.mons).length : Int))), (35, .v (I ((i : Int) + 1)))], []⟩
                refine ⟨h.mons.length - (i + 1), by omega, i + 1, us2, q28, F29, _, _, _, rfl, ?_, ?_, ?_, S.cast (by kernel_rfl), o30⟩
                · clear S; first | omega | (simp [*]; done) | (simp [*]; omega)
                · clear S; (rw [fold_step (by omega), hu, stepMon_ok (by assumption)]; rw [take_all (by omega)] at hu2; exact hu2)
                · clear S; omega
          · have g44 : ¬ ((i : Int) < ((h.mons).length : Int)) := of_decide_eq_false h22
            refine wp_exit (ex_then (ex_then (ex_hit (nx_then (wp_seq (RG.start ?_))))))
            refine S.q 1 [2] 0 ⟨[(2, .v (B true))], []⟩ .nil ?_; clear S; intro ac w β S
            refine RG.done rfl (nx_then (wp_ret ?_))
            refine S.r [B true] ?_
            exact ⟨retB (by clear S; (first | (symm; rw [← Bool.not_eq_true]; intro hc; simp only [f_hostOk, f_hostHead, Bool.and_eq_true] at hc; (first | (simp_all; done) | (simp_all; omega))) | (rw [hostOk_dead (fold_dead (k := i) (by omega) stepMon_none hu (stepMon_bad (by assumption)))]) | (rw [hostOk_dead (fold_dead (k := i) (by omega) stepMon_none hu ((stepMon_ok hmok).trans (fold_dead (k := k) (by omega) stepSlot_none hu2 (stepSlot_hit (by omega) (by assumption)))))]) | (unfold f_hostOk f_hostUsed f_hostHead; rw [take_all (by omega)] at hu; rw [hu]; simp_all; done))), S.chg⟩

set_option maxRecDepth 100000 in
theorem c_impl_has (w0 : World) (k : Int) (length : Int) (pre0 : -9223372036854775808 < length) : Calls Tryz.prog 26 [I k, I length].toArray w0 (fun e w' => e = .returned (B (f_within k 0 (length - 1))) ∧ Chg NoB w0 w') := by
  refine Calls.walk (args := [I k, I length]) NoB Tryz.func26 rfl rfl ?_
  intro ac β S
  refine wp_seq (RG.start ?_)
  refine S.q 1 [0, 1] 0 ⟨[(0, .v (I k)), (1, .v (I length))], []⟩ .nil ?_; clear S; intro ac w β S
  refine RG.done rfl (nx_then (wp_seq (RG.start ?_)))
  refine S.q 3 [0, 1, 7] 0 ⟨[(0, .v (I k)), (1, .v (I length)), (7, .v (B (decide (k ≥ 0))))], []⟩ .nil ?_; clear S; intro ac w β S
  rcases Bool.eq_false_or_eq_true (decide (k ≥ 0)) with h1 | h1 <;> rw [h1] at S
  · have g2 : k ≥ 0 := of_decide_eq_true h1
    refine S.q 5 [4] 0 ⟨[(4, .v (B (decide (k < length))))], []⟩ .nil ?_; clear S; intro ac w β S
    refine RG.done rfl (nx_then (wp_ret ?_))
    refine S.r [B (decide (k < length))] ?_
    exact ⟨retB (by clear S; (rw [Bool.eq_iff_iff]; simp [f_within]; omega)), S.chg⟩
  · have g3 : ¬ (k ≥ 0) := of_decide_eq_false h1
    refine S.q 5 [4] 0 ⟨[(4, .v (B false))], []⟩ .nil ?_; clear S; intro ac w β S
    refine RG.done rfl (nx_then (wp_ret ?_))
    refine S.r [B false] ?_
    exact ⟨retB (by clear S; (rw [Bool.eq_iff_iff]; simp [f_within]; omega)), S.chg⟩

set_option maxRecDepth 100000 in
theorem c_impl_SetTraps (w0 : World) (h : THost) (ph : PHost) (hh : GT.rd KK (Lt w0.heap.size) w0 h ph) (m : Int) (traps : Int) (htraps : In64 traps) : Calls Tryz.prog 8 [GT.val h ph, I m, I traps].toArray w0 (Ret2 NoB w0 ((f_setTraps h m traps).1 : THost) ((f_setTraps h m traps).2 : Bool)) := by
  refine Calls.walk (args := [GT.val h ph, I m, I traps]) NoB Tryz.func8 rfl rfl ?_
  intro ac β S
  have hleh_mem : h.mem.length ≤ 4194304 := LRd.le (RHost.mem (d := h) hh)
  have hleh_mons : h.mons.length ≤ 4194304 := LRd.le (RHost.mons (d := h) hh)
  have hleh_buf : h.buf.length ≤ 4194304 := LRd.le (RHost.buf (d := h) hh)
  have hleh_iobuf : h.iobuf.length ≤ 4194304 := LRd.le (RHost.iobuf (d := h) hh)
  have hlotraps := htraps.lo; have hhitraps := htraps.hi
  refine wp_seq (RG.start ?_)
  refine S.q 3 [1, 2, 3, 6] 2 ⟨[(1, .v (I m)), (2, .v (I traps)), (3, .p 0 0), (6, .p 1 0)], [GT.cells h ph, Zc THost]⟩ .nil ?_; clear S; intro ac w β S
  refine RG.done rfl (nx_then (wp_seq (RG.start ?_)))
  refine S.q 1 [1, 2, 3, 6, 9] 2 ⟨[(1, .v (I m)), (2, .v (I traps)), (3, .p 0 0), (6, .p 1 0), (9, .v (GT.val h ph))], [GT.cells h ph, Zc THost]⟩ .nil ?_; clear S; intro ac w β S
  refine RG.op rfl (S.call1 (r := h) (d := 10) (c_impl_copyHost w h ph (S.rd (S.arg hh))) (by kernel_rfl) rfl ?_)
  clear S; intro ac w N q1 F2 S up o3 d4
  clear up d4
  obtain ⟨F5, F8, F11, F14, o6, o9, o12, o15, s7, s10, s13, s16, d17, d18, d19, d20, d21, d22⟩ := sp_Host o3
  refine S.q 2 [1, 2, 3, 6, 8] 3 ⟨[(1, .v (I m)), (2, .v (I traps)), (3, .p 0 0), (6, .p 1 0), (8, .p 2 0)], [GT.cells h ph, Zc THost, [slv (h.mem).length q1.mem.1, slv (h.mons).length q1.mons.1, slv (h.buf).length q1.buf.1, slv (h.iobuf).length q1.iobuf.1]]⟩ .nil ?_; clear S; intro ac w β S
  refine RG.done rfl (nx_then (wp_seq (wp_seq (RG.start ?_))))
  refine S.q 4 [1, 2, 3, 6, 8, 14] 3 ⟨[(1, .v (I m)), (2, .v (I traps)), (3, .p 0 0), (6, .p 1 0), (8, .p 2 0), (14, .v (B (!(f_hostOk h))))], [GT.cells h ph, Zc THost, [slv (h.mem).length q1.mem.1, slv (h.mons).length q1.mons.1, slv (h.buf).length q1.buf.1, slv (h.iobuf).length q1.iobuf.1]]⟩ (.cons (Q_call fun w hw => c_impl_HostOk w h ph (rd_of (S.arg hh) hw)) .nil) ?_; clear S; intro ac w β S
  rcases Bool.eq_false_or_eq_true (!(f_hostOk h)) with h23 | h23 <;> rw [h23] at S
  · have h24 : (f_hostOk h) = false := not_t h23
    refine S.q 12 [1, 2, 6, 8, 26] 3 ⟨[(1, .v (I m)), (2, .v (I traps)), (6, .p 1 0), (8, .p 2 0), (26, .v (B true))], [GT.cells h ph, Zc THost, [slv (h.mem).length q1.mem.1, slv (h.mons).length q1.mons.1, slv (h.buf).length q1.buf.1, slv (h.iobuf).length q1.iobuf.1]]⟩ .nil ?_; clear S; intro ac w β S
    refine RG.done rfl (nx_then ?_)
    refine S.c true (fun _ => ?_) (fun hx => by cases hx)
    refine wp_seq (RG.start ?_)
    refine S.q 3 [6, 7] 2 ⟨[(6, .p 1 0), (7, .v (B false))], [GT.cells h ph, [slv (h.mem).length q1.mem.1, slv (h.mons).length q1.mons.1, slv (h.buf).length q1.buf.1, slv (h.iobuf).length q1.iobuf.1]]⟩ .nil ?_; clear S; intro ac w β S
    refine RG.done rfl (nx_then (wp_ret (rt_then ?_)))
    refine S.r [GT.val h q1, B false] ?_
    have o25 := ow_Host (x := h) (p := q1) o6 o9 o12 o15 d17 d18 d19 d20 d21 d22 
    exact ret2_of (p' := ()) S (show (f_setTraps h m traps).1 = h by clear S; (unfold f_setTraps; (repeat' split) <;> first | rfl | (exfalso; omega) | (exfalso; simp_all; done) | (exfalso; simp_all; omega))) (show (f_setTraps h m traps).2 = false by clear S; (unfold f_setTraps; (repeat' split) <;> first | rfl | (exfalso; omega) | (exfalso; simp_all; done) | (exfalso; simp_all; omega))) rfl rfl o25 trivial
  · have h26 : (f_hostOk h) = true := not_f h23
    have g27 := hostOk_t h26
    refine S.q 8 [1, 2, 6, 8, 22] 3 ⟨[(1, .v (I m)), (2, .v (I traps)), (6, .p 1 0), (8, .p 2 0), (22, .v (B (!(f_within m 0 (((h.mons).length : Int) - 1)))))], [GT.cells h ph, Zc THost, [slv (h.mem).length q1.mem.1, slv (h.mons).length q1.mons.1, slv (h.buf).length q1.buf.1, slv (h.iobuf).length q1.iobuf.1]]⟩ (.cons (Q_call fun w hw => c_impl_has w m ((h.mons).length : Int) (by omega)) .nil) ?_; clear S; intro ac w β S
    rcases Bool.eq_false_or_eq_true (!(f_within m 0 (((h.mons).length : Int) - 1))) with h28 | h28 <;> rw [h28] at S
    · have h29 : (f_within m 0 (((h.mons).length : Int) - 1)) = false := not_t h28
      have g30 := within_f h29
      refine S.q 4 [1, 2, 6, 8, 26] 3 ⟨[(1, .v (I m)), (2, .v (I traps)), (6, .p 1 0), (8, .p 2 0), (26, .v (B true))], [GT.cells h ph, Zc THost, [slv (h.mem).length q1.mem.1, slv (h.mons).length q1.mons.1, slv (h.buf).length q1.buf.1, slv (h.iobuf).length q1.iobuf.1]]⟩ .nil ?_; clear S; intro ac w β S
      refine RG.done rfl (nx_then ?_)
      refine S.c true (fun _ => ?_) (fun hx => by cases hx)
      refine wp_seq (RG.start ?_)
      refine S.q 3 [6, 7] 2 ⟨[(6, .p 1 0), (7, .v (B false))], [GT.cells h ph, [slv (h.mem).length q1.mem.1, slv (h.mons).length q1.mons.1, slv (h.buf).length q1.buf.1, slv (h.iobuf).length q1.iobuf.1]]⟩ .nil ?_; clear S; intro ac w β S
      refine RG.done rfl (nx_then (wp_ret (rt_then ?_)))
      refine S.r [GT.val h q1, B false] ?_
      have o31 := ow_Host (x := h) (p := q1) o6 o9 o12 o15 d17 d18 d19 d20 d21 d22 
      exact ret2_of (p' := ()) S (show (f_setTraps h m traps).1 = h by clear S; (unfold f_setTraps; (repeat' split) <;> first | rfl | (exfalso; omega) | (exfalso; simp_all; done) | (exfalso; simp_all; omega))) (show (f_setTraps h m traps).2 = false by clear S; (unfold f_setTraps; (repeat' split) <;> first | rfl | (exfalso; omega) | (exfalso; simp_all; done) | (exfalso; simp_all; omega))) rfl rfl o31 trivial
    · have h32 : (f_within m 0 (((h.mons).length : Int) - 1)) = true := not_f h28
      have g33 := within_t h32
      refine S.q 4 [1, 2, 6, 8, 26] 3 ⟨[(1, .v (I m)), (2, .v (I traps)), (6, .p 1 0), (8, .p 2 0), (26, .v (B (!(f_within traps 0 3))))], [GT.cells h ph, Zc THost, [slv (h.mem).length q1.mem.1, slv (h.mons).length q1.mons.1, slv (h.buf).length q1.buf.1, slv (h.iobuf).length q1.iobuf.1]]⟩ (.cons (Q_call fun w hw => c_impl_within w traps 0 3) .nil) ?_; clear S; intro ac w β S
      refine RG.done rfl (nx_then ?_)
      refine S.c (!(f_within traps 0 3)) (fun h34 => ?_) (fun h34 => ?_)
      · have h35 : (f_within traps 0 3) = false := not_t h34
        have g36 := within_f h35
        refine wp_seq (RG.start ?_)
        refine S.q 3 [6, 7] 2 ⟨[(6, .p 1 0), (7, .v (B false))], [GT.cells h ph, [slv (h.mem).length q1.mem.1, slv (h.mons).length q1.mons.1, slv (h.buf).length q1.buf.1, slv (h.iobuf).length q1.iobuf.1]]⟩ .nil ?_; clear S; intro ac w β S
        refine RG.done rfl (nx_then (wp_ret (rt_then ?_)))
        refine S.r [GT.val h q1, B false] ?_
        have o37 := ow_Host (x := h) (p := q1) o6 o9 o12 o15 d17 d18 d19 d20 d21 d22 
        exact ret2_of (p' := ()) S (show (f_setTraps h m traps).1 = h by clear S; (unfold f_setTraps; (repeat' split) <;> first | rfl | (exfalso; omega) | (exfalso; simp_all; done) | (exfalso; simp_all; omega))) (show (f_setTraps h m traps).2 = false by clear S; (unfold f_setTraps; (repeat' split) <;> first | rfl | (exfalso; omega) | (exfalso; simp_all; done) | (exfalso; simp_all; omega))) rfl rfl o37 trivial
      · have h38 : (f_within traps 0 3) = true := not_f h34
        have g39 := within_t h38
        refine wp_skip (nx_then (wp_seq (RG.start ?_)))
        refine S.q 6 [6, 8, 31, 33] 3 ⟨[(6, .p 1 0), (8, .p 2 0), (31, .v (I traps)), (33, .v (pt q1.mons.1.b (q1.mons.1.off + ((m).toNat) * 9 + 6)))], [GT.cells h ph, Zc THost, [slv (h.mem).length q1.mem.1, slv (h.mons).length q1.mons.1, slv (h.buf).length q1.buf.1, slv (h.iobuf).length q1.iobuf.1]]⟩ (.cons (Q_idx o9.rn (l := (h.mons).length) (k := (m).toNat) (i := m) rfl (by omega) (by omega) Tryz.underlying28 (by kernel_rfl)) .nil) ?_; clear S; intro ac w β S
        refine RG.op rfl (S.setEl (α := TMon) o9 (t := 3) (v := I traps) (k := (m).toNat) (j := 6) (off := q1.mons.1.off + ((m).toNat) * 9 + 6) (y := ({ el h.mons ((m).toNat) with traps := traps } : TMon)) (q := (q1.mons.2 ((m).toNat))) (Fy := NoB) (by kernel_rfl) (by kernel_rfl) (by omega) (by kernel_rfl) (by kernel_rfl) (Nat.le_of_ble_eq_true (by kernel_rfl)) (by kernel_rfl) (fun G g _ => ⟨G, ows_Mon_traps g (htraps), fun _ h => .inl h⟩) (fun b _ h => False.elim h) (fun b h => False.elim h) (fun b h => False.elim h) ?_)
        clear S; intro w N F41 q42 S up o40 d43 s44
        have d45 : Disj F5 F41 := d43 _ d17 (fun b _ h => False.elim h) o6.sub
        have d46 : Disj F11 F41 := d43 _ (Disj.symm d20) (fun b _ h => False.elim h) o12.sub
        have d47 : Disj F14 F41 := d43 _ (Disj.symm d21) (fun b _ h => False.elim h) o15.sub
        replace o6 := o6.upF d17 up
        replace o12 := o12.upF (Disj.symm d20) up
        replace o15 := o15.upF (Disj.symm d21) up
        clear up d43 o9
        have l48 : ((h.mons).set ((m).toNat) ({ el h.mons ((m).toNat) with traps := traps })).length = (h.mons).length := List.length_set
        replace S := S.p [6, 8, 31, 33] 3 ⟨[(6, .p 1 0), (8, .p 2 0), (31, .v (I traps)), (33, .v (pt q1.mons.1.b (q1.mons.1.off + ((m).toNat) * 9 + 6)))], [GT.cells h ph, Zc THost, [slv (h.mem).length q1.mem.1, slv (h.mons).length q1.mons.1, slv (h.buf).length q1.buf.1, slv (h.iobuf).length q1.iobuf.1]]⟩
        replace S := S.cast (σ' := ⟨[(6, .p 1 0), (8, .p 2 0), (31, .v (I traps)), (33, .v (pt q1.mons.1.b (q1.mons.1.off + ((m).toNat) * 9 + 6)))], [GT.cells h ph, Zc THost, [slv (h.mem).length q1.mem.1, slv (((h.mons).set ((m).toNat) ({ el h.mons ((m).toNat) with traps := traps }))).length q1.mons.1, slv (h.buf).length q1.buf.1, slv (h.iobuf).length q1.iobuf.1]]⟩) (by rw [show (((h.mons).set ((m).toNat) ({ el h.mons ((m).toNat) with traps := traps }))).length = (h.mons).length by omega])
        replace S := S.p [6, 8] 3 ⟨[(6, .p 1 0), (8, .p 2 0)], [GT.cells h ph, Zc THost, [slv (h.mem).length q1.mem.1, slv (((h.mons).set ((m).toNat) ({ el h.mons ((m).toNat) with traps := traps }))).length q1.mons.1, slv (h.buf).length q1.buf.1, slv (h.iobuf).length q1.iobuf.1]]⟩
        refine RG.done rfl (nx_then (wp_seq (RG.start ?_)))
        refine S.q 3 [6, 7] 2 ⟨[(6, .p 1 0), (7, .v (B true))], [GT.cells h ph, [slv (h.mem).length q1.mem.1, slv (((h.mons).set ((m).toNat) ({ el h.mons ((m).toNat) with traps := traps }))).length q1.mons.1, slv (h.buf).length q1.buf.1, slv (h.iobuf).length q1.iobuf.1]]⟩ .nil ?_; clear S; intro ac w β S
        refine RG.done rfl (nx_then (wp_ret ?_))
        refine S.r [GT.val (⟨h.mem, ((h.mons).set ((m).toNat) ({ el h.mons ((m).toNat) with traps := traps })), h.buf, h.iobuf⟩ : THost) (⟨q1.mem, (q1.mons.1, q42), q1.buf, q1.iobuf⟩ : PHost), B true] ?_
        have o49 := ow_Host (x := (⟨h.mem, ((h.mons).set ((m).toNat) ({ el h.mons ((m).toNat) with traps := traps })), h.buf, h.iobuf⟩ : THost)) (p := (⟨q1.mem, (q1.mons.1, q42), q1.buf, q1.iobuf⟩ : PHost)) o6 o40 o12 o15 d45 d18 d19 (Disj.symm d46) (Disj.symm d47) d22 
        exact ret2_of (p' := ()) S (show (f_setTraps h m traps).1 = (⟨h.mem, ((h.mons).set ((m).toNat) ({ el h.mons ((m).toNat) with traps := traps })), h.buf, h.iobuf⟩ : THost) by clear S; (unfold f_setTraps; (repeat' split) <;> first | rfl | (exfalso; omega) | (exfalso; simp_all; done) | (exfalso; simp_all; omega))) (show (f_setTraps h m traps).2 = true by clear S; (unfold f_setTraps; (repeat' split) <;> first | rfl | (exfalso; omega) | (exfalso; simp_all; done) | (exfalso; simp_all; omega))) rfl rfl o49 trivial

set_option maxRecDepth 100000 in
theorem c_laws_eqIntS (w0 : World) (a : List Int) (pa : LP Int) (ha : GT.rd KK (Lt w0.heap.size) w0 a pa) (b : List Int) (pb : LP Int) (hb : GT.rd KK (Lt w0.heap.size) w0 b pb) : Calls Tryz.prog 59 [slv (a).length pa.1, slv (b).length pb.1].toArray w0 (fun e w' => e = .returned (B (decide (a = b))) ∧ Chg NoB w0 w') := by
  refine Calls.walk (args := [slv (a).length pa.1, slv (b).length pb.1]) NoB Tryz.func59 rfl rfl ?_
  intro ac β S
  have hlea : a.length ≤ 4194304 := LRd.le ha
  have hleb : b.length ≤ 4194304 := LRd.le hb
  refine wp_seq (RG.start ?_)
  refine S.q 1 [0, 1] 0 ⟨[(0, .v (slv (a).length pa.1)), (1, .v (slv (b).length pb.1))], []⟩ .nil ?_; clear S; intro ac w β S
  refine RG.done rfl (nx_then (wp_seq (wp_seq (RG.start ?_))))
  refine S.q 5 [0, 1, 10] 0 ⟨[(0, .v (slv (a).length pa.1)), (1, .v (slv (b).length pb.1)), (10, .v (B (((a).length : Int) != ((b).length : Int))))], []⟩ .nil ?_; clear S; intro ac w β S
  refine RG.done rfl (nx_then ?_)
  refine S.c (((a).length : Int) != ((b).length : Int)) (fun h1 => ?_) (fun h1 => ?_)
  · have g2 : ¬ (((a).length : Int) = ((b).length : Int)) := bne_iff_ne.1 h1
    refine wp_seq (RG.start ?_)
    refine S.q 1 [4] 0 ⟨[(4, .v (B false))], []⟩ .nil ?_; clear S; intro ac w β S
    refine RG.done rfl (nx_then (wp_ret (rt_then ?_)))
    refine S.r [B false] ?_
    exact ⟨retB (by clear S; first | (simp; intro e; subst e; simp_all; done) | (simp; rw [take_all (by omega), take_all (by omega)] at he; exact he) | (simp; exact take_ne (by simp_all))), S.chg⟩
  · have g3 : ((a).length : Int) = ((b).length : Int) := ne_f h1
    refine wp_skip (nx_then (wp_seq (wp_seq (RG.start ?_))))
    refine S.q 1 [0, 1, 5] 0 ⟨[(0, .v (slv (a).length pa.1)), (1, .v (slv (b).length pb.1)), (5, .v (I 0))], []⟩ .nil ?_; clear S; intro ac w β S
    refine RG.done rfl (nx_then (wp_block ?_))
    replace S := S.p [0, 1, 5] 0 ⟨[(0, .v (slv (a).length pa.1)), (1, .v (slv (b).length pb.1)), (5, .v (I 0))], []⟩
    refine wp_loop_down (fun mm ac w => ∃ (k : Nat)  (u : World) (N : Bl) (β : Nat → Nat), mm = a.length - k ∧ (k ≤ a.length) ∧ (a.length = b.length) ∧ (a.take k = b.take k) ∧ St Tryz.prog Tryz.f59.ntmps w0 NoB u N β ⟨[(0, .v (slv (a).length pa.1)), (1, .v (slv (b).length pb.1)), (5, .v (I (k : Int)))], []⟩ ac w) _ ⟨0, _, _, _, rfl, (by first | omega | (simp; done) | (simp; omega)), (by first | omega | (simp; done) | (simp; omega)), (by simp), S.cast (by kernel_rfl)⟩ ?_
    clear S
    rintro mm ac w ⟨k, u, N, β, rfl, hk, hab, he, S⟩
    refine wp_seq (wp_seq (RG.start ?_))
    refine S.q 4 [0, 1, 5, 14] 0 ⟨[(0, .v (slv (a).length pa.1)), (1, .v (slv (b).length pb.1)), (5, .v (I (k : Int))), (14, .v (B (decide ((k : Int) < ((a).length : Int)))))], []⟩ .nil ?_; clear S; intro ac w β S
    refine RG.done rfl (nx_then ?_)
    refine S.c (decide ((k : Int) < ((a).length : Int))) (fun h4 => ?_) (fun h4 => ?_)
    · have g5 : (k : Int) < ((a).length : Int) := of_decide_eq_true h4
      refine wp_skip (nx_then (wp_seq (wp_block (wp_seq ?_))))
      refine S.drawn (keep := [0, 1, 5, 25]) (m := 0) (σ' := ⟨[(0, .v (slv (a).length pa.1)), (1, .v (slv (b).length pb.1)), (5, .v (I (k : Int))), (25, .v (B ((el a k) != (el b k))))], []⟩) (.cons (Q_idx (S.arg ha) (l := (a).length) (k := k) (i := (k : Int)) rfl rfl (by omega) Tryz.underlying53 (by kernel_rfl)) (.cons (Q_el1 (S.arg ha) (t := 3) (k := k) (by omega) rfl (by kernel_rfl)) (.cons (Q_idx (S.arg hb) (l := (b).length) (k := k) (i := (k : Int)) rfl rfl (by omega) Tryz.underlying53 (by kernel_rfl)) (.cons (Q_el1 (S.arg hb) (t := 3) (k := k) (by omega) rfl (by kernel_rfl)) .nil)))) rfl (by kernel_rfl) (by kernel_rfl) ?_
      clear S; intro ac w S
      refine id (nx_then ?_)
      refine S.c ((el a k) != (el b k)) (fun h6 => ?_) (fun h6 => ?_)
      · have g7 : ¬ ((el a k) = (el b k)) := bne_iff_ne.1 h6
        refine wp_seq (RG.start ?_)
        refine S.q 1 [4] 0 ⟨[(4, .v (B false))], []⟩ .nil ?_; clear S; intro ac w β S
        refine RG.done rfl (nx_then (wp_ret (rt_block (rt_then (rt_then (rt_block (rt_then ?_)))))))
        refine S.r [B false] ?_
        exact ⟨retB (by clear S; first | (simp; intro e; subst e; simp_all; done) | (simp; rw [take_all (by omega), take_all (by omega)] at he; exact he) | (simp; exact take_ne (by simp_all))), S.chg⟩
      · have g8 : (el a k) = (el b k) := ne_f h6
        refine wp_skip (nx_block (nx_then (RG.start ?_)))
        refine S.q 3 [0, 1, 5] 0 ⟨[(0, .v (slv (a).length pa.1)), (1, .v (slv (b).length pb.1)), (5, .v (I ((k : Int) + 1)))], []⟩ (.cons (Q_add (x := (k : Int)) (y := 1) ⟨by omega, by omega⟩) .nil) ?_; clear S; intro ac w β S
        refine RG.done rfl (nx_then ?_)
        replace S := S.p [0, 1, 5] 0 ⟨[(0, .v (slv (a).length pa.1)), (1, .v (slv (b).length pb.1)), (5, .v (I ((k : Int) + 1)))], []⟩
        refine ⟨a.length - (k + 1), by omega, k + 1, _, _, _, rfl, ?_, ?_, ?_, S.cast (by kernel_rfl)⟩
        · clear S; first | omega | (simp [*]; done) | (simp [*]; omega)
        · clear S; first | omega | (simp [*]; done) | (simp [*]; omega)
        · clear S; exact take_eq_step (by omega) (by omega) he (by simp_all)
    · have g9 : ¬ ((k : Int) < ((a).length : Int)) := of_decide_eq_false h4
      refine wp_exit (ex_then (ex_then (ex_hit (nx_then (wp_seq (RG.start ?_))))))
      refine S.q 1 [4] 0 ⟨[(4, .v (B true))], []⟩ .nil ?_; clear S; intro ac w β S
      refine RG.done rfl (nx_then (wp_ret ?_))
      refine S.r [B true] ?_
      exact ⟨retB (by clear S; first | (simp; intro e; subst e; simp_all; done) | (simp; rw [take_all (by omega), take_all (by omega)] at he; exact he) | (simp; exact take_ne (by simp_all))), S.chg⟩

set_option maxRecDepth 100000 in
theorem c_laws_eqIntSS (w0 : World) (a : List (List Int)) (pa : LP (List Int)) (ha : GT.rd KK (Lt w0.heap.size) w0 a pa) (b : List (List Int)) (pb : LP (List Int)) (hb : GT.rd KK (Lt w0.heap.size) w0 b pb) : Calls Tryz.prog 28 [slv (a).length pa.1, slv (b).length pb.1].toArray w0 (fun e w' => e = .returned (B (decide (a = b))) ∧ Chg NoB w0 w') := by
  refine Calls.walk (args := [slv (a).length pa.1, slv (b).length pb.1]) NoB Tryz.func28 rfl rfl ?_
  intro ac β S
  have hlea : a.length ≤ 4194304 := LRd.le ha
  have hleb : b.length ≤ 4194304 := LRd.le hb
  refine wp_seq (RG.start ?_)
  refine S.q 1 [0, 1] 0 ⟨[(0, .v (slv (a).length pa.1)), (1, .v (slv (b).length pb.1))], []⟩ .nil ?_; clear S; intro ac w β S
  refine RG.done rfl (nx_then (wp_seq (wp_seq (RG.start ?_))))
  refine S.q 5 [0, 1, 10] 0 ⟨[(0, .v (slv (a).length pa.1)), (1, .v (slv (b).length pb.1)), (10, .v (B (((a).length : Int) != ((b).length : Int))))], []⟩ .nil ?_; clear S; intro ac w β S
  refine RG.done rfl (nx_then ?_)
  refine S.c (((a).length : Int) != ((b).length : Int)) (fun h1 => ?_) (fun h1 => ?_)
  · have g2 : ¬ (((a).length : Int) = ((b).length : Int)) := bne_iff_ne.1 h1
    refine wp_seq (RG.start ?_)
    refine S.q 1 [4] 0 ⟨[(4, .v (B false))], []⟩ .nil ?_; clear S; intro ac w β S
    refine RG.done rfl (nx_then (wp_ret (rt_then ?_)))
    refine S.r [B false] ?_
    exact ⟨retB (by clear S; first | (simp; intro e; subst e; simp_all; done) | (simp; rw [take_all (by omega), take_all (by omega)] at he; exact he) | (simp; exact take_ne (by simp_all))), S.chg⟩
  · have g3 : ((a).length : Int) = ((b).length : Int) := ne_f h1
    refine wp_skip (nx_then (wp_seq (wp_seq (RG.start ?_))))
    refine S.q 1 [0, 1, 5] 0 ⟨[(0, .v (slv (a).length pa.1)), (1, .v (slv (b).length pb.1)), (5, .v (I 0))], []⟩ .nil ?_; clear S; intro ac w β S
    refine RG.done rfl (nx_then (wp_block ?_))
    replace S := S.p [0, 1, 5] 0 ⟨[(0, .v (slv (a).length pa.1)), (1, .v (slv (b).length pb.1)), (5, .v (I 0))], []⟩
    refine wp_loop_down (fun mm ac w => ∃ (k : Nat)  (u : World) (N : Bl) (β : Nat → Nat), mm = a.length - k ∧ (k ≤ a.length) ∧ (a.length = b.length) ∧ (a.take k = b.take k) ∧ St Tryz.prog Tryz.f28.ntmps w0 NoB u N β ⟨[(0, .v (slv (a).length pa.1)), (1, .v (slv (b).length pb.1)), (5, .v (I (k : Int)))], []⟩ ac w) _ ⟨0, _, _, _, rfl, (by first | omega | (simp; done) | (simp; omega)), (by first | omega | (simp; done) | (simp; omega)), (by simp), S.cast (by kernel_rfl)⟩ ?_
    clear S
    rintro mm ac w ⟨k, u, N, β, rfl, hk, hab, he, S⟩
    refine wp_seq (wp_seq (RG.start ?_))
    refine S.q 4 [0, 1, 5, 14] 0 ⟨[(0, .v (slv (a).length pa.1)), (1, .v (slv (b).length pb.1)), (5, .v (I (k : Int))), (14, .v (B (decide ((k : Int) < ((a).length : Int)))))], []⟩ .nil ?_; clear S; intro ac w β S
    refine RG.done rfl (nx_then ?_)
    refine S.c (decide ((k : Int) < ((a).length : Int))) (fun h4 => ?_) (fun h4 => ?_)
    · have g5 : (k : Int) < ((a).length : Int) := of_decide_eq_true h4
      refine wp_skip (nx_then (wp_seq (wp_block (wp_seq ?_))))
      refine S.drawn (keep := [0, 1, 5, 26]) (m := 0) (σ' := ⟨[(0, .v (slv (a).length pa.1)), (1, .v (slv (b).length pb.1)), (5, .v (I (k : Int))), (26, .v (B (!(decide ((el a k) = (el b k))))))], []⟩) (.cons (Q_idx (S.arg ha) (l := (a).length) (k := k) (i := (k : Int)) rfl rfl (by omega) Tryz.underlying22 (by kernel_rfl)) (.cons (Q_el1 (S.arg ha) (t := 53) (k := k) (by omega) rfl (by kernel_rfl)) (.cons (Q_idx (S.arg hb) (l := (b).length) (k := k) (i := (k : Int)) rfl rfl (by omega) Tryz.underlying22 (by kernel_rfl)) (.cons (Q_el1 (S.arg hb) (t := 53) (k := k) (by omega) rfl (by kernel_rfl)) (.cons (Q_call fun w hw => c_laws_eqIntS w (el a k) (pa.2 k) (rd_of (LRd.el (S.arg ha) k (by omega)) hw) (el b k) (pb.2 k) (rd_of (LRd.el (S.arg hb) k (by omega)) hw)) .nil))))) rfl (by kernel_rfl) (by kernel_rfl) ?_
      clear S; intro ac w S
      refine id (nx_then ?_)
      refine S.c (!(decide ((el a k) = (el b k)))) (fun h6 => ?_) (fun h6 => ?_)
      · have h7 : (decide ((el a k) = (el b k))) = false := not_t h6
        have g8 := of_decide_eq_false h7
        refine wp_seq (RG.start ?_)
        refine S.q 1 [4] 0 ⟨[(4, .v (B false))], []⟩ .nil ?_; clear S; intro ac w β S
        refine RG.done rfl (nx_then (wp_ret (rt_block (rt_then (rt_then (rt_block (rt_then ?_)))))))
        refine S.r [B false] ?_
        exact ⟨retB (by clear S; first | (simp; intro e; subst e; simp_all; done) | (simp; rw [take_all (by omega), take_all (by omega)] at he; exact he) | (simp; exact take_ne (by simp_all))), S.chg⟩
      · have h9 : (decide ((el a k) = (el b k))) = true := not_f h6
        have g10 := of_decide_eq_true h9
        refine wp_skip (nx_block (nx_then (RG.start ?_)))
        refine S.q 3 [0, 1, 5] 0 ⟨[(0, .v (slv (a).length pa.1)), (1, .v (slv (b).length pb.1)), (5, .v (I ((k : Int) + 1)))], []⟩ (.cons (Q_add (x := (k : Int)) (y := 1) ⟨by omega, by omega⟩) .nil) ?_; clear S; intro ac w β S
        refine RG.done rfl (nx_then ?_)
        replace S := S.p [0, 1, 5] 0 ⟨[(0, .v (slv (a).length pa.1)), (1, .v (slv (b).length pb.1)), (5, .v (I ((k : Int) + 1)))], []⟩
        refine ⟨a.length - (k + 1), by omega, k + 1, _, _, _, rfl, ?_, ?_, ?_, S.cast (by kernel_rfl)⟩
        · clear S; first | omega | (simp [*]; done) | (simp [*]; omega)
        · clear S; first | omega | (simp [*]; done) | (simp [*]; omega)
        · clear S; exact take_eq_step (by omega) (by omega) he (by simp_all)
    · have g11 : ¬ ((k : Int) < ((a).length : Int)) := of_decide_eq_false h4
      refine wp_exit (ex_then (ex_then (ex_hit (nx_then (wp_seq (RG.start ?_))))))
      refine S.q 1 [4] 0 ⟨[(4, .v (B true))], []⟩ .nil ?_; clear S; intro ac w β S
      refine RG.done rfl (nx_then (wp_ret ?_))
      refine S.r [B true] ?_
      exact ⟨retB (by clear S; first | (simp; intro e; subst e; simp_all; done) | (simp; rw [take_all (by omega), take_all (by omega)] at he; exact he) | (simp; exact take_ne (by simp_all))), S.chg⟩

set_option maxRecDepth 100000 in
theorem c_laws_eqSlot (w0 : World) (a : TSlot) (b : TSlot) : Calls Tryz.prog 137 [GT.val a (), GT.val b ()].toArray w0 (fun e w' => e = .returned (B (decide (a = b))) ∧ Chg NoB w0 w') := by
  refine Calls.walk (args := [GT.val a (), GT.val b ()]) NoB Tryz.func137 rfl rfl ?_
  intro ac β S
  refine wp_seq (RG.start ?_)
  refine S.q 3 [2, 3] 2 ⟨[(2, .p 0 0), (3, .p 1 0)], [GT.cells a (), GT.cells b ()]⟩ .nil ?_; clear S; intro ac w β S
  refine RG.done rfl (nx_then (wp_seq (wp_seq (RG.start ?_))))
  refine S.q 5 [2, 3, 9] 2 ⟨[(2, .p 0 0), (3, .p 1 0), (9, .v (B (a.page != b.page)))], [GT.cells a (), GT.cells b ()]⟩ .nil ?_; clear S; intro ac w β S
  refine RG.done rfl (nx_then ?_)
  refine S.c (a.page != b.page) (fun h1 => ?_) (fun h1 => ?_)
  · have g2 : ¬ (a.page = b.page) := bne_iff_ne.1 h1
    refine wp_seq (RG.start ?_)
    refine S.q 1 [4] 0 ⟨[(4, .v (B false))], []⟩ .nil ?_; clear S; intro ac w β S
    refine RG.done rfl (nx_then (wp_ret (rt_then ?_)))
    refine S.r [B false] ?_
    exact ⟨retB (by clear S; first | (simp [TSlot.ext_iff, *]; done) | (simp_all [TSlot.ext_iff]; done)), S.chg⟩
  · have g3 : a.page = b.page := ne_f h1
    refine wp_skip (nx_then (wp_seq (wp_seq (RG.start ?_))))
    refine S.q 5 [14] 0 ⟨[(14, .v (B (a.rights != b.rights)))], []⟩ .nil ?_; clear S; intro ac w β S
    refine RG.done rfl (nx_then ?_)
    refine S.c (a.rights != b.rights) (fun h4 => ?_) (fun h4 => ?_)
    · have g5 : ¬ (a.rights = b.rights) := bne_iff_ne.1 h4
      refine wp_seq (RG.start ?_)
      refine S.q 1 [4] 0 ⟨[(4, .v (B false))], []⟩ .nil ?_; clear S; intro ac w β S
      refine RG.done rfl (nx_then (wp_ret (rt_then ?_)))
      refine S.r [B false] ?_
      exact ⟨retB (by clear S; first | (simp [TSlot.ext_iff, *]; done) | (simp_all [TSlot.ext_iff]; done)), S.chg⟩
    · have g6 : a.rights = b.rights := ne_f h4
      refine wp_skip (nx_then (wp_seq (RG.start ?_)))
      refine S.q 1 [4] 0 ⟨[(4, .v (B true))], []⟩ .nil ?_; clear S; intro ac w β S
      refine RG.done rfl (nx_then (wp_ret ?_))
      refine S.r [B true] ?_
      exact ⟨retB (by clear S; first | (simp [TSlot.ext_iff, *]; done) | (simp_all [TSlot.ext_iff]; done)), S.chg⟩

set_option maxRecDepth 100000 in
theorem c_laws_eqSlotS (w0 : World) (a : List TSlot) (pa : LP TSlot) (ha : GT.rd KK (Lt w0.heap.size) w0 a pa) (b : List TSlot) (pb : LP TSlot) (hb : GT.rd KK (Lt w0.heap.size) w0 b pb) : Calls Tryz.prog 106 [slv (a).length pa.1, slv (b).length pb.1].toArray w0 (fun e w' => e = .returned (B (decide (a = b))) ∧ Chg NoB w0 w') := by
  refine Calls.walk (args := [slv (a).length pa.1, slv (b).length pb.1]) NoB Tryz.func106 rfl rfl ?_
  intro ac β S
  have hlea : a.length ≤ 4194304 := LRd.le ha
  have hleb : b.length ≤ 4194304 := LRd.le hb
  refine wp_seq (RG.start ?_)
  refine S.q 1 [0, 1] 0 ⟨[(0, .v (slv (a).length pa.1)), (1, .v (slv (b).length pb.1))], []⟩ .nil ?_; clear S; intro ac w β S
  refine RG.done rfl (nx_then (wp_seq (wp_seq (RG.start ?_))))
  refine S.q 5 [0, 1, 10] 0 ⟨[(0, .v (slv (a).length pa.1)), (1, .v (slv (b).length pb.1)), (10, .v (B (((a).length : Int) != ((b).length : Int))))], []⟩ .nil ?_; clear S; intro ac w β S
  refine RG.done rfl (nx_then ?_)
  refine S.c (((a).length : Int) != ((b).length : Int)) (fun h1 => ?_) (fun h1 => ?_)
  · have g2 : ¬ (((a).length : Int) = ((b).length : Int)) := bne_iff_ne.1 h1
    refine wp_seq (RG.start ?_)
    refine S.q 1 [4] 0 ⟨[(4, .v (B false))], []⟩ .nil ?_; clear S; intro ac w β S
    refine RG.done rfl (nx_then (wp_ret (rt_then ?_)))
    refine S.r [B false] ?_
    exact ⟨retB (by clear S; first | (simp; intro e; subst e; simp_all; done) | (simp; rw [take_all (by omega), take_all (by omega)] at he; exact he) | (simp; exact take_ne (by simp_all))), S.chg⟩
  · have g3 : ((a).length : Int) = ((b).length : Int) := ne_f h1
    refine wp_skip (nx_then (wp_seq (wp_seq (RG.start ?_))))
    refine S.q 1 [0, 1, 5] 0 ⟨[(0, .v (slv (a).length pa.1)), (1, .v (slv (b).length pb.1)), (5, .v (I 0))], []⟩ .nil ?_; clear S; intro ac w β S
    refine RG.done rfl (nx_then (wp_block ?_))
    replace S := S.p [0, 1, 5] 0 ⟨[(0, .v (slv (a).length pa.1)), (1, .v (slv (b).length pb.1)), (5, .v (I 0))], []⟩
    refine wp_loop_down (fun mm ac w => ∃ (k : Nat)  (u : World) (N : Bl) (β : Nat → Nat), mm = a.length - k ∧ (k ≤ a.length) ∧ (a.length = b.length) ∧ (a.take k = b.take k) ∧ St Tryz.prog Tryz.f106.ntmps w0 NoB u N β ⟨[(0, .v (slv (a).length pa.1)), (1, .v (slv (b).length pb.1)), (5, .v (I (k : Int)))], []⟩ ac w) _ ⟨0, _, _, _, rfl, (by first | omega | (simp; done) | (simp; omega)), (by first | omega | (simp; done) | (simp; omega)), (by simp), S.cast (by kernel_rfl)⟩ ?_
    clear S
    rintro mm ac w ⟨k, u, N, β, rfl, hk, hab, he, S⟩
    refine wp_seq (wp_seq (RG.start ?_))
    refine S.q 4 [0, 1, 5, 14] 0 ⟨[(0, .v (slv (a).length pa.1)), (1, .v (slv (b).length pb.1)), (5, .v (I (k : Int))), (14, .v (B (decide ((k : Int) < ((a).length : Int)))))], []⟩ .nil ?_; clear S; intro ac w β S
    refine RG.done rfl (nx_then ?_)
    refine S.c (decide ((k : Int) < ((a).length : Int))) (fun h4 => ?_) (fun h4 => ?_)
    · have g5 : (k : Int) < ((a).length : Int) := of_decide_eq_true h4
      refine wp_skip (nx_then (wp_seq (wp_block (wp_seq ?_))))
      refine S.drawn (keep := [0, 1, 5, 26]) (m := 0) (σ' := ⟨[(0, .v (slv (a).length pa.1)), (1, .v (slv (b).length pb.1)), (5, .v (I (k : Int))), (26, .v (B (!(decide ((el a k) = (el b k))))))], []⟩) (.cons (Q_idx (S.arg ha) (l := (a).length) (k := k) (i := (k : Int)) rfl rfl (by omega) Tryz.underlying50 (by kernel_rfl)) (.cons (Q_el (S.arg ha) (t := 87) (k := k) (by omega) rfl (by kernel_rfl) (by kernel_rfl)) (.cons (Q_idx (S.arg hb) (l := (b).length) (k := k) (i := (k : Int)) rfl rfl (by omega) Tryz.underlying50 (by kernel_rfl)) (.cons (Q_el (S.arg hb) (t := 87) (k := k) (by omega) rfl (by kernel_rfl) (by kernel_rfl)) (.cons (Q_call fun w hw => c_laws_eqSlot w (el a k) (el b k)) .nil))))) rfl (by kernel_rfl) (by kernel_rfl) ?_
      clear S; intro ac w S
      refine id (nx_then ?_)
      refine S.c (!(decide ((el a k) = (el b k)))) (fun h6 => ?_) (fun h6 => ?_)
      · have h7 : (decide ((el a k) = (el b k))) = false := not_t h6
        have g8 := of_decide_eq_false h7
        refine wp_seq (RG.start ?_)
        refine S.q 1 [4] 0 ⟨[(4, .v (B false))], []⟩ .nil ?_; clear S; intro ac w β S
        refine RG.done rfl (nx_then (wp_ret (rt_block (rt_then (rt_then (rt_block (rt_then ?_)))))))
        refine S.r [B false] ?_
        exact ⟨retB (by clear S; first | (simp; intro e; subst e; simp_all; done) | (simp; rw [take_all (by omega), take_all (by omega)] at he; exact he) | (simp; exact take_ne (by simp_all))), S.chg⟩
      · have h9 : (decide ((el a k) = (el b k))) = true := not_f h6
        have g10 := of_decide_eq_true h9
        refine wp_skip (nx_block (nx_then (RG.start ?_)))
        refine S.q 3 [0, 1, 5] 0 ⟨[(0, .v (slv (a).length pa.1)), (1, .v (slv (b).length pb.1)), (5, .v (I ((k : Int) + 1)))], []⟩ (.cons (Q_add (x := (k : Int)) (y := 1) ⟨by omega, by omega⟩) .nil) ?_; clear S; intro ac w β S
        refine RG.done rfl (nx_then ?_)
        replace S := S.p [0, 1, 5] 0 ⟨[(0, .v (slv (a).length pa.1)), (1, .v (slv (b).length pb.1)), (5, .v (I ((k : Int) + 1)))], []⟩
        refine ⟨a.length - (k + 1), by omega, k + 1, _, _, _, rfl, ?_, ?_, ?_, S.cast (by kernel_rfl)⟩
        · clear S; first | omega | (simp [*]; done) | (simp [*]; omega)
        · clear S; first | omega | (simp [*]; done) | (simp [*]; omega)
        · clear S; exact take_eq_step (by omega) (by omega) he (by simp_all)
    · have g11 : ¬ ((k : Int) < ((a).length : Int)) := of_decide_eq_false h4
      refine wp_exit (ex_then (ex_then (ex_hit (nx_then (wp_seq (RG.start ?_))))))
      refine S.q 1 [4] 0 ⟨[(4, .v (B true))], []⟩ .nil ?_; clear S; intro ac w β S
      refine RG.done rfl (nx_then (wp_ret ?_))
      refine S.r [B true] ?_
      exact ⟨retB (by clear S; first | (simp; intro e; subst e; simp_all; done) | (simp; rw [take_all (by omega), take_all (by omega)] at he; exact he) | (simp; exact take_ne (by simp_all))), S.chg⟩

set_option maxRecDepth 100000 in
theorem c_laws_eqBoolS (w0 : World) (a : List Bool) (pa : LP Bool) (ha : GT.rd KK (Lt w0.heap.size) w0 a pa) (b : List Bool) (pb : LP Bool) (hb : GT.rd KK (Lt w0.heap.size) w0 b pb) : Calls Tryz.prog 107 [slv (a).length pa.1, slv (b).length pb.1].toArray w0 (fun e w' => e = .returned (B (decide (a = b))) ∧ Chg NoB w0 w') := by
  refine Calls.walk (args := [slv (a).length pa.1, slv (b).length pb.1]) NoB Tryz.func107 rfl rfl ?_
  intro ac β S
  have hlea : a.length ≤ 4194304 := LRd.le ha
  have hleb : b.length ≤ 4194304 := LRd.le hb
  refine wp_seq (RG.start ?_)
  refine S.q 1 [0, 1] 0 ⟨[(0, .v (slv (a).length pa.1)), (1, .v (slv (b).length pb.1))], []⟩ .nil ?_; clear S; intro ac w β S
  refine RG.done rfl (nx_then (wp_seq (wp_seq (RG.start ?_))))
  refine S.q 5 [0, 1, 10] 0 ⟨[(0, .v (slv (a).length pa.1)), (1, .v (slv (b).length pb.1)), (10, .v (B (((a).length : Int) != ((b).length : Int))))], []⟩ .nil ?_; clear S; intro ac w β S
  refine RG.done rfl (nx_then ?_)
  refine S.c (((a).length : Int) != ((b).length : Int)) (fun h1 => ?_) (fun h1 => ?_)
  · have g2 : ¬ (((a).length : Int) = ((b).length : Int)) := bne_iff_ne.1 h1
    refine wp_seq (RG.start ?_)
    refine S.q 1 [4] 0 ⟨[(4, .v (B false))], []⟩ .nil ?_; clear S; intro ac w β S
    refine RG.done rfl (nx_then (wp_ret (rt_then ?_)))
    refine S.r [B false] ?_
    exact ⟨retB (by clear S; first | (simp; intro e; subst e; simp_all; done) | (simp; rw [take_all (by omega), take_all (by omega)] at he; exact he) | (simp; exact take_ne (by simp_all))), S.chg⟩
  · have g3 : ((a).length : Int) = ((b).length : Int) := ne_f h1
    refine wp_skip (nx_then (wp_seq (wp_seq (RG.start ?_))))
    refine S.q 1 [0, 1, 5] 0 ⟨[(0, .v (slv (a).length pa.1)), (1, .v (slv (b).length pb.1)), (5, .v (I 0))], []⟩ .nil ?_; clear S; intro ac w β S
    refine RG.done rfl (nx_then (wp_block ?_))
    replace S := S.p [0, 1, 5] 0 ⟨[(0, .v (slv (a).length pa.1)), (1, .v (slv (b).length pb.1)), (5, .v (I 0))], []⟩
    refine wp_loop_down (fun mm ac w => ∃ (k : Nat)  (u : World) (N : Bl) (β : Nat → Nat), mm = a.length - k ∧ (k ≤ a.length) ∧ (a.length = b.length) ∧ (a.take k = b.take k) ∧ St Tryz.prog Tryz.f107.ntmps w0 NoB u N β ⟨[(0, .v (slv (a).length pa.1)), (1, .v (slv (b).length pb.1)), (5, .v (I (k : Int)))], []⟩ ac w) _ ⟨0, _, _, _, rfl, (by first | omega | (simp; done) | (simp; omega)), (by first | omega | (simp; done) | (simp; omega)), (by simp), S.cast (by kernel_rfl)⟩ ?_
    clear S
    rintro mm ac w ⟨k, u, N, β, rfl, hk, hab, he, S⟩
    refine wp_seq (wp_seq (RG.start ?_))
    refine S.q 4 [0, 1, 5, 14] 0 ⟨[(0, .v (slv (a).length pa.1)), (1, .v (slv (b).length pb.1)), (5, .v (I (k : Int))), (14, .v (B (decide ((k : Int) < ((a).length : Int)))))], []⟩ .nil ?_; clear S; intro ac w β S
    refine RG.done rfl (nx_then ?_)
    refine S.c (decide ((k : Int) < ((a).length : Int))) (fun h4 => ?_) (fun h4 => ?_)
    · have g5 : (k : Int) < ((a).length : Int) := of_decide_eq_true h4
      refine wp_skip (nx_then (wp_seq (wp_block (wp_seq ?_))))
      refine S.drawn (keep := [0, 1, 5, 25]) (m := 0) (σ' := ⟨[(0, .v (slv (a).length pa.1)), (1, .v (slv (b).length pb.1)), (5, .v (I (k : Int))), (25, .v (B (!((el a k) == (el b k)))))], []⟩) (.cons (Q_idx (S.arg ha) (l := (a).length) (k := k) (i := (k : Int)) rfl rfl (by omega) Tryz.underlying51 (by kernel_rfl)) (.cons (Q_el1 (S.arg ha) (t := 4) (k := k) (by omega) rfl (by kernel_rfl)) (.cons (Q_idx (S.arg hb) (l := (b).length) (k := k) (i := (k : Int)) rfl rfl (by omega) Tryz.underlying51 (by kernel_rfl)) (.cons (Q_el1 (S.arg hb) (t := 4) (k := k) (by omega) rfl (by kernel_rfl)) .nil)))) rfl (by kernel_rfl) (by kernel_rfl) ?_
      clear S; intro ac w S
      refine id (nx_then ?_)
      refine S.c (!((el a k) == (el b k))) (fun h6 => ?_) (fun h6 => ?_)
      · have h7 : ((el a k) == (el b k)) = false := not_t h6
        have g8 : ¬ ((el a k) = (el b k)) := ne_of_beq_false h7
        refine wp_seq (RG.start ?_)
        refine S.q 1 [4] 0 ⟨[(4, .v (B false))], []⟩ .nil ?_; clear S; intro ac w β S
        refine RG.done rfl (nx_then (wp_ret (rt_block (rt_then (rt_then (rt_block (rt_then ?_)))))))
        refine S.r [B false] ?_
        exact ⟨retB (by clear S; first | (simp; intro e; subst e; simp_all; done) | (simp; rw [take_all (by omega), take_all (by omega)] at he; exact he) | (simp; exact take_ne (by simp_all))), S.chg⟩
      · have h9 : ((el a k) == (el b k)) = true := not_f h6
        have g10 : (el a k) = (el b k) := eq_of_beq h9
        refine wp_skip (nx_block (nx_then (RG.start ?_)))
        refine S.q 3 [0, 1, 5] 0 ⟨[(0, .v (slv (a).length pa.1)), (1, .v (slv (b).length pb.1)), (5, .v (I ((k : Int) + 1)))], []⟩ (.cons (Q_add (x := (k : Int)) (y := 1) ⟨by omega, by omega⟩) .nil) ?_; clear S; intro ac w β S
        refine RG.done rfl (nx_then ?_)
        replace S := S.p [0, 1, 5] 0 ⟨[(0, .v (slv (a).length pa.1)), (1, .v (slv (b).length pb.1)), (5, .v (I ((k : Int) + 1)))], []⟩
        refine ⟨a.length - (k + 1), by omega, k + 1, _, _, _, rfl, ?_, ?_, ?_, S.cast (by kernel_rfl)⟩
        · clear S; first | omega | (simp [*]; done) | (simp [*]; omega)
        · clear S; first | omega | (simp [*]; done) | (simp [*]; omega)
        · clear S; exact take_eq_step (by omega) (by omega) he (by simp_all)
    · have g11 : ¬ ((k : Int) < ((a).length : Int)) := of_decide_eq_false h4
      refine wp_exit (ex_then (ex_then (ex_hit (nx_then (wp_seq (RG.start ?_))))))
      refine S.q 1 [4] 0 ⟨[(4, .v (B true))], []⟩ .nil ?_; clear S; intro ac w β S
      refine RG.done rfl (nx_then (wp_ret ?_))
      refine S.r [B true] ?_
      exact ⟨retB (by clear S; first | (simp; intro e; subst e; simp_all; done) | (simp; rw [take_all (by omega), take_all (by omega)] at he; exact he) | (simp; exact take_ne (by simp_all))), S.chg⟩

set_option maxRecDepth 100000 in
theorem c_laws_eqIns (w0 : World) (a : TIns) (b : TIns) : Calls Tryz.prog 152 [GT.val a (), GT.val b ()].toArray w0 (fun e w' => e = .returned (B (decide (a = b))) ∧ Chg NoB w0 w') := by
  refine Calls.walk (args := [GT.val a (), GT.val b ()]) NoB Tryz.func152 rfl rfl ?_
  intro ac β S
  refine wp_seq (RG.start ?_)
  refine S.q 3 [2, 3] 2 ⟨[(2, .p 0 0), (3, .p 1 0)], [GT.cells a (), GT.cells b ()]⟩ .nil ?_; clear S; intro ac w β S
  refine RG.done rfl (nx_then (wp_seq (wp_seq (RG.start ?_))))
  refine S.q 5 [2, 3, 9] 2 ⟨[(2, .p 0 0), (3, .p 1 0), (9, .v (B (a.opc != b.opc)))], [GT.cells a (), GT.cells b ()]⟩ .nil ?_; clear S; intro ac w β S
  refine RG.done rfl (nx_then ?_)
  refine S.c (a.opc != b.opc) (fun h1 => ?_) (fun h1 => ?_)
  · have g2 : ¬ (a.opc = b.opc) := bne_iff_ne.1 h1
    refine wp_seq (RG.start ?_)
    refine S.q 1 [4] 0 ⟨[(4, .v (B false))], []⟩ .nil ?_; clear S; intro ac w β S
    refine RG.done rfl (nx_then (wp_ret (rt_then ?_)))
    refine S.r [B false] ?_
    exact ⟨retB (by clear S; first | (simp [TIns.ext_iff, *]; done) | (simp_all [TIns.ext_iff]; done)), S.chg⟩
  · have g3 : a.opc = b.opc := ne_f h1
    refine wp_skip (nx_then (wp_seq (wp_seq (RG.start ?_))))
    refine S.q 5 [14] 0 ⟨[(14, .v (B (a.x != b.x)))], []⟩ .nil ?_; clear S; intro ac w β S
    refine RG.done rfl (nx_then ?_)
    refine S.c (a.x != b.x) (fun h4 => ?_) (fun h4 => ?_)
    · have g5 : ¬ (a.x = b.x) := bne_iff_ne.1 h4
      refine wp_seq (RG.start ?_)
      refine S.q 1 [4] 0 ⟨[(4, .v (B false))], []⟩ .nil ?_; clear S; intro ac w β S
      refine RG.done rfl (nx_then (wp_ret (rt_then ?_)))
      refine S.r [B false] ?_
      exact ⟨retB (by clear S; first | (simp [TIns.ext_iff, *]; done) | (simp_all [TIns.ext_iff]; done)), S.chg⟩
    · have g6 : a.x = b.x := ne_f h4
      refine wp_skip (nx_then (wp_seq (RG.start ?_)))
      refine S.q 1 [4] 0 ⟨[(4, .v (B true))], []⟩ .nil ?_; clear S; intro ac w β S
      refine RG.done rfl (nx_then (wp_ret ?_))
      refine S.r [B true] ?_
      exact ⟨retB (by clear S; first | (simp [TIns.ext_iff, *]; done) | (simp_all [TIns.ext_iff]; done)), S.chg⟩

set_option maxRecDepth 100000 in
theorem c_laws_eqInsS (w0 : World) (a : List TIns) (pa : LP TIns) (ha : GT.rd KK (Lt w0.heap.size) w0 a pa) (b : List TIns) (pb : LP TIns) (hb : GT.rd KK (Lt w0.heap.size) w0 b pb) : Calls Tryz.prog 148 [slv (a).length pa.1, slv (b).length pb.1].toArray w0 (fun e w' => e = .returned (B (decide (a = b))) ∧ Chg NoB w0 w') := by
  refine Calls.walk (args := [slv (a).length pa.1, slv (b).length pb.1]) NoB Tryz.func148 rfl rfl ?_
  intro ac β S
  have hlea : a.length ≤ 4194304 := LRd.le ha
  have hleb : b.length ≤ 4194304 := LRd.le hb
  refine wp_seq (RG.start ?_)
  refine S.q 1 [0, 1] 0 ⟨[(0, .v (slv (a).length pa.1)), (1, .v (slv (b).length pb.1))], []⟩ .nil ?_; clear S; intro ac w β S
  refine RG.done rfl (nx_then (wp_seq (wp_seq (RG.start ?_))))
  refine S.q 5 [0, 1, 10] 0 ⟨[(0, .v (slv (a).length pa.1)), (1, .v (slv (b).length pb.1)), (10, .v (B (((a).length : Int) != ((b).length : Int))))], []⟩ .nil ?_; clear S; intro ac w β S
  refine RG.done rfl (nx_then ?_)
  refine S.c (((a).length : Int) != ((b).length : Int)) (fun h1 => ?_) (fun h1 => ?_)
  · have g2 : ¬ (((a).length : Int) = ((b).length : Int)) := bne_iff_ne.1 h1
    refine wp_seq (RG.start ?_)
    refine S.q 1 [4] 0 ⟨[(4, .v (B false))], []⟩ .nil ?_; clear S; intro ac w β S
    refine RG.done rfl (nx_then (wp_ret (rt_then ?_)))
    refine S.r [B false] ?_
    exact ⟨retB (by clear S; first | (simp; intro e; subst e; simp_all; done) | (simp; rw [take_all (by omega), take_all (by omega)] at he; exact he) | (simp; exact take_ne (by simp_all))), S.chg⟩
  · have g3 : ((a).length : Int) = ((b).length : Int) := ne_f h1
    refine wp_skip (nx_then (wp_seq (wp_seq (RG.start ?_))))
    refine S.q 1 [0, 1, 5] 0 ⟨[(0, .v (slv (a).length pa.1)), (1, .v (slv (b).length pb.1)), (5, .v (I 0))], []⟩ .nil ?_; clear S; intro ac w β S
    refine RG.done rfl (nx_then (wp_block ?_))
    replace S := S.p [0, 1, 5] 0 ⟨[(0, .v (slv (a).length pa.1)), (1, .v (slv (b).length pb.1)), (5, .v (I 0))], []⟩
    refine wp_loop_down (fun mm ac w => ∃ (k : Nat)  (u : World) (N : Bl) (β : Nat → Nat), mm = a.length - k ∧ (k ≤ a.length) ∧ (a.length = b.length) ∧ (a.take k = b.take k) ∧ St Tryz.prog Tryz.f148.ntmps w0 NoB u N β ⟨[(0, .v (slv (a).length pa.1)), (1, .v (slv (b).length pb.1)), (5, .v (I (k : Int)))], []⟩ ac w) _ ⟨0, _, _, _, rfl, (by first | omega | (simp; done) | (simp; omega)), (by first | omega | (simp; done) | (simp; omega)), (by simp), S.cast (by kernel_rfl)⟩ ?_
    clear S
    rintro mm ac w ⟨k, u, N, β, rfl, hk, hab, he, S⟩
    refine wp_seq (wp_seq (RG.start ?_))
    refine S.q 4 [0, 1, 5, 14] 0 ⟨[(0, .v (slv (a).length pa.1)), (1, .v (slv (b).length pb.1)), (5, .v (I (k : Int))), (14, .v (B (decide ((k : Int) < ((a).length : Int)))))], []⟩ .nil ?_; clear S; intro ac w β S
    refine RG.done rfl (nx_then ?_)
    refine S.c (decide ((k : Int) < ((a).length : Int))) (fun h4 => ?_) (fun h4 => ?_)
    · have g5 : (k : Int) < ((a).length : Int) := of_decide_eq_true h4
      refine wp_skip (nx_then (wp_seq (wp_block (wp_seq ?_))))
      refine S.drawn (keep := [0, 1, 5, 26]) (m := 0) (σ' := ⟨[(0, .v (slv (a).length pa.1)), (1, .v (slv (b).length pb.1)), (5, .v (I (k : Int))), (26, .v (B (!(decide ((el a k) = (el b k))))))], []⟩) (.cons (Q_idx (S.arg ha) (l := (a).length) (k := k) (i := (k : Int)) rfl rfl (by omega) Tryz.underlying104 (by kernel_rfl)) (.cons (Q_el (S.arg ha) (t := 163) (k := k) (by omega) rfl (by kernel_rfl) (by kernel_rfl)) (.cons (Q_idx (S.arg hb) (l := (b).length) (k := k) (i := (k : Int)) rfl rfl (by omega) Tryz.underlying104 (by kernel_rfl)) (.cons (Q_el (S.arg hb) (t := 163) (k := k) (by omega) rfl (by kernel_rfl) (by kernel_rfl)) (.cons (Q_call fun w hw => c_laws_eqIns w (el a k) (el b k)) .nil))))) rfl (by kernel_rfl) (by kernel_rfl) ?_
      clear S; intro ac w S
      refine id (nx_then ?_)
      refine S.c (!(decide ((el a k) = (el b k)))) (fun h6 => ?_) (fun h6 => ?_)
      · have h7 : (decide ((el a k) = (el b k))) = false := not_t h6
        have g8 := of_decide_eq_false h7
        refine wp_seq (RG.start ?_)
        refine S.q 1 [4] 0 ⟨[(4, .v (B false))], []⟩ .nil ?_; clear S; intro ac w β S
        refine RG.done rfl (nx_then (wp_ret (rt_block (rt_then (rt_then (rt_block (rt_then ?_)))))))
        refine S.r [B false] ?_
        exact ⟨retB (by clear S; first | (simp; intro e; subst e; simp_all; done) | (simp; rw [take_all (by omega), take_all (by omega)] at he; exact he) | (simp; exact take_ne (by simp_all))), S.chg⟩
      · have h9 : (decide ((el a k) = (el b k))) = true := not_f h6
        have g10 := of_decide_eq_true h9
        refine wp_skip (nx_block (nx_then (RG.start ?_)))
        refine S.q 3 [0, 1, 5] 0 ⟨[(0, .v (slv (a).length pa.1)), (1, .v (slv (b).length pb.1)), (5, .v (I ((k : Int) + 1)))], []⟩ (.cons (Q_add (x := (k : Int)) (y := 1) ⟨by omega, by omega⟩) .nil) ?_; clear S; intro ac w β S
        refine RG.done rfl (nx_then ?_)
        replace S := S.p [0, 1, 5] 0 ⟨[(0, .v (slv (a).length pa.1)), (1, .v (slv (b).length pb.1)), (5, .v (I ((k : Int) + 1)))], []⟩
        refine ⟨a.length - (k + 1), by omega, k + 1, _, _, _, rfl, ?_, ?_, ?_, S.cast (by kernel_rfl)⟩
        · clear S; first | omega | (simp [*]; done) | (simp [*]; omega)
        · clear S; first | omega | (simp [*]; done) | (simp [*]; omega)
        · clear S; exact take_eq_step (by omega) (by omega) he (by simp_all)
    · have g11 : ¬ ((k : Int) < ((a).length : Int)) := of_decide_eq_false h4
      refine wp_exit (ex_then (ex_then (ex_hit (nx_then (wp_seq (RG.start ?_))))))
      refine S.q 1 [4] 0 ⟨[(4, .v (B true))], []⟩ .nil ?_; clear S; intro ac w β S
      refine RG.done rfl (nx_then (wp_ret ?_))
      refine S.r [B true] ?_
      exact ⟨retB (by clear S; first | (simp; intro e; subst e; simp_all; done) | (simp; rw [take_all (by omega), take_all (by omega)] at he; exact he) | (simp; exact take_ne (by simp_all))), S.chg⟩

set_option maxRecDepth 100000 in
theorem c_laws_eqCtl (w0 : World) (a : TCtl) (b : TCtl) : Calls Tryz.prog 149 [GT.val a (), GT.val b ()].toArray w0 (fun e w' => e = .returned (B (decide (a = b))) ∧ Chg NoB w0 w') := by
  refine Calls.walk (args := [GT.val a (), GT.val b ()]) NoB Tryz.func149 rfl rfl ?_
  intro ac β S
  refine wp_seq (RG.start ?_)
  refine S.q 3 [2, 3] 2 ⟨[(2, .p 0 0), (3, .p 1 0)], [GT.cells a (), GT.cells b ()]⟩ .nil ?_; clear S; intro ac w β S
  refine RG.done rfl (nx_then (wp_seq (wp_seq (RG.start ?_))))
  refine S.q 5 [2, 3, 9] 2 ⟨[(2, .p 0 0), (3, .p 1 0), (9, .v (B (a.traps != b.traps)))], [GT.cells a (), GT.cells b ()]⟩ .nil ?_; clear S; intro ac w β S
  refine RG.done rfl (nx_then ?_)
  refine S.c (a.traps != b.traps) (fun h1 => ?_) (fun h1 => ?_)
  · have g2 : ¬ (a.traps = b.traps) := bne_iff_ne.1 h1
    refine wp_seq (RG.start ?_)
    refine S.q 1 [4] 0 ⟨[(4, .v (B false))], []⟩ .nil ?_; clear S; intro ac w β S
    refine RG.done rfl (nx_then (wp_ret (rt_then ?_)))
    refine S.r [B false] ?_
    exact ⟨retB (by clear S; first | (simp [TCtl.ext_iff, *]; done) | (simp_all [TCtl.ext_iff]; done)), S.chg⟩
  · have g3 : a.traps = b.traps := ne_f h1
    refine wp_skip (nx_then (wp_seq (wp_seq (RG.start ?_))))
    refine S.q 5 [2, 3, 14] 2 ⟨[(2, .p 0 0), (3, .p 1 0), (14, .v (B (a.post != b.post)))], [GT.cells a (), GT.cells b ()]⟩ .nil ?_; clear S; intro ac w β S
    refine RG.done rfl (nx_then ?_)
    refine S.c (a.post != b.post) (fun h4 => ?_) (fun h4 => ?_)
    · have g5 : ¬ (a.post = b.post) := bne_iff_ne.1 h4
      refine wp_seq (RG.start ?_)
      refine S.q 1 [4] 0 ⟨[(4, .v (B false))], []⟩ .nil ?_; clear S; intro ac w β S
      refine RG.done rfl (nx_then (wp_ret (rt_then ?_)))
      refine S.r [B false] ?_
      exact ⟨retB (by clear S; first | (simp [TCtl.ext_iff, *]; done) | (simp_all [TCtl.ext_iff]; done)), S.chg⟩
    · have g6 : a.post = b.post := ne_f h4
      refine wp_skip (nx_then (wp_seq (wp_seq (RG.start ?_))))
      refine S.q 5 [19] 0 ⟨[(19, .v (B (!(a.opn == b.opn))))], []⟩ .nil ?_; clear S; intro ac w β S
      refine RG.done rfl (nx_then ?_)
      refine S.c (!(a.opn == b.opn)) (fun h7 => ?_) (fun h7 => ?_)
      · have h8 : (a.opn == b.opn) = false := not_t h7
        have g9 : ¬ (a.opn = b.opn) := ne_of_beq_false h8
        refine wp_seq (RG.start ?_)
        refine S.q 1 [4] 0 ⟨[(4, .v (B false))], []⟩ .nil ?_; clear S; intro ac w β S
        refine RG.done rfl (nx_then (wp_ret (rt_then ?_)))
        refine S.r [B false] ?_
        exact ⟨retB (by clear S; first | (simp [TCtl.ext_iff, *]; done) | (simp_all [TCtl.ext_iff]; done)), S.chg⟩
      · have h10 : (a.opn == b.opn) = true := not_f h7
        have g11 : a.opn = b.opn := eq_of_beq h10
        refine wp_skip (nx_then (wp_seq (RG.start ?_)))
        refine S.q 1 [4] 0 ⟨[(4, .v (B true))], []⟩ .nil ?_; clear S; intro ac w β S
        refine RG.done rfl (nx_then (wp_ret ?_))
        refine S.r [B true] ?_
        exact ⟨retB (by clear S; first | (simp [TCtl.ext_iff, *]; done) | (simp_all [TCtl.ext_iff]; done)), S.chg⟩

set_option maxRecDepth 100000 in
theorem c_laws_eqExit (w0 : World) (a : TExit) (b : TExit) : Calls Tryz.prog 150 [GT.val a (), GT.val b ()].toArray w0 (fun e w' => e = .returned (B (decide (a = b))) ∧ Chg NoB w0 w') := by
  refine Calls.walk (args := [GT.val a (), GT.val b ()]) NoB Tryz.func150 rfl rfl ?_
  intro ac β S
  refine wp_seq (RG.start ?_)
  refine S.q 3 [2, 3] 2 ⟨[(2, .p 0 0), (3, .p 1 0)], [GT.cells a (), GT.cells b ()]⟩ .nil ?_; clear S; intro ac w β S
  refine RG.done rfl (nx_then (wp_seq (wp_seq (RG.start ?_))))
  refine S.q 5 [2, 3, 9] 2 ⟨[(2, .p 0 0), (3, .p 1 0), (9, .v (B (a.kind != b.kind)))], [GT.cells a (), GT.cells b ()]⟩ .nil ?_; clear S; intro ac w β S
  refine RG.done rfl (nx_then ?_)
  refine S.c (a.kind != b.kind) (fun h1 => ?_) (fun h1 => ?_)
  · have g2 : ¬ (a.kind = b.kind) := bne_iff_ne.1 h1
    refine wp_seq (RG.start ?_)
    refine S.q 1 [4] 0 ⟨[(4, .v (B false))], []⟩ .nil ?_; clear S; intro ac w β S
    refine RG.done rfl (nx_then (wp_ret (rt_then ?_)))
    refine S.r [B false] ?_
    exact ⟨retB (by clear S; first | (simp [TExit.ext_iff, *]; done) | (simp_all [TExit.ext_iff]; done)), S.chg⟩
  · have g3 : a.kind = b.kind := ne_f h1
    refine wp_skip (nx_then (wp_seq (wp_seq (RG.start ?_))))
    refine S.q 5 [2, 3, 14] 2 ⟨[(2, .p 0 0), (3, .p 1 0), (14, .v (B (a.page != b.page)))], [GT.cells a (), GT.cells b ()]⟩ .nil ?_; clear S; intro ac w β S
    refine RG.done rfl (nx_then ?_)
    refine S.c (a.page != b.page) (fun h4 => ?_) (fun h4 => ?_)
    · have g5 : ¬ (a.page = b.page) := bne_iff_ne.1 h4
      refine wp_seq (RG.start ?_)
      refine S.q 1 [4] 0 ⟨[(4, .v (B false))], []⟩ .nil ?_; clear S; intro ac w β S
      refine RG.done rfl (nx_then (wp_ret (rt_then ?_)))
      refine S.r [B false] ?_
      exact ⟨retB (by clear S; first | (simp [TExit.ext_iff, *]; done) | (simp_all [TExit.ext_iff]; done)), S.chg⟩
    · have g6 : a.page = b.page := ne_f h4
      refine wp_skip (nx_then (wp_seq (wp_seq (RG.start ?_))))
      refine S.q 5 [2, 3, 19] 2 ⟨[(2, .p 0 0), (3, .p 1 0), (19, .v (B (!(a.wr == b.wr))))], [GT.cells a (), GT.cells b ()]⟩ .nil ?_; clear S; intro ac w β S
      refine RG.done rfl (nx_then ?_)
      refine S.c (!(a.wr == b.wr)) (fun h7 => ?_) (fun h7 => ?_)
      · have h8 : (a.wr == b.wr) = false := not_t h7
        have g9 : ¬ (a.wr = b.wr) := ne_of_beq_false h8
        refine wp_seq (RG.start ?_)
        refine S.q 1 [4] 0 ⟨[(4, .v (B false))], []⟩ .nil ?_; clear S; intro ac w β S
        refine RG.done rfl (nx_then (wp_ret (rt_then ?_)))
        refine S.r [B false] ?_
        exact ⟨retB (by clear S; first | (simp [TExit.ext_iff, *]; done) | (simp_all [TExit.ext_iff]; done)), S.chg⟩
      · have h10 : (a.wr == b.wr) = true := not_f h7
        have g11 : a.wr = b.wr := eq_of_beq h10
        refine wp_skip (nx_then (wp_seq (wp_seq (RG.start ?_))))
        refine S.q 5 [24] 0 ⟨[(24, .v (B (a.n != b.n)))], []⟩ .nil ?_; clear S; intro ac w β S
        refine RG.done rfl (nx_then ?_)
        refine S.c (a.n != b.n) (fun h12 => ?_) (fun h12 => ?_)
        · have g13 : ¬ (a.n = b.n) := bne_iff_ne.1 h12
          refine wp_seq (RG.start ?_)
          refine S.q 1 [4] 0 ⟨[(4, .v (B false))], []⟩ .nil ?_; clear S; intro ac w β S
          refine RG.done rfl (nx_then (wp_ret (rt_then ?_)))
          refine S.r [B false] ?_
          exact ⟨retB (by clear S; first | (simp [TExit.ext_iff, *]; done) | (simp_all [TExit.ext_iff]; done)), S.chg⟩
        · have g14 : a.n = b.n := ne_f h12
          refine wp_skip (nx_then (wp_seq (RG.start ?_)))
          refine S.q 1 [4] 0 ⟨[(4, .v (B true))], []⟩ .nil ?_; clear S; intro ac w β S
          refine RG.done rfl (nx_then (wp_ret ?_))
          refine S.r [B true] ?_
          exact ⟨retB (by clear S; first | (simp [TExit.ext_iff, *]; done) | (simp_all [TExit.ext_iff]; done)), S.chg⟩

set_option maxRecDepth 100000 in
theorem c_laws_eqGuest (w0 : World) (a : TGuest) (pa : PGuest) (ha : GT.rd KK (Lt w0.heap.size) w0 a pa) (b : TGuest) (pb : PGuest) (hb : GT.rd KK (Lt w0.heap.size) w0 b pb) : Calls Tryz.prog 138 [GT.val a pa, GT.val b pb].toArray w0 (fun e w' => e = .returned (B (decide (a = b))) ∧ Chg NoB w0 w') := by
  refine Calls.walk (args := [GT.val a pa, GT.val b pb]) NoB Tryz.func138 rfl rfl ?_
  intro ac β S
  have hlea_prog : a.prog.length ≤ 4194304 := LRd.le (RGuest.prog (d := a) ha)
  have hlea_written : a.written.length ≤ 4194304 := LRd.le (RGuest.written (d := a) ha)
  have hlea_live : a.live.length ≤ 4194304 := LRd.le (RGuest.live (d := a) ha)
  have hlea_seen : a.seen.length ≤ 4194304 := LRd.le (RGuest.seen (d := a) ha)
  have hleb_prog : b.prog.length ≤ 4194304 := LRd.le (RGuest.prog (d := b) hb)
  have hleb_written : b.written.length ≤ 4194304 := LRd.le (RGuest.written (d := b) hb)
  have hleb_live : b.live.length ≤ 4194304 := LRd.le (RGuest.live (d := b) hb)
  have hleb_seen : b.seen.length ≤ 4194304 := LRd.le (RGuest.seen (d := b) hb)
  refine wp_seq (RG.start ?_)
  refine S.q 3 [2, 3] 2 ⟨[(2, .p 0 0), (3, .p 1 0)], [GT.cells a pa, GT.cells b pb]⟩ .nil ?_; clear S; intro ac w β S
  refine RG.done rfl (nx_then (wp_seq (wp_seq (RG.start ?_))))
  refine S.q 6 [2, 3, 10] 2 ⟨[(2, .p 0 0), (3, .p 1 0), (10, .v (B (!(decide (a.prog = b.prog)))))], [GT.cells a pa, GT.cells b pb]⟩ (.cons (Q_call fun w hw => c_laws_eqInsS w a.prog pa.prog (rd_of (RGuest.prog (d := a) (S.arg ha)) hw) b.prog pb.prog (rd_of (RGuest.prog (d := b) (S.arg hb)) hw)) .nil) ?_; clear S; intro ac w β S
  refine RG.done rfl (nx_then ?_)
  refine S.c (!(decide (a.prog = b.prog))) (fun h1 => ?_) (fun h1 => ?_)
  · have h2 : (decide (a.prog = b.prog)) = false := not_t h1
    have g3 := of_decide_eq_false h2
    refine wp_seq (RG.start ?_)
    refine S.q 1 [4] 0 ⟨[(4, .v (B false))], []⟩ .nil ?_; clear S; intro ac w β S
    refine RG.done rfl (nx_then (wp_ret (rt_then ?_)))
    refine S.r [B false] ?_
    exact ⟨retB (by clear S; first | (simp [TGuest.ext_iff, *]; done) | (simp_all [TGuest.ext_iff]; done)), S.chg⟩
  · have h4 : (decide (a.prog = b.prog)) = true := not_f h1
    have g5 := of_decide_eq_true h4
    refine wp_skip (nx_then (wp_seq (wp_seq (RG.start ?_))))
    refine S.q 5 [2, 3, 15] 2 ⟨[(2, .p 0 0), (3, .p 1 0), (15, .v (B (a.acc != b.acc)))], [GT.cells a pa, GT.cells b pb]⟩ .nil ?_; clear S; intro ac w β S
    refine RG.done rfl (nx_then ?_)
    refine S.c (a.acc != b.acc) (fun h6 => ?_) (fun h6 => ?_)
    · have g7 : ¬ (a.acc = b.acc) := bne_iff_ne.1 h6
      refine wp_seq (RG.start ?_)
      refine S.q 1 [4] 0 ⟨[(4, .v (B false))], []⟩ .nil ?_; clear S; intro ac w β S
      refine RG.done rfl (nx_then (wp_ret (rt_then ?_)))
      refine S.r [B false] ?_
      exact ⟨retB (by clear S; first | (simp [TGuest.ext_iff, *]; done) | (simp_all [TGuest.ext_iff]; done)), S.chg⟩
    · have g8 : a.acc = b.acc := ne_f h6
      refine wp_skip (nx_then (wp_seq (wp_seq (RG.start ?_))))
      refine S.q 5 [2, 3, 20] 2 ⟨[(2, .p 0 0), (3, .p 1 0), (20, .v (B (a.pc != b.pc)))], [GT.cells a pa, GT.cells b pb]⟩ .nil ?_; clear S; intro ac w β S
      refine RG.done rfl (nx_then ?_)
      refine S.c (a.pc != b.pc) (fun h9 => ?_) (fun h9 => ?_)
      · have g10 : ¬ (a.pc = b.pc) := bne_iff_ne.1 h9
        refine wp_seq (RG.start ?_)
        refine S.q 1 [4] 0 ⟨[(4, .v (B false))], []⟩ .nil ?_; clear S; intro ac w β S
        refine RG.done rfl (nx_then (wp_ret (rt_then ?_)))
        refine S.r [B false] ?_
        exact ⟨retB (by clear S; first | (simp [TGuest.ext_iff, *]; done) | (simp_all [TGuest.ext_iff]; done)), S.chg⟩
      · have g11 : a.pc = b.pc := ne_f h9
        refine wp_skip (nx_then (wp_seq (wp_seq (RG.start ?_))))
        refine S.q 6 [2, 3, 26] 2 ⟨[(2, .p 0 0), (3, .p 1 0), (26, .v (B (!(decide (a.written = b.written)))))], [GT.cells a pa, GT.cells b pb]⟩ (.cons (Q_call fun w hw => c_laws_eqSlotS w a.written pa.written (rd_of (RGuest.written (d := a) (S.arg ha)) hw) b.written pb.written (rd_of (RGuest.written (d := b) (S.arg hb)) hw)) .nil) ?_; clear S; intro ac w β S
        refine RG.done rfl (nx_then ?_)
        refine S.c (!(decide (a.written = b.written))) (fun h12 => ?_) (fun h12 => ?_)
        · have h13 : (decide (a.written = b.written)) = false := not_t h12
          have g14 := of_decide_eq_false h13
          refine wp_seq (RG.start ?_)
          refine S.q 1 [4] 0 ⟨[(4, .v (B false))], []⟩ .nil ?_; clear S; intro ac w β S
          refine RG.done rfl (nx_then (wp_ret (rt_then ?_)))
          refine S.r [B false] ?_
          exact ⟨retB (by clear S; first | (simp [TGuest.ext_iff, *]; done) | (simp_all [TGuest.ext_iff]; done)), S.chg⟩
        · have h15 : (decide (a.written = b.written)) = true := not_f h12
          have g16 := of_decide_eq_true h15
          refine wp_skip (nx_then (wp_seq (wp_seq (RG.start ?_))))
          refine S.q 6 [2, 3, 32] 2 ⟨[(2, .p 0 0), (3, .p 1 0), (32, .v (B (!(decide (a.live = b.live)))))], [GT.cells a pa, GT.cells b pb]⟩ (.cons (Q_call fun w hw => c_laws_eqSlotS w a.live pa.live (rd_of (RGuest.live (d := a) (S.arg ha)) hw) b.live pb.live (rd_of (RGuest.live (d := b) (S.arg hb)) hw)) .nil) ?_; clear S; intro ac w β S
          refine RG.done rfl (nx_then ?_)
          refine S.c (!(decide (a.live = b.live))) (fun h17 => ?_) (fun h17 => ?_)
          · have h18 : (decide (a.live = b.live)) = false := not_t h17
            have g19 := of_decide_eq_false h18
            refine wp_seq (RG.start ?_)
            refine S.q 1 [4] 0 ⟨[(4, .v (B false))], []⟩ .nil ?_; clear S; intro ac w β S
            refine RG.done rfl (nx_then (wp_ret (rt_then ?_)))
            refine S.r [B false] ?_
            exact ⟨retB (by clear S; first | (simp [TGuest.ext_iff, *]; done) | (simp_all [TGuest.ext_iff]; done)), S.chg⟩
          · have h20 : (decide (a.live = b.live)) = true := not_f h17
            have g21 := of_decide_eq_true h20
            refine wp_skip (nx_then (wp_seq (wp_seq (RG.start ?_))))
            refine S.q 6 [2, 3, 38] 2 ⟨[(2, .p 0 0), (3, .p 1 0), (38, .v (B (!(decide (a.ctl = b.ctl)))))], [GT.cells a pa, GT.cells b pb]⟩ (.cons (Q_call fun w hw => c_laws_eqCtl w a.ctl b.ctl) .nil) ?_; clear S; intro ac w β S
            refine RG.done rfl (nx_then ?_)
            refine S.c (!(decide (a.ctl = b.ctl))) (fun h22 => ?_) (fun h22 => ?_)
            · have h23 : (decide (a.ctl = b.ctl)) = false := not_t h22
              have g24 := of_decide_eq_false h23
              refine wp_seq (RG.start ?_)
              refine S.q 1 [4] 0 ⟨[(4, .v (B false))], []⟩ .nil ?_; clear S; intro ac w β S
              refine RG.done rfl (nx_then (wp_ret (rt_then ?_)))
              refine S.r [B false] ?_
              exact ⟨retB (by clear S; first | (simp [TGuest.ext_iff, *]; done) | (simp_all [TGuest.ext_iff]; done)), S.chg⟩
            · have h25 : (decide (a.ctl = b.ctl)) = true := not_f h22
              have g26 := of_decide_eq_true h25
              refine wp_skip (nx_then (wp_seq (wp_seq (RG.start ?_))))
              refine S.q 5 [2, 3, 43] 2 ⟨[(2, .p 0 0), (3, .p 1 0), (43, .v (B (a.pend != b.pend)))], [GT.cells a pa, GT.cells b pb]⟩ .nil ?_; clear S; intro ac w β S
              refine RG.done rfl (nx_then ?_)
              refine S.c (a.pend != b.pend) (fun h27 => ?_) (fun h27 => ?_)
              · have g28 : ¬ (a.pend = b.pend) := bne_iff_ne.1 h27
                refine wp_seq (RG.start ?_)
                refine S.q 1 [4] 0 ⟨[(4, .v (B false))], []⟩ .nil ?_; clear S; intro ac w β S
                refine RG.done rfl (nx_then (wp_ret (rt_then ?_)))
                refine S.r [B false] ?_
                exact ⟨retB (by clear S; first | (simp [TGuest.ext_iff, *]; done) | (simp_all [TGuest.ext_iff]; done)), S.chg⟩
              · have g29 : a.pend = b.pend := ne_f h27
                refine wp_skip (nx_then (wp_seq (wp_seq (RG.start ?_))))
                refine S.q 6 [2, 3, 49] 2 ⟨[(2, .p 0 0), (3, .p 1 0), (49, .v (B (!(decide (a.exit = b.exit)))))], [GT.cells a pa, GT.cells b pb]⟩ (.cons (Q_call fun w hw => c_laws_eqExit w a.exit b.exit) .nil) ?_; clear S; intro ac w β S
                refine RG.done rfl (nx_then ?_)
                refine S.c (!(decide (a.exit = b.exit))) (fun h30 => ?_) (fun h30 => ?_)
                · have h31 : (decide (a.exit = b.exit)) = false := not_t h30
                  have g32 := of_decide_eq_false h31
                  refine wp_seq (RG.start ?_)
                  refine S.q 1 [4] 0 ⟨[(4, .v (B false))], []⟩ .nil ?_; clear S; intro ac w β S
                  refine RG.done rfl (nx_then (wp_ret (rt_then ?_)))
                  refine S.r [B false] ?_
                  exact ⟨retB (by clear S; first | (simp [TGuest.ext_iff, *]; done) | (simp_all [TGuest.ext_iff]; done)), S.chg⟩
                · have h33 : (decide (a.exit = b.exit)) = true := not_f h30
                  have g34 := of_decide_eq_true h33
                  refine wp_skip (nx_then (wp_seq (wp_seq (RG.start ?_))))
                  refine S.q 5 [2, 3, 54] 2 ⟨[(2, .p 0 0), (3, .p 1 0), (54, .v (B (!(a.halted == b.halted))))], [GT.cells a pa, GT.cells b pb]⟩ .nil ?_; clear S; intro ac w β S
                  refine RG.done rfl (nx_then ?_)
                  refine S.c (!(a.halted == b.halted)) (fun h35 => ?_) (fun h35 => ?_)
                  · have h36 : (a.halted == b.halted) = false := not_t h35
                    have g37 : ¬ (a.halted = b.halted) := ne_of_beq_false h36
                    refine wp_seq (RG.start ?_)
                    refine S.q 1 [4] 0 ⟨[(4, .v (B false))], []⟩ .nil ?_; clear S; intro ac w β S
                    refine RG.done rfl (nx_then (wp_ret (rt_then ?_)))
                    refine S.r [B false] ?_
                    exact ⟨retB (by clear S; first | (simp [TGuest.ext_iff, *]; done) | (simp_all [TGuest.ext_iff]; done)), S.chg⟩
                  · have h38 : (a.halted == b.halted) = true := not_f h35
                    have g39 : a.halted = b.halted := eq_of_beq h38
                    refine wp_skip (nx_then (wp_seq (wp_seq (RG.start ?_))))
                    refine S.q 6 [60] 0 ⟨[(60, .v (B (!(decide (a.seen = b.seen)))))], []⟩ (.cons (Q_call fun w hw => c_laws_eqIntS w a.seen pa.seen (rd_of (RGuest.seen (d := a) (S.arg ha)) hw) b.seen pb.seen (rd_of (RGuest.seen (d := b) (S.arg hb)) hw)) .nil) ?_; clear S; intro ac w β S
                    refine RG.done rfl (nx_then ?_)
                    refine S.c (!(decide (a.seen = b.seen))) (fun h40 => ?_) (fun h40 => ?_)
                    · have h41 : (decide (a.seen = b.seen)) = false := not_t h40
                      have g42 := of_decide_eq_false h41
                      refine wp_seq (RG.start ?_)
                      refine S.q 1 [4] 0 ⟨[(4, .v (B false))], []⟩ .nil ?_; clear S; intro ac w β S
                      refine RG.done rfl (nx_then (wp_ret (rt_then ?_)))
                      refine S.r [B false] ?_
                      exact ⟨retB (by clear S; first | (simp [TGuest.ext_iff, *]; done) | (simp_all [TGuest.ext_iff]; done)), S.chg⟩
                    · have h43 : (decide (a.seen = b.seen)) = true := not_f h40
                      have g44 := of_decide_eq_true h43
                      refine wp_skip (nx_then (wp_seq (RG.start ?_)))
                      refine S.q 1 [4] 0 ⟨[(4, .v (B true))], []⟩ .nil ?_; clear S; intro ac w β S
                      refine RG.done rfl (nx_then (wp_ret ?_))
                      refine S.r [B true] ?_
                      exact ⟨retB (by clear S; first | (simp [TGuest.ext_iff, *]; done) | (simp_all [TGuest.ext_iff]; done)), S.chg⟩

set_option maxRecDepth 100000 in
theorem c_laws_eqGuestS (w0 : World) (a : List TGuest) (pa : LP TGuest) (ha : GT.rd KK (Lt w0.heap.size) w0 a pa) (b : List TGuest) (pb : LP TGuest) (hb : GT.rd KK (Lt w0.heap.size) w0 b pb) : Calls Tryz.prog 108 [slv (a).length pa.1, slv (b).length pb.1].toArray w0 (fun e w' => e = .returned (B (decide (a = b))) ∧ Chg NoB w0 w') := by
  refine Calls.walk (args := [slv (a).length pa.1, slv (b).length pb.1]) NoB Tryz.func108 rfl rfl ?_
  intro ac β S
  have hlea : a.length ≤ 4194304 := LRd.le ha
  have hleb : b.length ≤ 4194304 := LRd.le hb
  refine wp_seq (RG.start ?_)
  refine S.q 1 [0, 1] 0 ⟨[(0, .v (slv (a).length pa.1)), (1, .v (slv (b).length pb.1))], []⟩ .nil ?_; clear S; intro ac w β S
  refine RG.done rfl (nx_then (wp_seq (wp_seq (RG.start ?_))))
  refine S.q 5 [0, 1, 10] 0 ⟨[(0, .v (slv (a).length pa.1)), (1, .v (slv (b).length pb.1)), (10, .v (B (((a).length : Int) != ((b).length : Int))))], []⟩ .nil ?_; clear S; intro ac w β S
  refine RG.done rfl (nx_then ?_)
  refine S.c (((a).length : Int) != ((b).length : Int)) (fun h1 => ?_) (fun h1 => ?_)
  · have g2 : ¬ (((a).length : Int) = ((b).length : Int)) := bne_iff_ne.1 h1
    refine wp_seq (RG.start ?_)
    refine S.q 1 [4] 0 ⟨[(4, .v (B false))], []⟩ .nil ?_; clear S; intro ac w β S
    refine RG.done rfl (nx_then (wp_ret (rt_then ?_)))
    refine S.r [B false] ?_
    exact ⟨retB (by clear S; first | (simp; intro e; subst e; simp_all; done) | (simp; rw [take_all (by omega), take_all (by omega)] at he; exact he) | (simp; exact take_ne (by simp_all))), S.chg⟩
  · have g3 : ((a).length : Int) = ((b).length : Int) := ne_f h1
    refine wp_skip (nx_then (wp_seq (wp_seq (RG.start ?_))))
    refine S.q 1 [0, 1, 5] 0 ⟨[(0, .v (slv (a).length pa.1)), (1, .v (slv (b).length pb.1)), (5, .v (I 0))], []⟩ .nil ?_; clear S; intro ac w β S
    refine RG.done rfl (nx_then (wp_block ?_))
    replace S := S.p [0, 1, 5] 0 ⟨[(0, .v (slv (a).length pa.1)), (1, .v (slv (b).length pb.1)), (5, .v (I 0))], []⟩
    refine wp_loop_down (fun mm ac w => ∃ (k : Nat)  (u : World) (N : Bl) (β : Nat → Nat), mm = a.length - k ∧ (k ≤ a.length) ∧ (a.length = b.length) ∧ (a.take k = b.take k) ∧ St Tryz.prog Tryz.f108.ntmps w0 NoB u N β ⟨[(0, .v (slv (a).length pa.1)), (1, .v (slv (b).length pb.1)), (5, .v (I (k : Int)))], []⟩ ac w) _ ⟨0, _, _, _, rfl, (by first | omega | (simp; done) | (simp; omega)), (by first | omega | (simp; done) | (simp; omega)), (by simp), S.cast (by kernel_rfl)⟩ ?_
    clear S
    rintro mm ac w ⟨k, u, N, β, rfl, hk, hab, he, S⟩
    refine wp_seq (wp_seq (RG.start ?_))
    refine S.q 4 [0, 1, 5, 14] 0 ⟨[(0, .v (slv (a).length pa.1)), (1, .v (slv (b).length pb.1)), (5, .v (I (k : Int))), (14, .v (B (decide ((k : Int) < ((a).length : Int)))))], []⟩ .nil ?_; clear S; intro ac w β S
    refine RG.done rfl (nx_then ?_)
    refine S.c (decide ((k : Int) < ((a).length : Int))) (fun h4 => ?_) (fun h4 => ?_)
    · have g5 : (k : Int) < ((a).length : Int) := of_decide_eq_true h4
      refine wp_skip (nx_then (wp_seq (wp_block (wp_seq ?_))))
      refine S.drawn (keep := [0, 1, 5, 26]) (m := 0) (σ' := ⟨[(0, .v (slv (a).length pa.1)), (1, .v (slv (b).length pb.1)), (5, .v (I (k : Int))), (26, .v (B (!(decide ((el a k) = (el b k))))))], []⟩) (.cons (Q_idx (S.arg ha) (l := (a).length) (k := k) (i := (k : Int)) rfl rfl (by omega) Tryz.underlying52 (by kernel_rfl)) (.cons (Q_el (S.arg ha) (t := 108) (k := k) (by omega) rfl (by kernel_rfl) (by kernel_rfl)) (.cons (Q_idx (S.arg hb) (l := (b).length) (k := k) (i := (k : Int)) rfl rfl (by omega) Tryz.underlying52 (by kernel_rfl)) (.cons (Q_el (S.arg hb) (t := 108) (k := k) (by omega) rfl (by kernel_rfl) (by kernel_rfl)) (.cons (Q_call fun w hw => c_laws_eqGuest w (el a k) (pa.2 k) (rd_of (LRd.el (S.arg ha) k (by omega)) hw) (el b k) (pb.2 k) (rd_of (LRd.el (S.arg hb) k (by omega)) hw)) .nil))))) rfl (by kernel_rfl) (by kernel_rfl) ?_
      clear S; intro ac w S
      refine id (nx_then ?_)
      refine S.c (!(decide ((el a k) = (el b k)))) (fun h6 => ?_) (fun h6 => ?_)
      · have h7 : (decide ((el a k) = (el b k))) = false := not_t h6
        have g8 := of_decide_eq_false h7
        refine wp_seq (RG.start ?_)
        refine S.q 1 [4] 0 ⟨[(4, .v (B false))], []⟩ .nil ?_; clear S; intro ac w β S
        refine RG.done rfl (nx_then (wp_ret (rt_block (rt_then (rt_then (rt_block (rt_then ?_)))))))
        refine S.r [B false] ?_
        exact ⟨retB (by clear S; first | (simp; intro e; subst e; simp_all; done) | (simp; rw [take_all (by omega), take_all (by omega)] at he; exact he) | (simp; exact take_ne (by simp_all))), S.chg⟩
      · have h9 : (decide ((el a k) = (el b k))) = true := not_f h6
        have g10 := of_decide_eq_true h9
        refine wp_skip (nx_block (nx_then (RG.start ?_)))
        refine S.q 3 [0, 1, 5] 0 ⟨[(0, .v (slv (a).length pa.1)), (1, .v (slv (b).length pb.1)), (5, .v (I ((k : Int) + 1)))], []⟩ (.cons (Q_add (x := (k : Int)) (y := 1) ⟨by omega, by omega⟩) .nil) ?_; clear S; intro ac w β S
        refine RG.done rfl (nx_then ?_)
        replace S := S.p [0, 1, 5] 0 ⟨[(0, .v (slv (a).length pa.1)), (1, .v (slv (b).length pb.1)), (5, .v (I ((k : Int) + 1)))], []⟩
        refine ⟨a.length - (k + 1), by omega, k + 1, _, _, _, rfl, ?_, ?_, ?_, S.cast (by kernel_rfl)⟩
        · clear S; first | omega | (simp [*]; done) | (simp [*]; omega)
        · clear S; first | omega | (simp [*]; done) | (simp [*]; omega)
        · clear S; exact take_eq_step (by omega) (by omega) he (by simp_all)
    · have g11 : ¬ ((k : Int) < ((a).length : Int)) := of_decide_eq_false h4
      refine wp_exit (ex_then (ex_then (ex_hit (nx_then (wp_seq (RG.start ?_))))))
      refine S.q 1 [4] 0 ⟨[(4, .v (B true))], []⟩ .nil ?_; clear S; intro ac w β S
      refine RG.done rfl (nx_then (wp_ret ?_))
      refine S.r [B true] ?_
      exact ⟨retB (by clear S; first | (simp; intro e; subst e; simp_all; done) | (simp; rw [take_all (by omega), take_all (by omega)] at he; exact he) | (simp; exact take_ne (by simp_all))), S.chg⟩

set_option maxRecDepth 100000 in
theorem c_laws_eqKept (w0 : World) (a : TKept) (pa : PKept) (ha : GT.rd KK (Lt w0.heap.size) w0 a pa) (b : TKept) (pb : PKept) (hb : GT.rd KK (Lt w0.heap.size) w0 b pb) : Calls Tryz.prog 139 [GT.val a pa, GT.val b pb].toArray w0 (fun e w' => e = .returned (B (decide (a = b))) ∧ Chg NoB w0 w') := by
  refine Calls.walk (args := [GT.val a pa, GT.val b pb]) NoB Tryz.func139 rfl rfl ?_
  intro ac β S
  have hlea_known : a.known.length ≤ 4194304 := LRd.le (RKept.known (d := a) ha)
  have hlea_slots : a.slots.length ≤ 4194304 := LRd.le (RKept.slots (d := a) ha)
  have hleb_known : b.known.length ≤ 4194304 := LRd.le (RKept.known (d := b) hb)
  have hleb_slots : b.slots.length ≤ 4194304 := LRd.le (RKept.slots (d := b) hb)
  refine wp_seq (RG.start ?_)
  refine S.q 3 [2, 3] 2 ⟨[(2, .p 0 0), (3, .p 1 0)], [GT.cells a pa, GT.cells b pb]⟩ .nil ?_; clear S; intro ac w β S
  refine RG.done rfl (nx_then (wp_seq (wp_seq (RG.start ?_))))
  refine S.q 6 [2, 3, 10] 2 ⟨[(2, .p 0 0), (3, .p 1 0), (10, .v (B (!(decide (a.known = b.known)))))], [GT.cells a pa, GT.cells b pb]⟩ (.cons (Q_call fun w hw => c_laws_eqBoolS w a.known pa.known (rd_of (RKept.known (d := a) (S.arg ha)) hw) b.known pb.known (rd_of (RKept.known (d := b) (S.arg hb)) hw)) .nil) ?_; clear S; intro ac w β S
  refine RG.done rfl (nx_then ?_)
  refine S.c (!(decide (a.known = b.known))) (fun h1 => ?_) (fun h1 => ?_)
  · have h2 : (decide (a.known = b.known)) = false := not_t h1
    have g3 := of_decide_eq_false h2
    refine wp_seq (RG.start ?_)
    refine S.q 1 [4] 0 ⟨[(4, .v (B false))], []⟩ .nil ?_; clear S; intro ac w β S
    refine RG.done rfl (nx_then (wp_ret (rt_then ?_)))
    refine S.r [B false] ?_
    exact ⟨retB (by clear S; first | (simp [TKept.ext_iff, *]; done) | (simp_all [TKept.ext_iff]; done)), S.chg⟩
  · have h4 : (decide (a.known = b.known)) = true := not_f h1
    have g5 := of_decide_eq_true h4
    refine wp_skip (nx_then (wp_seq (wp_seq (RG.start ?_))))
    refine S.q 6 [16] 0 ⟨[(16, .v (B (!(decide (a.slots = b.slots)))))], []⟩ (.cons (Q_call fun w hw => c_laws_eqSlotS w a.slots pa.slots (rd_of (RKept.slots (d := a) (S.arg ha)) hw) b.slots pb.slots (rd_of (RKept.slots (d := b) (S.arg hb)) hw)) .nil) ?_; clear S; intro ac w β S
    refine RG.done rfl (nx_then ?_)
    refine S.c (!(decide (a.slots = b.slots))) (fun h6 => ?_) (fun h6 => ?_)
    · have h7 : (decide (a.slots = b.slots)) = false := not_t h6
      have g8 := of_decide_eq_false h7
      refine wp_seq (RG.start ?_)
      refine S.q 1 [4] 0 ⟨[(4, .v (B false))], []⟩ .nil ?_; clear S; intro ac w β S
      refine RG.done rfl (nx_then (wp_ret (rt_then ?_)))
      refine S.r [B false] ?_
      exact ⟨retB (by clear S; first | (simp [TKept.ext_iff, *]; done) | (simp_all [TKept.ext_iff]; done)), S.chg⟩
    · have h9 : (decide (a.slots = b.slots)) = true := not_f h6
      have g10 := of_decide_eq_true h9
      refine wp_skip (nx_then (wp_seq (RG.start ?_)))
      refine S.q 1 [4] 0 ⟨[(4, .v (B true))], []⟩ .nil ?_; clear S; intro ac w β S
      refine RG.done rfl (nx_then (wp_ret ?_))
      refine S.r [B true] ?_
      exact ⟨retB (by clear S; first | (simp [TKept.ext_iff, *]; done) | (simp_all [TKept.ext_iff]; done)), S.chg⟩

set_option maxRecDepth 100000 in
theorem c_laws_eqKeptS (w0 : World) (a : List TKept) (pa : LP TKept) (ha : GT.rd KK (Lt w0.heap.size) w0 a pa) (b : List TKept) (pb : LP TKept) (hb : GT.rd KK (Lt w0.heap.size) w0 b pb) : Calls Tryz.prog 109 [slv (a).length pa.1, slv (b).length pb.1].toArray w0 (fun e w' => e = .returned (B (decide (a = b))) ∧ Chg NoB w0 w') := by
  refine Calls.walk (args := [slv (a).length pa.1, slv (b).length pb.1]) NoB Tryz.func109 rfl rfl ?_
  intro ac β S
  have hlea : a.length ≤ 4194304 := LRd.le ha
  have hleb : b.length ≤ 4194304 := LRd.le hb
  refine wp_seq (RG.start ?_)
  refine S.q 1 [0, 1] 0 ⟨[(0, .v (slv (a).length pa.1)), (1, .v (slv (b).length pb.1))], []⟩ .nil ?_; clear S; intro ac w β S
  refine RG.done rfl (nx_then (wp_seq (wp_seq (RG.start ?_))))
  refine S.q 5 [0, 1, 10] 0 ⟨[(0, .v (slv (a).length pa.1)), (1, .v (slv (b).length pb.1)), (10, .v (B (((a).length : Int) != ((b).length : Int))))], []⟩ .nil ?_; clear S; intro ac w β S
  refine RG.done rfl (nx_then ?_)
  refine S.c (((a).length : Int) != ((b).length : Int)) (fun h1 => ?_) (fun h1 => ?_)
  · have g2 : ¬ (((a).length : Int) = ((b).length : Int)) := bne_iff_ne.1 h1
    refine wp_seq (RG.start ?_)
    refine S.q 1 [4] 0 ⟨[(4, .v (B false))], []⟩ .nil ?_; clear S; intro ac w β S
    refine RG.done rfl (nx_then (wp_ret (rt_then ?_)))
    refine S.r [B false] ?_
    exact ⟨retB (by clear S; first | (simp; intro e; subst e; simp_all; done) | (simp; rw [take_all (by omega), take_all (by omega)] at he; exact he) | (simp; exact take_ne (by simp_all))), S.chg⟩
  · have g3 : ((a).length : Int) = ((b).length : Int) := ne_f h1
    refine wp_skip (nx_then (wp_seq (wp_seq (RG.start ?_))))
    refine S.q 1 [0, 1, 5] 0 ⟨[(0, .v (slv (a).length pa.1)), (1, .v (slv (b).length pb.1)), (5, .v (I 0))], []⟩ .nil ?_; clear S; intro ac w β S
    refine RG.done rfl (nx_then (wp_block ?_))
    replace S := S.p [0, 1, 5] 0 ⟨[(0, .v (slv (a).length pa.1)), (1, .v (slv (b).length pb.1)), (5, .v (I 0))], []⟩
    refine wp_loop_down (fun mm ac w => ∃ (k : Nat)  (u : World) (N : Bl) (β : Nat → Nat), mm = a.length - k ∧ (k ≤ a.length) ∧ (a.length = b.length) ∧ (a.take k = b.take k) ∧ St Tryz.prog Tryz.f109.ntmps w0 NoB u N β ⟨[(0, .v (slv (a).length pa.1)), (1, .v (slv (b).length pb.1)), (5, .v (I (k : Int)))], []⟩ ac w) _ ⟨0, _, _, _, rfl, (by first | omega | (simp; done) | (simp; omega)), (by first | omega | (simp; done) | (simp; omega)), (by simp), S.cast (by kernel_rfl)⟩ ?_
    clear S
    rintro mm ac w ⟨k, u, N, β, rfl, hk, hab, he, S⟩
    refine wp_seq (wp_seq (RG.start ?_))
    refine S.q 4 [0, 1, 5, 14] 0 ⟨[(0, .v (slv (a).length pa.1)), (1, .v (slv (b).length pb.1)), (5, .v (I (k : Int))), (14, .v (B (decide ((k : Int) < ((a).length : Int)))))], []⟩ .nil ?_; clear S; intro ac w β S
    refine RG.done rfl (nx_then ?_)
    refine S.c (decide ((k : Int) < ((a).length : Int))) (fun h4 => ?_) (fun h4 => ?_)
    · have g5 : (k : Int) < ((a).length : Int) := of_decide_eq_true h4
      refine wp_skip (nx_then (wp_seq (wp_block (wp_seq ?_))))
      refine S.drawn (keep := [0, 1, 5, 26]) (m := 0) (σ' := ⟨[(0, .v (slv (a).length pa.1)), (1, .v (slv (b).length pb.1)), (5, .v (I (k : Int))), (26, .v (B (!(decide ((el a k) = (el b k))))))], []⟩) (.cons (Q_idx (S.arg ha) (l := (a).length) (k := k) (i := (k : Int)) rfl rfl (by omega) Tryz.underlying54 (by kernel_rfl)) (.cons (Q_el (S.arg ha) (t := 118) (k := k) (by omega) rfl (by kernel_rfl) (by kernel_rfl)) (.cons (Q_idx (S.arg hb) (l := (b).length) (k := k) (i := (k : Int)) rfl rfl (by omega) Tryz.underlying54 (by kernel_rfl)) (.cons (Q_el (S.arg hb) (t := 118) (k := k) (by omega) rfl (by kernel_rfl) (by kernel_rfl)) (.cons (Q_call fun w hw => c_laws_eqKept w (el a k) (pa.2 k) (rd_of (LRd.el (S.arg ha) k (by omega)) hw) (el b k) (pb.2 k) (rd_of (LRd.el (S.arg hb) k (by omega)) hw)) .nil))))) rfl (by kernel_rfl) (by kernel_rfl) ?_
      clear S; intro ac w S
      refine id (nx_then ?_)
      refine S.c (!(decide ((el a k) = (el b k)))) (fun h6 => ?_) (fun h6 => ?_)
      · have h7 : (decide ((el a k) = (el b k))) = false := not_t h6
        have g8 := of_decide_eq_false h7
        refine wp_seq (RG.start ?_)
        refine S.q 1 [4] 0 ⟨[(4, .v (B false))], []⟩ .nil ?_; clear S; intro ac w β S
        refine RG.done rfl (nx_then (wp_ret (rt_block (rt_then (rt_then (rt_block (rt_then ?_)))))))
        refine S.r [B false] ?_
        exact ⟨retB (by clear S; first | (simp; intro e; subst e; simp_all; done) | (simp; rw [take_all (by omega), take_all (by omega)] at he; exact he) | (simp; exact take_ne (by simp_all))), S.chg⟩
      · have h9 : (decide ((el a k) = (el b k))) = true := not_f h6
        have g10 := of_decide_eq_true h9
        refine wp_skip (nx_block (nx_then (RG.start ?_)))
        refine S.q 3 [0, 1, 5] 0 ⟨[(0, .v (slv (a).length pa.1)), (1, .v (slv (b).length pb.1)), (5, .v (I ((k : Int) + 1)))], []⟩ (.cons (Q_add (x := (k : Int)) (y := 1) ⟨by omega, by omega⟩) .nil) ?_; clear S; intro ac w β S
        refine RG.done rfl (nx_then ?_)
        replace S := S.p [0, 1, 5] 0 ⟨[(0, .v (slv (a).length pa.1)), (1, .v (slv (b).length pb.1)), (5, .v (I ((k : Int) + 1)))], []⟩
        refine ⟨a.length - (k + 1), by omega, k + 1, _, _, _, rfl, ?_, ?_, ?_, S.cast (by kernel_rfl)⟩
        · clear S; first | omega | (simp [*]; done) | (simp [*]; omega)
        · clear S; first | omega | (simp [*]; done) | (simp [*]; omega)
        · clear S; exact take_eq_step (by omega) (by omega) he (by simp_all)
    · have g11 : ¬ ((k : Int) < ((a).length : Int)) := of_decide_eq_false h4
      refine wp_exit (ex_then (ex_then (ex_hit (nx_then (wp_seq (RG.start ?_))))))
      refine S.q 1 [4] 0 ⟨[(4, .v (B true))], []⟩ .nil ?_; clear S; intro ac w β S
      refine RG.done rfl (nx_then (wp_ret ?_))
      refine S.r [B true] ?_
      exact ⟨retB (by clear S; first | (simp; intro e; subst e; simp_all; done) | (simp; rw [take_all (by omega), take_all (by omega)] at he; exact he) | (simp; exact take_ne (by simp_all))), S.chg⟩

set_option maxRecDepth 100000 in
theorem c_laws_eqMon (w0 : World) (a : TMon) (pa : PMon) (ha : GT.rd KK (Lt w0.heap.size) w0 a pa) (b : TMon) (pb : PMon) (hb : GT.rd KK (Lt w0.heap.size) w0 b pb) : Calls Tryz.prog 60 [GT.val a pa, GT.val b pb].toArray w0 (fun e w' => e = .returned (B (decide (a = b))) ∧ Chg NoB w0 w') := by
  refine Calls.walk (args := [GT.val a pa, GT.val b pb]) NoB Tryz.func60 rfl rfl ?_
  intro ac β S
  have hlea_outer : a.outer.length ≤ 4194304 := LRd.le (RMon.outer (d := a) ha)
  have hlea_out : a.out.length ≤ 4194304 := LRd.le (RMon.out (d := a) ha)
  have hlea_dirty : a.dirty.length ≤ 4194304 := LRd.le (RMon.dirty (d := a) ha)
  have hlea_guests : a.guests.length ≤ 4194304 := LRd.le (RMon.guests (d := a) ha)
  have hlea_outs : a.outs.length ≤ 4194304 := LRd.le (RMon.outs (d := a) ha)
  have hlea_tables : a.tables.length ≤ 4194304 := LRd.le (RMon.tables (d := a) ha)
  have hleb_outer : b.outer.length ≤ 4194304 := LRd.le (RMon.outer (d := b) hb)
  have hleb_out : b.out.length ≤ 4194304 := LRd.le (RMon.out (d := b) hb)
  have hleb_dirty : b.dirty.length ≤ 4194304 := LRd.le (RMon.dirty (d := b) hb)
  have hleb_guests : b.guests.length ≤ 4194304 := LRd.le (RMon.guests (d := b) hb)
  have hleb_outs : b.outs.length ≤ 4194304 := LRd.le (RMon.outs (d := b) hb)
  have hleb_tables : b.tables.length ≤ 4194304 := LRd.le (RMon.tables (d := b) hb)
  refine wp_seq (RG.start ?_)
  refine S.q 3 [2, 3] 2 ⟨[(2, .p 0 0), (3, .p 1 0)], [GT.cells a pa, GT.cells b pb]⟩ .nil ?_; clear S; intro ac w β S
  refine RG.done rfl (nx_then (wp_seq (wp_seq (RG.start ?_))))
  refine S.q 6 [2, 3, 10] 2 ⟨[(2, .p 0 0), (3, .p 1 0), (10, .v (B (!(decide (a.outer = b.outer)))))], [GT.cells a pa, GT.cells b pb]⟩ (.cons (Q_call fun w hw => c_laws_eqSlotS w a.outer pa.outer (rd_of (RMon.outer (d := a) (S.arg ha)) hw) b.outer pb.outer (rd_of (RMon.outer (d := b) (S.arg hb)) hw)) .nil) ?_; clear S; intro ac w β S
  refine RG.done rfl (nx_then ?_)
  refine S.c (!(decide (a.outer = b.outer))) (fun h1 => ?_) (fun h1 => ?_)
  · have h2 : (decide (a.outer = b.outer)) = false := not_t h1
    have g3 := of_decide_eq_false h2
    refine wp_seq (RG.start ?_)
    refine S.q 1 [4] 0 ⟨[(4, .v (B false))], []⟩ .nil ?_; clear S; intro ac w β S
    refine RG.done rfl (nx_then (wp_ret (rt_then ?_)))
    refine S.r [B false] ?_
    exact ⟨retB (by clear S; first | (simp [TMon.ext_iff, *]; done) | (simp_all [TMon.ext_iff]; done)), S.chg⟩
  · have h4 : (decide (a.outer = b.outer)) = true := not_f h1
    have g5 := of_decide_eq_true h4
    refine wp_skip (nx_then (wp_seq (wp_seq (RG.start ?_))))
    refine S.q 6 [2, 3, 16] 2 ⟨[(2, .p 0 0), (3, .p 1 0), (16, .v (B (!(decide (a.out = b.out)))))], [GT.cells a pa, GT.cells b pb]⟩ (.cons (Q_call fun w hw => c_laws_eqIntSS w a.out pa.out (rd_of (RMon.out (d := a) (S.arg ha)) hw) b.out pb.out (rd_of (RMon.out (d := b) (S.arg hb)) hw)) .nil) ?_; clear S; intro ac w β S
    refine RG.done rfl (nx_then ?_)
    refine S.c (!(decide (a.out = b.out))) (fun h6 => ?_) (fun h6 => ?_)
    · have h7 : (decide (a.out = b.out)) = false := not_t h6
      have g8 := of_decide_eq_false h7
      refine wp_seq (RG.start ?_)
      refine S.q 1 [4] 0 ⟨[(4, .v (B false))], []⟩ .nil ?_; clear S; intro ac w β S
      refine RG.done rfl (nx_then (wp_ret (rt_then ?_)))
      refine S.r [B false] ?_
      exact ⟨retB (by clear S; first | (simp [TMon.ext_iff, *]; done) | (simp_all [TMon.ext_iff]; done)), S.chg⟩
    · have h9 : (decide (a.out = b.out)) = true := not_f h6
      have g10 := of_decide_eq_true h9
      refine wp_skip (nx_then (wp_seq (wp_seq (RG.start ?_))))
      refine S.q 6 [2, 3, 22] 2 ⟨[(2, .p 0 0), (3, .p 1 0), (22, .v (B (!(decide (a.dirty = b.dirty)))))], [GT.cells a pa, GT.cells b pb]⟩ (.cons (Q_call fun w hw => c_laws_eqBoolS w a.dirty pa.dirty (rd_of (RMon.dirty (d := a) (S.arg ha)) hw) b.dirty pb.dirty (rd_of (RMon.dirty (d := b) (S.arg hb)) hw)) .nil) ?_; clear S; intro ac w β S
      refine RG.done rfl (nx_then ?_)
      refine S.c (!(decide (a.dirty = b.dirty))) (fun h11 => ?_) (fun h11 => ?_)
      · have h12 : (decide (a.dirty = b.dirty)) = false := not_t h11
        have g13 := of_decide_eq_false h12
        refine wp_seq (RG.start ?_)
        refine S.q 1 [4] 0 ⟨[(4, .v (B false))], []⟩ .nil ?_; clear S; intro ac w β S
        refine RG.done rfl (nx_then (wp_ret (rt_then ?_)))
        refine S.r [B false] ?_
        exact ⟨retB (by clear S; first | (simp [TMon.ext_iff, *]; done) | (simp_all [TMon.ext_iff]; done)), S.chg⟩
      · have h14 : (decide (a.dirty = b.dirty)) = true := not_f h11
        have g15 := of_decide_eq_true h14
        refine wp_skip (nx_then (wp_seq (wp_seq (RG.start ?_))))
        refine S.q 6 [2, 3, 28] 2 ⟨[(2, .p 0 0), (3, .p 1 0), (28, .v (B (!(decide (a.guests = b.guests)))))], [GT.cells a pa, GT.cells b pb]⟩ (.cons (Q_call fun w hw => c_laws_eqGuestS w a.guests pa.guests (rd_of (RMon.guests (d := a) (S.arg ha)) hw) b.guests pb.guests (rd_of (RMon.guests (d := b) (S.arg hb)) hw)) .nil) ?_; clear S; intro ac w β S
        refine RG.done rfl (nx_then ?_)
        refine S.c (!(decide (a.guests = b.guests))) (fun h16 => ?_) (fun h16 => ?_)
        · have h17 : (decide (a.guests = b.guests)) = false := not_t h16
          have g18 := of_decide_eq_false h17
          refine wp_seq (RG.start ?_)
          refine S.q 1 [4] 0 ⟨[(4, .v (B false))], []⟩ .nil ?_; clear S; intro ac w β S
          refine RG.done rfl (nx_then (wp_ret (rt_then ?_)))
          refine S.r [B false] ?_
          exact ⟨retB (by clear S; first | (simp [TMon.ext_iff, *]; done) | (simp_all [TMon.ext_iff]; done)), S.chg⟩
        · have h19 : (decide (a.guests = b.guests)) = true := not_f h16
          have g20 := of_decide_eq_true h19
          refine wp_skip (nx_then (wp_seq (wp_seq (RG.start ?_))))
          refine S.q 6 [2, 3, 34] 2 ⟨[(2, .p 0 0), (3, .p 1 0), (34, .v (B (!(decide (a.outs = b.outs)))))], [GT.cells a pa, GT.cells b pb]⟩ (.cons (Q_call fun w hw => c_laws_eqIntS w a.outs pa.outs (rd_of (RMon.outs (d := a) (S.arg ha)) hw) b.outs pb.outs (rd_of (RMon.outs (d := b) (S.arg hb)) hw)) .nil) ?_; clear S; intro ac w β S
          refine RG.done rfl (nx_then ?_)
          refine S.c (!(decide (a.outs = b.outs))) (fun h21 => ?_) (fun h21 => ?_)
          · have h22 : (decide (a.outs = b.outs)) = false := not_t h21
            have g23 := of_decide_eq_false h22
            refine wp_seq (RG.start ?_)
            refine S.q 1 [4] 0 ⟨[(4, .v (B false))], []⟩ .nil ?_; clear S; intro ac w β S
            refine RG.done rfl (nx_then (wp_ret (rt_then ?_)))
            refine S.r [B false] ?_
            exact ⟨retB (by clear S; first | (simp [TMon.ext_iff, *]; done) | (simp_all [TMon.ext_iff]; done)), S.chg⟩
          · have h24 : (decide (a.outs = b.outs)) = true := not_f h21
            have g25 := of_decide_eq_true h24
            refine wp_skip (nx_then (wp_seq (wp_seq (RG.start ?_))))
            refine S.q 5 [2, 3, 39] 2 ⟨[(2, .p 0 0), (3, .p 1 0), (39, .v (B (a.pend != b.pend)))], [GT.cells a pa, GT.cells b pb]⟩ .nil ?_; clear S; intro ac w β S
            refine RG.done rfl (nx_then ?_)
            refine S.c (a.pend != b.pend) (fun h26 => ?_) (fun h26 => ?_)
            · have g27 : ¬ (a.pend = b.pend) := bne_iff_ne.1 h26
              refine wp_seq (RG.start ?_)
              refine S.q 1 [4] 0 ⟨[(4, .v (B false))], []⟩ .nil ?_; clear S; intro ac w β S
              refine RG.done rfl (nx_then (wp_ret (rt_then ?_)))
              refine S.r [B false] ?_
              exact ⟨retB (by clear S; first | (simp [TMon.ext_iff, *]; done) | (simp_all [TMon.ext_iff]; done)), S.chg⟩
            · have g28 : a.pend = b.pend := ne_f h26
              refine wp_skip (nx_then (wp_seq (wp_seq (RG.start ?_))))
              refine S.q 5 [2, 3, 44] 2 ⟨[(2, .p 0 0), (3, .p 1 0), (44, .v (B (a.traps != b.traps)))], [GT.cells a pa, GT.cells b pb]⟩ .nil ?_; clear S; intro ac w β S
              refine RG.done rfl (nx_then ?_)
              refine S.c (a.traps != b.traps) (fun h29 => ?_) (fun h29 => ?_)
              · have g30 : ¬ (a.traps = b.traps) := bne_iff_ne.1 h29
                refine wp_seq (RG.start ?_)
                refine S.q 1 [4] 0 ⟨[(4, .v (B false))], []⟩ .nil ?_; clear S; intro ac w β S
                refine RG.done rfl (nx_then (wp_ret (rt_then ?_)))
                refine S.r [B false] ?_
                exact ⟨retB (by clear S; first | (simp [TMon.ext_iff, *]; done) | (simp_all [TMon.ext_iff]; done)), S.chg⟩
              · have g31 : a.traps = b.traps := ne_f h29
                refine wp_skip (nx_then (wp_seq (wp_seq (RG.start ?_))))
                refine S.q 6 [2, 3, 50] 2 ⟨[(2, .p 0 0), (3, .p 1 0), (50, .v (B (!(decide (a.tables = b.tables)))))], [GT.cells a pa, GT.cells b pb]⟩ (.cons (Q_call fun w hw => c_laws_eqKeptS w a.tables pa.tables (rd_of (RMon.tables (d := a) (S.arg ha)) hw) b.tables pb.tables (rd_of (RMon.tables (d := b) (S.arg hb)) hw)) .nil) ?_; clear S; intro ac w β S
                refine RG.done rfl (nx_then ?_)
                refine S.c (!(decide (a.tables = b.tables))) (fun h32 => ?_) (fun h32 => ?_)
                · have h33 : (decide (a.tables = b.tables)) = false := not_t h32
                  have g34 := of_decide_eq_false h33
                  refine wp_seq (RG.start ?_)
                  refine S.q 1 [4] 0 ⟨[(4, .v (B false))], []⟩ .nil ?_; clear S; intro ac w β S
                  refine RG.done rfl (nx_then (wp_ret (rt_then ?_)))
                  refine S.r [B false] ?_
                  exact ⟨retB (by clear S; first | (simp [TMon.ext_iff, *]; done) | (simp_all [TMon.ext_iff]; done)), S.chg⟩
                · have h35 : (decide (a.tables = b.tables)) = true := not_f h32
                  have g36 := of_decide_eq_true h35
                  refine wp_skip (nx_then (wp_seq (wp_seq (RG.start ?_))))
                  refine S.q 5 [55] 0 ⟨[(55, .v (B (a.owned != b.owned)))], []⟩ .nil ?_; clear S; intro ac w β S
                  refine RG.done rfl (nx_then ?_)
                  refine S.c (a.owned != b.owned) (fun h37 => ?_) (fun h37 => ?_)
                  · have g38 : ¬ (a.owned = b.owned) := bne_iff_ne.1 h37
                    refine wp_seq (RG.start ?_)
                    refine S.q 1 [4] 0 ⟨[(4, .v (B false))], []⟩ .nil ?_; clear S; intro ac w β S
                    refine RG.done rfl (nx_then (wp_ret (rt_then ?_)))
                    refine S.r [B false] ?_
                    exact ⟨retB (by clear S; first | (simp [TMon.ext_iff, *]; done) | (simp_all [TMon.ext_iff]; done)), S.chg⟩
                  · have g39 : a.owned = b.owned := ne_f h37
                    refine wp_skip (nx_then (wp_seq (RG.start ?_)))
                    refine S.q 1 [4] 0 ⟨[(4, .v (B true))], []⟩ .nil ?_; clear S; intro ac w β S
                    refine RG.done rfl (nx_then (wp_ret ?_))
                    refine S.r [B true] ?_
                    exact ⟨retB (by clear S; first | (simp [TMon.ext_iff, *]; done) | (simp_all [TMon.ext_iff]; done)), S.chg⟩

set_option maxRecDepth 100000 in
theorem c_laws_eqMonS (w0 : World) (a : List TMon) (pa : LP TMon) (ha : GT.rd KK (Lt w0.heap.size) w0 a pa) (b : List TMon) (pb : LP TMon) (hb : GT.rd KK (Lt w0.heap.size) w0 b pb) : Calls Tryz.prog 29 [slv (a).length pa.1, slv (b).length pb.1].toArray w0 (fun e w' => e = .returned (B (decide (a = b))) ∧ Chg NoB w0 w') := by
  refine Calls.walk (args := [slv (a).length pa.1, slv (b).length pb.1]) NoB Tryz.func29 rfl rfl ?_
  intro ac β S
  have hlea : a.length ≤ 4194304 := LRd.le ha
  have hleb : b.length ≤ 4194304 := LRd.le hb
  refine wp_seq (RG.start ?_)
  refine S.q 1 [0, 1] 0 ⟨[(0, .v (slv (a).length pa.1)), (1, .v (slv (b).length pb.1))], []⟩ .nil ?_; clear S; intro ac w β S
  refine RG.done rfl (nx_then (wp_seq (wp_seq (RG.start ?_))))
  refine S.q 5 [0, 1, 10] 0 ⟨[(0, .v (slv (a).length pa.1)), (1, .v (slv (b).length pb.1)), (10, .v (B (((a).length : Int) != ((b).length : Int))))], []⟩ .nil ?_; clear S; intro ac w β S
  refine RG.done rfl (nx_then ?_)
  refine S.c (((a).length : Int) != ((b).length : Int)) (fun h1 => ?_) (fun h1 => ?_)
  · have g2 : ¬ (((a).length : Int) = ((b).length : Int)) := bne_iff_ne.1 h1
    refine wp_seq (RG.start ?_)
    refine S.q 1 [4] 0 ⟨[(4, .v (B false))], []⟩ .nil ?_; clear S; intro ac w β S
    refine RG.done rfl (nx_then (wp_ret (rt_then ?_)))
    refine S.r [B false] ?_
    exact ⟨retB (by clear S; first | (simp; intro e; subst e; simp_all; done) | (simp; rw [take_all (by omega), take_all (by omega)] at he; exact he) | (simp; exact take_ne (by simp_all))), S.chg⟩
  · have g3 : ((a).length : Int) = ((b).length : Int) := ne_f h1
    refine wp_skip (nx_then (wp_seq (wp_seq (RG.start ?_))))
    refine S.q 1 [0, 1, 5] 0 ⟨[(0, .v (slv (a).length pa.1)), (1, .v (slv (b).length pb.1)), (5, .v (I 0))], []⟩ .nil ?_; clear S; intro ac w β S
    refine RG.done rfl (nx_then (wp_block ?_))
    replace S := S.p [0, 1, 5] 0 ⟨[(0, .v (slv (a).length pa.1)), (1, .v (slv (b).length pb.1)), (5, .v (I 0))], []⟩
    refine wp_loop_down (fun mm ac w => ∃ (k : Nat)  (u : World) (N : Bl) (β : Nat → Nat), mm = a.length - k ∧ (k ≤ a.length) ∧ (a.length = b.length) ∧ (a.take k = b.take k) ∧ St Tryz.prog Tryz.f29.ntmps w0 NoB u N β ⟨[(0, .v (slv (a).length pa.1)), (1, .v (slv (b).length pb.1)), (5, .v (I (k : Int)))], []⟩ ac w) _ ⟨0, _, _, _, rfl, (by first | omega | (simp; done) | (simp; omega)), (by first | omega | (simp; done) | (simp; omega)), (by simp), S.cast (by kernel_rfl)⟩ ?_
    clear S
    rintro mm ac w ⟨k, u, N, β, rfl, hk, hab, he, S⟩
    refine wp_seq (wp_seq (RG.start ?_))
    refine S.q 4 [0, 1, 5, 14] 0 ⟨[(0, .v (slv (a).length pa.1)), (1, .v (slv (b).length pb.1)), (5, .v (I (k : Int))), (14, .v (B (decide ((k : Int) < ((a).length : Int)))))], []⟩ .nil ?_; clear S; intro ac w β S
    refine RG.done rfl (nx_then ?_)
    refine S.c (decide ((k : Int) < ((a).length : Int))) (fun h4 => ?_) (fun h4 => ?_)
    · have g5 : (k : Int) < ((a).length : Int) := of_decide_eq_true h4
      refine wp_skip (nx_then (wp_seq (wp_block (wp_seq ?_))))
      refine S.drawn (keep := [0, 1, 5, 26]) (m := 0) (σ' := ⟨[(0, .v (slv (a).length pa.1)), (1, .v (slv (b).length pb.1)), (5, .v (I (k : Int))), (26, .v (B (!(decide ((el a k) = (el b k))))))], []⟩) (.cons (Q_idx (S.arg ha) (l := (a).length) (k := k) (i := (k : Int)) rfl rfl (by omega) Tryz.underlying28 (by kernel_rfl)) (.cons (Q_el (S.arg ha) (t := 56) (k := k) (by omega) rfl (by kernel_rfl) (by kernel_rfl)) (.cons (Q_idx (S.arg hb) (l := (b).length) (k := k) (i := (k : Int)) rfl rfl (by omega) Tryz.underlying28 (by kernel_rfl)) (.cons (Q_el (S.arg hb) (t := 56) (k := k) (by omega) rfl (by kernel_rfl) (by kernel_rfl)) (.cons (Q_call fun w hw => c_laws_eqMon w (el a k) (pa.2 k) (rd_of (LRd.el (S.arg ha) k (by omega)) hw) (el b k) (pb.2 k) (rd_of (LRd.el (S.arg hb) k (by omega)) hw)) .nil))))) rfl (by kernel_rfl) (by kernel_rfl) ?_
      clear S; intro ac w S
      refine id (nx_then ?_)
      refine S.c (!(decide ((el a k) = (el b k)))) (fun h6 => ?_) (fun h6 => ?_)
      · have h7 : (decide ((el a k) = (el b k))) = false := not_t h6
        have g8 := of_decide_eq_false h7
        refine wp_seq (RG.start ?_)
        refine S.q 1 [4] 0 ⟨[(4, .v (B false))], []⟩ .nil ?_; clear S; intro ac w β S
        refine RG.done rfl (nx_then (wp_ret (rt_block (rt_then (rt_then (rt_block (rt_then ?_)))))))
        refine S.r [B false] ?_
        exact ⟨retB (by clear S; first | (simp; intro e; subst e; simp_all; done) | (simp; rw [take_all (by omega), take_all (by omega)] at he; exact he) | (simp; exact take_ne (by simp_all))), S.chg⟩
      · have h9 : (decide ((el a k) = (el b k))) = true := not_f h6
        have g10 := of_decide_eq_true h9
        refine wp_skip (nx_block (nx_then (RG.start ?_)))
        refine S.q 3 [0, 1, 5] 0 ⟨[(0, .v (slv (a).length pa.1)), (1, .v (slv (b).length pb.1)), (5, .v (I ((k : Int) + 1)))], []⟩ (.cons (Q_add (x := (k : Int)) (y := 1) ⟨by omega, by omega⟩) .nil) ?_; clear S; intro ac w β S
        refine RG.done rfl (nx_then ?_)
        replace S := S.p [0, 1, 5] 0 ⟨[(0, .v (slv (a).length pa.1)), (1, .v (slv (b).length pb.1)), (5, .v (I ((k : Int) + 1)))], []⟩
        refine ⟨a.length - (k + 1), by omega, k + 1, _, _, _, rfl, ?_, ?_, ?_, S.cast (by kernel_rfl)⟩
        · clear S; first | omega | (simp [*]; done) | (simp [*]; omega)
        · clear S; first | omega | (simp [*]; done) | (simp [*]; omega)
        · clear S; exact take_eq_step (by omega) (by omega) he (by simp_all)
    · have g11 : ¬ ((k : Int) < ((a).length : Int)) := of_decide_eq_false h4
      refine wp_exit (ex_then (ex_then (ex_hit (nx_then (wp_seq (RG.start ?_))))))
      refine S.q 1 [4] 0 ⟨[(4, .v (B true))], []⟩ .nil ?_; clear S; intro ac w β S
      refine RG.done rfl (nx_then (wp_ret ?_))
      refine S.r [B true] ?_
      exact ⟨retB (by clear S; first | (simp; intro e; subst e; simp_all; done) | (simp; rw [take_all (by omega), take_all (by omega)] at he; exact he) | (simp; exact take_ne (by simp_all))), S.chg⟩

set_option maxRecDepth 100000 in
theorem c_laws_eqEntry (w0 : World) (a : TEntry) (b : TEntry) : Calls Tryz.prog 61 [GT.val a (), GT.val b ()].toArray w0 (fun e w' => e = .returned (B (decide (a = b))) ∧ Chg NoB w0 w') := by
  refine Calls.walk (args := [GT.val a (), GT.val b ()]) NoB Tryz.func61 rfl rfl ?_
  intro ac β S
  refine wp_seq (RG.start ?_)
  refine S.q 3 [2, 3] 2 ⟨[(2, .p 0 0), (3, .p 1 0)], [GT.cells a (), GT.cells b ()]⟩ .nil ?_; clear S; intro ac w β S
  refine RG.done rfl (nx_then (wp_seq (wp_seq (RG.start ?_))))
  refine S.q 5 [2, 3, 9] 2 ⟨[(2, .p 0 0), (3, .p 1 0), (9, .v (B (a.tag != b.tag)))], [GT.cells a (), GT.cells b ()]⟩ .nil ?_; clear S; intro ac w β S
  refine RG.done rfl (nx_then ?_)
  refine S.c (a.tag != b.tag) (fun h1 => ?_) (fun h1 => ?_)
  · have g2 : ¬ (a.tag = b.tag) := bne_iff_ne.1 h1
    refine wp_seq (RG.start ?_)
    refine S.q 1 [4] 0 ⟨[(4, .v (B false))], []⟩ .nil ?_; clear S; intro ac w β S
    refine RG.done rfl (nx_then (wp_ret (rt_then ?_)))
    refine S.r [B false] ?_
    exact ⟨retB (by clear S; first | (simp [TEntry.ext_iff, *]; done) | (simp_all [TEntry.ext_iff]; done)), S.chg⟩
  · have g3 : a.tag = b.tag := ne_f h1
    refine wp_skip (nx_then (wp_seq (wp_seq (RG.start ?_))))
    refine S.q 5 [2, 3, 14] 2 ⟨[(2, .p 0 0), (3, .p 1 0), (14, .v (B (a.page != b.page)))], [GT.cells a (), GT.cells b ()]⟩ .nil ?_; clear S; intro ac w β S
    refine RG.done rfl (nx_then ?_)
    refine S.c (a.page != b.page) (fun h4 => ?_) (fun h4 => ?_)
    · have g5 : ¬ (a.page = b.page) := bne_iff_ne.1 h4
      refine wp_seq (RG.start ?_)
      refine S.q 1 [4] 0 ⟨[(4, .v (B false))], []⟩ .nil ?_; clear S; intro ac w β S
      refine RG.done rfl (nx_then (wp_ret (rt_then ?_)))
      refine S.r [B false] ?_
      exact ⟨retB (by clear S; first | (simp [TEntry.ext_iff, *]; done) | (simp_all [TEntry.ext_iff]; done)), S.chg⟩
    · have g6 : a.page = b.page := ne_f h4
      refine wp_skip (nx_then (wp_seq (wp_seq (RG.start ?_))))
      refine S.q 5 [2, 3, 19] 2 ⟨[(2, .p 0 0), (3, .p 1 0), (19, .v (B (a.host != b.host)))], [GT.cells a (), GT.cells b ()]⟩ .nil ?_; clear S; intro ac w β S
      refine RG.done rfl (nx_then ?_)
      refine S.c (a.host != b.host) (fun h7 => ?_) (fun h7 => ?_)
      · have g8 : ¬ (a.host = b.host) := bne_iff_ne.1 h7
        refine wp_seq (RG.start ?_)
        refine S.q 1 [4] 0 ⟨[(4, .v (B false))], []⟩ .nil ?_; clear S; intro ac w β S
        refine RG.done rfl (nx_then (wp_ret (rt_then ?_)))
        refine S.r [B false] ?_
        exact ⟨retB (by clear S; first | (simp [TEntry.ext_iff, *]; done) | (simp_all [TEntry.ext_iff]; done)), S.chg⟩
      · have g9 : a.host = b.host := ne_f h7
        refine wp_skip (nx_then (wp_seq (wp_seq (RG.start ?_))))
        refine S.q 5 [24] 0 ⟨[(24, .v (B (a.rights != b.rights)))], []⟩ .nil ?_; clear S; intro ac w β S
        refine RG.done rfl (nx_then ?_)
        refine S.c (a.rights != b.rights) (fun h10 => ?_) (fun h10 => ?_)
        · have g11 : ¬ (a.rights = b.rights) := bne_iff_ne.1 h10
          refine wp_seq (RG.start ?_)
          refine S.q 1 [4] 0 ⟨[(4, .v (B false))], []⟩ .nil ?_; clear S; intro ac w β S
          refine RG.done rfl (nx_then (wp_ret (rt_then ?_)))
          refine S.r [B false] ?_
          exact ⟨retB (by clear S; first | (simp [TEntry.ext_iff, *]; done) | (simp_all [TEntry.ext_iff]; done)), S.chg⟩
        · have g12 : a.rights = b.rights := ne_f h10
          refine wp_skip (nx_then (wp_seq (RG.start ?_)))
          refine S.q 1 [4] 0 ⟨[(4, .v (B true))], []⟩ .nil ?_; clear S; intro ac w β S
          refine RG.done rfl (nx_then (wp_ret ?_))
          refine S.r [B true] ?_
          exact ⟨retB (by clear S; first | (simp [TEntry.ext_iff, *]; done) | (simp_all [TEntry.ext_iff]; done)), S.chg⟩

set_option maxRecDepth 100000 in
theorem c_laws_eqEntryS (w0 : World) (a : List TEntry) (pa : LP TEntry) (ha : GT.rd KK (Lt w0.heap.size) w0 a pa) (b : List TEntry) (pb : LP TEntry) (hb : GT.rd KK (Lt w0.heap.size) w0 b pb) : Calls Tryz.prog 30 [slv (a).length pa.1, slv (b).length pb.1].toArray w0 (fun e w' => e = .returned (B (decide (a = b))) ∧ Chg NoB w0 w') := by
  refine Calls.walk (args := [slv (a).length pa.1, slv (b).length pb.1]) NoB Tryz.func30 rfl rfl ?_
  intro ac β S
  have hlea : a.length ≤ 4194304 := LRd.le ha
  have hleb : b.length ≤ 4194304 := LRd.le hb
  refine wp_seq (RG.start ?_)
  refine S.q 1 [0, 1] 0 ⟨[(0, .v (slv (a).length pa.1)), (1, .v (slv (b).length pb.1))], []⟩ .nil ?_; clear S; intro ac w β S
  refine RG.done rfl (nx_then (wp_seq (wp_seq (RG.start ?_))))
  refine S.q 5 [0, 1, 10] 0 ⟨[(0, .v (slv (a).length pa.1)), (1, .v (slv (b).length pb.1)), (10, .v (B (((a).length : Int) != ((b).length : Int))))], []⟩ .nil ?_; clear S; intro ac w β S
  refine RG.done rfl (nx_then ?_)
  refine S.c (((a).length : Int) != ((b).length : Int)) (fun h1 => ?_) (fun h1 => ?_)
  · have g2 : ¬ (((a).length : Int) = ((b).length : Int)) := bne_iff_ne.1 h1
    refine wp_seq (RG.start ?_)
    refine S.q 1 [4] 0 ⟨[(4, .v (B false))], []⟩ .nil ?_; clear S; intro ac w β S
    refine RG.done rfl (nx_then (wp_ret (rt_then ?_)))
    refine S.r [B false] ?_
    exact ⟨retB (by clear S; first | (simp; intro e; subst e; simp_all; done) | (simp; rw [take_all (by omega), take_all (by omega)] at he; exact he) | (simp; exact take_ne (by simp_all))), S.chg⟩
  · have g3 : ((a).length : Int) = ((b).length : Int) := ne_f h1
    refine wp_skip (nx_then (wp_seq (wp_seq (RG.start ?_))))
    refine S.q 1 [0, 1, 5] 0 ⟨[(0, .v (slv (a).length pa.1)), (1, .v (slv (b).length pb.1)), (5, .v (I 0))], []⟩ .nil ?_; clear S; intro ac w β S
    refine RG.done rfl (nx_then (wp_block ?_))
    replace S := S.p [0, 1, 5] 0 ⟨[(0, .v (slv (a).length pa.1)), (1, .v (slv (b).length pb.1)), (5, .v (I 0))], []⟩
    refine wp_loop_down (fun mm ac w => ∃ (k : Nat)  (u : World) (N : Bl) (β : Nat → Nat), mm = a.length - k ∧ (k ≤ a.length) ∧ (a.length = b.length) ∧ (a.take k = b.take k) ∧ St Tryz.prog Tryz.f30.ntmps w0 NoB u N β ⟨[(0, .v (slv (a).length pa.1)), (1, .v (slv (b).length pb.1)), (5, .v (I (k : Int)))], []⟩ ac w) _ ⟨0, _, _, _, rfl, (by first | omega | (simp; done) | (simp; omega)), (by first | omega | (simp; done) | (simp; omega)), (by simp), S.cast (by kernel_rfl)⟩ ?_
    clear S
    rintro mm ac w ⟨k, u, N, β, rfl, hk, hab, he, S⟩
    refine wp_seq (wp_seq (RG.start ?_))
    refine S.q 4 [0, 1, 5, 14] 0 ⟨[(0, .v (slv (a).length pa.1)), (1, .v (slv (b).length pb.1)), (5, .v (I (k : Int))), (14, .v (B (decide ((k : Int) < ((a).length : Int)))))], []⟩ .nil ?_; clear S; intro ac w β S
    refine RG.done rfl (nx_then ?_)
    refine S.c (decide ((k : Int) < ((a).length : Int))) (fun h4 => ?_) (fun h4 => ?_)
    · have g5 : (k : Int) < ((a).length : Int) := of_decide_eq_true h4
      refine wp_skip (nx_then (wp_seq (wp_block (wp_seq ?_))))
      refine S.drawn (keep := [0, 1, 5, 26]) (m := 0) (σ' := ⟨[(0, .v (slv (a).length pa.1)), (1, .v (slv (b).length pb.1)), (5, .v (I (k : Int))), (26, .v (B (!(decide ((el a k) = (el b k))))))], []⟩) (.cons (Q_idx (S.arg ha) (l := (a).length) (k := k) (i := (k : Int)) rfl rfl (by omega) Tryz.underlying29 (by kernel_rfl)) (.cons (Q_el (S.arg ha) (t := 91) (k := k) (by omega) rfl (by kernel_rfl) (by kernel_rfl)) (.cons (Q_idx (S.arg hb) (l := (b).length) (k := k) (i := (k : Int)) rfl rfl (by omega) Tryz.underlying29 (by kernel_rfl)) (.cons (Q_el (S.arg hb) (t := 91) (k := k) (by omega) rfl (by kernel_rfl) (by kernel_rfl)) (.cons (Q_call fun w hw => c_laws_eqEntry w (el a k) (el b k)) .nil))))) rfl (by kernel_rfl) (by kernel_rfl) ?_
      clear S; intro ac w S
      refine id (nx_then ?_)
      refine S.c (!(decide ((el a k) = (el b k)))) (fun h6 => ?_) (fun h6 => ?_)
      · have h7 : (decide ((el a k) = (el b k))) = false := not_t h6
        have g8 := of_decide_eq_false h7
        refine wp_seq (RG.start ?_)
        refine S.q 1 [4] 0 ⟨[(4, .v (B false))], []⟩ .nil ?_; clear S; intro ac w β S
        refine RG.done rfl (nx_then (wp_ret (rt_block (rt_then (rt_then (rt_block (rt_then ?_)))))))
        refine S.r [B false] ?_
        exact ⟨retB (by clear S; first | (simp; intro e; subst e; simp_all; done) | (simp; rw [take_all (by omega), take_all (by omega)] at he; exact he) | (simp; exact take_ne (by simp_all))), S.chg⟩
      · have h9 : (decide ((el a k) = (el b k))) = true := not_f h6
        have g10 := of_decide_eq_true h9
        refine wp_skip (nx_block (nx_then (RG.start ?_)))
        refine S.q 3 [0, 1, 5] 0 ⟨[(0, .v (slv (a).length pa.1)), (1, .v (slv (b).length pb.1)), (5, .v (I ((k : Int) + 1)))], []⟩ (.cons (Q_add (x := (k : Int)) (y := 1) ⟨by omega, by omega⟩) .nil) ?_; clear S; intro ac w β S
        refine RG.done rfl (nx_then ?_)
        replace S := S.p [0, 1, 5] 0 ⟨[(0, .v (slv (a).length pa.1)), (1, .v (slv (b).length pb.1)), (5, .v (I ((k : Int) + 1)))], []⟩
        refine ⟨a.length - (k + 1), by omega, k + 1, _, _, _, rfl, ?_, ?_, ?_, S.cast (by kernel_rfl)⟩
        · clear S; first | omega | (simp [*]; done) | (simp [*]; omega)
        · clear S; first | omega | (simp [*]; done) | (simp [*]; omega)
        · clear S; exact take_eq_step (by omega) (by omega) he (by simp_all)
    · have g11 : ¬ ((k : Int) < ((a).length : Int)) := of_decide_eq_false h4
      refine wp_exit (ex_then (ex_then (ex_hit (nx_then (wp_seq (RG.start ?_))))))
      refine S.q 1 [4] 0 ⟨[(4, .v (B true))], []⟩ .nil ?_; clear S; intro ac w β S
      refine RG.done rfl (nx_then (wp_ret ?_))
      refine S.r [B true] ?_
      exact ⟨retB (by clear S; first | (simp; intro e; subst e; simp_all; done) | (simp; rw [take_all (by omega), take_all (by omega)] at he; exact he) | (simp; exact take_ne (by simp_all))), S.chg⟩

set_option maxRecDepth 100000 in
theorem c_laws_eqHost (w0 : World) (a : THost) (pa : PHost) (ha : GT.rd KK (Lt w0.heap.size) w0 a pa) (b : THost) (pb : PHost) (hb : GT.rd KK (Lt w0.heap.size) w0 b pb) : Calls Tryz.prog 9 [GT.val a pa, GT.val b pb].toArray w0 (fun e w' => e = .returned (B (decide (a = b))) ∧ Chg NoB w0 w') := by
  refine Calls.walk (args := [GT.val a pa, GT.val b pb]) NoB Tryz.func9 rfl rfl ?_
  intro ac β S
  have hlea_mem : a.mem.length ≤ 4194304 := LRd.le (RHost.mem (d := a) ha)
  have hlea_mons : a.mons.length ≤ 4194304 := LRd.le (RHost.mons (d := a) ha)
  have hlea_buf : a.buf.length ≤ 4194304 := LRd.le (RHost.buf (d := a) ha)
  have hlea_iobuf : a.iobuf.length ≤ 4194304 := LRd.le (RHost.iobuf (d := a) ha)
  have hleb_mem : b.mem.length ≤ 4194304 := LRd.le (RHost.mem (d := b) hb)
  have hleb_mons : b.mons.length ≤ 4194304 := LRd.le (RHost.mons (d := b) hb)
  have hleb_buf : b.buf.length ≤ 4194304 := LRd.le (RHost.buf (d := b) hb)
  have hleb_iobuf : b.iobuf.length ≤ 4194304 := LRd.le (RHost.iobuf (d := b) hb)
  refine wp_seq (RG.start ?_)
  refine S.q 3 [2, 3] 2 ⟨[(2, .p 0 0), (3, .p 1 0)], [GT.cells a pa, GT.cells b pb]⟩ .nil ?_; clear S; intro ac w β S
  refine RG.done rfl (nx_then (wp_seq (wp_seq (RG.start ?_))))
  refine S.q 6 [2, 3, 10] 2 ⟨[(2, .p 0 0), (3, .p 1 0), (10, .v (B (!(decide (a.mem = b.mem)))))], [GT.cells a pa, GT.cells b pb]⟩ (.cons (Q_call fun w hw => c_laws_eqIntSS w a.mem pa.mem (rd_of (RHost.mem (d := a) (S.arg ha)) hw) b.mem pb.mem (rd_of (RHost.mem (d := b) (S.arg hb)) hw)) .nil) ?_; clear S; intro ac w β S
  refine RG.done rfl (nx_then ?_)
  refine S.c (!(decide (a.mem = b.mem))) (fun h1 => ?_) (fun h1 => ?_)
  · have h2 : (decide (a.mem = b.mem)) = false := not_t h1
    have g3 := of_decide_eq_false h2
    refine wp_seq (RG.start ?_)
    refine S.q 1 [4] 0 ⟨[(4, .v (B false))], []⟩ .nil ?_; clear S; intro ac w β S
    refine RG.done rfl (nx_then (wp_ret (rt_then ?_)))
    refine S.r [B false] ?_
    exact ⟨retB (by clear S; first | (simp [THost.ext_iff, *]; done) | (simp_all [THost.ext_iff]; done)), S.chg⟩
  · have h4 : (decide (a.mem = b.mem)) = true := not_f h1
    have g5 := of_decide_eq_true h4
    refine wp_skip (nx_then (wp_seq (wp_seq (RG.start ?_))))
    refine S.q 6 [2, 3, 16] 2 ⟨[(2, .p 0 0), (3, .p 1 0), (16, .v (B (!(decide (a.mons = b.mons)))))], [GT.cells a pa, GT.cells b pb]⟩ (.cons (Q_call fun w hw => c_laws_eqMonS w a.mons pa.mons (rd_of (RHost.mons (d := a) (S.arg ha)) hw) b.mons pb.mons (rd_of (RHost.mons (d := b) (S.arg hb)) hw)) .nil) ?_; clear S; intro ac w β S
    refine RG.done rfl (nx_then ?_)
    refine S.c (!(decide (a.mons = b.mons))) (fun h6 => ?_) (fun h6 => ?_)
    · have h7 : (decide (a.mons = b.mons)) = false := not_t h6
      have g8 := of_decide_eq_false h7
      refine wp_seq (RG.start ?_)
      refine S.q 1 [4] 0 ⟨[(4, .v (B false))], []⟩ .nil ?_; clear S; intro ac w β S
      refine RG.done rfl (nx_then (wp_ret (rt_then ?_)))
      refine S.r [B false] ?_
      exact ⟨retB (by clear S; first | (simp [THost.ext_iff, *]; done) | (simp_all [THost.ext_iff]; done)), S.chg⟩
    · have h9 : (decide (a.mons = b.mons)) = true := not_f h6
      have g10 := of_decide_eq_true h9
      refine wp_skip (nx_then (wp_seq (wp_seq (RG.start ?_))))
      refine S.q 6 [2, 3, 22] 2 ⟨[(2, .p 0 0), (3, .p 1 0), (22, .v (B (!(decide (a.buf = b.buf)))))], [GT.cells a pa, GT.cells b pb]⟩ (.cons (Q_call fun w hw => c_laws_eqEntryS w a.buf pa.buf (rd_of (RHost.buf (d := a) (S.arg ha)) hw) b.buf pb.buf (rd_of (RHost.buf (d := b) (S.arg hb)) hw)) .nil) ?_; clear S; intro ac w β S
      refine RG.done rfl (nx_then ?_)
      refine S.c (!(decide (a.buf = b.buf))) (fun h11 => ?_) (fun h11 => ?_)
      · have h12 : (decide (a.buf = b.buf)) = false := not_t h11
        have g13 := of_decide_eq_false h12
        refine wp_seq (RG.start ?_)
        refine S.q 1 [4] 0 ⟨[(4, .v (B false))], []⟩ .nil ?_; clear S; intro ac w β S
        refine RG.done rfl (nx_then (wp_ret (rt_then ?_)))
        refine S.r [B false] ?_
        exact ⟨retB (by clear S; first | (simp [THost.ext_iff, *]; done) | (simp_all [THost.ext_iff]; done)), S.chg⟩
      · have h14 : (decide (a.buf = b.buf)) = true := not_f h11
        have g15 := of_decide_eq_true h14
        refine wp_skip (nx_then (wp_seq (wp_seq (RG.start ?_))))
        refine S.q 6 [28] 0 ⟨[(28, .v (B (!(decide (a.iobuf = b.iobuf)))))], []⟩ (.cons (Q_call fun w hw => c_laws_eqEntryS w a.iobuf pa.iobuf (rd_of (RHost.iobuf (d := a) (S.arg ha)) hw) b.iobuf pb.iobuf (rd_of (RHost.iobuf (d := b) (S.arg hb)) hw)) .nil) ?_; clear S; intro ac w β S
        refine RG.done rfl (nx_then ?_)
        refine S.c (!(decide (a.iobuf = b.iobuf))) (fun h16 => ?_) (fun h16 => ?_)
        · have h17 : (decide (a.iobuf = b.iobuf)) = false := not_t h16
          have g18 := of_decide_eq_false h17
          refine wp_seq (RG.start ?_)
          refine S.q 1 [4] 0 ⟨[(4, .v (B false))], []⟩ .nil ?_; clear S; intro ac w β S
          refine RG.done rfl (nx_then (wp_ret (rt_then ?_)))
          refine S.r [B false] ?_
          exact ⟨retB (by clear S; first | (simp [THost.ext_iff, *]; done) | (simp_all [THost.ext_iff]; done)), S.chg⟩
        · have h19 : (decide (a.iobuf = b.iobuf)) = true := not_f h16
          have g20 := of_decide_eq_true h19
          refine wp_skip (nx_then (wp_seq (RG.start ?_)))
          refine S.q 1 [4] 0 ⟨[(4, .v (B true))], []⟩ .nil ?_; clear S; intro ac w β S
          refine RG.done rfl (nx_then (wp_ret ?_))
          refine S.r [B true] ?_
          exact ⟨retB (by clear S; first | (simp [THost.ext_iff, *]; done) | (simp_all [THost.ext_iff]; done)), S.chg⟩

set_option maxRecDepth 100000 in
theorem c_laws_markIntS (w0 : World) (a : List Int) (pa : LP Int) (F : Bl) (ha : GT.own KK F w0 a pa) (hF : ∀ b, F b → b < w0.heap.size) (k : Int) (pre0 : 0 ≤ k) (pre1 : k + 16 * (SZ.sz a : Int) ≤ 4611686018427387904) : Calls Tryz.prog 62 [slv (a).length pa.1, I k].toArray w0 (RetX hdl F w0 pa a k) := by
  refine Calls.walk (args := [slv (a).length pa.1, I k]) F Tryz.func62 rfl rfl ?_
  intro ac β S
  have oa : Ow w0 F w0 (Lt w0.heap.size) F a pa := ⟨ha, hF, fun b hb => .inr hb⟩
  have hz := szl_Int a
  have hlea : a.length ≤ 4194304 := LOwn.le ha
  refine wp_seq (RG.start ?_)
  refine S.q 1 [0, 1] 0 ⟨[(0, .v (slv (a).length pa.1)), (1, .v (I k))], []⟩ .nil ?_; clear S; intro ac w β S
  refine RG.done rfl (nx_then (wp_seq (wp_seq (RG.start ?_))))
  refine S.q 1 [0, 1, 5] 0 ⟨[(0, .v (slv (a).length pa.1)), (1, .v (I k)), (5, .v (I 0))], []⟩ .nil ?_; clear S; intro ac w β S
  refine RG.done rfl (nx_then (wp_block ?_))
  replace S := S.p [0, 1, 5] 0 ⟨[(0, .v (slv (a).length pa.1)), (1, .v (I k)), (5, .v (I 0))], []⟩
  refine wp_loop_down (fun mm ac w => ∃ (i : Nat) (acc : List Int) (j : Int) (q1 : GT.Ptr (List Int)) (F2 : Bl) (u : World) (N : Bl) (β : Nat → Nat), mm = a.length - i ∧ (i ≤ a.length) ∧ (acc = f_marksInt i k ++ a.drop i) ∧ (j = k + 1 * (i : Int)) ∧ St Tryz.prog Tryz.f62.ntmps w0 F u N β ⟨[(0, .v (slv a.length q1.1)), (1, .v (I j)), (5, .v (I (i : Int)))], []⟩ ac w ∧ Ow w0 F u N F2 acc q1 ∧ q1.1 = pa.1 ∧ (∀ b, F2 b → F b)) _ ⟨0, a, k, pa, F, _, _, _, rfl, (by first | omega | (simp; done) | (simp; omega)), (by simp [f_marksInt]), (by simp), S.cast (by kernel_rfl), oa, rfl, (fun _ h => h)⟩ ?_
  clear S oa
  rintro mm ac w ⟨i, acc, j, q1, F2, u, N, β, rfl, hi, hacc, hj, S, o3, hq, hs⟩
  have hlacc : acc.length = a.length := by rw [hacc]; simp [f_marksInt]; omega
  refine wp_seq (wp_seq (RG.start ?_))
  refine S.q 4 [0, 1, 5, 9] 0 ⟨[(0, .v (slv a.length q1.1)), (1, .v (I j)), (5, .v (I (i : Int))), (9, .v (B (decide ((i : Int) < (a.length : Int)))))], []⟩ .nil ?_; clear S; intro ac w β S
  refine RG.done rfl (nx_then ?_)
  refine S.c (decide ((i : Int) < (a.length : Int))) (fun h4 => ?_) (fun h4 => ?_)
  · have g5 : (i : Int) < (a.length : Int) := of_decide_eq_true h4
    refine wp_skip (nx_then (wp_seq (wp_block (wp_seq (RG.start ?_)))))
    refine S.q 4 [0, 1, 5, 14, 15] 0 ⟨[(0, .v (slv a.length q1.1)), (1, .v (I j)), (5, .v (I (i : Int))), (14, .v (I j)), (15, .v (pt q1.1.b (q1.1.off + i * 1)))], []⟩ (.cons (Q_idx o3.rn (l := a.length) (k := i) (i := (i : Int)) (by rw [hacc]; simp [f_marksInt]; omega) rfl (by omega) Tryz.underlying53 (by kernel_rfl)) .nil) ?_; clear S; intro ac w β S
    refine RG.op rfl (S.setEl (α := Int) o3 (t := 3) (v := I j) (k := i) (j := 0) (off := q1.1.off + i * 1) (y := j) (q := ()) (Fy := NoB) (by kernel_rfl) (by kernel_rfl) (by omega) (by kernel_rfl) (by kernel_rfl) (Nat.le_of_ble_eq_true (by kernel_rfl)) (by kernel_rfl) (fun _ _ _ => ⟨NoB, ⟨by omega, by omega⟩, fun _ h => False.elim h⟩) (fun b _ h => False.elim h) (fun b h => False.elim h) (fun b h => False.elim h) ?_)
    clear S; intro w N F7 q8 S up o6 d9 s10
    have s11 : ∀ b, F7 b → F b := fun b h => (s10 b h).elim (hs b) (fun h => False.elim h)
    clear up d9 o3
    have l12 : (acc.set i j).length = (acc).length := List.length_set
    replace S := S.p [0, 1, 5] 0 ⟨[(0, .v (slv a.length q1.1)), (1, .v (I j)), (5, .v (I (i : Int)))], []⟩
    refine RG.done rfl (nx_then (RG.start ?_))
    refine S.q 3 [0, 1, 5] 0 ⟨[(0, .v (slv a.length q1.1)), (1, .v (I (j + 1))), (5, .v (I (i : Int)))], []⟩ (.cons (Q_add (x := j) (y := 1) ⟨by omega, by omega⟩) .nil) ?_; clear S; intro ac w β S
    refine RG.done rfl (nx_block (nx_then (RG.start ?_)))
    refine S.q 3 [0, 1, 5] 0 ⟨[(0, .v (slv a.length q1.1)), (1, .v (I (j + 1))), (5, .v (I ((i : Int) + 1)))], []⟩ (.cons (Q_add (x := (i : Int)) (y := 1) ⟨by omega, by omega⟩) .nil) ?_; clear S; intro ac w β S
    refine RG.done rfl (nx_then ?_)
    replace S := S.p [0, 1, 5] 0 ⟨[(0, .v (slv a.length q1.1)), (1, .v (I (j + 1))), (5, .v (I ((i : Int) + 1)))], []⟩
    refine ⟨a.length - (i + 1), by omega, i + 1, (acc.set i j), (j + 1), (q1.1, q8), F7, _, _, _, rfl, ?_, ?_, ?_, S.cast (by kernel_rfl), o6, hq, s11⟩
    · clear S; first | omega | (simp [*]; done) | (simp [*]; omega)
    · clear S; (have hlt : i < acc.length := (by omega)); rw [hacc, ← marksInt_step (by omega) hj]; (first | rfl | (simp [g_markInt, Int.add_assoc]; done))
    · clear S; omega
  · have g13 : ¬ ((i : Int) < (a.length : Int)) := of_decide_eq_false h4
    refine wp_exit (ex_then (ex_then (ex_hit (nx_then (wp_seq (RG.start ?_))))))
    refine S.q 2 [4] 0 ⟨[(4, .v (I j))], []⟩ .nil ?_; clear S; intro ac w β S
    refine RG.done rfl (nx_then (wp_ret ?_))
    refine S.r [I j] ?_
    have hyd : hdl acc k = j := by clear S; (have e : i = a.length := (by omega)); subst e; rw [hacc, List.drop_length, List.append_nil, hj]; exact hd_marksInt k (by omega) _ (by omega) id
    have hyb : k ≤ j ∧ j ≤ k + 16 * ((SZ.sz a : Nat) : Int) := by clear S; skip; constructor <;> omega
    exact retX_of S hyd hyb.1 hyb.2 (by show [slv _ _] = [slv _ _]; rw [hlacc, hq]) o3 hs

set_option maxRecDepth 100000 in
theorem c_laws_markIntSS (w0 : World) (a : List (List Int)) (pa : LP (List Int)) (F : Bl) (ha : GT.own KK F w0 a pa) (hF : ∀ b, F b → b < w0.heap.size) (k : Int) (pre0 : 0 ≤ k) (pre1 : k + 16 * (SZ.sz a : Int) ≤ 4611686018427387904) : Calls Tryz.prog 31 [slv (a).length pa.1, I k].toArray w0 (RetX hdl F w0 pa a k) := by
  refine Calls.walk (args := [slv (a).length pa.1, I k]) F Tryz.func31 rfl rfl ?_
  intro ac β S
  have oa : Ow w0 F w0 (Lt w0.heap.size) F a pa := ⟨ha, hF, fun b hb => .inr hb⟩
  have hz := sz_list a
  have hlea : a.length ≤ 4194304 := LOwn.le ha
  refine wp_seq (RG.start ?_)
  refine S.q 1 [0, 1] 0 ⟨[(0, .v (slv (a).length pa.1)), (1, .v (I k))], []⟩ .nil ?_; clear S; intro ac w β S
  refine RG.done rfl (nx_then (wp_seq (wp_seq (RG.start ?_))))
  refine S.q 1 [0, 1, 5] 0 ⟨[(0, .v (slv (a).length pa.1)), (1, .v (I k)), (5, .v (I 0))], []⟩ .nil ?_; clear S; intro ac w β S
  refine RG.done rfl (nx_then (wp_block ?_))
  replace S := S.p [0, 1, 5] 0 ⟨[(0, .v (slv (a).length pa.1)), (1, .v (I k)), (5, .v (I 0))], []⟩
  refine wp_loop_down (fun mm ac w => ∃ (i : Nat) (acc : List (List Int)) (j : Int) (q1 : GT.Ptr (List (List Int))) (F2 : Bl) (u : World) (N : Bl) (β : Nat → Nat), mm = a.length - i ∧ (i ≤ a.length) ∧ (acc.length = a.length) ∧ (∀ f, hdlc (acc.take i) k f = f j) ∧ (acc.drop i = a.drop i) ∧ (k ≤ j) ∧ (j ≤ k + 16 * ((i : Int) + (szsum (a.take i) : Nat))) ∧ St Tryz.prog Tryz.f31.ntmps w0 F u N β ⟨[(0, .v (slv a.length q1.1)), (1, .v (I j)), (5, .v (I (i : Int)))], []⟩ ac w ∧ Ow w0 F u N F2 acc q1 ∧ q1.1 = pa.1 ∧ (∀ b, F2 b → F b)) _ ⟨0, a, k, pa, F, _, _, _, rfl, (by first | omega | (simp; done) | (simp; omega)), (by rfl), (by intro f; rfl), (by rfl), (by first | omega | (simp; done) | (simp; omega)), (by simp [szsum_nil]), S.cast (by kernel_rfl), oa, rfl, (fun _ h => h)⟩ ?_
  clear S oa
  rintro mm ac w ⟨i, acc, j, q1, F2, u, N, β, rfl, hi, hl, hM, hD, hj0, hj1, S, o3, hq, hs⟩
  have hel := el_of_drop hD
  have hsl := szsum_take_le a i
  refine wp_seq (wp_seq (RG.start ?_))
  refine S.q 4 [0, 1, 5, 9] 0 ⟨[(0, .v (slv a.length q1.1)), (1, .v (I j)), (5, .v (I (i : Int))), (9, .v (B (decide ((i : Int) < (a.length : Int)))))], []⟩ .nil ?_; clear S; intro ac w β S
  refine RG.done rfl (nx_then ?_)
  refine S.c (decide ((i : Int) < (a.length : Int))) (fun h4 => ?_) (fun h4 => ?_)
  · have g5 : (i : Int) < (a.length : Int) := of_decide_eq_true h4
    refine wp_skip (nx_then (wp_seq (wp_block (RG.start ?_))))
    refine S.q 5 [0, 5, 15, 16] 0 ⟨[(0, .v (slv a.length q1.1)), (5, .v (I (i : Int))), (15, .v (slv ((el acc i)).length (q1.2 i).1)), (16, .v (I j))], []⟩ (.cons (Q_idx o3.rn (l := a.length) (k := i) (i := (i : Int)) (by omega) rfl (by omega) Tryz.underlying22 (by kernel_rfl)) (.cons (Q_el1 o3.rn (t := 53) (k := i) (by omega) rfl (by kernel_rfl)) .nil)) ?_; clear S; intro ac w β S
    obtain ⟨F6, o7, s8, b9⟩ := foc_id o3 (k := i) (show i < (acc).length by omega)
    have z10 := szsum_take (xs := a) (k := i) (by omega)
    have z11 := szsum_take_le a (i + 1)
    have e12 : (el acc i) = el a i := by simp only [hel]
    refine RG.op rfl (S.callX (hd := hdl) (d := 17) o7 (c_laws_markIntS w (el acc i) (q1.2 i) F6 (S.ownw o7) (fun b hb => (S.sep b (o7.sub b hb)).1) j (by omega) (by rw [e12]; omega)) (by kernel_rfl) rfl ?_)
    clear S; intro ac w N q13 y14 k15 S up o16 c17 x18 b19 b20
    rw [e12] at b20
    obtain ⟨p21, o22⟩ := b9 _ _ _ _ up o16 c17
    clear up o3 o7 s8 b9 o16 c17
    obtain ⟨a23, e24⟩ : ∃ z, z = (acc).set i (y14) := ⟨_, rfl⟩
    rw [← e24] at o22
    have l25 : a23.length = (acc).length := by rw [e24]; exact List.length_set
    have e26 : el a23 i = y14 := by rw [e24]; exact el_set_self (show i < (acc).length by omega)
    have t27 : a23.take i = (acc).take i := by rw [e24]; exact take_set_self
    have d28 : a23.drop (i + 1) = (acc).drop (i + 1) := by rw [e24]; exact drop_set_self
    clear e24
    refine S.q 1 [0, 1, 5] 0 ⟨[(0, .v (slv a.length q1.1)), (1, .v (I k15)), (5, .v (I (i : Int)))], []⟩ .nil ?_; clear S; intro ac w β S
    refine RG.done rfl (nx_block (nx_then (RG.start ?_)))
    refine S.q 3 [0, 1, 5] 0 ⟨[(0, .v (slv a.length q1.1)), (1, .v (I k15)), (5, .v (I ((i : Int) + 1)))], []⟩ (.cons (Q_add (x := (i : Int)) (y := 1) ⟨by omega, by omega⟩) .nil) ?_; clear S; intro ac w β S
    refine RG.done rfl (nx_then ?_)
    replace S := S.p [0, 1, 5] 0 ⟨[(0, .v (slv a.length q1.1)), (1, .v (I k15)), (5, .v (I ((i : Int) + 1)))], []⟩
    refine ⟨a.length - (i + 1), by omega, i + 1, a23, k15, (q1.1, p21), F2, _, _, _, rfl, ?_, ?_, ?_, ?_, ?_, ?_, S.cast (by kernel_rfl), o22, hq, hs⟩
    · clear S; first | omega | (simp [*]; done) | (simp [*]; omega)
    · clear S; omega
    · clear S; refine mk_step (acc := a23) (by omega) (by intro f; rw [t27]; exact hM f) ?_; intro f; simp (disch := first | omega | rfl) only [he_list, he_list, e26, x18, hdc_pos, hdi_eq, hdb_eq]
    · clear S; rw [d28]; exact drop_more hD
    · clear S; omega
    · clear S; omega
  · have g29 : ¬ ((i : Int) < (a.length : Int)) := of_decide_eq_false h4
    refine wp_exit (ex_then (ex_then (ex_hit (nx_then (wp_seq (RG.start ?_))))))
    refine S.q 2 [4] 0 ⟨[(4, .v (I j))], []⟩ .nil ?_; clear S; intro ac w β S
    refine RG.done rfl (nx_then (wp_ret ?_))
    refine S.r [I j] ?_
    have hyd : hdl acc k = j := by clear S; exact mk_end (by omega) hM
    have hyb : k ≤ j ∧ j ≤ k + 16 * ((SZ.sz a : Nat) : Int) := by clear S; have hs2 := szsum_take_le a i; constructor <;> omega
    exact retX_of S hyd hyb.1 hyb.2 (by show [slv _ _] = [slv _ _]; rw [hl, hq]) o3 hs

set_option maxRecDepth 100000 in
theorem c_laws_markSlotS (w0 : World) (a : List TSlot) (pa : LP TSlot) (F : Bl) (ha : GT.own KK F w0 a pa) (hF : ∀ b, F b → b < w0.heap.size) (k : Int) (pre0 : 0 ≤ k) (pre1 : k + 16 * (SZ.sz a : Int) ≤ 4611686018427387904) : Calls Tryz.prog 63 [slv (a).length pa.1, I k].toArray w0 (RetX hdl F w0 pa a k) := by
  refine Calls.walk (args := [slv (a).length pa.1, I k]) F Tryz.func63 rfl rfl ?_
  intro ac β S
  have oa : Ow w0 F w0 (Lt w0.heap.size) F a pa := ⟨ha, hF, fun b hb => .inr hb⟩
  have hz := szl_TSlot a
  have hlea : a.length ≤ 4194304 := LOwn.le ha
  refine wp_seq (RG.start ?_)
  refine S.q 1 [0, 1] 0 ⟨[(0, .v (slv (a).length pa.1)), (1, .v (I k))], []⟩ .nil ?_; clear S; intro ac w β S
  refine RG.done rfl (nx_then (wp_seq (wp_seq (RG.start ?_))))
  refine S.q 1 [0, 1, 5] 0 ⟨[(0, .v (slv (a).length pa.1)), (1, .v (I k)), (5, .v (I 0))], []⟩ .nil ?_; clear S; intro ac w β S
  refine RG.done rfl (nx_then (wp_block ?_))
  replace S := S.p [0, 1, 5] 0 ⟨[(0, .v (slv (a).length pa.1)), (1, .v (I k)), (5, .v (I 0))], []⟩
  refine wp_loop_down (fun mm ac w => ∃ (i : Nat) (acc : List TSlot) (j : Int) (q1 : GT.Ptr (List TSlot)) (F2 : Bl) (u : World) (N : Bl) (β : Nat → Nat), mm = a.length - i ∧ (i ≤ a.length) ∧ (acc = f_marksSlot i k ++ a.drop i) ∧ (j = k + 2 * (i : Int)) ∧ St Tryz.prog Tryz.f63.ntmps w0 F u N β ⟨[(0, .v (slv a.length q1.1)), (1, .v (I j)), (5, .v (I (i : Int)))], []⟩ ac w ∧ Ow w0 F u N F2 acc q1 ∧ q1.1 = pa.1 ∧ (∀ b, F2 b → F b)) _ ⟨0, a, k, pa, F, _, _, _, rfl, (by first | omega | (simp; done) | (simp; omega)), (by simp [f_marksSlot]), (by simp), S.cast (by kernel_rfl), oa, rfl, (fun _ h => h)⟩ ?_
  clear S oa
  rintro mm ac w ⟨i, acc, j, q1, F2, u, N, β, rfl, hi, hacc, hj, S, o3, hq, hs⟩
  have hlacc : acc.length = a.length := by rw [hacc]; simp [f_marksSlot]; omega
  refine wp_seq (wp_seq (RG.start ?_))
  refine S.q 4 [0, 1, 5, 9] 0 ⟨[(0, .v (slv a.length q1.1)), (1, .v (I j)), (5, .v (I (i : Int))), (9, .v (B (decide ((i : Int) < (a.length : Int)))))], []⟩ .nil ?_; clear S; intro ac w β S
  refine RG.done rfl (nx_then ?_)
  refine S.c (decide ((i : Int) < (a.length : Int))) (fun h4 => ?_) (fun h4 => ?_)
  · have g5 : (i : Int) < (a.length : Int) := of_decide_eq_true h4
    refine wp_skip (nx_then (wp_seq (wp_block (wp_seq (RG.start ?_)))))
    refine S.q 5 [0, 1, 5, 14, 16] 0 ⟨[(0, .v (slv a.length q1.1)), (1, .v (I j)), (5, .v (I (i : Int))), (14, .v (I j)), (16, .v (pt q1.1.b (q1.1.off + i * 2)))], []⟩ (.cons (Q_idx o3.rn (l := a.length) (k := i) (i := (i : Int)) (by rw [hacc]; simp [f_marksSlot]; omega) rfl (by omega) Tryz.underlying50 (by kernel_rfl)) .nil) ?_; clear S; intro ac w β S
    have e6 : RSlot (el acc i) := (LRd.el o3.rn i (by omega))
    refine RG.op rfl (S.setEl (α := TSlot) o3 (t := 3) (v := I j) (k := i) (j := 0) (off := q1.1.off + i * 2) (y := (⟨j, (el acc i).rights⟩ : TSlot)) (q := ()) (Fy := NoB) (by kernel_rfl) (by kernel_rfl) (by omega) (by kernel_rfl) (by kernel_rfl) (Nat.le_of_ble_eq_true (by kernel_rfl)) (by kernel_rfl) (fun _ _ _ => ⟨NoB, (show RSlot (⟨j, (el acc i).rights⟩ : TSlot) from ⟨(show In64 j from ⟨by omega, by omega⟩), (RSlot.rights (d := (el acc i)) e6)⟩), fun _ h => False.elim h⟩) (fun b _ h => False.elim h) (fun b h => False.elim h) (fun b h => False.elim h) ?_)
    clear S; intro w N F8 q9 S up o7 d10 s11
    have s12 : ∀ b, F8 b → F b := fun b h => (s11 b h).elim (hs b) (fun h => False.elim h)
    clear up d10 o3
    have l13 : (acc.set i (⟨j, (el acc i).rights⟩ : TSlot)).length = (acc).length := List.length_set
    replace S := S.p [0, 1, 5] 0 ⟨[(0, .v (slv a.length q1.1)), (1, .v (I j)), (5, .v (I (i : Int)))], []⟩
    refine RG.done rfl (nx_then (wp_seq (RG.start ?_)))
    refine S.q 3 [0, 1, 5] 0 ⟨[(0, .v (slv a.length q1.1)), (1, .v (I (j + 1))), (5, .v (I (i : Int)))], []⟩ (.cons (Q_add (x := j) (y := 1) ⟨by omega, by omega⟩) .nil) ?_; clear S; intro ac w β S
    refine RG.done rfl (nx_then (wp_seq (RG.start ?_)))
    refine S.q 5 [0, 1, 5, 21, 23] 0 ⟨[(0, .v (slv a.length q1.1)), (1, .v (I (j + 1))), (5, .v (I (i : Int))), (21, .v (I (j + 1))), (23, .v (pt q1.1.b (q1.1.off + i * 2 + 1)))], []⟩ (.cons (Q_idx o7.rn (l := a.length) (k := i) (i := (i : Int)) (by rw [List.length_set]; exact (by rw [hacc]; simp [f_marksSlot]; omega)) rfl (by omega) Tryz.underlying50 (by kernel_rfl)) .nil) ?_; clear S; intro ac w β S
    refine RG.op rfl (S.setEl (α := TSlot) o7 (t := 3) (v := I (j + 1)) (k := i) (j := 1) (off := q1.1.off + i * 2 + 1) (y := (⟨j, (j + 1)⟩ : TSlot)) (q := ()) (Fy := NoB) (by kernel_rfl) (by kernel_rfl) (by omega) (by kernel_rfl) (by kernel_rfl) (Nat.le_of_ble_eq_true (by kernel_rfl)) (by rw [el_set_self (show i < (acc).length by omega)]; kernel_rfl) (fun _ _ _ => ⟨NoB, (show RSlot (⟨j, (j + 1)⟩ : TSlot) from ⟨(show In64 j from ⟨by omega, by omega⟩), (show In64 (j + 1) from ⟨by omega, by omega⟩)⟩), fun _ h => False.elim h⟩) (fun b _ h => False.elim h) (fun b h => False.elim h) (fun b h => False.elim h) ?_)
    clear S; intro w N F15 q16 S up o14 d17 s18
    have s19 : ∀ b, F15 b → F b := fun b h => (s18 b h).elim (s12 b) (fun h => False.elim h)
    clear up d17 o7
    rw [List.set_set] at o14
    have l20 : (acc.set i (⟨j, (j + 1)⟩ : TSlot)).length = (acc).length := List.length_set
    replace S := S.p [0, 1, 5] 0 ⟨[(0, .v (slv a.length q1.1)), (1, .v (I (j + 1))), (5, .v (I (i : Int)))], []⟩
    refine RG.done rfl (nx_then (RG.start ?_))
    refine S.q 3 [0, 1, 5] 0 ⟨[(0, .v (slv a.length q1.1)), (1, .v (I ((j + 1) + 1))), (5, .v (I (i : Int)))], []⟩ (.cons (Q_add (x := (j + 1)) (y := 1) ⟨by omega, by omega⟩) .nil) ?_; clear S; intro ac w β S
    refine RG.done rfl (nx_block (nx_then (RG.start ?_)))
    refine S.q 3 [0, 1, 5] 0 ⟨[(0, .v (slv a.length q1.1)), (1, .v (I ((j + 1) + 1))), (5, .v (I ((i : Int) + 1)))], []⟩ (.cons (Q_add (x := (i : Int)) (y := 1) ⟨by omega, by omega⟩) .nil) ?_; clear S; intro ac w β S
    refine RG.done rfl (nx_then ?_)
    replace S := S.p [0, 1, 5] 0 ⟨[(0, .v (slv a.length q1.1)), (1, .v (I ((j + 1) + 1))), (5, .v (I ((i : Int) + 1)))], []⟩
    refine ⟨a.length - (i + 1), by omega, i + 1, (acc.set i (⟨j, (j + 1)⟩ : TSlot)), ((j + 1) + 1), (q1.1, q16), F15, _, _, _, rfl, ?_, ?_, ?_, S.cast (by kernel_rfl), o14, hq, s19⟩
    · clear S; first | omega | (simp [*]; done) | (simp [*]; omega)
    · clear S; (have hlt : i < acc.length := (by omega)); rw [hacc, ← marksSlot_step (by omega) hj]; (first | rfl | (simp [g_markSlot, Int.add_assoc]; done))
    · clear S; omega
  · have g21 : ¬ ((i : Int) < (a.length : Int)) := of_decide_eq_false h4
    refine wp_exit (ex_then (ex_then (ex_hit (nx_then (wp_seq (RG.start ?_))))))
    refine S.q 2 [4] 0 ⟨[(4, .v (I j))], []⟩ .nil ?_; clear S; intro ac w β S
    refine RG.done rfl (nx_then (wp_ret ?_))
    refine S.r [I j] ?_
    have hyd : hdl acc k = j := by clear S; (have e : i = a.length := (by omega)); subst e; rw [hacc, List.drop_length, List.append_nil, hj]; exact hd_marksSlot k (by omega) _ (by omega) id
    have hyb : k ≤ j ∧ j ≤ k + 16 * ((SZ.sz a : Nat) : Int) := by clear S; skip; constructor <;> omega
    exact retX_of S hyd hyb.1 hyb.2 (by show [slv _ _] = [slv _ _]; rw [hlacc, hq]) o3 hs

set_option maxRecDepth 100000 in
theorem c_laws_markBoolS (w0 : World) (a : List Bool) (pa : LP Bool) (F : Bl) (ha : GT.own KK F w0 a pa) (hF : ∀ b, F b → b < w0.heap.size) (k : Int) (pre0 : 0 ≤ k) (pre1 : k + 16 * (SZ.sz a : Int) ≤ 4611686018427387904) : Calls Tryz.prog 64 [slv (a).length pa.1, I k].toArray w0 (RetX hdl F w0 pa a k) := by
  refine Calls.walk (args := [slv (a).length pa.1, I k]) F Tryz.func64 rfl rfl ?_
  intro ac β S
  have oa : Ow w0 F w0 (Lt w0.heap.size) F a pa := ⟨ha, hF, fun b hb => .inr hb⟩
  have hz := szl_Bool a
  have hlea : a.length ≤ 4194304 := LOwn.le ha
  refine wp_seq (RG.start ?_)
  refine S.q 1 [0, 1] 0 ⟨[(0, .v (slv (a).length pa.1)), (1, .v (I k))], []⟩ .nil ?_; clear S; intro ac w β S
  refine RG.done rfl (nx_then (wp_seq (wp_seq (RG.start ?_))))
  refine S.q 1 [0, 1, 5] 0 ⟨[(0, .v (slv (a).length pa.1)), (1, .v (I k)), (5, .v (I 0))], []⟩ .nil ?_; clear S; intro ac w β S
  refine RG.done rfl (nx_then (wp_block ?_))
  replace S := S.p [0, 1, 5] 0 ⟨[(0, .v (slv (a).length pa.1)), (1, .v (I k)), (5, .v (I 0))], []⟩
  refine wp_loop_down (fun mm ac w => ∃ (i : Nat) (acc : List Bool) (j : Int) (q1 : GT.Ptr (List Bool)) (F2 : Bl) (u : World) (N : Bl) (β : Nat → Nat), mm = a.length - i ∧ (i ≤ a.length) ∧ (acc = f_marksBool i k ++ a.drop i) ∧ (j = k + 1 * (i : Int)) ∧ St Tryz.prog Tryz.f64.ntmps w0 F u N β ⟨[(0, .v (slv a.length q1.1)), (1, .v (I j)), (5, .v (I (i : Int)))], []⟩ ac w ∧ Ow w0 F u N F2 acc q1 ∧ q1.1 = pa.1 ∧ (∀ b, F2 b → F b)) _ ⟨0, a, k, pa, F, _, _, _, rfl, (by first | omega | (simp; done) | (simp; omega)), (by simp [f_marksBool]), (by simp), S.cast (by kernel_rfl), oa, rfl, (fun _ h => h)⟩ ?_
  clear S oa
  rintro mm ac w ⟨i, acc, j, q1, F2, u, N, β, rfl, hi, hacc, hj, S, o3, hq, hs⟩
  have hlacc : acc.length = a.length := by rw [hacc]; simp [f_marksBool]; omega
  refine wp_seq (wp_seq (RG.start ?_))
  refine S.q 4 [0, 1, 5, 9] 0 ⟨[(0, .v (slv a.length q1.1)), (1, .v (I j)), (5, .v (I (i : Int))), (9, .v (B (decide ((i : Int) < (a.length : Int)))))], []⟩ .nil ?_; clear S; intro ac w β S
  refine RG.done rfl (nx_then ?_)
  refine S.c (decide ((i : Int) < (a.length : Int))) (fun h4 => ?_) (fun h4 => ?_)
  · have g5 : (i : Int) < (a.length : Int) := of_decide_eq_true h4
    refine wp_skip (nx_then (wp_seq (wp_block (wp_seq (RG.start ?_)))))
    refine S.q 6 [0, 1, 5, 16, 17] 0 ⟨[(0, .v (slv a.length q1.1)), (1, .v (I j)), (5, .v (I (i : Int))), (16, .v (B ((Int.tmod j 3) == 0))), (17, .v (pt q1.1.b (q1.1.off + i * 1)))], []⟩ (.cons (Q_rem (x := j) (y := 3) (by decide)) (.cons (Q_idx o3.rn (l := a.length) (k := i) (i := (i : Int)) (by rw [hacc]; simp [f_marksBool]; omega) rfl (by omega) Tryz.underlying51 (by kernel_rfl)) .nil)) ?_; clear S; intro ac w β S
    refine RG.op rfl (S.setEl (α := Bool) o3 (t := 4) (v := B ((Int.tmod j 3) == 0)) (k := i) (j := 0) (off := q1.1.off + i * 1) (y := ((Int.tmod j 3) == 0)) (q := ()) (Fy := NoB) (by kernel_rfl) (by kernel_rfl) (by omega) (by kernel_rfl) (by kernel_rfl) (Nat.le_of_ble_eq_true (by kernel_rfl)) (by kernel_rfl) (fun _ _ _ => ⟨NoB, trivial, fun _ h => False.elim h⟩) (fun b _ h => False.elim h) (fun b h => False.elim h) (fun b h => False.elim h) ?_)
    clear S; intro w N F7 q8 S up o6 d9 s10
    have s11 : ∀ b, F7 b → F b := fun b h => (s10 b h).elim (hs b) (fun h => False.elim h)
    clear up d9 o3
    have l12 : (acc.set i ((Int.tmod j 3) == 0)).length = (acc).length := List.length_set
    replace S := S.p [0, 1, 5] 0 ⟨[(0, .v (slv a.length q1.1)), (1, .v (I j)), (5, .v (I (i : Int)))], []⟩
    refine RG.done rfl (nx_then (RG.start ?_))
    refine S.q 3 [0, 1, 5] 0 ⟨[(0, .v (slv a.length q1.1)), (1, .v (I (j + 1))), (5, .v (I (i : Int)))], []⟩ (.cons (Q_add (x := j) (y := 1) ⟨by omega, by omega⟩) .nil) ?_; clear S; intro ac w β S
    refine RG.done rfl (nx_block (nx_then (RG.start ?_)))
    refine S.q 3 [0, 1, 5] 0 ⟨[(0, .v (slv a.length q1.1)), (1, .v (I (j + 1))), (5, .v (I ((i : Int) + 1)))], []⟩ (.cons (Q_add (x := (i : Int)) (y := 1) ⟨by omega, by omega⟩) .nil) ?_; clear S; intro ac w β S
    refine RG.done rfl (nx_then ?_)
    replace S := S.p [0, 1, 5] 0 ⟨[(0, .v (slv a.length q1.1)), (1, .v (I (j + 1))), (5, .v (I ((i : Int) + 1)))], []⟩
    refine ⟨a.length - (i + 1), by omega, i + 1, (acc.set i ((Int.tmod j 3) == 0)), (j + 1), (q1.1, q8), F7, _, _, _, rfl, ?_, ?_, ?_, S.cast (by kernel_rfl), o6, hq, s11⟩
    · clear S; first | omega | (simp [*]; done) | (simp [*]; omega)
    · clear S; (have hlt : i < acc.length := (by omega)); rw [hacc, ← marksBool_step (by omega) hj]; (first | rfl | (simp [g_markBool, Int.add_assoc]; done))
    · clear S; omega
  · have g13 : ¬ ((i : Int) < (a.length : Int)) := of_decide_eq_false h4
    refine wp_exit (ex_then (ex_then (ex_hit (nx_then (wp_seq (RG.start ?_))))))
    refine S.q 2 [4] 0 ⟨[(4, .v (I j))], []⟩ .nil ?_; clear S; intro ac w β S
    refine RG.done rfl (nx_then (wp_ret ?_))
    refine S.r [I j] ?_
    have hyd : hdl acc k = j := by clear S; (have e : i = a.length := (by omega)); subst e; rw [hacc, List.drop_length, List.append_nil, hj]; exact hd_marksBool k (by omega) _ (by omega) id
    have hyb : k ≤ j ∧ j ≤ k + 16 * ((SZ.sz a : Nat) : Int) := by clear S; skip; constructor <;> omega
    exact retX_of S hyd hyb.1 hyb.2 (by show [slv _ _] = [slv _ _]; rw [hlacc, hq]) o3 hs

set_option maxRecDepth 100000 in
theorem c_laws_markInsS (w0 : World) (a : List TIns) (pa : LP TIns) (F : Bl) (ha : GT.own KK F w0 a pa) (hF : ∀ b, F b → b < w0.heap.size) (k : Int) (pre0 : 0 ≤ k) (pre1 : k + 16 * (SZ.sz a : Int) ≤ 4611686018427387904) : Calls Tryz.prog 110 [slv (a).length pa.1, I k].toArray w0 (RetX hdl F w0 pa a k) := by
  refine Calls.walk (args := [slv (a).length pa.1, I k]) F Tryz.func110 rfl rfl ?_
  intro ac β S
  have oa : Ow w0 F w0 (Lt w0.heap.size) F a pa := ⟨ha, hF, fun b hb => .inr hb⟩
  have hz := szl_TIns a
  have hlea : a.length ≤ 4194304 := LOwn.le ha
  refine wp_seq (RG.start ?_)
  refine S.q 1 [0, 1] 0 ⟨[(0, .v (slv (a).length pa.1)), (1, .v (I k))], []⟩ .nil ?_; clear S; intro ac w β S
  refine RG.done rfl (nx_then (wp_seq (wp_seq (RG.start ?_))))
  refine S.q 1 [0, 1, 5] 0 ⟨[(0, .v (slv (a).length pa.1)), (1, .v (I k)), (5, .v (I 0))], []⟩ .nil ?_; clear S; intro ac w β S
  refine RG.done rfl (nx_then (wp_block ?_))
  replace S := S.p [0, 1, 5] 0 ⟨[(0, .v (slv (a).length pa.1)), (1, .v (I k)), (5, .v (I 0))], []⟩
  refine wp_loop_down (fun mm ac w => ∃ (i : Nat) (acc : List TIns) (j : Int) (q1 : GT.Ptr (List TIns)) (F2 : Bl) (u : World) (N : Bl) (β : Nat → Nat), mm = a.length - i ∧ (i ≤ a.length) ∧ (acc = f_marksIns i k ++ a.drop i) ∧ (j = k + 2 * (i : Int)) ∧ St Tryz.prog Tryz.f110.ntmps w0 F u N β ⟨[(0, .v (slv a.length q1.1)), (1, .v (I j)), (5, .v (I (i : Int)))], []⟩ ac w ∧ Ow w0 F u N F2 acc q1 ∧ q1.1 = pa.1 ∧ (∀ b, F2 b → F b)) _ ⟨0, a, k, pa, F, _, _, _, rfl, (by first | omega | (simp; done) | (simp; omega)), (by simp [f_marksIns]), (by simp), S.cast (by kernel_rfl), oa, rfl, (fun _ h => h)⟩ ?_
  clear S oa
  rintro mm ac w ⟨i, acc, j, q1, F2, u, N, β, rfl, hi, hacc, hj, S, o3, hq, hs⟩
  have hlacc : acc.length = a.length := by rw [hacc]; simp [f_marksIns]; omega
  refine wp_seq (wp_seq (RG.start ?_))
  refine S.q 4 [0, 1, 5, 9] 0 ⟨[(0, .v (slv a.length q1.1)), (1, .v (I j)), (5, .v (I (i : Int))), (9, .v (B (decide ((i : Int) < (a.length : Int)))))], []⟩ .nil ?_; clear S; intro ac w β S
  refine RG.done rfl (nx_then ?_)
  refine S.c (decide ((i : Int) < (a.length : Int))) (fun h4 => ?_) (fun h4 => ?_)
  · have g5 : (i : Int) < (a.length : Int) := of_decide_eq_true h4
    refine wp_skip (nx_then (wp_seq (wp_block (wp_seq (RG.start ?_)))))
    refine S.q 5 [0, 1, 5, 14, 16] 0 ⟨[(0, .v (slv a.length q1.1)), (1, .v (I j)), (5, .v (I (i : Int))), (14, .v (I j)), (16, .v (pt q1.1.b (q1.1.off + i * 2)))], []⟩ (.cons (Q_idx o3.rn (l := a.length) (k := i) (i := (i : Int)) (by rw [hacc]; simp [f_marksIns]; omega) rfl (by omega) Tryz.underlying104 (by kernel_rfl)) .nil) ?_; clear S; intro ac w β S
    have e6 : RIns (el acc i) := (LRd.el o3.rn i (by omega))
    refine RG.op rfl (S.setEl (α := TIns) o3 (t := 3) (v := I j) (k := i) (j := 0) (off := q1.1.off + i * 2) (y := (⟨j, (el acc i).x⟩ : TIns)) (q := ()) (Fy := NoB) (by kernel_rfl) (by kernel_rfl) (by omega) (by kernel_rfl) (by kernel_rfl) (Nat.le_of_ble_eq_true (by kernel_rfl)) (by kernel_rfl) (fun _ _ _ => ⟨NoB, (show RIns (⟨j, (el acc i).x⟩ : TIns) from ⟨(show In64 j from ⟨by omega, by omega⟩), (RIns.x (d := (el acc i)) e6)⟩), fun _ h => False.elim h⟩) (fun b _ h => False.elim h) (fun b h => False.elim h) (fun b h => False.elim h) ?_)
    clear S; intro w N F8 q9 S up o7 d10 s11
    have s12 : ∀ b, F8 b → F b := fun b h => (s11 b h).elim (hs b) (fun h => False.elim h)
    clear up d10 o3
    have l13 : (acc.set i (⟨j, (el acc i).x⟩ : TIns)).length = (acc).length := List.length_set
    replace S := S.p [0, 1, 5] 0 ⟨[(0, .v (slv a.length q1.1)), (1, .v (I j)), (5, .v (I (i : Int)))], []⟩
    refine RG.done rfl (nx_then (wp_seq (RG.start ?_)))
    refine S.q 3 [0, 1, 5] 0 ⟨[(0, .v (slv a.length q1.1)), (1, .v (I (j + 1))), (5, .v (I (i : Int)))], []⟩ (.cons (Q_add (x := j) (y := 1) ⟨by omega, by omega⟩) .nil) ?_; clear S; intro ac w β S
    refine RG.done rfl (nx_then (wp_seq (RG.start ?_)))
    refine S.q 5 [0, 1, 5, 21, 23] 0 ⟨[(0, .v (slv a.length q1.1)), (1, .v (I (j + 1))), (5, .v (I (i : Int))), (21, .v (I (j + 1))), (23, .v (pt q1.1.b (q1.1.off + i * 2 + 1)))], []⟩ (.cons (Q_idx o7.rn (l := a.length) (k := i) (i := (i : Int)) (by rw [List.length_set]; exact (by rw [hacc]; simp [f_marksIns]; omega)) rfl (by omega) Tryz.underlying104 (by kernel_rfl)) .nil) ?_; clear S; intro ac w β S
    refine RG.op rfl (S.setEl (α := TIns) o7 (t := 3) (v := I (j + 1)) (k := i) (j := 1) (off := q1.1.off + i * 2 + 1) (y := (⟨j, (j + 1)⟩ : TIns)) (q := ()) (Fy := NoB) (by kernel_rfl) (by kernel_rfl) (by omega) (by kernel_rfl) (by kernel_rfl) (Nat.le_of_ble_eq_true (by kernel_rfl)) (by rw [el_set_self (show i < (acc).length by omega)]; kernel_rfl) (fun _ _ _ => ⟨NoB, (show RIns (⟨j, (j + 1)⟩ : TIns) from ⟨(show In64 j from ⟨by omega, by omega⟩), (show In64 (j + 1) from ⟨by omega, by omega⟩)⟩), fun _ h => False.elim h⟩) (fun b _ h => False.elim h) (fun b h => False.elim h) (fun b h => False.elim h) ?_)
    clear S; intro w N F15 q16 S up o14 d17 s18
    have s19 : ∀ b, F15 b → F b := fun b h => (s18 b h).elim (s12 b) (fun h => False.elim h)
    clear up d17 o7
    rw [List.set_set] at o14
    have l20 : (acc.set i (⟨j, (j + 1)⟩ : TIns)).length = (acc).length := List.length_set
    replace S := S.p [0, 1, 5] 0 ⟨[(0, .v (slv a.length q1.1)), (1, .v (I (j + 1))), (5, .v (I (i : Int)))], []⟩
    refine RG.done rfl (nx_then (RG.start ?_))
    refine S.q 3 [0, 1, 5] 0 ⟨[(0, .v (slv a.length q1.1)), (1, .v (I ((j + 1) + 1))), (5, .v (I (i : Int)))], []⟩ (.cons (Q_add (x := (j + 1)) (y := 1) ⟨by omega, by omega⟩) .nil) ?_; clear S; intro ac w β S
    refine RG.done rfl (nx_block (nx_then (RG.start ?_)))
    refine S.q 3 [0, 1, 5] 0 ⟨[(0, .v (slv a.length q1.1)), (1, .v (I ((j + 1) + 1))), (5, .v (I ((i : Int) + 1)))], []⟩ (.cons (Q_add (x := (i : Int)) (y := 1) ⟨by omega, by omega⟩) .nil) ?_; clear S; intro ac w β S
    refine RG.done rfl (nx_then ?_)
    replace S := S.p [0, 1, 5] 0 ⟨[(0, .v (slv a.length q1.1)), (1, .v (I ((j + 1) + 1))), (5, .v (I ((i : Int) + 1)))], []⟩
    refine ⟨a.length - (i + 1), by omega, i + 1, (acc.set i (⟨j, (j + 1)⟩ : TIns)), ((j + 1) + 1), (q1.1, q16), F15, _, _, _, rfl, ?_, ?_, ?_, S.cast (by kernel_rfl), o14, hq, s19⟩
    · clear S; first | omega | (simp [*]; done) | (simp [*]; omega)
    · clear S; (have hlt : i < acc.length := (by omega)); rw [hacc, ← marksIns_step (by omega) hj]; (first | rfl | (simp [g_markIns, Int.add_assoc]; done))
    · clear S; omega
  · have g21 : ¬ ((i : Int) < (a.length : Int)) := of_decide_eq_false h4
    refine wp_exit (ex_then (ex_then (ex_hit (nx_then (wp_seq (RG.start ?_))))))
    refine S.q 2 [4] 0 ⟨[(4, .v (I j))], []⟩ .nil ?_; clear S; intro ac w β S
    refine RG.done rfl (nx_then (wp_ret ?_))
    refine S.r [I j] ?_
    have hyd : hdl acc k = j := by clear S; (have e : i = a.length := (by omega)); subst e; rw [hacc, List.drop_length, List.append_nil, hj]; exact hd_marksIns k (by omega) _ (by omega) id
    have hyb : k ≤ j ∧ j ≤ k + 16 * ((SZ.sz a : Nat) : Int) := by clear S; skip; constructor <;> omega
    exact retX_of S hyd hyb.1 hyb.2 (by show [slv _ _] = [slv _ _]; rw [hlacc, hq]) o3 hs

end Go.Proofs.YtacgkoohinlhjaaGreat
