/- The walks: what each function that the laws reach computes (part 2). -/
import Derived.Test.YtklppedmchbdmaaGreatW1
import Derived.Test.YtklppedmchbdmaaGreatProg
import Derived.KernelRfl
namespace Go.Proofs.YtklppedmchbdmaaGreat
open Go
set_option linter.unusedVariables false
set_option linter.unusedSimpArgs false
set_option maxRecDepth 100000

theorem k1_spec_MonOk {p : Prop} (h : p := by clear S; (symm; rw [← Bool.not_eq_true]; intro hc; simp only [f_monOk, f_monHead, f_monTail, Bool.and_eq_true, decide_eq_true_eq, beq_iff_eq] at hc; first | omega | (simp_all; done) | (simp_all; omega) | (have hx := all_el (k := k) hc.1.2 (by omega); simp_all; done) | (have hx := rng_el (k := j) hc.2 (by omega); unfold f_pageSlot at hx; split at hx <;> first | (simp_all; done) | (simp_all; omega)))) : p := h
theorem c_spec_MonOk (w0 : World) (m : TMon) (pm : PMon) (hm : RD w0 m pm) : Calls Tryz.prog 110 [GT.val m pm].toArray w0 (fun e w' => e = .returned (B (f_monOk m)) ∧ Chg NoB w0 w') := by
 refine Calls.walk NoB Tryz.func110 rfl rfl ?_
 intro ac β S
 have hlem_outer : m.outer.length ≤ 4194304 := LRd.le (RMon.outer (d := m) hm)
 have hlem_out : m.out.length ≤ 4194304 := LRd.le (RMon.out (d := m) hm)
 have hlem_dirty : m.dirty.length ≤ 4194304 := LRd.le (RMon.dirty (d := m) hm)
 have hlem_guests : m.guests.length ≤ 4194304 := LRd.le (RMon.guests (d := m) hm)
 have hlem_outs : m.outs.length ≤ 4194304 := LRd.le (RMon.outs (d := m) hm)
 have hlem_tables : m.tables.length ≤ 4194304 := LRd.le (RMon.tables (d := m) hm)
 refine ws (rg ?_)
 refine S.qem 2 [] [(1, .p 0 0)] 1 [(0, GT.cells m pm)] fun ac w β S => ?_
 refine (nt (ws (ws (rg ?_))))
 refine S.qb 6 [] [(11, .v (B (!(f_within (m.guests.length : Int) 1 2))))] (.cons (Q_call fun w hw => c_spec_l01In w (m.guests.length : Int) 1 2) .nil) fun ac w β S => ?_
 rcases Bool.eq_false_or_eq_true (!(f_within (m.guests.length : Int) 1 2)) with h1 | h1 <;> rw [h1] at S
 ·have h2 := not_t h1
  have g3 := within_f h2
  refine S.qe 26 [11] [(37, .v (B true))] fun ac w β S => ?_
  refine (nt (S.c true (fun _ => ?_) (fun hx => by cases hx)))
  refine ws (rg ?_)
  refine S.qe 1 [] [(2, .v (B false))] fun ac w β S => ?_
  exact (nt (wr (rt (S.r [B false] ⟨retB k1_spec_MonOk, S.chg⟩))))
 ·have h4 := not_f h1
  have g5 := within_t h4
  refine S.qa 9 [11] [(20, .v (B ((m.tables.length : Int) != (m.guests.length : Int))))] fun ac w β S => ?_
  rcases Bool.eq_false_or_eq_true ((m.tables.length : Int) != (m.guests.length : Int)) with h6 | h6 <;> rw [h6] at S
  ·have g7 : ¬ ((m.tables.length : Int) = (m.guests.length : Int)) := bne_iff_ne.1 h6
   refine S.qe 17 [20] [(37, .v (B true))] fun ac w β S => ?_
   refine (nt (S.c true (fun _ => ?_) (fun hx => by cases hx)))
   refine ws (rg ?_)
   refine S.qe 1 [] [(2, .v (B false))] fun ac w β S => ?_
   exact (nt (wr (rt (S.r [B false] ⟨retB k1_spec_MonOk, S.chg⟩))))
  ·have g8 : (m.tables.length : Int) = (m.guests.length : Int) := ne_f h6
   refine S.qb 6 [20] [(26, .v (B (!(f_tableOk m.outer 8 12))))] (.cons (Q_call fun w hw => c_spec_TableOk w m.outer pm.outer (rd_of (RMon.outer (d := m) (S.arg hm)) hw) 8 12 (by omega) (by omega)) .nil) fun ac w β S => ?_
   rcases Bool.eq_false_or_eq_true (!(f_tableOk m.outer 8 12)) with h9 | h9 <;> rw [h9] at S
   ·have h10 := not_t h9
    refine S.qe 11 [26] [(37, .v (B true))] fun ac w β S => ?_
    refine (nt (S.c true (fun _ => ?_) (fun hx => by cases hx)))
    refine ws (rg ?_)
    refine S.qe 1 [] [(2, .v (B false))] fun ac w β S => ?_
    exact (nt (wr (rt (S.r [B false] ⟨retB k1_spec_MonOk, S.chg⟩))))
   ·have h11 := not_f h9
    have g12 := tableOk_t h11
    refine S.qa 6 [26] [(32, .v (B ((m.out.length : Int) != 8)))] fun ac w β S => ?_
    rcases Bool.eq_false_or_eq_true ((m.out.length : Int) != 8) with h13 | h13 <;> rw [h13] at S
    ·have g14 : ¬ ((m.out.length : Int) = 8) := bne_iff_ne.1 h13
     refine S.qe 5 [32] [(37, .v (B true))] fun ac w β S => ?_
     refine (nt (S.c true (fun _ => ?_) (fun hx => by cases hx)))
     refine ws (rg ?_)
     refine S.qe 1 [] [(2, .v (B false))] fun ac w β S => ?_
     exact (nt (wr (rt (S.r [B false] ⟨retB k1_spec_MonOk, S.chg⟩))))
    ·have g15 : (m.out.length : Int) = 8 := ne_f h13
     refine S.qe 5 [32] [(37, .v (B ((m.dirty.length : Int) != 8)))] fun ac w β S => ?_
     refine (nt (S.c ((m.dirty.length : Int) != 8) (fun h16 => ?_) (fun h16 => ?_)))
     ·have g17 : ¬ ((m.dirty.length : Int) = 8) := bne_iff_ne.1 h16
      refine ws (rg ?_)
      refine S.qe 1 [] [(2, .v (B false))] fun ac w β S => ?_
      exact (nt (wr (rt (S.r [B false] ⟨retB k1_spec_MonOk, S.chg⟩))))
     have g18 : (m.dirty.length : Int) = 8 := ne_f h16
     refine wk (nt (ws (ws (rg ?_))))
     refine S.qe 1 [] [(3, .v (I 0))] fun ac w β S => ?_
     refine (nt (wp_block ?_))
     refine wp_loop_down (fun mm ac w => ∃ (k : Nat)  (u : _) (N : _) (β : _), mm = m.guests.length - k ∧ (k ≤ m.guests.length) ∧ ((m.guests.take k).all f_guestOk = true) ∧ St Tryz.prog Tryz.f110.ntmps w0 NoB u N β ⟨[(1, .p 0 0), (3, .v (I (k : Int)))], [GT.cells m pm]⟩ ac w) _ ⟨0, _, _, _, rfl, o0, (by simp), S.z⟩ ?_
     clear S
     rintro mm ac w ⟨k, u, N, β, rfl, hk, he, S⟩
     refine ws (ws (rg ?_))
     refine S.qe 5 [] [(42, .v (B (decide ((k : Int) < (m.guests.length : Int)))))] fun ac w β S => ?_
     refine (nt (S.c (decide ((k : Int) < (m.guests.length : Int))) (fun h19 => ?_) (fun h19 => ?_)))
     ·have g20 := of_decide_eq_true h19
      refine wk (nt (ws (wp_block (ws (rg ?_)))))
      refine S.qg 7 [] [(51, .v (B (!(f_guestOk (el m.guests k)))))] (.cons (qn (RMon.guests (d := m) (S.arg hm)) k Tryz.underlying49) (.cons (qs (RMon.guests (d := m) (S.arg hm)) 99 k) (.cons (Q_call fun w hw => c_spec_GuestOk w (el m.guests k) (pm.guests.2 k) (rd_of (LRd.el (RMon.guests (d := m) (S.arg hm)) k (by omega)) hw)) .nil))) fun ac w β S => ?_
      refine (nt (S.c (!(f_guestOk (el m.guests k))) (fun h21 => ?_) (fun h21 => ?_)))
      ·have h22 := not_t h21
       refine ws (rg ?_)
       refine S.qe 1 [] [(2, .v (B false))] fun ac w β S => ?_
       exact (nt (wr (rb (rt (rt (rb (rt (S.r [B false] ⟨retB k1_spec_MonOk, S.chg⟩))))))))
      have h23 := not_f h21
      refine wk (nb (nt (rg ?_)))
      refine S.qg 3 [] [(3, .v (I ((k : Int) + 1)))] (.cons (qp (k : Int) 1) .nil) fun ac w β S => ?_
      refine (nt ?_)
      refine ⟨m.guests.length - (k + 1), by omega, k + 1, _, _, _, rfl, ?_, ?_, S.z⟩
      ·exact oz
      ·clear S; exact all_step (by omega) he (by first | assumption | (simp only [f_slotOk, f_within] at *; simp_all; done) | (simp_all; done) | (simp_all; omega))
     have g24 := of_decide_eq_false h19
     refine wp_exit (ex_then (ex_then (ex_hit (nt (ws (ws (rg ?_)))))))
     refine S.qe 1 [] [(4, .v (I 0))] fun ac w β S => ?_
     refine (nt (wp_block ?_))
     refine wp_loop_down (fun mm ac w => ∃ (j : Nat)  (u : _) (N : _) (β : _), mm = 8 - j ∧ (j ≤ 8) ∧ ((List.range j).all (f_pageSlot m) = true) ∧ St Tryz.prog Tryz.f110.ntmps w0 NoB u N β ⟨[(1, .p 0 0), (4, .v (I (j : Int)))], [GT.cells m pm]⟩ ac w) _ ⟨0, _, _, _, rfl, o0, (by rfl), S.z⟩ ?_
     clear S
     rintro mm ac w ⟨j, u, N, β, rfl, hj, hp, S⟩
     have hlo : m.outer.length = 8 := by omega
     have hlu : m.out.length = 8 := by omega
     refine ws (ws (rg ?_))
     refine S.qe 2 [] [(53, .v (B (decide ((j : Int) < 8))))] fun ac w β S => ?_
     refine (nt (S.c (decide ((j : Int) < 8)) (fun h25 => ?_) (fun h25 => ?_)))
     ·have g26 := of_decide_eq_true h25
      refine wk (nt (ws (wp_block (ws ?_))))
      refine S.drawn (keep := [1, 4, 5]) (m := 1) (σ' := ⟨[(1, .p 0 0), (4, .v (I (j : Int))), (5, .v (B (!decide ((el m.outer j) = (⟨-1, 0⟩ : TSlot)))))], [GT.cells m pm]⟩) (.cons (qn (RMon.outer (d := m) (S.arg hm)) j Tryz.underlying47) (.cons (qs (RMon.outer (d := m) (S.arg hm)) 55 j) (.cons (Q_call fun w hw => c_spec_NoSlot w ) (.cons (Eq_ne_Slot (t := 55) (el m.outer j) (⟨-1, 0⟩ : TSlot) (by kernel_rfl)) .nil)))) rfl (by kernel_rfl) (by kernel_rfl) fun ac w S => ?_
      refine id (nt (ws (rg ?_)))
      refine S.qa 2 [] [(64, .v (B (!decide ((el m.outer j) = (⟨-1, 0⟩ : TSlot)))))] fun ac w β S => ?_
      rcases Bool.eq_false_or_eq_true (!decide ((el m.outer j) = (⟨-1, 0⟩ : TSlot))) with h27 | h27 <;> rw [h27] at S
      ·have b28 : (el m.out j).length ≤ 4194304 := LRd.le (LRd.el (RMon.out (d := m) (S.arg hm)) j (by omega))
       refine S.qb 8 [] [(5, .v (B true)), (64, .v (B true)), (72, .v (B (decide (((el m.out j).length : Int) > 0))))] (.cons (qn (RMon.out (d := m) (S.arg hm)) j Tryz.underlying22) (.cons (qx (RMon.out (d := m) (S.arg hm)) 50 j) .nil)) fun ac w β S => ?_
       rcases Bool.eq_false_or_eq_true (decide (((el m.out j).length : Int) > 0)) with h29 | h29 <;> rw [h29] at S
       ·have g30 := of_decide_eq_true h29
        refine S.qe 23 [72] [(95, .v (B true))] fun ac w β S => ?_
        refine (nt (S.c true (fun _ => ?_) (fun hx => by cases hx)))
        refine ws (rg ?_)
        refine S.qe 1 [] [(2, .v (B false))] fun ac w β S => ?_
        exact (nt (wr (rb (rt (rt (rb (rt (S.r [B false] ⟨retB k1_spec_MonOk, S.chg⟩))))))))
       ·have g31 := of_decide_eq_false h29
        refine S.qb 11 [72] [(83, .v (B (!(f_enough (el m.outer j).rights 1))))] (.cons (qn (RMon.outer (d := m) (S.arg hm)) j Tryz.underlying47) (.cons (qc (RMon.outer (d := m) (S.arg hm)) 3 j 1 (I (el m.outer j).rights)) (.cons (Q_call fun w hw => c_spec_Enough w (el m.outer j).rights 1) .nil))) fun ac w β S => ?_
        rcases Bool.eq_false_or_eq_true (!(f_enough (el m.outer j).rights 1)) with h32 | h32 <;> rw [h32] at S
        ·have h33 := not_t h32
         refine S.qe 12 [83] [(95, .v (B true))] fun ac w β S => ?_
         refine (nt (S.c true (fun _ => ?_) (fun hx => by cases hx)))
         refine ws (rg ?_)
         refine S.qe 1 [] [(2, .v (B false))] fun ac w β S => ?_
         exact (nt (wr (rb (rt (rt (rb (rt (S.r [B false] ⟨retB k1_spec_MonOk, S.chg⟩))))))))
        ·have h34 := not_f h32
         have g35 := enough_t h34
         refine S.qe 12 [83] [(95, .v (B false))] fun ac w β S => ?_
         refine (nt (S.c false (fun hx => by cases hx) (fun _ => ?_)))
         refine wk (nb (nt (rg ?_)))
         refine S.qg 3 [] [(4, .v (I ((j : Int) + 1)))] (.cons (qp (j : Int) 1) .nil) fun ac w β S => ?_
         refine (nt ?_)
         refine ⟨8 - (j + 1), by omega, j + 1, _, _, _, rfl, ?_, ?_, S.z⟩
         ·exact oz
         ·clear S; (refine rng_step hp ?_; unfold f_pageSlot; (repeat' split) <;> first | (exfalso; simp_all; done) | (simp_all; done) | (simp_all; omega))
      ·refine S.qg 31 [5, 64] [(95, .v (B (!(f_pageOk (el m.out j)))))] (.cons (qn (RMon.out (d := m) (S.arg hm)) j Tryz.underlying22) (.cons (qx (RMon.out (d := m) (S.arg hm)) 50 j) (.cons (Q_call fun w hw => c_spec_PageOk w (el m.out j) (pm.out.2 j) (rd_of (LRd.el (RMon.out (d := m) (S.arg hm)) j (by omega)) hw)) .nil))) fun ac w β S => ?_
       refine (nt (S.c (!(f_pageOk (el m.out j))) (fun h36 => ?_) (fun h36 => ?_)))
       ·have h37 := not_t h36
        refine ws (rg ?_)
        refine S.qe 1 [] [(2, .v (B false))] fun ac w β S => ?_
        exact (nt (wr (rb (rt (rt (rb (rt (S.r [B false] ⟨retB k1_spec_MonOk, S.chg⟩))))))))
       have h38 := not_f h36
       refine wk (nb (nt (rg ?_)))
       refine S.qg 3 [] [(4, .v (I ((j : Int) + 1)))] (.cons (qp (j : Int) 1) .nil) fun ac w β S => ?_
       refine (nt ?_)
       refine ⟨8 - (j + 1), by omega, j + 1, _, _, _, rfl, ?_, ?_, S.z⟩
       ·exact oz
       ·clear S; (refine rng_step hp ?_; unfold f_pageSlot; (repeat' split) <;> first | (exfalso; simp_all; done) | (simp_all; done) | (simp_all; omega))
     have g39 := of_decide_eq_false h25
     refine wp_exit (ex_then (ex_then (ex_hit (nt (ws (rg ?_))))))
     refine S.qa 5 [] [(100, .v (B (decide ((m.outs.length : Int) ≤ 40))))] fun ac w β S => ?_
     rcases Bool.eq_false_or_eq_true (decide ((m.outs.length : Int) ≤ 40)) with h40 | h40 <;> rw [h40] at S
     ·have g41 := of_decide_eq_true h40
      refine S.qb 5 [100] [(105, .v (B (f_within m.pend 0 255)))] (.cons (Q_call fun w hw => c_spec_PendOk w m.pend) .nil) fun ac w β S => ?_
      rcases Bool.eq_false_or_eq_true (f_within m.pend 0 255) with h42 | h42 <;> rw [h42] at S
      ·have g43 := within_t h42
       refine S.qb 5 [105] [(110, .v (B (f_within m.traps 0 3)))] (.cons (Q_call fun w hw => c_spec_l01In w m.traps 0 3) .nil) fun ac w β S => ?_
       rcases Bool.eq_false_or_eq_true (f_within m.traps 0 3) with h44 | h44 <;> rw [h44] at S
       ·have g45 := within_t h44
        refine S.qg 5 [110] [(2, .v (B (f_within m.owned 0 1000000000)))] (.cons (Q_call fun w hw => c_spec_l01In w m.owned 0 1000000000) .nil) fun ac w β S => ?_
        exact (nt (wr (S.r [B (f_within m.owned 0 1000000000)] ⟨retB (by clear S; (first | rfl | (symm; rw [← Bool.not_eq_true]; intro hc; simp only [f_monOk, f_monHead, f_monTail, Bool.and_eq_true, decide_eq_true_eq, beq_iff_eq] at hc; first | omega | (simp_all; done) | (simp_all; omega) | (have hx := all_el (k := k) hc.1.2 (by omega); simp_all; done) | (have hx := rng_el (k := j) hc.2 (by omega); unfold f_pageSlot at hx; split at hx <;> first | (simp_all; done) | (simp_all; omega))) | (symm; simp only [f_monOk, f_monHead, f_monTail, Bool.and_eq_true, decide_eq_true_eq, beq_iff_eq]; (repeat' apply And.intro); all_goals first | assumption | omega | (simp_all; done) | (simp_all; omega) | (exact all_end (by omega) he) | ((have e8 : j = 8 := (by omega)); subst e8; exact hp)) | (rw [Bool.eq_iff_iff]; simp only [f_monOk, f_monHead, f_monTail, Bool.and_eq_true, decide_eq_true_eq, beq_iff_eq]; refine ⟨fun hr => ?_, fun hc => ?_⟩ <;> ((repeat' apply And.intro); all_goals first | assumption | omega | (simp_all; done) | (simp_all; omega) | (exact all_end (by omega) he) | ((have e8 : j = 8 := (by omega)); subst e8; exact hp))))), S.chg⟩)))
       ·have g46 := within_f h44
        refine S.qe 5 [110] [(2, .v (B false))] fun ac w β S => ?_
        exact (nt (wr (S.r [B false] ⟨retB k1_spec_MonOk, S.chg⟩)))
      ·have g47 := within_f h42
       refine S.qe 10 [105] [(2, .v (B false))] fun ac w β S => ?_
       exact (nt (wr (S.r [B false] ⟨retB k1_spec_MonOk, S.chg⟩)))
     ·have g48 := of_decide_eq_false h40
      refine S.qe 15 [100] [(2, .v (B false))] fun ac w β S => ?_
      exact (nt (wr (S.r [B false] ⟨retB k1_spec_MonOk, S.chg⟩)))

theorem k0_spec_HostOk {p : Prop} (h : p := by clear S; (first | (symm; rw [← Bool.not_eq_true]; intro hc; simp only [f_hostOk, f_hostHead, Bool.and_eq_true] at hc; (first | (simp_all; done) | (simp_all; omega))) | (rw [hostOk_dead (fold_dead (k := i) (by omega) stepMon_none hu (stepMon_bad (by assumption)))]) | (rw [hostOk_dead (fold_dead (k := i) (by omega) stepMon_none hu ((stepMon_ok hmok).trans (fold_dead (k := k) (by omega) stepSlot_none hu2 (stepSlot_hit (by omega) (by assumption)))))]) | (unfold f_hostOk f_hostUsed f_hostHead; rw [take_all (by omega)] at hu; rw [hu]; simp_all; done))) : p := h
theorem c_spec_HostOk (w0 : World) (h : THost) (ph : PHost) (hh : RD w0 h ph) : Calls Tryz.prog 62 [GT.val h ph].toArray w0 (fun e w' => e = .returned (B (f_hostOk h)) ∧ Chg NoB w0 w') := by
 refine Calls.walk NoB Tryz.func62 rfl rfl ?_
 intro ac β S
 have hleh_mem : h.mem.length ≤ 4194304 := LRd.le (RHost.mem (d := h) hh)
 have hleh_mons : h.mons.length ≤ 4194304 := LRd.le (RHost.mons (d := h) hh)
 have hleh_buf : h.buf.length ≤ 4194304 := LRd.le (RHost.buf (d := h) hh)
 have hleh_iobuf : h.iobuf.length ≤ 4194304 := LRd.le (RHost.iobuf (d := h) hh)
 refine ws (rg ?_)
 refine S.qem 2 [] [(1, .p 0 0)] 1 [(0, GT.cells h ph)] fun ac w β S => ?_
 refine (nt (ws (ws (rg ?_))))
 refine S.qb 5 [] [(11, .v (B (!(f_memOk h.mem 12))))] (.cons (Q_call fun w hw => c_spec_MemOk w h.mem ph.mem (rd_of (RHost.mem (d := h) (S.arg hh)) hw) 12) .nil) fun ac w β S => ?_
 rcases Bool.eq_false_or_eq_true (!(f_memOk h.mem 12)) with h1 | h1 <;> rw [h1] at S
 ·have h2 := not_t h1
  refine S.qe 18 [11] [(29, .v (B true))] fun ac w β S => ?_
  refine (nt (S.c true (fun _ => ?_) (fun hx => by cases hx)))
  refine ws (rg ?_)
  refine S.qe 1 [] [(2, .v (B false))] fun ac w β S => ?_
  exact (nt (wr (rt (S.r [B false] ⟨retB k0_spec_HostOk, S.chg⟩))))
 ·have h3 := not_f h1
  refine S.qb 7 [11] [(18, .v (B (!(f_within (h.mons.length : Int) 1 3))))] (.cons (Q_call fun w hw => c_spec_l01In w (h.mons.length : Int) 1 3) .nil) fun ac w β S => ?_
  rcases Bool.eq_false_or_eq_true (!(f_within (h.mons.length : Int) 1 3)) with h4 | h4 <;> rw [h4] at S
  ·have h5 := not_t h4
   have g6 := within_f h5
   refine S.qe 11 [18] [(29, .v (B true))] fun ac w β S => ?_
   refine (nt (S.c true (fun _ => ?_) (fun hx => by cases hx)))
   refine ws (rg ?_)
   refine S.qe 1 [] [(2, .v (B false))] fun ac w β S => ?_
   exact (nt (wr (rt (S.r [B false] ⟨retB k0_spec_HostOk, S.chg⟩))))
  ·have h7 := not_f h4
   have g8 := within_t h7
   refine S.qb 6 [18] [(24, .v (B (!(f_bufferOk h.buf))))] (.cons (Q_call fun w hw => c_spec_BufferOk w h.buf ph.buf (rd_of (RHost.buf (d := h) (S.arg hh)) hw)) .nil) fun ac w β S => ?_
   rcases Bool.eq_false_or_eq_true (!(f_bufferOk h.buf)) with h9 | h9 <;> rw [h9] at S
   ·have h10 := not_t h9
    refine S.qe 5 [24] [(29, .v (B true))] fun ac w β S => ?_
    refine (nt (S.c true (fun _ => ?_) (fun hx => by cases hx)))
    refine ws (rg ?_)
    refine S.qe 1 [] [(2, .v (B false))] fun ac w β S => ?_
    exact (nt (wr (rt (S.r [B false] ⟨retB k0_spec_HostOk, S.chg⟩))))
   ·have h11 := not_f h9
    refine S.qg 5 [24] [(29, .v (B (!(f_bufferOk h.iobuf))))] (.cons (Q_call fun w hw => c_spec_BufferOk w h.iobuf ph.iobuf (rd_of (RHost.iobuf (d := h) (S.arg hh)) hw)) .nil) fun ac w β S => ?_
    refine (nt (S.c (!(f_bufferOk h.iobuf)) (fun h12 => ?_) (fun h12 => ?_)))
    ·have h13 := not_t h12
     refine ws (rg ?_)
     refine S.qe 1 [] [(2, .v (B false))] fun ac w β S => ?_
     exact (nt (wr (rt (S.r [B false] ⟨retB k0_spec_HostOk, S.chg⟩))))
    have h14 := not_f h12
    refine wk (nt (ws (rg ?_)))
    refine RG.op rfl (S.make (α := Bool) (m := 12) (by' := 1) (d := 30) (by kernel_rfl) (by omega) (show 12 ≤ 4194304 by omega) fun ac w N q15 F16 S up o17 d18 => ?_)
    clear up d18
    refine S.qe 1 [] [(3, .v (slv 12 q15.1))] fun ac w β S => ?_
    refine (nt (ws (ws (rg ?_))))
    refine S.qe 1 [] [(4, .v (I 0))] fun ac w β S => ?_
    refine (nt (wp_block ?_))
    refine wp_loop_down (fun mm ac w => ∃ (i : Nat) (us : List Bool) (q19 : _) (F20 : _) (u : _) (N : _) (β : _), mm = h.mons.length - i ∧ (i ≤ h.mons.length) ∧ ((h.mons.take i).foldl stepMon (some (List.replicate 12 false)) = some us) ∧ (us.length = 12) ∧ St Tryz.prog Tryz.f62.ntmps w0 NoB u N β ⟨[(1, .p 0 0), (3, .v (slv 12 q19.1)), (4, .v (I (i : Int)))], [GT.cells h ph]⟩ ac w ∧ Ow w0 NoB u N F20 us q19) _ ⟨0, (List.replicate 12 (GT.dflt : Bool)), q15, F16, _, _, _, rfl, o0, (by rfl), (by rfl), S.z, o17⟩ ?_
    clear S o17
    rintro mm ac w ⟨i, us, q19, F20, u, N, β, rfl, hi, hu, hul, S, o21⟩
    refine ws (ws (rg ?_))
    refine S.qe 5 [] [(35, .v (B (decide ((i : Int) < (h.mons.length : Int)))))] fun ac w β S => ?_
    refine (nt (S.c (decide ((i : Int) < (h.mons.length : Int))) (fun h22 => ?_) (fun h22 => ?_)))
    ·have g23 := of_decide_eq_true h22
     refine wk (nt (ws (wp_block (ws (ws (rg ?_))))))
     refine S.qg 7 [] [(44, .v (B (!(f_monOk (el h.mons i)))))] (.cons (qn (RHost.mons (d := h) (S.arg hh)) i Tryz.underlying28) (.cons (qs (RHost.mons (d := h) (S.arg hh)) 53 i) (.cons (Q_call fun w hw => c_spec_MonOk w (el h.mons i) (ph.mons.2 i) (rd_of (LRd.el (RHost.mons (d := h) (S.arg hh)) i (by omega)) hw)) .nil))) fun ac w β S => ?_
     refine (nt (S.c (!(f_monOk (el h.mons i))) (fun h24 => ?_) (fun h24 => ?_)))
     ·have h25 := not_t h24
      refine ws (rg ?_)
      refine S.qe 1 [] [(2, .v (B false))] fun ac w β S => ?_
      exact (nt (wr (rt (rb (rt (rt (rb (rt (S.r [B false] ⟨retB k0_spec_HostOk, S.chg⟩)))))))))
     have h26 := not_f h24
     have g27 := monOk_t h26
     refine wk (nt (ws (rg ?_)))
     refine S.qe 1 [] [(5, .v (I 0))] fun ac w β S => ?_
     refine (nt (wp_block ?_))
     refine wp_loop_down (fun mm ac w => ∃ (k : Nat) (us2 : List Bool) (q28 : _) (F29 : _) (u : _) (N : _) (β : _), mm = 8 - k ∧ (k ≤ 8) ∧ (((el h.mons i).outer.take k).foldl stepSlot (some us) = some us2) ∧ (us2.length = 12) ∧ St Tryz.prog Tryz.f62.ntmps w0 NoB u N β ⟨[(1, .p 0 0), (3, .v (slv 12 q28.1)), (4, .v (I (i : Int))), (5, .v (I (k : Int)))], [GT.cells h ph]⟩ ac w ∧ Ow w0 NoB u N F29 us2 q28) _ ⟨0, us, q19, F20, _, _, _, rfl, o0, (by rfl), (by omega), S.z, o21⟩ ?_
     clear S o21
     rintro mm ac w ⟨k, us2, q28, F29, u, N, β, rfl, hk, hu2, hul2, S, o30⟩
     have hmok : f_monOk (el h.mons i) = true := by assumption
     have hpg := page_lt hmok k
     have hol := (monOk_t hmok).1
     refine ws (ws (rg ?_))
     refine S.qe 2 [] [(46, .v (B (decide ((k : Int) < 8))))] fun ac w β S => ?_
     refine (nt (S.c (decide ((k : Int) < 8)) (fun h31 => ?_) (fun h31 => ?_)))
     ·have g32 := of_decide_eq_true h31
      refine wk (nt (ws (wp_block (ws (rg ?_)))))
      refine S.qg 11 [] [(6, .v (I (el (el h.mons i).outer k).page))] (.cons (qn (RHost.mons (d := h) (S.arg hh)) i Tryz.underlying28) (.cons (qc (RHost.mons (d := h) (S.arg hh)) 47 i 0 (slv (el h.mons i).outer.length (ph.mons.2 i).outer.1)) (.cons (qn (RMon.outer (d := (el h.mons i)) (LRd.el (RHost.mons (d := h) (S.arg hh)) i (by omega))) k Tryz.underlying47) (.cons (qc (RMon.outer (d := (el h.mons i)) (LRd.el (RHost.mons (d := h) (S.arg hh)) i (by omega))) 3 k 0 (I (el (el h.mons i).outer k).page)) .nil)))) fun ac w β S => ?_
      refine (nt (ws (ws (rg ?_))))
      refine S.qa 3 [] [(61, .v (B (decide ((el (el h.mons i).outer k).page ≥ 0))))] fun ac w β S => ?_
      rcases Bool.eq_false_or_eq_true (decide ((el (el h.mons i).outer k).page ≥ 0)) with h33 | h33 <;> rw [h33] at S
      ·have g34 := of_decide_eq_true h33
       refine S.qg 5 [61] [(66, .v (B (el us2 (el (el h.mons i).outer k).page.toNat)))] (.cons (Q_idx o30.rn (l := 12) (k := (el (el h.mons i).outer k).page.toNat) (i := (el (el h.mons i).outer k).page) (by omega) (by omega) (by omega) Tryz.underlying48 (by kernel_rfl)) (.cons (qx o30.rn 4 ((el (el h.mons i).outer k).page.toNat)) .nil)) fun ac w β S => ?_
       refine (nt (S.c (el us2 (el (el h.mons i).outer k).page.toNat) (fun h35 => ?_) (fun h35 => ?_)))
       ·refine ws (rg ?_)
        refine S.qe 1 [] [(2, .v (B false))] fun ac w β S => ?_
        exact (nt (wr (rt (rb (rt (rt (rb (rb (rt (rt (rb (rt (S.r [B false] ⟨retB k0_spec_HostOk, S.chg⟩)))))))))))))
       refine wk (nt (ws (rg ?_)))
       refine S.qe 2 [] [(68, .v (B (decide ((el (el h.mons i).outer k).page ≥ 0))))] fun ac w β S => ?_
       refine (nt (S.c (decide ((el (el h.mons i).outer k).page ≥ 0)) (fun h36 => ?_) (fun h36 => ?_)))
       ·have g37 := of_decide_eq_true h36
        refine rg ?_
        refine S.qb 3 [] [(71, .v (pt q28.1.b (q28.1.off + (el (el h.mons i).outer k).page.toNat * 1)))] (.cons (Q_idx o30.rn (l := 12) (k := (el (el h.mons i).outer k).page.toNat) (i := (el (el h.mons i).outer k).page) (by omega) (by omega) (by omega) Tryz.underlying48 (by kernel_rfl)) .nil) fun ac w β S => ?_
        refine RG.op rfl (S.sF (α := Bool) o30 (t := 4) (k := (el (el h.mons i).outer k).page.toNat) (j := 0) (off := q28.1.off + (el (el h.mons i).outer k).page.toNat * 1) (v := B true) (y := true) (q := ()) (fun _ _ _ => ⟨NoB, trivial, fun _ h => False.elim h⟩) fun w N F39 q40 S up o38 d41 s42 n43 => ?_)
        clear up d41 o30 n43
        have l44 : (us2.set (el (el h.mons i).outer k).page.toNat true).length = us2.length := List.length_set
        refine rd (nb (nt (rg ?_)))
        refine S.qg 3 [] [(5, .v (I ((k : Int) + 1)))] (.cons (qp (k : Int) 1) .nil) fun ac w β S => ?_
        refine (nt ?_)
        refine ⟨8 - (k + 1), by omega, k + 1, (us2.set (el (el h.mons i).outer k).page.toNat true), (q28.1, q40), F39, _, _, _, rfl, ?_, ?_, ?_, S.z, o38⟩
        ·exact oz
        ·clear S; (rw [fold_step (by omega), hu2]; first | exact stepSlot_neg (by omega) | exact stepSlot_new (by omega) (by assumption) | exact stepSlot_new (by omega) (by simp_all))
        ·clear S; (first | omega | (simp; omega))
       have g45 := of_decide_eq_false h36
       refine wk (nb (nt (rg ?_)))
       refine S.qg 3 [] [(5, .v (I ((k : Int) + 1)))] (.cons (qp (k : Int) 1) .nil) fun ac w β S => ?_
       refine (nt ?_)
       refine ⟨8 - (k + 1), by omega, k + 1, us2, q28, F29, _, _, _, rfl, ?_, ?_, ?_, S.z, o30⟩
       ·exact oz
       ·clear S; (rw [fold_step (by omega), hu2]; first | exact stepSlot_neg (by omega) | exact stepSlot_new (by omega) (by assumption) | exact stepSlot_new (by omega) (by simp_all))
       ·clear S; (first | omega | (simp; omega))
      ·have g46 := of_decide_eq_false h33
       refine S.qe 5 [61] [(66, .v (B false))] fun ac w β S => ?_
       refine (nt (S.c false (fun hx => by cases hx) (fun _ => ?_)))
       refine wk (nt (ws (rg ?_)))
       refine S.qe 2 [] [(68, .v (B (decide ((el (el h.mons i).outer k).page ≥ 0))))] fun ac w β S => ?_
       refine (nt (S.c (decide ((el (el h.mons i).outer k).page ≥ 0)) (fun h47 => ?_) (fun h47 => ?_)))
       ·have g48 := of_decide_eq_true h47
        refine rg ?_
        refine S.qb 3 [] [(71, .v (pt q28.1.b (q28.1.off + (el (el h.mons i).outer k).page.toNat * 1)))] (.cons (Q_idx o30.rn (l := 12) (k := (el (el h.mons i).outer k).page.toNat) (i := (el (el h.mons i).outer k).page) (by omega) (by omega) (by omega) Tryz.underlying48 (by kernel_rfl)) .nil) fun ac w β S => ?_
        refine RG.op rfl (S.sF (α := Bool) o30 (t := 4) (k := (el (el h.mons i).outer k).page.toNat) (j := 0) (off := q28.1.off + (el (el h.mons i).outer k).page.toNat * 1) (v := B true) (y := true) (q := ()) (fun _ _ _ => ⟨NoB, trivial, fun _ h => False.elim h⟩) fun w N F50 q51 S up o49 d52 s53 n54 => ?_)
        clear up d52 o30 n54
        have l55 : (us2.set (el (el h.mons i).outer k).page.toNat true).length = us2.length := List.length_set
        refine rd (nb (nt (rg ?_)))
        refine S.qg 3 [] [(5, .v (I ((k : Int) + 1)))] (.cons (qp (k : Int) 1) .nil) fun ac w β S => ?_
        refine (nt ?_)
        refine ⟨8 - (k + 1), by omega, k + 1, (us2.set (el (el h.mons i).outer k).page.toNat true), (q28.1, q51), F50, _, _, _, rfl, ?_, ?_, ?_, S.z, o49⟩
        ·exact oz
        ·clear S; (rw [fold_step (by omega), hu2]; first | exact stepSlot_neg (by omega) | exact stepSlot_new (by omega) (by assumption) | exact stepSlot_new (by omega) (by simp_all))
        ·clear S; (first | omega | (simp; omega))
       have g56 := of_decide_eq_false h47
       refine wk (nb (nt (rg ?_)))
       refine S.qg 3 [] [(5, .v (I ((k : Int) + 1)))] (.cons (qp (k : Int) 1) .nil) fun ac w β S => ?_
       refine (nt ?_)
       refine ⟨8 - (k + 1), by omega, k + 1, us2, q28, F29, _, _, _, rfl, ?_, ?_, ?_, S.z, o30⟩
       ·exact oz
       ·clear S; (rw [fold_step (by omega), hu2]; first | exact stepSlot_neg (by omega) | exact stepSlot_new (by omega) (by assumption) | exact stepSlot_new (by omega) (by simp_all))
       ·clear S; (first | omega | (simp; omega))
     have g57 := of_decide_eq_false h31
     refine wp_exit (ex_then (ex_then (ex_hit (nb (nt (rg ?_))))))
     refine S.qg 3 [] [(4, .v (I ((i : Int) + 1)))] (.cons (qp (i : Int) 1) .nil) fun ac w β S => ?_
     refine (nt ?_)
     refine ⟨h.mons.length - (i + 1), by omega, i + 1, us2, q28, F29, _, _, _, rfl, ?_, ?_, ?_, S.z, o30⟩
     ·exact oz
     ·clear S; (rw [fold_step (by omega), hu, stepMon_ok (by assumption)]; rw [take_all (by omega)] at hu2; exact hu2)
     ·clear S; omega
    have g58 := of_decide_eq_false h22
    refine wp_exit (ex_then (ex_then (ex_hit (nt (ws (rg ?_))))))
    refine S.qe 1 [] [(2, .v (B true))] fun ac w β S => ?_
    exact (nt (wr (S.r [B true] ⟨retB k0_spec_HostOk, S.chg⟩)))

theorem k0_spec_l22Is {p : Prop} (h : p := by clear S; first | rfl | (simp [f_hasPage, f_l25Mon, *]; done) | (simp [f_hasPage, f_l25Mon, *]; omega) | (simp_all [f_hasPage, f_l25Mon]; done) | (simp_all [f_hasPage, f_l25Mon]; omega)) : p := h
theorem c_spec_l22Is (w0 : World) (h : THost) (ph : PHost) (hh : RD w0 h ph) (m : Int) (page : Int) : Calls Tryz.prog 27 [GT.val h ph, I m, I page].toArray w0 (fun e w' => e = .returned (B (f_hasPage h m page)) ∧ Chg NoB w0 w') := by
 refine Calls.walk NoB Tryz.func27 rfl rfl ?_
 intro ac β S
 have hleh_mem : h.mem.length ≤ 4194304 := LRd.le (RHost.mem (d := h) hh)
 have hleh_mons : h.mons.length ≤ 4194304 := LRd.le (RHost.mons (d := h) hh)
 have hleh_buf : h.buf.length ≤ 4194304 := LRd.le (RHost.buf (d := h) hh)
 have hleh_iobuf : h.iobuf.length ≤ 4194304 := LRd.le (RHost.iobuf (d := h) hh)
 refine ws (rg ?_)
 refine S.qem 2 [] [(3, .p 0 0)] 1 [(0, GT.cells h ph)] fun ac w β S => ?_
 refine (nt (ws (rg ?_)))
 refine S.qb 3 [] [(9, .v (B (f_hostOk h)))] (.cons (Q_call fun w hw => c_spec_HostOk w h ph (rd_of (S.arg hh) hw)) .nil) fun ac w β S => ?_
 rcases Bool.eq_false_or_eq_true (f_hostOk h) with h1 | h1 <;> rw [h1] at S
 ·have g2 := hostOk_t h1
  refine S.qbm 8 [9] [(17, .v (B (f_within m 0 ((h.mons.length : Int) - 1))))] (.cons (qm (h.mons.length : Int) 1) (.cons (Q_call fun w hw => c_spec_l01In w m 0 ((h.mons.length : Int) - 1)) .nil)) 0 [] fun ac w β S => ?_
  rcases Bool.eq_false_or_eq_true (f_within m 0 ((h.mons.length : Int) - 1)) with h3 | h3 <;> rw [h3] at S
  ·have g4 := within_t h3
   refine S.qg 4 [17] [(6, .v (B (f_within page 0 7)))] (.cons (Q_call fun w hw => c_spec_l01In w page 0 7) .nil) fun ac w β S => ?_
   exact (nt (wr (S.r [B (f_within page 0 7)] ⟨retB k0_spec_l22Is, S.chg⟩)))
  ·have g5 := within_f h3
   refine S.qe 4 [17] [(6, .v (B false))] fun ac w β S => ?_
   exact (nt (wr (S.r [B false] ⟨retB k0_spec_l22Is, S.chg⟩)))
 ·refine S.qe 12 [9] [(6, .v (B false))] fun ac w β S => ?_
  exact (nt (wr (S.r [B false] ⟨retB k0_spec_l22Is, S.chg⟩)))

theorem k0_spec_OwnerOfPage {p : Prop} (h : p := by clear S; (first | rw [ownerOfPage_neg (by omega)] | rw [ownerOfPage_end (he.trans (own0_end (by omega)))] | rw [ownerOfPage_pos (by omega), he, own0_hit (by omega) (he2.trans (own1_hit (by omega) (by assumption)))])) : p := h
theorem c_spec_OwnerOfPage (w0 : World) (h : THost) (ph : PHost) (hh : RD w0 h ph) (page : Int) : Calls Tryz.prog 91 [GT.val h ph, I page].toArray w0 (fun e w' => e = .returned (.tuple #[I (f_ownerOfPage h page).1, I (f_ownerOfPage h page).2]) ∧ Chg NoB w0 w') := by
 refine Calls.walk NoB Tryz.func91 rfl rfl ?_
 intro ac β S
 have hleh_mem : h.mem.length ≤ 4194304 := LRd.le (RHost.mem (d := h) hh)
 have hleh_mons : h.mons.length ≤ 4194304 := LRd.le (RHost.mons (d := h) hh)
 have hleh_buf : h.buf.length ≤ 4194304 := LRd.le (RHost.buf (d := h) hh)
 have hleh_iobuf : h.iobuf.length ≤ 4194304 := LRd.le (RHost.iobuf (d := h) hh)
 refine ws (rg ?_)
 refine S.qem 3 [] [(2, .p 0 0)] 1 [(0, GT.cells h ph)] fun ac w β S => ?_
 refine (nt (ws (ws (rg ?_))))
 refine S.qe 1 [] [(6, .v (I 0))] fun ac w β S => ?_
 refine (nt (wp_block ?_))
 refine wp_loop_down (fun mm ac w => ∃ (i : Nat)  (u : _) (N : _) (β : _), mm = h.mons.length - i ∧ (i ≤ h.mons.length) ∧ (f_own0 h.mons page 0 = f_own0 h.mons page i) ∧ St Tryz.prog Tryz.f91.ntmps w0 NoB u N β ⟨[(1, .v (I page)), (2, .p 0 0), (6, .v (I (i : Int)))], [GT.cells h ph]⟩ ac w) _ ⟨0, _, _, _, rfl, o0, o0, S.z⟩ ?_
 clear S
 rintro mm ac w ⟨i, u, N, β, rfl, hi, he, S⟩
 refine ws (ws (rg ?_))
 refine S.qa 6 [] [(13, .v (B (decide ((i : Int) < (h.mons.length : Int)))))] fun ac w β S => ?_
 rcases Bool.eq_false_or_eq_true (decide ((i : Int) < (h.mons.length : Int))) with h1 | h1 <;> rw [h1] at S
 ·have g2 := of_decide_eq_true h1
  refine S.qe 3 [13] [(16, .v (B (decide (page ≥ 0))))] fun ac w β S => ?_
  refine (nt (S.c (decide (page ≥ 0)) (fun h3 => ?_) (fun h3 => ?_)))
  ·have g4 := of_decide_eq_true h3
   refine wk (nt (ws (wp_block (ws (rg ?_)))))
   refine S.qe 1 [] [(7, .v (I 0))] fun ac w β S => ?_
   refine (nt (wp_block ?_))
   refine wp_loop_down (fun mm ac w => ∃ (k : Nat)  (u : _) (N : _) (β : _), mm = (el h.mons i).outer.length - k ∧ (k ≤ (el h.mons i).outer.length) ∧ (f_own1 (el h.mons i).outer page 0 = f_own1 (el h.mons i).outer page k) ∧ St Tryz.prog Tryz.f91.ntmps w0 NoB u N β ⟨[(1, .v (I page)), (2, .p 0 0), (6, .v (I (i : Int))), (7, .v (I (k : Int)))], [GT.cells h ph]⟩ ac w) _ ⟨0, _, _, _, rfl, o0, o0, S.z⟩ ?_
   clear S
   rintro mm ac w ⟨k, u, N, β, rfl, hk, he2, S⟩
   have hl2 : (el h.mons i).outer.length ≤ 4194304 := LRd.le (RMon.outer (d := el h.mons i) (LRd.el (RHost.mons (d := h) hh) i (by omega)))
   refine ws (ws (rg ?_))
   have b5 : (el h.mons i).outer.length ≤ 4194304 := LRd.le (RMon.outer (d := (el h.mons i)) (LRd.el (RHost.mons (d := h) (S.arg hh)) i (by omega)))
   refine S.qg 9 [] [(27, .v (B (decide ((k : Int) < ((el h.mons i).outer.length : Int)))))] (.cons (qn (RHost.mons (d := h) (S.arg hh)) i Tryz.underlying28) (.cons (qc (RHost.mons (d := h) (S.arg hh)) 47 i 0 (slv (el h.mons i).outer.length (ph.mons.2 i).outer.1)) .nil)) fun ac w β S => ?_
   refine (nt (S.c (decide ((k : Int) < ((el h.mons i).outer.length : Int))) (fun h6 => ?_) (fun h6 => ?_)))
   ·have g7 := of_decide_eq_true h6
    refine wk (nt (ws (wp_block (ws (rg ?_)))))
    refine S.qg 12 [] [(41, .v (B ((el (el h.mons i).outer k).page == page)))] (.cons (qn (RHost.mons (d := h) (S.arg hh)) i Tryz.underlying28) (.cons (qc (RHost.mons (d := h) (S.arg hh)) 47 i 0 (slv (el h.mons i).outer.length (ph.mons.2 i).outer.1)) (.cons (qn (RMon.outer (d := (el h.mons i)) (LRd.el (RHost.mons (d := h) (S.arg hh)) i (by omega))) k Tryz.underlying47) (.cons (qc (RMon.outer (d := (el h.mons i)) (LRd.el (RHost.mons (d := h) (S.arg hh)) i (by omega))) 3 k 0 (I (el (el h.mons i).outer k).page)) .nil)))) fun ac w β S => ?_
    refine (nt (S.c ((el (el h.mons i).outer k).page == page) (fun h8 => ?_) (fun h8 => ?_)))
    ·have g9 : (el (el h.mons i).outer k).page = page := eq_of_beq h8
     refine ws (rg ?_)
     refine S.qe 4 [] [(4, .v (I (i : Int))), (5, .v (I (k : Int)))] fun ac w β S => ?_
     exact (nt (wr (rb (rt (rt (rb (rb (rt (rt (rb (rt (S.r [I (i : Int), I (k : Int)] ⟨ret2v (eqI (show (i : Int) = (f_ownerOfPage h page).1 from k0_spec_OwnerOfPage)) (eqI (show (k : Int) = (f_ownerOfPage h page).2 from k0_spec_OwnerOfPage)), S.chg⟩))))))))))))
    have g10 : ¬ ((el (el h.mons i).outer k).page = page) := ne_of_beq_false h8
    refine wk (nb (nt (rg ?_)))
    refine S.qg 3 [] [(7, .v (I ((k : Int) + 1)))] (.cons (qp (k : Int) 1) .nil) fun ac w β S => ?_
    refine (nt ?_)
    refine ⟨(el h.mons i).outer.length - (k + 1), by omega, k + 1, _, _, _, rfl, ?_, ?_, S.z⟩
    ·exact oz
    ·clear S; exact he2.trans (own1_next (by omega) (by assumption))
   have g11 := of_decide_eq_false h6
   refine wp_exit (ex_then (ex_then (ex_hit (nb (nt (rg ?_))))))
   refine S.qg 3 [] [(6, .v (I ((i : Int) + 1)))] (.cons (qp (i : Int) 1) .nil) fun ac w β S => ?_
   refine (nt ?_)
   refine ⟨h.mons.length - (i + 1), by omega, i + 1, _, _, _, rfl, ?_, ?_, S.z⟩
   ·exact oz
   ·clear S; exact he.trans (own0_next (by omega) (he2.trans (own1_end (by omega))))
  have g12 := of_decide_eq_false h3
  refine wp_exit (ex_then (ex_then (ex_hit (nt (ws (rg ?_))))))
  refine S.qe 2 [] [(4, .v (I (-1))), (5, .v (I (-1)))] fun ac w β S => ?_
  exact (nt (wr (S.r [I (-1), I (-1)] ⟨ret2v (eqI (show (-1) = (f_ownerOfPage h page).1 from k0_spec_OwnerOfPage)) (eqI (show (-1) = (f_ownerOfPage h page).2 from k0_spec_OwnerOfPage)), S.chg⟩)))
 ·have g13 := of_decide_eq_false h1
  refine S.qe 3 [13] [(16, .v (B false))] fun ac w β S => ?_
  refine (nt (S.c false (fun hx => by cases hx) (fun _ => ?_)))
  refine wp_exit (ex_then (ex_then (ex_hit (nt (ws (rg ?_))))))
  refine S.qe 2 [] [(4, .v (I (-1))), (5, .v (I (-1)))] fun ac w β S => ?_
  exact (nt (wr (S.r [I (-1), I (-1)] ⟨ret2v (eqI (show (-1) = (f_ownerOfPage h page).1 from k0_spec_OwnerOfPage)) (eqI (show (-1) = (f_ownerOfPage h page).2 from k0_spec_OwnerOfPage)), S.chg⟩)))

theorem c_spec_FreeIn (w0 : World) (h : THost) (ph : PHost) (hh : RD w0 h ph) : Calls Tryz.prog 90 [GT.val h ph].toArray w0 (Ret1 NoB w0 (f_freeIn h : List Int)) := by
 refine Calls.walk NoB Tryz.func90 rfl rfl ?_
 intro ac β S
 have hleh_mem : h.mem.length ≤ 4194304 := LRd.le (RHost.mem (d := h) hh)
 have hleh_mons : h.mons.length ≤ 4194304 := LRd.le (RHost.mons (d := h) hh)
 have hleh_buf : h.buf.length ≤ 4194304 := LRd.le (RHost.buf (d := h) hh)
 have hleh_iobuf : h.iobuf.length ≤ 4194304 := LRd.le (RHost.iobuf (d := h) hh)
 refine ws (rg ?_)
 refine S.qem 2 [] [(1, .p 0 0)] 1 [(0, GT.cells h ph)] fun ac w β S => ?_
 refine (nt (ws (rg ?_)))
 refine RG.op rfl (S.bs0 (α := Int) (d := 7) (by kernel_rfl) fun ac w N q1 F2 S up o3 d4 => ?_)
 clear up d4
 refine S.qe 1 [] [(3, .v (slv 0 q1.1))] fun ac w β S => ?_
 refine (nt (ws (ws (rg ?_))))
 refine S.qe 1 [] [(4, .v (I 0))] fun ac w β S => ?_
 refine (nt (wp_block ?_))
 refine wp_loop_down (fun mm ac w => ∃ (k : Nat) (acc : List Int) (q5 : _) (F6 : _) (u : _) (N : _) (β : _), mm = h.mem.length - k ∧ (k ≤ h.mem.length) ∧ (acc = f_idx k (fun p => decide ((f_ownerOfPage h p).1 < 0))) ∧ St Tryz.prog Tryz.f90.ntmps w0 NoB u N β ⟨[(1, .p 0 0), (3, .v (slv acc.length q5.1)), (4, .v (I (k : Int)))], [GT.cells h ph]⟩ ac w ∧ Ow w0 NoB u N F6 acc q5) _ ⟨0, ([] : List Int), q1, F2, _, _, _, rfl, o0, (by rfl), S.z, o3⟩ ?_
 clear S o3
 rintro mm ac w ⟨k, acc, q5, F6, u, N, β, rfl, hk, hacc, S, o7⟩
 have hlacc : acc.length ≤ k := by rw [hacc]; exact idx_len _ _
 refine ws (ws (rg ?_))
 refine S.qe 5 [] [(12, .v (B (decide ((k : Int) < (h.mem.length : Int)))))] fun ac w β S => ?_
 refine (nt (S.c (decide ((k : Int) < (h.mem.length : Int))) (fun h8 => ?_) (fun h8 => ?_)))
 ·have g9 := of_decide_eq_true h8
  refine wk (nt (ws (wp_block (ws (rg ?_)))))
  refine S.qg 8 [] [(5, .v (I (f_ownerOfPage h (k : Int)).1))] (.cons (Q_call fun w hw => c_spec_OwnerOfPage w h ph (rd_of (S.arg hh) hw) (k : Int)) .nil) fun ac w β S => ?_
  refine (nt (ws (rg ?_)))
  refine S.qe 2 [] [(22, .v (B (decide ((f_ownerOfPage h (k : Int)).1 < 0))))] fun ac w β S => ?_
  refine (nt (S.c (decide ((f_ownerOfPage h (k : Int)).1 < 0)) (fun h10 => ?_) (fun h10 => ?_)))
  ·have g11 := of_decide_eq_true h10
   refine rg ?_
   refine S.qa 2 [] [(23, .v (slv acc.length q5.1)), (24, .v (I (k : Int)))] fun ac w β S => ?_
   refine RG.op rfl (S.bs1 (α := Int) (x := (k : Int)) (p := ()) (F := NoB) ⟨by omega, by omega⟩ (fun b h => False.elim h) (fun b h => False.elim h) (d := 25) (by kernel_rfl) fun ac w N q12 F13 S up o14 d15 => ?_)
   have d16 := d15 _ (fun b _ h => False.elim h) o7.sub
   replace o7 := o7.up up
   clear up d15
   refine RG.op rfl (S.appFlat (α := Int) o7 o14.rn (fun _ _ h => h) (by' := 8) (d := 26) (lx := acc.length) (ly := 1) rfl rfl (by kernel_rfl) (show _ ≤ 4194304 by simp only [List.length_append, List.length_cons, List.length_nil]; omega) fun ac w N q17 F18 S up o19 d20 => ?_)
   have d21 := d20 _ (Disj.symm d16) o14.sub
   replace o14 := o14.upF (Disj.symm d16) up
   clear up d20
   refine S.qe 1 [] [(3, .v (slv (acc ++ [(k : Int)]).length q17.1))] fun ac w β S => ?_
   refine (nb (nt (rg ?_)))
   refine S.qg 3 [] [(4, .v (I ((k : Int) + 1)))] (.cons (qp (k : Int) 1) .nil) fun ac w β S => ?_
   refine (nt ?_)
   refine ⟨h.mem.length - (k + 1), by omega, k + 1, (acc ++ [(k : Int)]), q17, F18, _, _, _, rfl, ?_, ?_, S.z, o19⟩
   ·exact oz
   ·clear S; (first | (rw [idx_step_t (by first | assumption | (simp [*]; done) | (simp; omega)), hacc]; done) | (rw [idx_step_f (by first | assumption | (simp [*]; done) | (simp; omega)), hacc]; done) | (rw [idx_step_t (by simp_all <;> fail), hacc]; done) | (rw [idx_step_f (by simp_all <;> fail), hacc]; done))
  have g22 := of_decide_eq_false h10
  refine wk (nb (nt (rg ?_)))
  refine S.qg 3 [] [(4, .v (I ((k : Int) + 1)))] (.cons (qp (k : Int) 1) .nil) fun ac w β S => ?_
  refine (nt ?_)
  refine ⟨h.mem.length - (k + 1), by omega, k + 1, acc, q5, F6, _, _, _, rfl, ?_, ?_, S.z, o7⟩
  ·exact oz
  ·clear S; (first | (rw [idx_step_t (by first | assumption | (simp [*]; done) | (simp; omega)), hacc]; done) | (rw [idx_step_f (by first | assumption | (simp [*]; done) | (simp; omega)), hacc]; done) | (rw [idx_step_t (by simp_all <;> fail), hacc]; done) | (rw [idx_step_f (by simp_all <;> fail), hacc]; done))
 have g23 := of_decide_eq_false h8
 refine wp_exit (ex_then (ex_then (ex_hit (nt (ws (rg ?_))))))
 refine S.qe 2 [] [(2, .v (slv acc.length q5.1))] fun ac w β S => ?_
 exact (nt (wr (S.r [slv acc.length q5.1] (ret1_of S (show f_freeIn h = acc by clear S; (unfold f_freeIn; rw [hacc, show h.mem.length = k by omega])) rfl o7))))

theorem k0_spec_PageAt {p : Prop} (h : p := by clear S; (first | (unfold f_pageAt; rw [if_pos (by omega)]; done) | (unfold f_pageAt; rw [if_pos (by omega)]; first | rfl | (simp; done)) | (unfold f_pageAt; rw [if_neg (by omega)]; done) | (unfold f_pageAt; rw [if_neg (by omega)]; first | rfl | (simp; done)))) : p := h
theorem c_spec_PageAt (w0 : World) (m : List (List Int)) (pm : LP (List Int)) (hm : RD w0 m pm) (page : Int) : Calls Tryz.prog 87 [slv m.length pm.1, I page].toArray w0 (Ret1 NoB w0 (f_pageAt m page : List Int)) := by
 refine Calls.walk NoB Tryz.func87 rfl rfl ?_
 intro ac β S
 have hlem : m.length ≤ 4194304 := LRd.le hm
 refine ws (rg ?_)
 refine S.qe 1 [] [] fun ac w β S => ?_
 refine (nt (ws (ws (rg ?_))))
 refine S.qg 6 [] [(10, .v (B (!(f_within page 0 ((m.length : Int) - 1)))))] (.cons (qm (m.length : Int) 1) (.cons (Q_call fun w hw => c_spec_l01In w page 0 ((m.length : Int) - 1)) .nil)) fun ac w β S => ?_
 refine (nt (S.c (!(f_within page 0 ((m.length : Int) - 1))) (fun h1 => ?_) (fun h1 => ?_)))
 ·have h2 := not_t h1
  have g3 := within_f h2
  refine ws (rg ?_)
  refine RG.op rfl (S.make (α := Int) (m := 4) (by' := 8) (d := 11) (by kernel_rfl) (by omega) (show 4 ≤ 4194304 by omega) fun ac w N q4 F5 S up o6 d7 => ?_)
  clear up d7
  refine S.qe 1 [] [(4, .v (slv 4 q4.1))] fun ac w β S => ?_
  exact (nt (wr (rt (S.r [slv 4 q4.1] (ret1_of S (show f_pageAt m page = (List.replicate 4 (GT.dflt : Int)) from k0_spec_PageAt) (by rw [show 4 = (List.replicate 4 (GT.dflt : Int)).length from (by simp)]; rfl) o6)))))
 have h8 := not_f h1
 have g9 := within_t h8
 refine wk (nt (ws (rg ?_)))
 refine RG.op rfl (S.bs0 (α := Int) (d := 12) (by kernel_rfl) fun ac w N q10 F11 S up o12 d13 => ?_)
 clear up d13
 refine S.qb 4 [] [(12, .v (slv 0 q10.1)), (16, .v (slv (el m page.toNat).length (pm.2 page.toNat).1))] (.cons (qt (S.arg hm) page Tryz.underlying22) (.cons (qx (S.arg hm) 50 page.toNat) .nil)) fun ac w β S => ?_
 have b18 : (el m page.toNat).length ≤ 4194304 := LRd.le (LRd.el (S.arg hm) page.toNat (by omega))
 refine RG.op rfl (S.appFlat0 (α := Int) o12 (LRd.el (S.arg hm) page.toNat (by omega)) (fun _ _ h => h) (by' := 8) (d := 17) (lx := 0) (ly := (el m page.toNat).length) rfl fun ac w N q14 F15 S up o16 d17 => ?_)
 clear up d17
 refine S.qe 1 [] [(4, .v (slv (el m page.toNat).length q14.1))] fun ac w β S => ?_
 exact (nt (wr (S.r [slv (el m page.toNat).length q14.1] (ret1_of S (show f_pageAt m page = (el m page.toNat) from k0_spec_PageAt) rfl o16))))

theorem c_spec_UsesOf (w0 : World) (t : List TSlot) (pt : LP TSlot) (ht : RD w0 t pt) (page : Int) : Calls Tryz.prog 111 [slv t.length pt.1, I page].toArray w0 (Ret1 NoB w0 (f_usesOf t page : List Int)) := by
 refine Calls.walk NoB Tryz.func111 rfl rfl ?_
 intro ac β S
 have hlet : t.length ≤ 4194304 := LRd.le ht
 refine ws (rg ?_)
 refine S.qe 1 [] [] fun ac w β S => ?_
 refine (nt (ws (rg ?_)))
 refine RG.op rfl (S.bs0 (α := Int) (d := 7) (by kernel_rfl) fun ac w N q1 F2 S up o3 d4 => ?_)
 clear up d4
 refine S.qe 1 [] [(5, .v (slv 0 q1.1))] fun ac w β S => ?_
 refine (nt (ws (ws (rg ?_))))
 refine S.qe 1 [] [(6, .v (I 0))] fun ac w β S => ?_
 refine (nt (wp_block ?_))
 refine wp_loop_down (fun mm ac w => ∃ (k : Nat) (acc : List Int) (q5 : _) (F6 : _) (u : _) (N : _) (β : _), mm = t.length - k ∧ (k ≤ t.length) ∧ (acc = f_idx k (fun i => decide ((el t i).page = page))) ∧ St Tryz.prog Tryz.f111.ntmps w0 NoB u N β ⟨[(0, .v (slv t.length pt.1)), (1, .v (I page)), (5, .v (slv acc.length q5.1)), (6, .v (I (k : Int)))], []⟩ ac w ∧ Ow w0 NoB u N F6 acc q5) _ ⟨0, ([] : List Int), q1, F2, _, _, _, rfl, o0, (by rfl), S.z, o3⟩ ?_
 clear S o3
 rintro mm ac w ⟨k, acc, q5, F6, u, N, β, rfl, hk, hacc, S, o7⟩
 have hlacc : acc.length ≤ k := by rw [hacc]; exact idx_len _ _
 refine ws (ws (rg ?_))
 refine S.qe 4 [] [(11, .v (B (decide ((k : Int) < (t.length : Int)))))] fun ac w β S => ?_
 refine (nt (S.c (decide ((k : Int) < (t.length : Int))) (fun h8 => ?_) (fun h8 => ?_)))
 ·have g9 := of_decide_eq_true h8
  refine wk (nt (ws (wp_block (ws (rg ?_)))))
  refine S.qg 7 [] [(20, .v (B ((el t k).page == page)))] (.cons (qn (S.arg ht) k Tryz.underlying47) (.cons (qc (S.arg ht) 3 k 0 (I (el t k).page)) .nil)) fun ac w β S => ?_
  refine (nt (S.c ((el t k).page == page) (fun h10 => ?_) (fun h10 => ?_)))
  ·have g11 : (el t k).page = page := eq_of_beq h10
   refine rg ?_
   refine S.qa 2 [] [(21, .v (slv acc.length q5.1)), (22, .v (I (k : Int)))] fun ac w β S => ?_
   refine RG.op rfl (S.bs1 (α := Int) (x := (k : Int)) (p := ()) (F := NoB) ⟨by omega, by omega⟩ (fun b h => False.elim h) (fun b h => False.elim h) (d := 23) (by kernel_rfl) fun ac w N q12 F13 S up o14 d15 => ?_)
   have d16 := d15 _ (fun b _ h => False.elim h) o7.sub
   replace o7 := o7.up up
   clear up d15
   refine RG.op rfl (S.appFlat (α := Int) o7 o14.rn (fun _ _ h => h) (by' := 8) (d := 24) (lx := acc.length) (ly := 1) rfl rfl (by kernel_rfl) (show _ ≤ 4194304 by simp only [List.length_append, List.length_cons, List.length_nil]; omega) fun ac w N q17 F18 S up o19 d20 => ?_)
   have d21 := d20 _ (Disj.symm d16) o14.sub
   replace o14 := o14.upF (Disj.symm d16) up
   clear up d20
   refine S.qe 1 [] [(5, .v (slv (acc ++ [(k : Int)]).length q17.1))] fun ac w β S => ?_
   refine (nb (nt (rg ?_)))
   refine S.qg 3 [] [(6, .v (I ((k : Int) + 1)))] (.cons (qp (k : Int) 1) .nil) fun ac w β S => ?_
   refine (nt ?_)
   refine ⟨t.length - (k + 1), by omega, k + 1, (acc ++ [(k : Int)]), q17, F18, _, _, _, rfl, ?_, ?_, S.z, o19⟩
   ·exact oz
   ·clear S; (first | (rw [idx_step_t (by first | assumption | (simp [*]; done) | (simp; omega)), hacc]; done) | (rw [idx_step_f (by first | assumption | (simp [*]; done) | (simp; omega)), hacc]; done) | (rw [idx_step_t (by simp_all <;> fail), hacc]; done) | (rw [idx_step_f (by simp_all <;> fail), hacc]; done))
  have g22 : ¬ ((el t k).page = page) := ne_of_beq_false h10
  refine wk (nb (nt (rg ?_)))
  refine S.qg 3 [] [(6, .v (I ((k : Int) + 1)))] (.cons (qp (k : Int) 1) .nil) fun ac w β S => ?_
  refine (nt ?_)
  refine ⟨t.length - (k + 1), by omega, k + 1, acc, q5, F6, _, _, _, rfl, ?_, ?_, S.z, o7⟩
  ·exact oz
  ·clear S; (first | (rw [idx_step_t (by first | assumption | (simp [*]; done) | (simp; omega)), hacc]; done) | (rw [idx_step_f (by first | assumption | (simp [*]; done) | (simp; omega)), hacc]; done) | (rw [idx_step_t (by simp_all <;> fail), hacc]; done) | (rw [idx_step_f (by simp_all <;> fail), hacc]; done))
 have g23 := of_decide_eq_false h8
 refine wp_exit (ex_then (ex_then (ex_hit (nt (ws (rg ?_))))))
 refine S.qe 2 [] [(4, .v (slv acc.length q5.1))] fun ac w β S => ?_
 exact (nt (wr (S.r [slv acc.length q5.1] (ret1_of S (show f_usesOf t page = acc by clear S; (unfold f_usesOf; rw [hacc, show t.length = k by omega])) rfl o7))))

theorem c_spec_l07Has (w0 : World) (k : TKept) (pk : PKept) (hk : RD w0 k pk) (page : Int) : Calls Tryz.prog 149 [GT.val k pk, I page].toArray w0 (fun e w' => e = .returned (B (decide ((0 ≤ page ∧ page < k.known.length) ∧ page < k.slots.length))) ∧ Chg NoB w0 w') := by
 refine Calls.walk NoB Tryz.func149 rfl rfl ?_
 intro ac β S
 have hlek_known : k.known.length ≤ 4194304 := LRd.le (RKept.known (d := k) hk)
 have hlek_slots : k.slots.length ≤ 4194304 := LRd.le (RKept.slots (d := k) hk)
 refine ws (rg ?_)
 refine S.qem 2 [] [(2, .p 0 0)] 1 [(0, GT.cells k pk)] fun ac w β S => ?_
 refine (nt (ws (rg ?_)))
 refine S.qb 7 [] [(11, .v (B (f_within page 0 ((k.known.length : Int) - 1))))] (.cons (qm (k.known.length : Int) 1) (.cons (Q_call fun w hw => c_spec_l01In w page 0 ((k.known.length : Int) - 1)) .nil)) fun ac w β S => ?_
 rcases Bool.eq_false_or_eq_true (f_within page 0 ((k.known.length : Int) - 1)) with h1 | h1 <;> rw [h1] at S
 ·have g2 := within_t h1
  refine S.qe 7 [11] [(4, .v (B (decide (page < (k.slots.length : Int)))))] fun ac w β S => ?_
  exact (nt (wr (S.r [B (decide (page < (k.slots.length : Int)))] ⟨retB (by clear S; (rw [Bool.eq_iff_iff]; simp; omega)), S.chg⟩)))
 ·have g3 := within_f h1
  refine S.qe 7 [11] [(4, .v (B false))] fun ac w β S => ?_
  exact (nt (wr (S.r [B false] ⟨retB (by clear S; (rw [Bool.eq_iff_iff]; simp; omega)), S.chg⟩)))

theorem k0_spec_Forget {p : Prop} (h : p := by clear S; (unfold f_forget; (repeat' split) <;> first | rfl | (exfalso; omega) | (exfalso; simp_all; done))) : p := h
theorem c_spec_Forget (w0 : World) (k : TKept) (pk : PKept) (hk : RD w0 k pk) (page : Int) : Calls Tryz.prog 112 [GT.val k pk, I page].toArray w0 (Ret1 NoB w0 (f_forget k page : TKept)) := by
 refine Calls.walk NoB Tryz.func112 rfl rfl ?_
 intro ac β S
 have hlek_known : k.known.length ≤ 4194304 := LRd.le (RKept.known (d := k) hk)
 have hlek_slots : k.slots.length ≤ 4194304 := LRd.le (RKept.slots (d := k) hk)
 refine ws (rg ?_)
 refine S.qem 2 [] [(2, .p 0 0), (4, .p 1 0)] 2 [(0, GT.cells k pk), (1, Zc TKept)] fun ac w β S => ?_
 refine (nt (ws (rg ?_)))
 refine S.qa 1 [] [(5, .v (GT.val k pk))] fun ac w β S => ?_
 refine RG.op rfl (S.k1 6 (c_spec_l07Copy w k pk (S.rd (S.arg hk))) fun ac w N q1 F2 S up o3 d4 => ?_)
 clear up d4
 obtain ⟨F5, F8, o6, o9, s7, s10, d11⟩ := sp_Kept o3
 refine S.qem 1 [] [] 2 [(0, [slv k.known.length q1.known.1, slv k.slots.length q1.slots.1])] fun ac w β S => ?_
 refine (nt (ws (ws (rg ?_))))
 refine S.qg 3 [] [(9, .v (B (decide ((0 ≤ page ∧ page < k.known.length) ∧ page < k.slots.length))))] (.cons (Q_call fun w hw => c_spec_l07Has w k q1 (rd_of (show GT.rd KK _ _ k q1 from ⟨o6.rn, o9.rn⟩) hw) page) .nil) fun ac w β S => ?_
 refine (nt (S.c (decide ((0 ≤ page ∧ page < k.known.length) ∧ page < k.slots.length)) (fun h12 => ?_) (fun h12 => ?_)))
 ·have g13 := of_decide_eq_true h12
  refine ws (rg ?_)
  refine S.qb 4 [] [(13, .v (pt q1.known.1.b (q1.known.1.off + page.toNat * 1)))] (.cons (qt o6.rn page Tryz.underlying48) .nil) fun ac w β S => ?_
  refine RG.op rfl (S.sF (α := Bool) o6 (t := 4) (k := page.toNat) (j := 0) (off := q1.known.1.off + page.toNat * 1) (v := B false) (y := false) (q := ()) (fun _ _ _ => ⟨NoB, trivial, fun _ h => False.elim h⟩) fun w N F15 q16 S up o14 d17 s18 n19 => ?_)
  have d20 := d17 _ (Disj.symm d11) (fun b _ h => False.elim h) o9.sub
  replace o9 := o9.upF (Disj.symm d11) up
  clear up d17 o6 n19
  have l21 : (k.known.set page.toNat false).length = k.known.length := List.length_set
  replace S := S.z (σ' := ⟨[(1, .v (I page)), (2, .p 0 0), (4, .p 1 0), (13, .v (pt q1.known.1.b (q1.known.1.off + page.toNat * 1)))], [[slv k.known.length q1.known.1, slv k.slots.length q1.slots.1], Zc TKept]⟩)
  replace S := S.cast (σ' := ⟨[(1, .v (I page)), (2, .p 0 0), (4, .p 1 0), (13, .v (pt q1.known.1.b (q1.known.1.off + page.toNat * 1)))], [[slv (k.known.set page.toNat false).length q1.known.1, slv k.slots.length q1.slots.1], Zc TKept]⟩) (by rw [show (k.known.set page.toNat false).length = k.known.length by omega])
  refine rd (nt ?_)
  refine S.draw0 (f := 6) 5 rfl rfl fun w S => ?_
  refine S.hq 0 [0] [] [(14, .p 0 1)] .nil fun ac S => ?_
  refine S.hq 1 [1] [] [(15, .v (slv k.slots.length q1.slots.1))] .nil fun ac S => ?_
  refine S.hq 2 [2] [] [(16, .v (I page))] .nil fun ac S => ?_
  refine WD.one (i := 3) (by kernel_rfl) ?_
  refine S.stepq (i := 3) (keep := [2, 4, 15, 16, 17]) (m := 2) (σ' := ⟨[(2, .p 0 0), (4, .p 1 0), (15, .v (slv k.slots.length q1.slots.1)), (16, .v (I page)), (17, .v (GT.val (⟨-1, 0⟩ : TSlot) ()))], [[slv (k.known.set page.toNat false).length q1.known.1, slv k.slots.length q1.slots.1], Zc TKept]⟩) (.cons (Q_call fun w hw => c_spec_NoSlot w ) .nil) (by kernel_rfl) fun ac w β S hβ => ?_
  refine WD.stayq S hβ ?_
  clear hβ
  refine S.hq 4 [4] [] [(18, .v (pt q1.slots.1.b (q1.slots.1.off + page.toNat * 2)))] (.cons (qt o9.rn page Tryz.underlying47) .nil) fun ac S => ?_
  refine WD.one (i := 5) (by kernel_rfl) ?_
  have e22 : RSlot (el k.slots page.toNat) := (LRd.el o9.rn page.toNat (by omega))
  refine id (S.sF (α := TSlot) o9 (t := 55) (k := page.toNat) (j := 0) (off := q1.slots.1.off + page.toNat * 2) (v := GT.val (⟨-1, 0⟩ : TSlot) ()) (y := (⟨-1, 0⟩ : TSlot)) (q := ()) (fun _ _ _ => ⟨NoB, (show RSlot ⟨-1, 0⟩ from ⟨⟨by decide, by decide⟩, ⟨by decide, by decide⟩⟩), fun _ h => False.elim h⟩) fun w N F24 q25 S up o23 d26 s27 n28 => ?_)
  refine WD.last (by kernel_rfl) ?_
  have d29 := d26 _ (Disj.symm d20) (fun b _ h => False.elim h) o14.sub
  replace o14 := o14.upF (Disj.symm d20) up
  clear up d26 o9 n28
  have l30 : (k.slots.set page.toNat (⟨-1, 0⟩ : TSlot)).length = k.slots.length := List.length_set
  replace S := S.z (σ' := ⟨[(2, .p 0 0), (4, .p 1 0), (17, .v (GT.val (⟨-1, 0⟩ : TSlot) ())), (18, .v (pt q1.slots.1.b (q1.slots.1.off + page.toNat * 2)))], [[slv (k.known.set page.toNat false).length q1.known.1, slv k.slots.length q1.slots.1], Zc TKept]⟩)
  replace S := S.cast (σ' := ⟨[(2, .p 0 0), (4, .p 1 0), (17, .v (GT.val (⟨-1, 0⟩ : TSlot) ())), (18, .v (pt q1.slots.1.b (q1.slots.1.off + page.toNat * 2)))], [[slv (k.known.set page.toNat false).length q1.known.1, slv (k.slots.set page.toNat (⟨-1, 0⟩ : TSlot)).length q1.slots.1], Zc TKept]⟩) (by rw [show (k.slots.set page.toNat (⟨-1, 0⟩ : TSlot)).length = k.slots.length by omega])
  refine WD.done (by kernel_rfl) ?_ _
  refine id (nt (ws (rg ?_)))
  refine S.qem 2 [] [] 2 [(1, [slv (k.known.set page.toNat false).length q1.known.1, slv (k.slots.set page.toNat (⟨-1, 0⟩ : TSlot)).length q1.slots.1])] fun ac w β S => ?_
  refine (nt (wr (S.r [GT.val (⟨(k.known.set page.toNat false), (k.slots.set page.toNat (⟨-1, 0⟩ : TSlot))⟩ : TKept) (⟨(q1.known.1, q16), (q1.slots.1, q25)⟩ : PKept)] ?_)))
  have o31 := ow_Kept (x := (⟨(k.known.set page.toNat false), (k.slots.set page.toNat (⟨-1, 0⟩ : TSlot))⟩ : TKept)) (p := (⟨(q1.known.1, q16), (q1.slots.1, q25)⟩ : PKept)) o14 o23 d29 
  exact ret1_of S (show f_forget k page = (⟨(k.known.set page.toNat false), (k.slots.set page.toNat (⟨-1, 0⟩ : TSlot))⟩ : TKept) from k0_spec_Forget) rfl o31
 have g32 := of_decide_eq_false h12
 refine wk (nt (ws (rg ?_)))
 refine S.qem 2 [] [] 2 [(1, [slv k.known.length q1.known.1, slv k.slots.length q1.slots.1])] fun ac w β S => ?_
 refine (nt (wr (S.r [GT.val k q1] ?_)))
 have o33 := ow_Kept (x := k) (p := q1) o6 o9 d11 
 exact ret1_of S (show f_forget k page = k from k0_spec_Forget) rfl o33

theorem c_spec_ForgetUses (w0 : World) (k : TKept) (pk : PKept) (hk : RD w0 k pk) (inner : List TSlot) (pinner : LP TSlot) (hinner : RD w0 inner pinner) (page : Int) : Calls Tryz.prog 63 [GT.val k pk, slv inner.length pinner.1, I page].toArray w0 (Ret1 NoB w0 (f_forgetUses k inner page : TKept)) := by
 refine Calls.walk NoB Tryz.func63 rfl rfl ?_
 intro ac β S
 have hlek_known : k.known.length ≤ 4194304 := LRd.le (RKept.known (d := k) hk)
 have hlek_slots : k.slots.length ≤ 4194304 := LRd.le (RKept.slots (d := k) hk)
 have hleinner : inner.length ≤ 4194304 := LRd.le hinner
 refine ws (rg ?_)
 refine S.qem 2 [] [(3, .p 0 0), (6, .p 1 0)] 2 [(0, GT.cells k pk), (1, Zc TKept)] fun ac w β S => ?_
 refine (nt (ws (rg ?_)))
 refine S.qa 1 [] [(9, .v (GT.val k pk))] fun ac w β S => ?_
 refine RG.op rfl (S.k1 10 (c_spec_l07Copy w k pk (S.rd (S.arg hk))) fun ac w N q1 F2 S up o3 d4 => ?_)
 clear up d4
 obtain ⟨F5, F8, o6, o9, s7, s10, d11⟩ := sp_Kept o3
 refine S.qem 1 [] [] 2 [(0, [slv k.known.length q1.known.1, slv k.slots.length q1.slots.1])] fun ac w β S => ?_
 refine (nt (ws (rg ?_)))
 refine S.qa 2 [] [(11, .v (slv inner.length pinner.1)), (12, .v (I page))] fun ac w β S => ?_
 refine RG.op rfl (S.k1 13 (c_spec_UsesOf w inner pinner (S.rd (S.arg hinner)) page) fun ac w N q12 F13 S up o14 d15 => ?_)
 have d16 := Disj.w d15 o6.sub
 have d17 := Disj.w d15 o9.sub
 replace o6 := o6.up up
 replace o9 := o9.up up
 clear up d15
 refine S.qe 1 [] [(7, .v (slv (f_usesOf inner page).length q12.1))] fun ac w β S => ?_
 refine (nt (ws (ws (rg ?_))))
 refine S.qe 1 [] [(8, .v (I 0))] fun ac w β S => ?_
 refine (nt (wp_block ?_))
 refine wp_loop_down (fun mm ac w => ∃ (i : Nat) (kn : List Bool) (sl : List TSlot) (q18 : _) (F19 : _) (q21 : _) (F22 : _) (u : _) (N : _) (β : _), mm = (f_usesOf inner page).length - i ∧ (i ≤ (f_usesOf inner page).length) ∧ ((⟨kn, sl⟩ : TKept) = ((f_usesOf inner page).take i).foldl f_forget k) ∧ St Tryz.prog Tryz.f63.ntmps w0 NoB u N β ⟨[(3, .p 0 0), (6, .p 1 0), (7, .v (slv (f_usesOf inner page).length q12.1)), (8, .v (I (i : Int)))], [[slv kn.length q18.1, slv sl.length q21.1], Zc TKept]⟩ ac w ∧ Ow w0 NoB u N F19 kn q18 ∧ Ow w0 NoB u N F22 sl q21 ∧ Ow w0 NoB u N F13 (f_usesOf inner page) q12 ∧ Disj F19 F22 ∧ Disj F19 F13 ∧ Disj F22 F13) _ ⟨0, k.known, k.slots, q1.known, F5, q1.slots, F8, _, _, _, rfl, o0, (by rfl), S.z, o6, o9, o14, d11, d16, d17⟩ ?_
 clear S o14 o6 o9
 rintro mm ac w ⟨i, kn, sl, q18, F19, q21, F22, u, N, β, rfl, hi, hf, S, o20, o23, o14, d24, d25, d26⟩
 have hub : (f_usesOf inner page).length ≤ inner.length := idx_len _ _
 refine ws (ws (rg ?_))
 refine S.qe 4 [] [(17, .v (B (decide ((i : Int) < ((f_usesOf inner page).length : Int)))))] fun ac w β S => ?_
 refine (nt (S.c (decide ((i : Int) < ((f_usesOf inner page).length : Int))) (fun h27 => ?_) (fun h27 => ?_)))
 ·have g28 := of_decide_eq_true h27
  refine wk (nt (ws (wp_block ?_)))
  refine S.draw0 (f := 7) 6 rfl rfl fun w S => ?_
  refine S.hq 0 [0] [] [(20, .v (GT.val (⟨kn, sl⟩ : TKept) (⟨q18, q21⟩ : PKept)))] .nil fun ac S => ?_
  refine S.hq 1 [1] [] [(21, .v (slv (f_usesOf inner page).length q12.1))] .nil fun ac S => ?_
  refine S.hq 2 [2] [] [(22, .v (I (i : Int)))] .nil fun ac S => ?_
  refine S.hq 3 [3] [] [(23, .v (pt q12.1.b (q12.1.off + i * 1)))] (.cons (qn o14.rn i Tryz.underlying50) .nil) fun ac S => ?_
  refine S.hq 4 [4] [] [(24, .v (I (el (f_usesOf inner page) i)))] (.cons (qx o14.rn 3 i) .nil) fun ac S => ?_
  refine WD.one (i := 5) (by kernel_rfl) ?_
  refine id (S.k1 25 (c_spec_Forget w (⟨kn, sl⟩ : TKept) (⟨q18, q21⟩ : PKept) (S.rd (show GT.rd KK _ _ (⟨kn, sl⟩ : TKept) (⟨q18, q21⟩ : PKept) from ⟨o20.rn, o23.rn⟩)) (el (f_usesOf inner page) i)) fun ac w N q29 F30 S up o31 d32 => ?_)
  refine WD.next S up (by kernel_rfl) ?_
  have d33 := Disj.w d32 o20.sub
  have d34 := Disj.w d32 o23.sub
  have d35 := Disj.w d32 o14.sub
  replace o20 := o20.up up
  replace o23 := o23.up up
  replace o14 := o14.up up
  clear up d32
  obtain ⟨F36, F39, o37, o40, s38, s41, d42⟩ := sp_Kept o31
  refine WD.one (i := 6) (by kernel_rfl) ?_
  refine S.stepq (i := 6) (keep := [3, 6, 7, 8]) (m := 2) (σ' := ⟨[(3, .p 0 0), (6, .p 1 0), (7, .v (slv (f_usesOf inner page).length q12.1)), (8, .v (I (i : Int)))], [[slv (f_forget (⟨kn, sl⟩ : TKept) (el (f_usesOf inner page) i)).known.length q29.known.1, slv (f_forget (⟨kn, sl⟩ : TKept) (el (f_usesOf inner page) i)).slots.length q29.slots.1], Zc TKept]⟩) .nil (by kernel_rfl) fun ac w β S hβ => ?_
  refine WD.last (by kernel_rfl) ?_
  clear hβ
  refine WD.done (by kernel_rfl) ?_ _
  refine id (nb (nt (rg ?_)))
  refine S.qg 3 [] [(8, .v (I ((i : Int) + 1)))] (.cons (qp (i : Int) 1) .nil) fun ac w β S => ?_
  refine (nt ?_)
  refine ⟨(f_usesOf inner page).length - (i + 1), by omega, i + 1, (f_forget (⟨kn, sl⟩ : TKept) (el (f_usesOf inner page) i)).known, (f_forget (⟨kn, sl⟩ : TKept) (el (f_usesOf inner page) i)).slots, q29.known, F36, q29.slots, F39, _, _, _, rfl, ?_, ?_, S.z, o37, o40, o14, d42, (Disj.part (Disj.symm d35) s38), (Disj.part (Disj.symm d35) s41)⟩
  ·exact oz
  ·clear S; (rw [fold_step (by omega), ← hf])
 have g43 := of_decide_eq_false h27
 refine wp_exit (ex_then (ex_then (ex_hit (nt (ws (rg ?_))))))
 refine S.qem 2 [] [] 2 [(1, [slv kn.length q18.1, slv sl.length q21.1])] fun ac w β S => ?_
 refine (nt (wr (S.r [GT.val (⟨kn, sl⟩ : TKept) (⟨q18, q21⟩ : PKept)] ?_)))
 have o44 := ow_Kept (x := (⟨kn, sl⟩ : TKept)) (p := (⟨q18, q21⟩ : PKept)) o20 o23 d24 
 exact ret1_of S (show f_forgetUses k inner page = (⟨kn, sl⟩ : TKept) by clear S; (unfold f_forgetUses; rw [fold_end (by omega)] at hf; exact hf.symm)) rfl o44

theorem c_spec_FlushHost (w0 : World) (b : List TEntry) (pb : LP TEntry) (hb : RD w0 b pb) (host : Int) (hhost : In64 host) : Calls Tryz.prog 64 [slv b.length pb.1, I host].toArray w0 (Ret1 NoB w0 (f_flushHost b host : List TEntry)) := by
 refine Calls.walk NoB Tryz.func64 rfl rfl ?_
 intro ac β S
 have hleb : b.length ≤ 4194304 := LRd.le hb
 have hlohost := hhost.lo; have hhihost := hhost.hi
 refine ws (rg ?_)
 refine S.qe 1 [] [] fun ac w β S => ?_
 refine (nt (ws (rg ?_)))
 refine RG.op rfl (S.bs0 (α := TEntry) (d := 7) (by kernel_rfl) fun ac w N q1 F2 S up o3 d4 => ?_)
 clear up d4
 refine S.qe 1 [] [(5, .v (slv 0 q1.1))] fun ac w β S => ?_
 refine (nt (ws (ws (rg ?_))))
 refine S.qe 1 [] [(6, .v (I 0))] fun ac w β S => ?_
 refine (nt (wp_block ?_))
 refine wp_loop_down (fun mm ac w => ∃ (k : Nat) (acc : List TEntry) (q5 : _) (F6 : _) (u : _) (N : _) (β : _), mm = b.length - k ∧ (k ≤ b.length) ∧ (acc = f_without (b.take k) (fun e => f_onHost e host)) ∧ St Tryz.prog Tryz.f64.ntmps w0 NoB u N β ⟨[(0, .v (slv b.length pb.1)), (1, .v (I host)), (5, .v (slv acc.length q5.1)), (6, .v (I (k : Int)))], []⟩ ac w ∧ Ow w0 NoB u N F6 acc q5) _ ⟨0, ([] : List TEntry), q1, F2, _, _, _, rfl, o0, (by rfl), S.z, o3⟩ ?_
 clear S o3
 rintro mm ac w ⟨k, acc, q5, F6, u, N, β, rfl, hk, hacc, S, o7⟩
 have hlacc : acc.length ≤ k := by rw [hacc]; exact Nat.le_trans (without_len _ _) (List.length_take_le _ _)
 refine ws (ws (rg ?_))
 refine S.qe 4 [] [(11, .v (B (decide ((k : Int) < (b.length : Int)))))] fun ac w β S => ?_
 refine (nt (S.c (decide ((k : Int) < (b.length : Int))) (fun h8 => ?_) (fun h8 => ?_)))
 ·have g9 := of_decide_eq_true h8
  refine wk (nt (ws (wp_block (ws (rg ?_)))))
  refine S.qg 7 [] [(20, .v (B ((el b k).host != host)))] (.cons (qn (S.arg hb) k Tryz.underlying29) (.cons (qc (S.arg hb) 3 k 2 (I (el b k).host)) .nil)) fun ac w β S => ?_
  refine (nt (S.c ((el b k).host != host) (fun h10 => ?_) (fun h10 => ?_)))
  ·have g11 : ¬ ((el b k).host = host) := bne_iff_ne.1 h10
   refine rg ?_
   refine S.qb 5 [] [(21, .v (slv acc.length q5.1)), (25, .v (GT.val (el b k) ()))] (.cons (qn (S.arg hb) k Tryz.underlying29) (.cons (qs (S.arg hb) 104 k) .nil)) fun ac w β S => ?_
   refine RG.op rfl (S.bs1 (α := TEntry) (x := (el b k)) (p := ()) (F := NoB) (LRd.el (S.arg hb) k (by omega)) (fun b h => False.elim h) (fun b h => False.elim h) (d := 26) (by kernel_rfl) fun ac w N q12 F13 S up o14 d15 => ?_)
   have d16 := d15 _ (fun b _ h => False.elim h) o7.sub
   replace o7 := o7.up up
   clear up d15
   refine RG.op rfl (S.appFlat (α := TEntry) o7 o14.rn (fun _ _ h => h) (by' := 32) (d := 27) (lx := acc.length) (ly := 1) rfl rfl (by kernel_rfl) (show _ ≤ 4194304 by simp only [List.length_append, List.length_cons, List.length_nil]; omega) fun ac w N q17 F18 S up o19 d20 => ?_)
   have d21 := d20 _ (Disj.symm d16) o14.sub
   replace o14 := o14.upF (Disj.symm d16) up
   clear up d20
   refine S.qe 1 [] [(5, .v (slv (acc ++ [(el b k)]).length q17.1))] fun ac w β S => ?_
   refine (nb (nt (rg ?_)))
   refine S.qg 3 [] [(6, .v (I ((k : Int) + 1)))] (.cons (qp (k : Int) 1) .nil) fun ac w β S => ?_
   refine (nt ?_)
   refine ⟨b.length - (k + 1), by omega, k + 1, (acc ++ [(el b k)]), q17, F18, _, _, _, rfl, ?_, ?_, S.z, o19⟩
   ·exact oz
   ·clear S; (first | (rw [without_t (by omega) (onHost_t (by assumption)), hacc]; done) | (rw [without_f (by omega) (onHost_f (by assumption)), hacc]; done))
  have g22 : (el b k).host = host := ne_f h10
  refine wk (nb (nt (rg ?_)))
  refine S.qg 3 [] [(6, .v (I ((k : Int) + 1)))] (.cons (qp (k : Int) 1) .nil) fun ac w β S => ?_
  refine (nt ?_)
  refine ⟨b.length - (k + 1), by omega, k + 1, acc, q5, F6, _, _, _, rfl, ?_, ?_, S.z, o7⟩
  ·exact oz
  ·clear S; (first | (rw [without_t (by omega) (onHost_t (by assumption)), hacc]; done) | (rw [without_f (by omega) (onHost_f (by assumption)), hacc]; done))
 have g23 := of_decide_eq_false h8
 refine wp_exit (ex_then (ex_then (ex_hit (nt (ws (rg ?_))))))
 refine S.qe 2 [] [(4, .v (slv acc.length q5.1))] fun ac w β S => ?_
 exact (nt (wr (S.r [slv acc.length q5.1] (ret1_of S (show f_flushHost b host = acc by clear S; (rw [hacc, take_all (by omega)]; rfl)) rfl o7))))

theorem k0_spec_l22Slot {p : Prop} (h : p := by clear S; ((have hke : k = (el h.mons m.toNat).guests.length := (by omega)); subst hke; subst_vars; unfold f_slotTo; simp only [el_set_self (show m.toNat < h.mons.length by omega), List.set_set]; first | (rw [flushIf_yes (by assumption), flushIf_yes (by assumption)]; done) | (rw [flushIf_no (by assumption), flushIf_no (by assumption)]; done))) : p := h
theorem c_spec_l22Slot (w0 : World) (h : THost) (ph : PHost) (F : Bl) (hh : GT.own KK F w0 h ph) (hF : ∀ b, F b → b < w0.heap.size) (m : Int) (page : Int) (s : TSlot) (hs : RSlot s) (pre0 : (0 ≤ m ∧ m < h.mons.length) ∧ (el h.mons m.toNat).tables.length = (el h.mons m.toNat).guests.length ∧ (0 ≤ page ∧ page ≤ 7) ∧ (el h.mons m.toNat).outer.length = 8) : Calls Tryz.prog 29 [GT.val h ph, I m, I page, GT.val s ()].toArray w0 (RetT F F w0 (f_slotTo h m page s : THost)) := by
 refine Calls.walk F Tryz.func29 rfl rfl ?_
 intro ac β S
 have oh : Ow w0 F w0 (Lt w0.heap.size) F h ph := ⟨hh, hF, fun b hb => .inr hb⟩
 obtain ⟨F1, F4, F7, F10, o2, o5, o8, o11, s3, s6, s9, s12, d13, d14, d15, d16, d17, d18⟩ := sp_Host oh
 refine ws (rg ?_)
 refine S.qem 3 [] [(4, .p 0 0), (7, .p 1 0), (8, .p 2 0)] 3 [(0, [slv h.mem.length ph.mem.1, slv h.mons.length ph.mons.1, slv h.buf.length ph.buf.1, slv h.iobuf.length ph.iobuf.1]), (1, GT.cells s ()), (2, Zc THost)] fun ac w β S => ?_
 refine (nt (ws (rg ?_)))
 refine S.qgm 7 [] [(9, .p 3 0)] (.cons (qt o5.rn m Tryz.underlying28) (.cons (qs o5.rn 53 m.toNat) .nil)) 4 [(3, GT.cells (el h.mons m.toNat) (ph.mons.2 m.toNat))] fun ac w β S => ?_
 refine (nt (ws (rg ?_)))
 have i19 : In64 (el (el h.mons m.toNat).outer page.toNat).page := (RSlot.page (d := (el (el h.mons m.toNat).outer page.toNat)) (LRd.el (RMon.outer (d := (el h.mons m.toNat)) (LRd.el o5.rn m.toNat (by omega))) page.toNat (by omega)))
 refine S.qg 7 [] [(10, .v (I (el (el h.mons m.toNat).outer page.toNat).page))] (.cons (qt (RMon.outer (d := (el h.mons m.toNat)) (LRd.el o5.rn m.toNat (by omega))) page Tryz.underlying47) (.cons (qc (RMon.outer (d := (el h.mons m.toNat)) (LRd.el o5.rn m.toNat (by omega))) 3 page.toNat 0 (I (el (el h.mons m.toNat).outer page.toNat).page)) .nil)) fun ac w β S => ?_
 refine (nt (ws (ws (rg ?_))))
 refine S.qe 1 [] [(11, .v (I 0))] fun ac w β S => ?_
 refine (nt (wp_block ?_))
 refine wp_loop_down (fun mm ac w => ∃ (k : Nat) (X : List TMon) (q20 : _) (F21 : _) (u : _) (N : _) (β : _), mm = (el h.mons m.toNat).guests.length - k ∧ (k ≤ (el h.mons m.toNat).guests.length) ∧ (X = h.mons.set m.toNat { el h.mons m.toNat with tables := f_tabs (el h.mons m.toNat).tables (el h.mons m.toNat).guests page k }) ∧ St Tryz.prog Tryz.f29.ntmps w0 F u N β ⟨[(1, .v (I m)), (2, .v (I page)), (4, .p 0 0), (7, .p 1 0), (8, .p 2 0), (9, .p 3 0), (10, .v (I (el (el h.mons m.toNat).outer page.toNat).page)), (11, .v (I (k : Int)))], [[slv h.mem.length ph.mem.1, slv X.length q20.1, slv h.buf.length ph.buf.1, slv h.iobuf.length ph.iobuf.1], GT.cells s (), Zc THost, GT.cells (el X m.toNat) (q20.2 m.toNat)]⟩ ac w ∧ Ow w0 F u N F21 X q20 ∧ Ow w0 F u N F1 h.mem ph.mem ∧ Ow w0 F u N F7 h.buf ph.buf ∧ Ow w0 F u N F10 h.iobuf ph.iobuf ∧ Disj F21 F1 ∧ Disj F21 F7 ∧ Disj F21 F10) _ ⟨0, h.mons, ph.mons, F4, _, _, _, rfl, o0, (by exact set_self.symm), S.z, o5, o2, o8, o11, (Disj.symm d13), d16, d17⟩ ?_
 clear S o11 o2 o5 o8
 rintro mm ac w ⟨k, X, q20, F21, u, N, β, rfl, hk, hX, S, o22, o2, o8, o11, d23, d24, d25⟩
 obtain ⟨hl, he⟩ := setm_tables hX (show m.toNat < h.mons.length by omega) (tabs_len _ _ _ _)
 refine ws (ws (rg ?_))
 have b26 : (el X m.toNat).tables.length ≤ 4194304 := LRd.le (RMon.tables (d := (el X m.toNat)) (LRd.el o22.rn m.toNat (by omega)))
 refine S.qe 5 [] [(27, .v (B (decide ((k : Int) < ((el X m.toNat).tables.length : Int)))))] fun ac w β S => ?_
 refine (nt (S.c (decide ((k : Int) < ((el X m.toNat).tables.length : Int))) (fun h27 => ?_) (fun h27 => ?_)))
 ·have g28 := of_decide_eq_true h27
  refine wk (nt (ws (wp_block ?_)))
  refine S.draw0 (f := 18) 17 rfl rfl fun w S => ?_
  refine S.hq 0 [0] [] [(30, .p 3 7)] .nil fun ac S => ?_
  refine S.hq 1 [1] [] [(31, .v (slv (el X m.toNat).tables.length (q20.2 m.toNat).tables.1))] .nil fun ac S => ?_
  refine S.hq 2 [2] [] [(32, .v (I (k : Int)))] .nil fun ac S => ?_
  refine S.hq 3 [3] [] [(33, .p 3 7)] .nil fun ac S => ?_
  refine S.hq 4 [4] [] [(34, .v (slv (el X m.toNat).tables.length (q20.2 m.toNat).tables.1))] .nil fun ac S => ?_
  refine S.hq 5 [5] [] [(35, .v (I (k : Int)))] .nil fun ac S => ?_
  refine S.hq 6 [6] [] [(36, .v (pt (q20.2 m.toNat).tables.1.b ((q20.2 m.toNat).tables.1.off + k * 2)))] (.cons (qn (RMon.tables (d := (el X m.toNat)) (LRd.el o22.rn m.toNat (by omega))) k Tryz.underlying51) .nil) fun ac S => ?_
  refine S.hq 7 [7] [] [(37, .v (GT.val (el (el X m.toNat).tables k) ((q20.2 m.toNat).tables.2 k)))] (.cons (qs (RMon.tables (d := (el X m.toNat)) (LRd.el o22.rn m.toNat (by omega))) 91 k) .nil) fun ac S => ?_
  refine S.hq 8 [8] [] [(38, .p 3 3)] .nil fun ac S => ?_
  refine S.hq 9 [9] [] [(39, .v (slv (el X m.toNat).guests.length (q20.2 m.toNat).guests.1))] .nil fun ac S => ?_
  refine S.hq 10 [10] [] [(40, .v (I (k : Int)))] .nil fun ac S => ?_
  refine S.hq 11 [11] [] [(41, .v (pt (q20.2 m.toNat).guests.1.b ((q20.2 m.toNat).guests.1.off + k * 15)))] (.cons (qn (RMon.guests (d := (el X m.toNat)) (LRd.el o22.rn m.toNat (by omega))) k Tryz.underlying49) .nil) fun ac S => ?_
  refine S.hq 12 [12] [] [(42, .v (pt (q20.2 m.toNat).guests.1.b ((q20.2 m.toNat).guests.1.off + k * 15 + 4)))] .nil fun ac S => ?_
  refine S.hq 13 [13] [] [(43, .v (slv (el (el X m.toNat).guests k).live.length ((q20.2 m.toNat).guests.2 k).live.1))] (.cons (qc (RMon.guests (d := (el X m.toNat)) (LRd.el o22.rn m.toNat (by omega))) 47 k 4 (slv (el (el X m.toNat).guests k).live.length ((q20.2 m.toNat).guests.2 k).live.1)) .nil) fun ac S => ?_
  refine S.hq 14 [14] [] [(44, .v (I page))] .nil fun ac S => ?_
  refine WD.one (i := 15) (by kernel_rfl) ?_
  refine id (S.k1 45 (c_spec_ForgetUses w (el (el X m.toNat).tables k) ((q20.2 m.toNat).tables.2 k) (S.rd (LRd.el (RMon.tables (d := (el X m.toNat)) (LRd.el o22.rn m.toNat (by omega))) k (by omega))) (el (el X m.toNat).guests k).live ((q20.2 m.toNat).guests.2 k).live (S.rd (RGuest.live (d := (el (el X m.toNat).guests k)) (LRd.el (RMon.guests (d := (el X m.toNat)) (LRd.el o22.rn m.toNat (by omega))) k (by omega)))) page) fun ac w N q29 F30 S up o31 d32 => ?_)
  refine WD.next S up (by kernel_rfl) ?_
  have d33 := Disj.w d32 o22.sub
  have d34 := Disj.w d32 o2.sub
  have d35 := Disj.w d32 o8.sub
  have d36 := Disj.w d32 o11.sub
  replace o22 := o22.up up
  replace o2 := o2.up up
  replace o8 := o8.up up
  replace o11 := o11.up up
  clear up d32
  obtain ⟨F37, F40, o38, o41, s39, s42, d43⟩ := sp_Kept o31
  refine S.hq 16 [16] [] [(45, .v (GT.val (f_forgetUses (el (el X m.toNat).tables k) (el (el X m.toNat).guests k).live page) q29)), (46, .v (pt (q20.2 m.toNat).tables.1.b ((q20.2 m.toNat).tables.1.off + k * 2)))] (.cons (qn (RMon.tables (d := (el X m.toNat)) (LRd.el o22.rn m.toNat (by omega))) k Tryz.underlying51) .nil) fun ac S => ?_
  refine WD.one (i := 17) (by kernel_rfl) ?_
  obtain ⟨F44, o45, s46, b47⟩ := foc2_Mon_tables o22 (k := m.toNat) (show m.toNat < X.length by omega)
  have l48 := LRd.le o45.rn
  have n49 := o45.sub
  have o54 := ow_Kept (x := (f_forgetUses (el (el X m.toNat).tables k) (el (el X m.toNat).guests k).live page)) (p := q29) o38 o41 d43 
  refine id (S.sV (α := TKept) o45 (t := 91) (k := k) (off := (q20.2 m.toNat).tables.1.off + k * 2) o54 (Disj.symm (Disj.or (Disj.symm (Disj.part (Disj.symm (Disj.part (Disj.symm d33) s39)) s46)) (Disj.or (Disj.symm (Disj.part (Disj.symm (Disj.part (Disj.symm d33) s42)) s46)) Disj.nob))) fun w N F51 q52 S up o50 d53 s55 n56 => ?_)
  refine WD.last (by kernel_rfl) ?_
  have d57 := d53 _ (Disj.symm (Disj.part d23 s46)) (Disj.symm (Disj.or (Disj.part (Disj.symm d34) s39) (Disj.or (Disj.part (Disj.symm d34) s42) Disj.nob))) o2.sub
  have d58 := d53 _ (Disj.symm (Disj.part d24 s46)) (Disj.symm (Disj.or (Disj.part (Disj.symm d35) s39) (Disj.or (Disj.part (Disj.symm d35) s42) Disj.nob))) o8.sub
  have d59 := d53 _ (Disj.symm (Disj.part d25 s46)) (Disj.symm (Disj.or (Disj.part (Disj.symm d36) s39) (Disj.or (Disj.part (Disj.symm d36) s42) Disj.nob))) o11.sub
  replace o2 := o2.upF (Disj.symm (Disj.part d23 s46)) up
  replace o8 := o8.upF (Disj.symm (Disj.part d24 s46)) up
  replace o11 := o11.upF (Disj.symm (Disj.part d25 s46)) up
  clear d53 o45
  obtain ⟨p60, o61, c62⟩ := b47 _ _ _ _ _ (uniB [F37, F40]) up o50 s55 (Disj.symm (Disj.or (Disj.part (Disj.symm d33) s39) (Disj.or (Disj.part (Disj.symm d33) s42) Disj.nob))) (by show [slv _ _] = [slv _ _]; rw [List.length_set]) (fun b h => n56 b (n49 b h))
  clear up o50 n56
  have l63 : (X.set m.toNat ({ el X m.toNat with tables := ((el X m.toNat).tables.set k (f_forgetUses (el (el X m.toNat).tables k) (el (el X m.toNat).guests k).live page)) })).length = X.length := List.length_set
  obtain ⟨X64, hX65⟩ : ∃ z, z = X.set m.toNat ({ el X m.toNat with tables := ((el X m.toNat).tables.set k (f_forgetUses (el (el X m.toNat).tables k) (el (el X m.toNat).guests k).live page)) }) := ⟨_, rfl⟩
  rw [← hX65] at o61 c62 l63
  obtain ⟨l66, e67⟩ := setm_tables hX65 (show m.toNat < X.length by omega) List.length_set
  replace S := S.z (σ' := ⟨[(1, .v (I m)), (2, .v (I page)), (4, .p 0 0), (7, .p 1 0), (8, .p 2 0), (9, .p 3 0), (10, .v (I (el (el h.mons m.toNat).outer page.toNat).page)), (11, .v (I (k : Int))), (45, .v (GT.val (f_forgetUses (el (el X m.toNat).tables k) (el (el X m.toNat).guests k).live page) q29)), (46, .v (pt (q20.2 m.toNat).tables.1.b ((q20.2 m.toNat).tables.1.off + k * 2)))], [[slv h.mem.length ph.mem.1, slv X.length q20.1, slv h.buf.length ph.buf.1, slv h.iobuf.length ph.iobuf.1], GT.cells s (), Zc THost, GT.cells (el X m.toNat) (q20.2 m.toNat)]⟩)
  replace S := S.cast (σ' := ⟨[(1, .v (I m)), (2, .v (I page)), (4, .p 0 0), (7, .p 1 0), (8, .p 2 0), (9, .p 3 0), (10, .v (I (el (el h.mons m.toNat).outer page.toNat).page)), (11, .v (I (k : Int))), (45, .v (GT.val (f_forgetUses (el (el X m.toNat).tables k) (el (el X m.toNat).guests k).live page) q29)), (46, .v (pt (q20.2 m.toNat).tables.1.b ((q20.2 m.toNat).tables.1.off + k * 2)))], [[slv h.mem.length ph.mem.1, slv X64.length q20.1, slv h.buf.length ph.buf.1, slv h.iobuf.length ph.iobuf.1], GT.cells s (), Zc THost, GT.cells (el X m.toNat) (q20.2 m.toNat)]⟩) (by rw [show X64.length = X.length by omega])
  replace S := S.z (σ' := ⟨[(1, .v (I m)), (2, .v (I page)), (4, .p 0 0), (7, .p 1 0), (8, .p 2 0), (9, .p 3 0), (10, .v (I (el (el h.mons m.toNat).outer page.toNat).page)), (11, .v (I (k : Int))), (45, .v (GT.val (f_forgetUses (el (el X m.toNat).tables k) (el (el X m.toNat).guests k).live page) q29)), (46, .v (pt (q20.2 m.toNat).tables.1.b ((q20.2 m.toNat).tables.1.off + k * 2)))], [[slv h.mem.length ph.mem.1, slv X64.length q20.1, slv h.buf.length ph.buf.1, slv h.iobuf.length ph.iobuf.1], GT.cells s (), Zc THost, GT.cells (el X m.toNat) (q20.2 m.toNat)]⟩)
  have v68 : GT.cells (el X64 m.toNat) ((q20.1, p60).2 m.toNat) = GT.cells (el X m.toNat) (q20.2 m.toNat) := c62 m.toNat
  replace S := S.cast (σ' := ⟨[(1, .v (I m)), (2, .v (I page)), (4, .p 0 0), (7, .p 1 0), (8, .p 2 0), (9, .p 3 0), (10, .v (I (el (el h.mons m.toNat).outer page.toNat).page)), (11, .v (I (k : Int))), (45, .v (GT.val (f_forgetUses (el (el X m.toNat).tables k) (el (el X m.toNat).guests k).live page) q29)), (46, .v (pt (q20.2 m.toNat).tables.1.b ((q20.2 m.toNat).tables.1.off + k * 2)))], [[slv h.mem.length ph.mem.1, slv X64.length q20.1, slv h.buf.length ph.buf.1, slv h.iobuf.length ph.iobuf.1], GT.cells s (), Zc THost, GT.cells (el X64 m.toNat) ((q20.1, p60).2 m.toNat)]⟩) (by rw [v68])
  refine WD.done (by kernel_rfl) ?_ _
  refine id (nb (nt (rg ?_)))
  refine S.qg 3 [] [(11, .v (I ((k : Int) + 1)))] (.cons (qp (k : Int) 1) .nil) fun ac w β S => ?_
  refine (nt ?_)
  refine ⟨(el h.mons m.toNat).guests.length - (k + 1), by omega, k + 1, X64, (q20.1, p60), (Or F21 F51), _, _, _, rfl, ?_, ?_, S.z, o61, o2, o8, o11, (Disj.symm (Disj.symm (Disj.or d23 (Disj.symm d57)))), (Disj.symm (Disj.symm (Disj.or d24 (Disj.symm d58)))), (Disj.symm (Disj.symm (Disj.or d25 (Disj.symm d59))))⟩
  ·exact oz
  ·clear S; (subst_vars; rw [List.set_set]; simp only [el_set_self (show m.toNat < h.mons.length by omega), f_tabs, tabs_el _ _ _ (Nat.le_refl _)])
 have g69 := of_decide_eq_false h27
 refine wp_exit (ex_then (ex_then (ex_hit (nt (ws (ws (rg ?_)))))))
 refine S.qe 2 [] [(48, .v (B ((el (el h.mons m.toNat).outer page.toNat).page != (-1))))] fun ac w β S => ?_
 refine (nt (S.c ((el (el h.mons m.toNat).outer page.toNat).page != (-1)) (fun h70 => ?_) (fun h70 => ?_)))
 ·have g71 : ¬ ((el (el h.mons m.toNat).outer page.toNat).page = (-1)) := bne_iff_ne.1 h70
  refine ws (rg ?_)
  refine S.qa 3 [] [(50, .v (slv h.buf.length ph.buf.1)), (51, .v (I (el (el h.mons m.toNat).outer page.toNat).page))] fun ac w β S => ?_
  refine RG.op rfl (S.k1 52 (c_spec_FlushHost w h.buf ph.buf (S.rd o8.rn) (el (el h.mons m.toNat).outer page.toNat).page i19) fun ac w N q72 F73 S up o74 d75 => ?_)
  have d76 := Disj.w d75 o22.sub
  have d77 := Disj.w d75 o2.sub
  have d78 := Disj.w d75 o8.sub
  have d79 := Disj.w d75 o11.sub
  replace o22 := o22.up up
  replace o2 := o2.up up
  replace o8 := o8.up up
  replace o11 := o11.up up
  clear up d75
  refine S.qem 2 [] [] 4 [(0, [slv h.mem.length ph.mem.1, slv X.length q20.1, slv (f_flushHost h.buf (el (el h.mons m.toNat).outer page.toNat).page).length q72.1, slv h.iobuf.length ph.iobuf.1])] fun ac w β S => ?_
  refine (nt (rg ?_))
  refine S.qa 3 [] [(55, .v (slv h.iobuf.length ph.iobuf.1)), (56, .v (I (el (el h.mons m.toNat).outer page.toNat).page))] fun ac w β S => ?_
  refine RG.op rfl (S.k1 57 (c_spec_FlushHost w h.iobuf ph.iobuf (S.rd o11.rn) (el (el h.mons m.toNat).outer page.toNat).page i19) fun ac w N q80 F81 S up o82 d83 => ?_)
  have d84 := Disj.w d83 o22.sub
  have d85 := Disj.w d83 o2.sub
  have d86 := Disj.w d83 o11.sub
  have d87 := Disj.w d83 o74.sub
  replace o22 := o22.up up
  replace o2 := o2.up up
  replace o11 := o11.up up
  replace o74 := o74.up up
  clear up d83
  refine S.qem 2 [] [] 4 [(0, [slv h.mem.length ph.mem.1, slv X.length q20.1, slv (f_flushHost h.buf (el (el h.mons m.toNat).outer page.toNat).page).length q72.1, slv (f_flushHost h.iobuf (el (el h.mons m.toNat).outer page.toNat).page).length q80.1])] fun ac w β S => ?_
  refine (nt (ws (rg ?_)))
  refine S.qb 5 [] [(62, .v (GT.val s ())), (63, .v (pt (q20.2 m.toNat).outer.1.b ((q20.2 m.toNat).outer.1.off + page.toNat * 2)))] (.cons (qt (RMon.outer (d := (el X m.toNat)) (LRd.el o22.rn m.toNat (by omega))) page Tryz.underlying47) .nil) fun ac w β S => ?_
  obtain ⟨F88, o89, s90, b91⟩ := foc2_Mon_outer o22 (k := m.toNat) (show m.toNat < X.length by omega)
  have l92 := LRd.le o89.rn
  have n93 := o89.sub
  have e94 : RSlot (el (el X m.toNat).outer page.toNat) := (LRd.el o89.rn page.toNat (by omega))
  refine RG.op rfl (S.sF (α := TSlot) o89 (t := 55) (k := page.toNat) (j := 0) (off := (q20.2 m.toNat).outer.1.off + page.toNat * 2) (v := GT.val s ()) (y := s) (q := ()) (fun _ _ _ => ⟨NoB, hs, fun _ h => False.elim h⟩) fun w N F96 q97 S up o95 d98 s99 n100 => ?_)
  have d101 := d98 _ (Disj.symm (Disj.part d23 s90)) (fun b _ h => False.elim h) o2.sub
  have d102 := d98 _ (Disj.symm (Disj.part d76 s90)) (fun b _ h => False.elim h) o74.sub
  have d103 := d98 _ (Disj.symm (Disj.part d84 s90)) (fun b _ h => False.elim h) o82.sub
  replace o2 := o2.upF (Disj.symm (Disj.part d23 s90)) up
  replace o74 := o74.upF (Disj.symm (Disj.part d76 s90)) up
  replace o82 := o82.upF (Disj.symm (Disj.part d84 s90)) up
  clear d98 o89
  obtain ⟨p104, o105, c106⟩ := b91 _ _ _ _ _ NoB up o95 s99 (fun b _ h => False.elim h) (by show [slv _ _] = [slv _ _]; rw [List.length_set]) (fun b h => n100 b (n93 b h))
  clear up o95 n100
  have l107 : (X.set m.toNat ({ el X m.toNat with outer := ((el X m.toNat).outer.set page.toNat s) })).length = X.length := List.length_set
  obtain ⟨X108, hX109⟩ : ∃ z, z = X.set m.toNat ({ el X m.toNat with outer := ((el X m.toNat).outer.set page.toNat s) }) := ⟨_, rfl⟩
  rw [← hX109] at o105 c106 l107
  obtain ⟨l110, e111⟩ := setm_outer hX109 (show m.toNat < X.length by omega) List.length_set
  replace S := S.z (σ' := ⟨[(1, .v (I m)), (4, .p 0 0), (8, .p 2 0), (9, .p 3 0), (62, .v (GT.val s ())), (63, .v (pt (q20.2 m.toNat).outer.1.b ((q20.2 m.toNat).outer.1.off + page.toNat * 2)))], [[slv h.mem.length ph.mem.1, slv X.length q20.1, slv (f_flushHost h.buf (el (el h.mons m.toNat).outer page.toNat).page).length q72.1, slv (f_flushHost h.iobuf (el (el h.mons m.toNat).outer page.toNat).page).length q80.1], GT.cells s (), Zc THost, GT.cells (el X m.toNat) (q20.2 m.toNat)]⟩)
  replace S := S.cast (σ' := ⟨[(1, .v (I m)), (4, .p 0 0), (8, .p 2 0), (9, .p 3 0), (62, .v (GT.val s ())), (63, .v (pt (q20.2 m.toNat).outer.1.b ((q20.2 m.toNat).outer.1.off + page.toNat * 2)))], [[slv h.mem.length ph.mem.1, slv X108.length q20.1, slv (f_flushHost h.buf (el (el h.mons m.toNat).outer page.toNat).page).length q72.1, slv (f_flushHost h.iobuf (el (el h.mons m.toNat).outer page.toNat).page).length q80.1], GT.cells s (), Zc THost, GT.cells (el X m.toNat) (q20.2 m.toNat)]⟩) (by rw [show X108.length = X.length by omega])
  replace S := S.z (σ' := ⟨[(1, .v (I m)), (4, .p 0 0), (8, .p 2 0), (9, .p 3 0), (62, .v (GT.val s ())), (63, .v (pt (q20.2 m.toNat).outer.1.b ((q20.2 m.toNat).outer.1.off + page.toNat * 2)))], [[slv h.mem.length ph.mem.1, slv X108.length q20.1, slv (f_flushHost h.buf (el (el h.mons m.toNat).outer page.toNat).page).length q72.1, slv (f_flushHost h.iobuf (el (el h.mons m.toNat).outer page.toNat).page).length q80.1], GT.cells s (), Zc THost, GT.cells (el X m.toNat) (q20.2 m.toNat)]⟩)
  have v112 : GT.cells (el X108 m.toNat) ((q20.1, p104).2 m.toNat) = GT.cells (el X m.toNat) (q20.2 m.toNat) := c106 m.toNat
  replace S := S.cast (σ' := ⟨[(1, .v (I m)), (4, .p 0 0), (8, .p 2 0), (9, .p 3 0), (62, .v (GT.val s ())), (63, .v (pt (q20.2 m.toNat).outer.1.b ((q20.2 m.toNat).outer.1.off + page.toNat * 2)))], [[slv h.mem.length ph.mem.1, slv X108.length q20.1, slv (f_flushHost h.buf (el (el h.mons m.toNat).outer page.toNat).page).length q72.1, slv (f_flushHost h.iobuf (el (el h.mons m.toNat).outer page.toNat).page).length q80.1], GT.cells s (), Zc THost, GT.cells (el X108 m.toNat) ((q20.1, p104).2 m.toNat)]⟩) (by rw [v112])
  refine rd (nt (ws (rg ?_)))
  refine S.qbm 5 [] [(67, .v (GT.val (el X108 m.toNat) ((q20.1, p104).2 m.toNat))), (68, .v (pt q20.1.b (q20.1.off + m.toNat * 9)))] (.cons (qt o105.rn m Tryz.underlying28) .nil) 3 [] fun ac w β S => ?_
  refine RG.op rfl (S.sF (α := TMon) o105 (t := 53) (k := m.toNat) (j := 0) (off := q20.1.off + m.toNat * 9) (v := GT.val (el X108 m.toNat) ((q20.1, p104).2 m.toNat)) (y := (el X108 m.toNat)) (q := ((q20.1, p104).2 m.toNat)) (fun G g_ _ => ⟨G, g_, fun _ h => .inl h⟩) fun w N F114 q115 S up o113 d116 s117 n118 => ?_)
  have d119 := d116 _ (Disj.symm (Disj.or d23 (Disj.symm d101))) (fun b _ h => False.elim h) o2.sub
  have d120 := d116 _ (Disj.symm (Disj.or d76 (Disj.symm d102))) (fun b _ h => False.elim h) o74.sub
  have d121 := d116 _ (Disj.symm (Disj.or d84 (Disj.symm d103))) (fun b _ h => False.elim h) o82.sub
  replace o2 := o2.upF (Disj.symm (Disj.or d23 (Disj.symm d101))) up
  replace o74 := o74.upF (Disj.symm (Disj.or d76 (Disj.symm d102))) up
  replace o82 := o82.upF (Disj.symm (Disj.or d84 (Disj.symm d103))) up
  clear up d116 o105 n118
  rw [set_self] at o113
  refine rd (nt (ws (rg ?_)))
  refine S.qem 2 [] [] 3 [(2, [slv h.mem.length ph.mem.1, slv X108.length q20.1, slv (f_flushHost h.buf (el (el h.mons m.toNat).outer page.toNat).page).length q72.1, slv (f_flushHost h.iobuf (el (el h.mons m.toNat).outer page.toNat).page).length q80.1])] fun ac w β S => ?_
  refine (nt (wr (S.r [GT.val (⟨h.mem, X108, (f_flushHost h.buf (el (el h.mons m.toNat).outer page.toNat).page), (f_flushHost h.iobuf (el (el h.mons m.toNat).outer page.toNat).page)⟩ : THost) (⟨ph.mem, (q20.1, q115), q72, q80⟩ : PHost)] ?_)))
  have o122 := ow_Host (x := (⟨h.mem, X108, (f_flushHost h.buf (el (el h.mons m.toNat).outer page.toNat).page), (f_flushHost h.iobuf (el (el h.mons m.toNat).outer page.toNat).page)⟩ : THost)) (p := (⟨ph.mem, (q20.1, q115), q72, q80⟩ : PHost)) o2 o113 o74 o82 d119 d77 d85 (Disj.symm d120) (Disj.symm d121) d87 
  exact retT_of S (show f_slotTo h m page s = (⟨h.mem, X108, (f_flushHost h.buf (el (el h.mons m.toNat).outer page.toNat).page), (f_flushHost h.iobuf (el (el h.mons m.toNat).outer page.toNat).page)⟩ : THost) from k0_spec_l22Slot) rfl o122
 have g123 : (el (el h.mons m.toNat).outer page.toNat).page = (-1) := ne_f h70
 refine wk (nt (ws (rg ?_)))
 refine S.qb 5 [] [(62, .v (GT.val s ())), (63, .v (pt (q20.2 m.toNat).outer.1.b ((q20.2 m.toNat).outer.1.off + page.toNat * 2)))] (.cons (qt (RMon.outer (d := (el X m.toNat)) (LRd.el o22.rn m.toNat (by omega))) page Tryz.underlying47) .nil) fun ac w β S => ?_
 obtain ⟨F124, o125, s126, b127⟩ := foc2_Mon_outer o22 (k := m.toNat) (show m.toNat < X.length by omega)
 have l128 := LRd.le o125.rn
 have n129 := o125.sub
 have e130 : RSlot (el (el X m.toNat).outer page.toNat) := (LRd.el o125.rn page.toNat (by omega))
 refine RG.op rfl (S.sF (α := TSlot) o125 (t := 55) (k := page.toNat) (j := 0) (off := (q20.2 m.toNat).outer.1.off + page.toNat * 2) (v := GT.val s ()) (y := s) (q := ()) (fun _ _ _ => ⟨NoB, hs, fun _ h => False.elim h⟩) fun w N F132 q133 S up o131 d134 s135 n136 => ?_)
 have d137 := d134 _ (Disj.symm (Disj.part d23 s126)) (fun b _ h => False.elim h) o2.sub
 have d138 := d134 _ (Disj.symm (Disj.part d24 s126)) (fun b _ h => False.elim h) o8.sub
 have d139 := d134 _ (Disj.symm (Disj.part d25 s126)) (fun b _ h => False.elim h) o11.sub
 replace o2 := o2.upF (Disj.symm (Disj.part d23 s126)) up
 replace o8 := o8.upF (Disj.symm (Disj.part d24 s126)) up
 replace o11 := o11.upF (Disj.symm (Disj.part d25 s126)) up
 clear d134 o125
 obtain ⟨p140, o141, c142⟩ := b127 _ _ _ _ _ NoB up o131 s135 (fun b _ h => False.elim h) (by show [slv _ _] = [slv _ _]; rw [List.length_set]) (fun b h => n136 b (n129 b h))
 clear up o131 n136
 have l143 : (X.set m.toNat ({ el X m.toNat with outer := ((el X m.toNat).outer.set page.toNat s) })).length = X.length := List.length_set
 obtain ⟨X144, hX145⟩ : ∃ z, z = X.set m.toNat ({ el X m.toNat with outer := ((el X m.toNat).outer.set page.toNat s) }) := ⟨_, rfl⟩
 rw [← hX145] at o141 c142 l143
 obtain ⟨l146, e147⟩ := setm_outer hX145 (show m.toNat < X.length by omega) List.length_set
 replace S := S.z (σ' := ⟨[(1, .v (I m)), (4, .p 0 0), (8, .p 2 0), (9, .p 3 0), (62, .v (GT.val s ())), (63, .v (pt (q20.2 m.toNat).outer.1.b ((q20.2 m.toNat).outer.1.off + page.toNat * 2)))], [[slv h.mem.length ph.mem.1, slv X.length q20.1, slv h.buf.length ph.buf.1, slv h.iobuf.length ph.iobuf.1], GT.cells s (), Zc THost, GT.cells (el X m.toNat) (q20.2 m.toNat)]⟩)
 replace S := S.cast (σ' := ⟨[(1, .v (I m)), (4, .p 0 0), (8, .p 2 0), (9, .p 3 0), (62, .v (GT.val s ())), (63, .v (pt (q20.2 m.toNat).outer.1.b ((q20.2 m.toNat).outer.1.off + page.toNat * 2)))], [[slv h.mem.length ph.mem.1, slv X144.length q20.1, slv h.buf.length ph.buf.1, slv h.iobuf.length ph.iobuf.1], GT.cells s (), Zc THost, GT.cells (el X m.toNat) (q20.2 m.toNat)]⟩) (by rw [show X144.length = X.length by omega])
 replace S := S.z (σ' := ⟨[(1, .v (I m)), (4, .p 0 0), (8, .p 2 0), (9, .p 3 0), (62, .v (GT.val s ())), (63, .v (pt (q20.2 m.toNat).outer.1.b ((q20.2 m.toNat).outer.1.off + page.toNat * 2)))], [[slv h.mem.length ph.mem.1, slv X144.length q20.1, slv h.buf.length ph.buf.1, slv h.iobuf.length ph.iobuf.1], GT.cells s (), Zc THost, GT.cells (el X m.toNat) (q20.2 m.toNat)]⟩)
 have v148 : GT.cells (el X144 m.toNat) ((q20.1, p140).2 m.toNat) = GT.cells (el X m.toNat) (q20.2 m.toNat) := c142 m.toNat
 replace S := S.cast (σ' := ⟨[(1, .v (I m)), (4, .p 0 0), (8, .p 2 0), (9, .p 3 0), (62, .v (GT.val s ())), (63, .v (pt (q20.2 m.toNat).outer.1.b ((q20.2 m.toNat).outer.1.off + page.toNat * 2)))], [[slv h.mem.length ph.mem.1, slv X144.length q20.1, slv h.buf.length ph.buf.1, slv h.iobuf.length ph.iobuf.1], GT.cells s (), Zc THost, GT.cells (el X144 m.toNat) ((q20.1, p140).2 m.toNat)]⟩) (by rw [v148])
 refine rd (nt (ws (rg ?_)))
 refine S.qbm 5 [] [(67, .v (GT.val (el X144 m.toNat) ((q20.1, p140).2 m.toNat))), (68, .v (pt q20.1.b (q20.1.off + m.toNat * 9)))] (.cons (qt o141.rn m Tryz.underlying28) .nil) 3 [] fun ac w β S => ?_
 refine RG.op rfl (S.sF (α := TMon) o141 (t := 53) (k := m.toNat) (j := 0) (off := q20.1.off + m.toNat * 9) (v := GT.val (el X144 m.toNat) ((q20.1, p140).2 m.toNat)) (y := (el X144 m.toNat)) (q := ((q20.1, p140).2 m.toNat)) (fun G g_ _ => ⟨G, g_, fun _ h => .inl h⟩) fun w N F150 q151 S up o149 d152 s153 n154 => ?_)
 have d155 := d152 _ (Disj.symm (Disj.or d23 (Disj.symm d137))) (fun b _ h => False.elim h) o2.sub
 have d156 := d152 _ (Disj.symm (Disj.or d24 (Disj.symm d138))) (fun b _ h => False.elim h) o8.sub
 have d157 := d152 _ (Disj.symm (Disj.or d25 (Disj.symm d139))) (fun b _ h => False.elim h) o11.sub
 replace o2 := o2.upF (Disj.symm (Disj.or d23 (Disj.symm d137))) up
 replace o8 := o8.upF (Disj.symm (Disj.or d24 (Disj.symm d138))) up
 replace o11 := o11.upF (Disj.symm (Disj.or d25 (Disj.symm d139))) up
 clear up d152 o141 n154
 rw [set_self] at o149
 refine rd (nt (ws (rg ?_)))
 refine S.qem 2 [] [] 3 [(2, [slv h.mem.length ph.mem.1, slv X144.length q20.1, slv h.buf.length ph.buf.1, slv h.iobuf.length ph.iobuf.1])] fun ac w β S => ?_
 refine (nt (wr (S.r [GT.val (⟨h.mem, X144, h.buf, h.iobuf⟩ : THost) (⟨ph.mem, (q20.1, q151), ph.buf, ph.iobuf⟩ : PHost)] ?_)))
 have o158 := ow_Host (x := (⟨h.mem, X144, h.buf, h.iobuf⟩ : THost)) (p := (⟨ph.mem, (q20.1, q151), ph.buf, ph.iobuf⟩ : PHost)) o2 o149 o8 o11 d155 d14 d15 (Disj.symm d156) (Disj.symm d157) d18 
 exact retT_of S (show f_slotTo h m page s = (⟨h.mem, X144, h.buf, h.iobuf⟩ : THost) from k0_spec_l22Slot) rfl o158

theorem c_spec_l22Out (w0 : World) (h : THost) (ph : PHost) (F : Bl) (hh : GT.own KK F w0 h ph) (hF : ∀ b, F b → b < w0.heap.size) (m : Int) (page : Int) (pre0 : (0 ≤ m ∧ m < h.mons.length) ∧ (el h.mons m.toNat).tables.length = (el h.mons m.toNat).guests.length ∧ (0 ≤ page ∧ page ≤ 7) ∧ (el h.mons m.toNat).outer.length = 8 ∧ (el h.mons m.toNat).out.length = 8) : Calls Tryz.prog 45 [GT.val h ph, I m, I page].toArray w0 (RetT F F w0 (f_send h m page : THost)) := by
 refine Calls.walk F Tryz.func45 rfl rfl ?_
 intro ac β S
 have oh : Ow w0 F w0 (Lt w0.heap.size) F h ph := ⟨hh, hF, fun b hb => .inr hb⟩
 obtain ⟨F1, F4, F7, F10, o2, o5, o8, o11, s3, s6, s9, s12, d13, d14, d15, d16, d17, d18⟩ := sp_Host oh
 refine ws (rg ?_)
 refine S.qem 2 [] [(3, .p 0 0), (6, .p 1 0)] 2 [(0, [slv h.mem.length ph.mem.1, slv h.mons.length ph.mons.1, slv h.buf.length ph.buf.1, slv h.iobuf.length ph.iobuf.1]), (1, Zc THost)] fun ac w β S => ?_
 refine (nt (ws ?_))
 refine S.draw0 (f := 22) 21 rfl rfl fun w S => ?_
 refine S.hq 0 [0] [] [(7, .p 0 1)] .nil fun ac S => ?_
 refine S.hq 1 [1] [] [(8, .v (slv h.mons.length ph.mons.1))] .nil fun ac S => ?_
 refine S.hq 2 [2] [] [(9, .v (I m))] .nil fun ac S => ?_
 refine S.hq 3 [3] [] [(10, .v (pt ph.mons.1.b (ph.mons.1.off + m.toNat * 9)))] (.cons (qt o5.rn m Tryz.underlying28) .nil) fun ac S => ?_
 refine S.hq 4 [4] [] [(11, .v (pt ph.mons.1.b (ph.mons.1.off + m.toNat * 9 + 1)))] .nil fun ac S => ?_
 refine S.hq 5 [5] [] [(12, .v (slv (el h.mons m.toNat).out.length (ph.mons.2 m.toNat).out.1))] (.cons (qc o5.rn 22 m.toNat 1 (slv (el h.mons m.toNat).out.length (ph.mons.2 m.toNat).out.1)) .nil) fun ac S => ?_
 refine S.hq 6 [6] [] [(13, .v (I page))] .nil fun ac S => ?_
 refine S.hq 7 [7] [] [(14, .p 0 0)] .nil fun ac S => ?_
 refine S.hq 8 [8] [] [(15, .v (slv h.mem.length ph.mem.1))] .nil fun ac S => ?_
 refine S.hq 9 [9] [] [(16, .p 0 1)] .nil fun ac S => ?_
 refine S.hq 10 [10] [] [(17, .v (slv h.mons.length ph.mons.1))] .nil fun ac S => ?_
 refine S.hq 11 [11] [] [(18, .v (I m))] .nil fun ac S => ?_
 refine S.hq 12 [12] [] [(19, .v (pt ph.mons.1.b (ph.mons.1.off + m.toNat * 9)))] (.cons (qt o5.rn m Tryz.underlying28) .nil) fun ac S => ?_
 refine S.hq 13 [13] [] [(20, .v (pt ph.mons.1.b (ph.mons.1.off + m.toNat * 9)))] .nil fun ac S => ?_
 refine S.hq 14 [14] [] [(21, .v (slv (el h.mons m.toNat).outer.length (ph.mons.2 m.toNat).outer.1))] (.cons (qc o5.rn 47 m.toNat 0 (slv (el h.mons m.toNat).outer.length (ph.mons.2 m.toNat).outer.1)) .nil) fun ac S => ?_
 refine S.hq 15 [15] [] [(22, .v (I page))] .nil fun ac S => ?_
 refine S.hq 16 [16] [] [(23, .v (pt (ph.mons.2 m.toNat).outer.1.b ((ph.mons.2 m.toNat).outer.1.off + page.toNat * 2)))] (.cons (qt (RMon.outer (d := (el h.mons m.toNat)) (LRd.el o5.rn m.toNat (by omega))) page Tryz.underlying47) .nil) fun ac S => ?_
 refine S.hq 17 [17] [] [(24, .v (pt (ph.mons.2 m.toNat).outer.1.b ((ph.mons.2 m.toNat).outer.1.off + page.toNat * 2)))] .nil fun ac S => ?_
 have i19 : In64 (el (el h.mons m.toNat).outer page.toNat).page := (RSlot.page (d := (el (el h.mons m.toNat).outer page.toNat)) (LRd.el (RMon.outer (d := (el h.mons m.toNat)) (LRd.el o5.rn m.toNat (by omega))) page.toNat (by omega)))
 refine S.hq 18 [18] [] [(25, .v (I (el (el h.mons m.toNat).outer page.toNat).page))] (.cons (qc (RMon.outer (d := (el h.mons m.toNat)) (LRd.el o5.rn m.toNat (by omega))) 3 page.toNat 0 (I (el (el h.mons m.toNat).outer page.toNat).page)) .nil) fun ac S => ?_
 refine WD.one (i := 19) (by kernel_rfl) ?_
 refine id (S.k1 26 (c_spec_PageAt w h.mem ph.mem (S.rd o2.rn) (el (el h.mons m.toNat).outer page.toNat).page) fun ac w N q20 F21 S up o22 d23 => ?_)
 refine WD.next S up (by kernel_rfl) ?_
 have d24 := Disj.w d23 o2.sub
 have d25 := Disj.w d23 o5.sub
 have d26 := Disj.w d23 o8.sub
 have d27 := Disj.w d23 o11.sub
 replace o2 := o2.up up
 replace o5 := o5.up up
 replace o8 := o8.up up
 replace o11 := o11.up up
 clear up d23
 refine S.hq 20 [20] [] [(26, .v (slv (f_pageAt h.mem (el (el h.mons m.toNat).outer page.toNat).page).length q20.1)), (27, .v (pt (ph.mons.2 m.toNat).out.1.b ((ph.mons.2 m.toNat).out.1.off + page.toNat * 1)))] (.cons (qt (RMon.out (d := (el h.mons m.toNat)) (LRd.el o5.rn m.toNat (by omega))) page Tryz.underlying22) .nil) fun ac S => ?_
 refine WD.one (i := 21) (by kernel_rfl) ?_
 obtain ⟨F28, o29, s30, b31⟩ := foc2_Mon_out o5 (k := m.toNat) (show m.toNat < h.mons.length by omega)
 have l32 := LRd.le o29.rn
 have n33 := o29.sub
 refine id (S.sV (α := List Int) o29 (t := 50) (k := page.toNat) (off := (ph.mons.2 m.toNat).out.1.off + page.toNat * 1) o22 (Disj.symm (Disj.symm (Disj.part d25 s30))) fun w N F35 q36 S up o34 d37 s38 n39 => ?_)
 refine WD.last (by kernel_rfl) ?_
 have d40 := d37 _ (Disj.symm (Disj.part (Disj.symm d13) s30)) d24 o2.sub
 have d41 := d37 _ (Disj.symm (Disj.part d16 s30)) d26 o8.sub
 have d42 := d37 _ (Disj.symm (Disj.part d17 s30)) d27 o11.sub
 replace o2 := o2.upF (Disj.symm (Disj.part (Disj.symm d13) s30)) up
 replace o8 := o8.upF (Disj.symm (Disj.part d16 s30)) up
 replace o11 := o11.upF (Disj.symm (Disj.part d17 s30)) up
 clear d37 o29
 obtain ⟨p43, o44, c45⟩ := b31 _ _ _ _ _ F21 up o34 s38 d25 (by show [slv _ _] = [slv _ _]; rw [List.length_set]) (fun b h => n39 b (n33 b h))
 clear up o34 n39
 have l46 : (h.mons.set m.toNat ({ el h.mons m.toNat with out := ((el h.mons m.toNat).out.set page.toNat (f_pageAt h.mem (el (el h.mons m.toNat).outer page.toNat).page)) })).length = h.mons.length := List.length_set
 obtain ⟨X47, hX48⟩ : ∃ z, z = h.mons.set m.toNat ({ el h.mons m.toNat with out := ((el h.mons m.toNat).out.set page.toNat (f_pageAt h.mem (el (el h.mons m.toNat).outer page.toNat).page)) }) := ⟨_, rfl⟩
 rw [← hX48] at o44 c45 l46
 obtain ⟨l49, e50⟩ := setm_out hX48 (show m.toNat < h.mons.length by omega) List.length_set
 replace S := S.z (σ' := ⟨[(1, .v (I m)), (2, .v (I page)), (3, .p 0 0), (6, .p 1 0), (26, .v (slv (f_pageAt h.mem (el (el h.mons m.toNat).outer page.toNat).page).length q20.1)), (27, .v (pt (ph.mons.2 m.toNat).out.1.b ((ph.mons.2 m.toNat).out.1.off + page.toNat * 1)))], [[slv h.mem.length ph.mem.1, slv h.mons.length ph.mons.1, slv h.buf.length ph.buf.1, slv h.iobuf.length ph.iobuf.1], Zc THost]⟩)
 replace S := S.cast (σ' := ⟨[(1, .v (I m)), (2, .v (I page)), (3, .p 0 0), (6, .p 1 0), (26, .v (slv (f_pageAt h.mem (el (el h.mons m.toNat).outer page.toNat).page).length q20.1)), (27, .v (pt (ph.mons.2 m.toNat).out.1.b ((ph.mons.2 m.toNat).out.1.off + page.toNat * 1)))], [[slv h.mem.length ph.mem.1, slv X47.length ph.mons.1, slv h.buf.length ph.buf.1, slv h.iobuf.length ph.iobuf.1], Zc THost]⟩) (by rw [show X47.length = h.mons.length by omega])
 refine WD.done (by kernel_rfl) ?_ _
 refine id (nt (ws ?_))
 refine S.draw0 (f := 6) 4 rfl rfl fun w S => ?_
 refine S.hq 0 [0] [] [(28, .v (GT.val (⟨h.mem, X47, h.buf, h.iobuf⟩ : THost) (⟨ph.mem, (ph.mons.1, p43), ph.buf, ph.iobuf⟩ : PHost)))] .nil fun ac S => ?_
 refine S.hq 1 [1] [] [(29, .v (I m))] .nil fun ac S => ?_
 refine S.hq 2 [2] [] [(30, .v (I page))] .nil fun ac S => ?_
 refine WD.one (i := 3) (by kernel_rfl) ?_
 refine S.stepq (i := 3) (keep := [6, 28, 29, 30, 31]) (m := 2) (σ' := ⟨[(6, .p 1 0), (28, .v (GT.val (⟨h.mem, X47, h.buf, h.iobuf⟩ : THost) (⟨ph.mem, (ph.mons.1, p43), ph.buf, ph.iobuf⟩ : PHost))), (29, .v (I m)), (30, .v (I page)), (31, .v (GT.val (⟨-1, 0⟩ : TSlot) ()))], [[slv h.mem.length ph.mem.1, slv X47.length ph.mons.1, slv h.buf.length ph.buf.1, slv h.iobuf.length ph.iobuf.1], Zc THost]⟩) (.cons (Q_call fun w hw => c_spec_NoSlot w ) .nil) (by kernel_rfl) fun ac w β S hβ => ?_
 refine WD.stayq S hβ ?_
 clear hβ
 refine WD.one (i := 4) (by kernel_rfl) ?_
 have o51 := ow_Host (x := (⟨h.mem, X47, h.buf, h.iobuf⟩ : THost)) (p := (⟨ph.mem, (ph.mons.1, p43), ph.buf, ph.iobuf⟩ : PHost)) o2 o44 o8 o11 (Disj.symm (Disj.or (Disj.symm d13) (Disj.symm d40))) d14 d15 (Disj.symm (Disj.symm (Disj.or d16 (Disj.symm d41)))) (Disj.symm (Disj.symm (Disj.or d17 (Disj.symm d42)))) d18 
 obtain ⟨Y1, hT1⟩ : ∃ z, z = (f_slotTo (⟨h.mem, X47, h.buf, h.iobuf⟩ : THost) m page (⟨-1, 0⟩ : TSlot)) := ⟨_, rfl⟩
 refine id (S.callTY (d := 32) o51 hT1 (c_spec_l22Slot w (⟨h.mem, X47, h.buf, h.iobuf⟩ : THost) (⟨ph.mem, (ph.mons.1, p43), ph.buf, ph.iobuf⟩ : PHost) (uniB [F1, (Or F4 F35), F7, F10]) (S.ownw o51) (fun b hb => (S.sep b (o51.sub b hb)).1) m page (⟨-1, 0⟩ : TSlot) (show RSlot ⟨-1, 0⟩ from ⟨⟨by decide, by decide⟩, ⟨by decide, by decide⟩⟩) (by (first | omega | (dsimp only; omega)))) fun ac w N q52 F53 S up o54 d55 => ?_)
 refine WD.last (by kernel_rfl) ?_
 clear up d55 o51
 obtain ⟨F56, F59, F62, F65, o57, o60, o63, o66, s58, s61, s64, s67, d68, d69, d70, d71, d72, d73⟩ := sp_Host o54
 refine WD.one (i := 5) (by kernel_rfl) ?_
 refine S.stepq (i := 5) (keep := [6]) (m := 2) (σ' := ⟨[(6, .p 1 0)], [[slv h.mem.length ph.mem.1, slv X47.length ph.mons.1, slv h.buf.length ph.buf.1, slv h.iobuf.length ph.iobuf.1], [slv Y1.mem.length q52.mem.1, slv Y1.mons.length q52.mons.1, slv Y1.buf.length q52.buf.1, slv Y1.iobuf.length q52.iobuf.1]]⟩) .nil (by kernel_rfl) fun ac w β S hβ => ?_
 refine WD.last (by kernel_rfl) ?_
 clear hβ
 refine WD.done (by kernel_rfl) ?_ _
 refine id (nt (wr (S.r [GT.val Y1 q52] ?_)))
 have o74 := ow_Host (x := Y1) (p := q52) o57 o60 o63 o66 d68 d69 d70 d71 d72 d73 
 exact retT_of S (show f_send h m page = Y1 by clear S; subst hT1; (first | (subst_vars; rfl) | (subst_vars; simp [f_send, f_setM, f_slotTo, f_inval, el_set_self, *]; done))) rfl o74

theorem k0_spec_WithPage {p : Prop} (h : p := by clear S; (unfold f_withPage; (repeat' split) <;> first | rfl | (simp; done) | (exfalso; omega) | (exfalso; simp_all; done) | (exfalso; simp_all; omega))) : p := h
theorem c_spec_WithPage (w0 : World) (m : List (List Int)) (pm : LP (List Int)) (hm : RD w0 m pm) (page : Int) (cells : List Int) (pcells : LP Int) (hcells : RD w0 cells pcells) : Calls Tryz.prog 92 [slv m.length pm.1, I page, slv cells.length pcells.1].toArray w0 (Ret1 NoB w0 (f_withPage m page cells : List (List Int))) := by
 refine Calls.walk NoB Tryz.func92 rfl rfl ?_
 intro ac β S
 have hlem : m.length ≤ 4194304 := LRd.le hm
 have hlecells : cells.length ≤ 4194304 := LRd.le hcells
 refine ws (rg ?_)
 refine S.qe 1 [] [] fun ac w β S => ?_
 refine (nt (ws (rg ?_)))
 refine S.qa 1 [] [(8, .v (slv m.length pm.1))] fun ac w β S => ?_
 refine RG.op rfl (S.k1 9 (c_spec_l04Copy w m pm (S.rd (S.arg hm))) fun ac w N q1 F2 S up o3 d4 => ?_)
 clear up d4
 refine S.qe 1 [] [(7, .v (slv m.length q1.1))] fun ac w β S => ?_
 refine (nt (ws (ws (rg ?_))))
 refine S.qb 6 [] [(15, .v (B (f_within page 0 ((m.length : Int) - 1))))] (.cons (qm (m.length : Int) 1) (.cons (Q_call fun w hw => c_spec_l01In w page 0 ((m.length : Int) - 1)) .nil)) fun ac w β S => ?_
 rcases Bool.eq_false_or_eq_true (f_within page 0 ((m.length : Int) - 1)) with h5 | h5 <;> rw [h5] at S
 ·have g6 := within_t h5
  refine S.qg 3 [15] [(18, .v (B (f_pageOk cells)))] (.cons (Q_call fun w hw => c_spec_PageOk w cells pcells (rd_of (S.arg hcells) hw)) .nil) fun ac w β S => ?_
  refine (nt (S.c (f_pageOk cells) (fun h7 => ?_) (fun h7 => ?_)))
  ·refine rg ?_
   refine S.qa 2 [] [(19, .v (slv m.length q1.1)), (20, .v (I page))] fun ac w β S => ?_
   refine RG.op rfl (S.bs0 (α := Int) (d := 21) (by kernel_rfl) fun ac w N q8 F9 S up o10 d11 => ?_)
   have d12 := Disj.w d11 o3.sub
   replace o3 := o3.up up
   clear up d11
   refine S.qa 1 [] [(21, .v (slv 0 q8.1)), (22, .v (slv cells.length pcells.1))] fun ac w β S => ?_
   have b17 : cells.length ≤ 4194304 := LRd.le (S.arg hcells)
   refine RG.op rfl (S.appFlat0 (α := Int) o10 (S.arg hcells) (fun _ _ h => h) (by' := 8) (d := 23) (lx := 0) (ly := cells.length) rfl fun ac w N q13 F14 S up o15 d16 => ?_)
   have d18 := d16 _ d12 o3.sub
   replace o3 := o3.upF d12 up
   clear up d16
   refine S.qb 1 [] [(23, .v (slv cells.length q13.1)), (24, .v (pt q1.1.b (q1.1.off + page.toNat * 1)))] (.cons (qt o3.rn page Tryz.underlying22) .nil) fun ac w β S => ?_
   refine RG.op rfl (S.sV (α := List Int) o3 (t := 50) (k := page.toNat) (off := q1.1.off + page.toNat * 1) o15 d18 fun w N F20 q21 S up o19 d22 s23 n24 => ?_)
   clear up d22 o3 n24
   have l25 : (m.set page.toNat cells).length = m.length := List.length_set
   refine rd (nt (ws (rg ?_)))
   refine S.qe 2 [] [(6, .v (slv m.length q1.1))] fun ac w β S => ?_
   exact (nt (wr (S.r [slv m.length q1.1] (ret1_of S (show f_withPage m page cells = (m.set page.toNat cells) from k0_spec_WithPage) (by rw [show m.length = (m.set page.toNat cells).length from (by rw [List.length_set])]; rfl) o19))))
  refine wk (nt (ws (rg ?_)))
  refine S.qe 2 [] [(6, .v (slv m.length q1.1))] fun ac w β S => ?_
  exact (nt (wr (S.r [slv m.length q1.1] (ret1_of S (show f_withPage m page cells = m from k0_spec_WithPage) rfl o3))))
 ·have g26 := within_f h5
  refine S.qe 3 [15] [(18, .v (B false))] fun ac w β S => ?_
  refine (nt (S.c false (fun hx => by cases hx) (fun _ => ?_)))
  refine wk (nt (ws (rg ?_)))
  refine S.qe 2 [] [(6, .v (slv m.length q1.1))] fun ac w β S => ?_
  exact (nt (wr (S.r [slv m.length q1.1] (ret1_of S (show f_withPage m page cells = m from k0_spec_WithPage) rfl o3))))

theorem c_spec_l22In (w0 : World) (h : THost) (ph : PHost) (F : Bl) (hh : GT.own KK F w0 h ph) (hF : ∀ b, F b → b < w0.heap.size) (m : Int) (page : Int) (pre0 : f_hasPage h m page = true) : Calls Tryz.prog 47 [GT.val h ph, I m, I page].toArray w0 (RetT F F w0 (f_fetch h m page : THost)) := by
 refine Calls.walk F Tryz.func47 rfl rfl ?_
 intro ac β S
 have oh : Ow w0 F w0 (Lt w0.heap.size) F h ph := ⟨hh, hF, fun b hb => .inr hb⟩
 obtain ⟨F1, F4, F7, F10, o2, o5, o8, o11, s3, s6, s9, s12, d13, d14, d15, d16, d17, d18⟩ := sp_Host oh
 have hp := hasPage_t (h := h) (m := m) (page := page) (by assumption)
 refine ws (rg ?_)
 refine S.qem 2 [] [(3, .p 0 0), (6, .p 1 0)] 2 [(0, [slv h.mem.length ph.mem.1, slv h.mons.length ph.mons.1, slv h.buf.length ph.buf.1, slv h.iobuf.length ph.iobuf.1]), (1, Zc THost)] fun ac w β S => ?_
 refine (nt (ws (ws (rg ?_))))
 refine S.qa 1 [] [(10, .v (GT.val h ph))] fun ac w β S => ?_
 refine RG.op rfl (S.k1 11 (c_spec_FreeIn w h ph (S.rd (show GT.rd KK _ _ h ph from ⟨o2.rn, o5.rn, o8.rn, o11.rn⟩))) fun ac w N q19 F20 S up o21 d22 => ?_)
 have d23 := Disj.w d22 o2.sub
 have d24 := Disj.w d22 o5.sub
 have d25 := Disj.w d22 o8.sub
 have d26 := Disj.w d22 o11.sub
 replace o2 := o2.up up
 replace o5 := o5.up up
 replace o8 := o8.up up
 replace o11 := o11.up up
 clear up d22
 refine S.qe 2 [] [(13, .v (B (((f_freeIn h).length : Int) == 0)))] fun ac w β S => ?_
 refine (nt (S.c (((f_freeIn h).length : Int) == 0) (fun h27 => ?_) (fun h27 => ?_)))
 ·have g28 : ((f_freeIn h).length : Int) = 0 := eq_of_beq h27
  refine ws (rg ?_)
  refine S.qg 7 [] [(7, .v (I (f_ownerOfPage h 0).1)), (8, .v (I (f_ownerOfPage h 0).2))] (.cons (Q_call fun w hw => c_spec_OwnerOfPage w h ph (rd_of (show GT.rd KK _ _ h ph from ⟨o2.rn, o5.rn, o8.rn, o11.rn⟩) hw) 0) .nil) fun ac w β S => ?_
  refine (nt (rg ?_))
  refine S.qa 3 [] [(19, .v (GT.val h ph)), (20, .v (I (f_ownerOfPage h 0).1)), (21, .v (I (f_ownerOfPage h 0).2))] fun ac w β S => ?_
  have o29 := ow_Host (x := h) (p := ph) o2 o5 o8 o11 d13 d14 d15 d16 d17 d18 
  obtain ⟨Y1, hT1⟩ : ∃ z, z = (f_send h (f_ownerOfPage h 0).1 (f_ownerOfPage h 0).2) := ⟨_, rfl⟩
  have l34 := sendFirst_bd (h := h) hT1 (hasPage_ok (by assumption)) (by omega) m.toNat
  refine RG.op rfl (S.callTY (d := 22) o29 hT1 (c_spec_l22Out w h ph (uniB [F1, F4, F7, F10]) (S.ownw o29) (fun b hb => (S.sep b (o29.sub b hb)).1) (f_ownerOfPage h 0).1 (f_ownerOfPage h 0).2 (by (first | omega | (dsimp only; omega) | ((have hsp := sendFirst_pre (hasPage_ok (by assumption)) (show ¬ 0 < (f_freeIn h).length by omega)); omega)))) fun ac w N q30 F31 S up o32 d33 => ?_)
  clear up d33 o29
  obtain ⟨F35, F38, F41, F44, o36, o39, o42, o45, s37, s40, s43, s46, d47, d48, d49, d50, d51, d52⟩ := sp_Host o32
  refine S.qem 1 [] [] 2 [(0, [slv Y1.mem.length q30.mem.1, slv Y1.mons.length q30.mons.1, slv Y1.buf.length q30.buf.1, slv Y1.iobuf.length q30.iobuf.1])] fun ac w β S => ?_
  refine (nt (ws (rg ?_)))
  refine S.qa 1 [] [(23, .v (GT.val Y1 q30))] fun ac w β S => ?_
  refine RG.op rfl (S.k1 24 (c_spec_FreeIn w Y1 q30 (S.rd (show GT.rd KK _ _ Y1 q30 from ⟨o36.rn, o39.rn, o42.rn, o45.rn⟩))) fun ac w N q53 F54 S up o55 d56 => ?_)
  have d57 := Disj.w d56 o36.sub
  have d58 := Disj.w d56 o39.sub
  have d59 := Disj.w d56 o42.sub
  have d60 := Disj.w d56 o45.sub
  replace o36 := o36.up up
  replace o39 := o39.up up
  replace o42 := o42.up up
  replace o45 := o45.up up
  clear up d56
  have i61 : In64 (el (f_freeIn Y1) 0) := (LRd.el o55.rn 0 (by omega))
  refine S.qg 3 [] [(9, .v (I (el (f_freeIn Y1) 0)))] (.cons (qn o55.rn 0 Tryz.underlying50) (.cons (qx o55.rn 3 0) .nil)) fun ac w β S => ?_
  refine (nt (ws ?_))
  refine S.draw0 (f := 15) 14 rfl rfl fun w S => ?_
  refine S.hq 0 [0] [] [(27, .p 0 0)] .nil fun ac S => ?_
  refine S.hq 1 [1] [] [(28, .v (slv Y1.mem.length q30.mem.1))] .nil fun ac S => ?_
  refine S.hq 2 [2] [] [(29, .v (I (el (f_freeIn Y1) 0)))] .nil fun ac S => ?_
  refine S.hq 3 [3] [] [(30, .p 0 1)] .nil fun ac S => ?_
  refine S.hq 4 [4] [] [(31, .v (slv Y1.mons.length q30.mons.1))] .nil fun ac S => ?_
  refine S.hq 5 [5] [] [(32, .v (I m))] .nil fun ac S => ?_
  refine S.hq 6 [6] [] [(33, .v (pt q30.mons.1.b (q30.mons.1.off + m.toNat * 9)))] (.cons (qt o39.rn m Tryz.underlying28) .nil) fun ac S => ?_
  refine S.hq 7 [7] [] [(34, .v (pt q30.mons.1.b (q30.mons.1.off + m.toNat * 9 + 1)))] .nil fun ac S => ?_
  refine S.hq 8 [8] [] [(35, .v (slv (el Y1.mons m.toNat).out.length (q30.mons.2 m.toNat).out.1))] (.cons (qc o39.rn 22 m.toNat 1 (slv (el Y1.mons m.toNat).out.length (q30.mons.2 m.toNat).out.1)) .nil) fun ac S => ?_
  refine S.hq 9 [9] [] [(36, .v (I page))] .nil fun ac S => ?_
  refine S.hq 10 [10] [] [(37, .v (pt (q30.mons.2 m.toNat).out.1.b ((q30.mons.2 m.toNat).out.1.off + page.toNat * 1)))] (.cons (qt (RMon.out (d := (el Y1.mons m.toNat)) (LRd.el o39.rn m.toNat (by omega))) page Tryz.underlying22) .nil) fun ac S => ?_
  refine S.hq 11 [11] [] [(38, .v (slv (el (el Y1.mons m.toNat).out page.toNat).length ((q30.mons.2 m.toNat).out.2 page.toNat).1))] (.cons (qx (RMon.out (d := (el Y1.mons m.toNat)) (LRd.el o39.rn m.toNat (by omega))) 50 page.toNat) .nil) fun ac S => ?_
  refine WD.one (i := 12) (by kernel_rfl) ?_
  refine id (S.k1 39 (c_spec_WithPage w Y1.mem q30.mem (S.rd o36.rn) (el (f_freeIn Y1) 0) (el (el Y1.mons m.toNat).out page.toNat) ((q30.mons.2 m.toNat).out.2 page.toNat) (S.rd (LRd.el (RMon.out (d := (el Y1.mons m.toNat)) (LRd.el o39.rn m.toNat (by omega))) page.toNat (by omega)))) fun ac w N q62 F63 S up o64 d65 => ?_)
  refine WD.next S up (by kernel_rfl) ?_
  have d66 := Disj.w d65 o36.sub
  have d67 := Disj.w d65 o39.sub
  have d68 := Disj.w d65 o42.sub
  have d69 := Disj.w d65 o45.sub
  replace o36 := o36.up up
  replace o39 := o39.up up
  replace o42 := o42.up up
  replace o45 := o45.up up
  clear up d65
  refine S.hq 13 [13] [] [(39, .v (slv (f_withPage Y1.mem (el (f_freeIn Y1) 0) (el (el Y1.mons m.toNat).out page.toNat)).length q62.1)), (40, .p 0 0)] .nil fun ac S => ?_
  refine WD.one (i := 14) (by kernel_rfl) ?_
  refine S.stepq (i := 14) (keep := [1, 2, 3, 6, 9]) (m := 2) (σ' := ⟨[(1, .v (I m)), (2, .v (I page)), (3, .p 0 0), (6, .p 1 0), (9, .v (I (el (f_freeIn Y1) 0)))], [[slv (f_withPage Y1.mem (el (f_freeIn Y1) 0) (el (el Y1.mons m.toNat).out page.toNat)).length q62.1, slv Y1.mons.length q30.mons.1, slv Y1.buf.length q30.buf.1, slv Y1.iobuf.length q30.iobuf.1], Zc THost]⟩) .nil (by kernel_rfl) fun ac w β S hβ => ?_
  refine WD.last (by kernel_rfl) ?_
  clear hβ
  refine WD.done (by kernel_rfl) ?_ _
  refine id (nt (ws (rg ?_)))
  refine S.qb 7 [] [(46, .v (slv (el Y1.mons m.toNat).out.length (q30.mons.2 m.toNat).out.1)), (47, .v (I page))] (.cons (qt o39.rn m Tryz.underlying28) (.cons (qc o39.rn 22 m.toNat 1 (slv (el Y1.mons m.toNat).out.length (q30.mons.2 m.toNat).out.1)) .nil)) fun ac w β S => ?_
  refine RG.op rfl (S.bs0 (α := Int) (d := 48) (by kernel_rfl) fun ac w N q70 F71 S up o72 d73 => ?_)
  have d74 := Disj.w d73 o39.sub
  have d75 := Disj.w d73 o42.sub
  have d76 := Disj.w d73 o45.sub
  have d77 := Disj.w d73 o64.sub
  replace o39 := o39.up up
  replace o42 := o42.up up
  replace o45 := o45.up up
  replace o64 := o64.up up
  clear up d73
  refine S.qb 1 [] [(48, .v (slv 0 q70.1)), (49, .v (pt (q30.mons.2 m.toNat).out.1.b ((q30.mons.2 m.toNat).out.1.off + page.toNat * 1)))] (.cons (qt (RMon.out (d := (el Y1.mons m.toNat)) (LRd.el o39.rn m.toNat (by omega))) page Tryz.underlying22) .nil) fun ac w β S => ?_
  obtain ⟨F78, o79, s80, b81⟩ := foc2_Mon_out o39 (k := m.toNat) (show m.toNat < Y1.mons.length by omega)
  have l82 := LRd.le o79.rn
  have n83 := o79.sub
  refine RG.op rfl (S.sV (α := List Int) o79 (t := 50) (k := page.toNat) (off := (q30.mons.2 m.toNat).out.1.off + page.toNat * 1) o72 (Disj.symm (Disj.symm (Disj.part d74 s80))) fun w N F85 q86 S up o84 d87 s88 n89 => ?_)
  have d90 := d87 _ (Disj.symm (Disj.part d50 s80)) d75 o42.sub
  have d91 := d87 _ (Disj.symm (Disj.part d51 s80)) d76 o45.sub
  have d92 := d87 _ (Disj.symm (Disj.part d67 s80)) d77 o64.sub
  replace o42 := o42.upF (Disj.symm (Disj.part d50 s80)) up
  replace o45 := o45.upF (Disj.symm (Disj.part d51 s80)) up
  replace o64 := o64.upF (Disj.symm (Disj.part d67 s80)) up
  clear d87 o79
  obtain ⟨p93, o94, c95⟩ := b81 _ _ _ _ _ F71 up o84 s88 d74 (by show [slv _ _] = [slv _ _]; rw [List.length_set]) (fun b h => n89 b (n83 b h))
  clear up o84 n89
  have l96 : (Y1.mons.set m.toNat ({ el Y1.mons m.toNat with out := ((el Y1.mons m.toNat).out.set page.toNat ([] : List Int)) })).length = Y1.mons.length := List.length_set
  obtain ⟨X97, hX98⟩ : ∃ z, z = Y1.mons.set m.toNat ({ el Y1.mons m.toNat with out := ((el Y1.mons m.toNat).out.set page.toNat ([] : List Int)) }) := ⟨_, rfl⟩
  rw [← hX98] at o94 c95 l96
  obtain ⟨l99, e100⟩ := setm_out hX98 (show m.toNat < Y1.mons.length by omega) List.length_set
  replace S := S.z (σ' := ⟨[(1, .v (I m)), (2, .v (I page)), (3, .p 0 0), (6, .p 1 0), (9, .v (I (el (f_freeIn Y1) 0))), (48, .v (slv 0 q70.1)), (49, .v (pt (q30.mons.2 m.toNat).out.1.b ((q30.mons.2 m.toNat).out.1.off + page.toNat * 1)))], [[slv (f_withPage Y1.mem (el (f_freeIn Y1) 0) (el (el Y1.mons m.toNat).out page.toNat)).length q62.1, slv Y1.mons.length q30.mons.1, slv Y1.buf.length q30.buf.1, slv Y1.iobuf.length q30.iobuf.1], Zc THost]⟩)
  replace S := S.cast (σ' := ⟨[(1, .v (I m)), (2, .v (I page)), (3, .p 0 0), (6, .p 1 0), (9, .v (I (el (f_freeIn Y1) 0))), (48, .v (slv 0 q70.1)), (49, .v (pt (q30.mons.2 m.toNat).out.1.b ((q30.mons.2 m.toNat).out.1.off + page.toNat * 1)))], [[slv (f_withPage Y1.mem (el (f_freeIn Y1) 0) (el (el Y1.mons m.toNat).out page.toNat)).length q62.1, slv X97.length q30.mons.1, slv Y1.buf.length q30.buf.1, slv Y1.iobuf.length q30.iobuf.1], Zc THost]⟩) (by rw [show X97.length = Y1.mons.length by omega])
  refine rd (nt (ws (rg ?_)))
  refine S.qb 5 [] [(50, .v (GT.val (⟨(f_withPage Y1.mem (el (f_freeIn Y1) 0) (el (el Y1.mons m.toNat).out page.toNat)), X97, Y1.buf, Y1.iobuf⟩ : THost) (⟨q62, (q30.mons.1, p93), q30.buf, q30.iobuf⟩ : PHost))), (51, .v (I m)), (52, .v (I page)), (54, .v (GT.val (⟨(el (f_freeIn Y1) 0), 3⟩ : TSlot) ()))] (.cons (Q_sem (s := Instr.build 55 [(0, I (el (f_freeIn Y1) 0)), (1, I 3)].toArray) (v := .agg [I (el (f_freeIn Y1) 0), I 3].toArray) (fun w => by kernel_rfl)) .nil) fun ac w β S => ?_
  have o101 := ow_Host (x := (⟨(f_withPage Y1.mem (el (f_freeIn Y1) 0) (el (el Y1.mons m.toNat).out page.toNat)), X97, Y1.buf, Y1.iobuf⟩ : THost)) (p := (⟨q62, (q30.mons.1, p93), q30.buf, q30.iobuf⟩ : PHost)) o64 o94 o42 o45 (Disj.symm (Disj.or d67 (Disj.symm d92))) (Disj.symm d68) (Disj.symm d69) (Disj.symm (Disj.symm (Disj.or d50 (Disj.symm d90)))) (Disj.symm (Disj.symm (Disj.or d51 (Disj.symm d91)))) d52 
  obtain ⟨Y2, hT2⟩ : ∃ z, z = (f_slotTo (⟨(f_withPage Y1.mem (el (f_freeIn Y1) 0) (el (el Y1.mons m.toNat).out page.toNat)), X97, Y1.buf, Y1.iobuf⟩ : THost) m page (⟨(el (f_freeIn Y1) 0), 3⟩ : TSlot)) := ⟨_, rfl⟩
  refine RG.op rfl (S.callTY (d := 55) o101 hT2 (c_spec_l22Slot w (⟨(f_withPage Y1.mem (el (f_freeIn Y1) 0) (el (el Y1.mons m.toNat).out page.toNat)), X97, Y1.buf, Y1.iobuf⟩ : THost) (⟨q62, (q30.mons.1, p93), q30.buf, q30.iobuf⟩ : PHost) (uniB [F63, (Or F38 F85), F41, F44]) (S.ownw o101) (fun b hb => (S.sep b (o101.sub b hb)).1) m page (⟨(el (f_freeIn Y1) 0), 3⟩ : TSlot) (show RSlot (⟨(el (f_freeIn Y1) 0), 3⟩ : TSlot) from ⟨i61, (show In64 3 from ⟨by decide, by decide⟩)⟩) (by (first | omega | (dsimp only; omega)))) fun ac w N q102 F103 S up o104 d105 => ?_)
  clear up d105 o101
  obtain ⟨F106, F109, F112, F115, o107, o110, o113, o116, s108, s111, s114, s117, d118, d119, d120, d121, d122, d123⟩ := sp_Host o104
  refine S.qem 1 [] [] 2 [(1, [slv Y2.mem.length q102.mem.1, slv Y2.mons.length q102.mons.1, slv Y2.buf.length q102.buf.1, slv Y2.iobuf.length q102.iobuf.1])] fun ac w β S => ?_
  refine (nt (wr (S.r [GT.val Y2 q102] ?_)))
  have o124 := ow_Host (x := Y2) (p := q102) o107 o110 o113 o116 d118 d119 d120 d121 d122 d123 
  exact retT_of S (show f_fetch h m page = Y2 by clear S; subst hT2; subst hT1; ((first | rw [fetch_free _ _ (show 0 < (f_freeIn h).length by omega)] | rw [fetch_full _ _ (show ¬ 0 < (f_freeIn h).length by omega)]); first | (subst_vars; rfl) | (subst_vars; simp [f_putIn, f_sendFirst, f_setM, f_slotTo, f_inval, el_set_self, *]; done))) rfl o124
 have g125 : ¬ (((f_freeIn h).length : Int) = 0) := ne_of_beq_false h27
 refine wk (nt (ws (rg ?_)))
 refine S.qa 1 [] [(23, .v (GT.val h ph))] fun ac w β S => ?_
 refine RG.op rfl (S.k1 24 (c_spec_FreeIn w h ph (S.rd (show GT.rd KK _ _ h ph from ⟨o2.rn, o5.rn, o8.rn, o11.rn⟩))) fun ac w N q126 F127 S up o128 d129 => ?_)
 have d130 := Disj.w d129 o2.sub
 have d131 := Disj.w d129 o5.sub
 have d132 := Disj.w d129 o8.sub
 have d133 := Disj.w d129 o11.sub
 replace o2 := o2.up up
 replace o5 := o5.up up
 replace o8 := o8.up up
 replace o11 := o11.up up
 clear up d129
 have i134 : In64 (el (f_freeIn h) 0) := (LRd.el o128.rn 0 (by omega))
 refine S.qg 3 [] [(9, .v (I (el (f_freeIn h) 0)))] (.cons (qn o128.rn 0 Tryz.underlying50) (.cons (qx o128.rn 3 0) .nil)) fun ac w β S => ?_
 refine (nt (ws ?_))
 refine S.draw0 (f := 15) 14 rfl rfl fun w S => ?_
 refine S.hq 0 [0] [] [(27, .p 0 0)] .nil fun ac S => ?_
 refine S.hq 1 [1] [] [(28, .v (slv h.mem.length ph.mem.1))] .nil fun ac S => ?_
 refine S.hq 2 [2] [] [(29, .v (I (el (f_freeIn h) 0)))] .nil fun ac S => ?_
 refine S.hq 3 [3] [] [(30, .p 0 1)] .nil fun ac S => ?_
 refine S.hq 4 [4] [] [(31, .v (slv h.mons.length ph.mons.1))] .nil fun ac S => ?_
 refine S.hq 5 [5] [] [(32, .v (I m))] .nil fun ac S => ?_
 refine S.hq 6 [6] [] [(33, .v (pt ph.mons.1.b (ph.mons.1.off + m.toNat * 9)))] (.cons (qt o5.rn m Tryz.underlying28) .nil) fun ac S => ?_
 refine S.hq 7 [7] [] [(34, .v (pt ph.mons.1.b (ph.mons.1.off + m.toNat * 9 + 1)))] .nil fun ac S => ?_
 refine S.hq 8 [8] [] [(35, .v (slv (el h.mons m.toNat).out.length (ph.mons.2 m.toNat).out.1))] (.cons (qc o5.rn 22 m.toNat 1 (slv (el h.mons m.toNat).out.length (ph.mons.2 m.toNat).out.1)) .nil) fun ac S => ?_
 refine S.hq 9 [9] [] [(36, .v (I page))] .nil fun ac S => ?_
 refine S.hq 10 [10] [] [(37, .v (pt (ph.mons.2 m.toNat).out.1.b ((ph.mons.2 m.toNat).out.1.off + page.toNat * 1)))] (.cons (qt (RMon.out (d := (el h.mons m.toNat)) (LRd.el o5.rn m.toNat (by omega))) page Tryz.underlying22) .nil) fun ac S => ?_
 refine S.hq 11 [11] [] [(38, .v (slv (el (el h.mons m.toNat).out page.toNat).length ((ph.mons.2 m.toNat).out.2 page.toNat).1))] (.cons (qx (RMon.out (d := (el h.mons m.toNat)) (LRd.el o5.rn m.toNat (by omega))) 50 page.toNat) .nil) fun ac S => ?_
 refine WD.one (i := 12) (by kernel_rfl) ?_
 refine id (S.k1 39 (c_spec_WithPage w h.mem ph.mem (S.rd o2.rn) (el (f_freeIn h) 0) (el (el h.mons m.toNat).out page.toNat) ((ph.mons.2 m.toNat).out.2 page.toNat) (S.rd (LRd.el (RMon.out (d := (el h.mons m.toNat)) (LRd.el o5.rn m.toNat (by omega))) page.toNat (by omega)))) fun ac w N q135 F136 S up o137 d138 => ?_)
 refine WD.next S up (by kernel_rfl) ?_
 have d139 := Disj.w d138 o2.sub
 have d140 := Disj.w d138 o5.sub
 have d141 := Disj.w d138 o8.sub
 have d142 := Disj.w d138 o11.sub
 replace o2 := o2.up up
 replace o5 := o5.up up
 replace o8 := o8.up up
 replace o11 := o11.up up
 clear up d138
 refine S.hq 13 [13] [] [(39, .v (slv (f_withPage h.mem (el (f_freeIn h) 0) (el (el h.mons m.toNat).out page.toNat)).length q135.1)), (40, .p 0 0)] .nil fun ac S => ?_
 refine WD.one (i := 14) (by kernel_rfl) ?_
 refine S.stepq (i := 14) (keep := [1, 2, 3, 6, 9]) (m := 2) (σ' := ⟨[(1, .v (I m)), (2, .v (I page)), (3, .p 0 0), (6, .p 1 0), (9, .v (I (el (f_freeIn h) 0)))], [[slv (f_withPage h.mem (el (f_freeIn h) 0) (el (el h.mons m.toNat).out page.toNat)).length q135.1, slv h.mons.length ph.mons.1, slv h.buf.length ph.buf.1, slv h.iobuf.length ph.iobuf.1], Zc THost]⟩) .nil (by kernel_rfl) fun ac w β S hβ => ?_
 refine WD.last (by kernel_rfl) ?_
 clear hβ
 refine WD.done (by kernel_rfl) ?_ _
 refine id (nt (ws (rg ?_)))
 refine S.qb 7 [] [(46, .v (slv (el h.mons m.toNat).out.length (ph.mons.2 m.toNat).out.1)), (47, .v (I page))] (.cons (qt o5.rn m Tryz.underlying28) (.cons (qc o5.rn 22 m.toNat 1 (slv (el h.mons m.toNat).out.length (ph.mons.2 m.toNat).out.1)) .nil)) fun ac w β S => ?_
 refine RG.op rfl (S.bs0 (α := Int) (d := 48) (by kernel_rfl) fun ac w N q143 F144 S up o145 d146 => ?_)
 have d147 := Disj.w d146 o5.sub
 have d148 := Disj.w d146 o8.sub
 have d149 := Disj.w d146 o11.sub
 have d150 := Disj.w d146 o137.sub
 replace o5 := o5.up up
 replace o8 := o8.up up
 replace o11 := o11.up up
 replace o137 := o137.up up
 clear up d146
 refine S.qb 1 [] [(48, .v (slv 0 q143.1)), (49, .v (pt (ph.mons.2 m.toNat).out.1.b ((ph.mons.2 m.toNat).out.1.off + page.toNat * 1)))] (.cons (qt (RMon.out (d := (el h.mons m.toNat)) (LRd.el o5.rn m.toNat (by omega))) page Tryz.underlying22) .nil) fun ac w β S => ?_
 obtain ⟨F151, o152, s153, b154⟩ := foc2_Mon_out o5 (k := m.toNat) (show m.toNat < h.mons.length by omega)
 have l155 := LRd.le o152.rn
 have n156 := o152.sub
 refine RG.op rfl (S.sV (α := List Int) o152 (t := 50) (k := page.toNat) (off := (ph.mons.2 m.toNat).out.1.off + page.toNat * 1) o145 (Disj.symm (Disj.symm (Disj.part d147 s153))) fun w N F158 q159 S up o157 d160 s161 n162 => ?_)
 have d163 := d160 _ (Disj.symm (Disj.part d16 s153)) d148 o8.sub
 have d164 := d160 _ (Disj.symm (Disj.part d17 s153)) d149 o11.sub
 have d165 := d160 _ (Disj.symm (Disj.part d140 s153)) d150 o137.sub
 replace o8 := o8.upF (Disj.symm (Disj.part d16 s153)) up
 replace o11 := o11.upF (Disj.symm (Disj.part d17 s153)) up
 replace o137 := o137.upF (Disj.symm (Disj.part d140 s153)) up
 clear d160 o152
 obtain ⟨p166, o167, c168⟩ := b154 _ _ _ _ _ F144 up o157 s161 d147 (by show [slv _ _] = [slv _ _]; rw [List.length_set]) (fun b h => n162 b (n156 b h))
 clear up o157 n162
 have l169 : (h.mons.set m.toNat ({ el h.mons m.toNat with out := ((el h.mons m.toNat).out.set page.toNat ([] : List Int)) })).length = h.mons.length := List.length_set
 obtain ⟨X170, hX171⟩ : ∃ z, z = h.mons.set m.toNat ({ el h.mons m.toNat with out := ((el h.mons m.toNat).out.set page.toNat ([] : List Int)) }) := ⟨_, rfl⟩
 rw [← hX171] at o167 c168 l169
 obtain ⟨l172, e173⟩ := setm_out hX171 (show m.toNat < h.mons.length by omega) List.length_set
 replace S := S.z (σ' := ⟨[(1, .v (I m)), (2, .v (I page)), (3, .p 0 0), (6, .p 1 0), (9, .v (I (el (f_freeIn h) 0))), (48, .v (slv 0 q143.1)), (49, .v (pt (ph.mons.2 m.toNat).out.1.b ((ph.mons.2 m.toNat).out.1.off + page.toNat * 1)))], [[slv (f_withPage h.mem (el (f_freeIn h) 0) (el (el h.mons m.toNat).out page.toNat)).length q135.1, slv h.mons.length ph.mons.1, slv h.buf.length ph.buf.1, slv h.iobuf.length ph.iobuf.1], Zc THost]⟩)
 replace S := S.cast (σ' := ⟨[(1, .v (I m)), (2, .v (I page)), (3, .p 0 0), (6, .p 1 0), (9, .v (I (el (f_freeIn h) 0))), (48, .v (slv 0 q143.1)), (49, .v (pt (ph.mons.2 m.toNat).out.1.b ((ph.mons.2 m.toNat).out.1.off + page.toNat * 1)))], [[slv (f_withPage h.mem (el (f_freeIn h) 0) (el (el h.mons m.toNat).out page.toNat)).length q135.1, slv X170.length ph.mons.1, slv h.buf.length ph.buf.1, slv h.iobuf.length ph.iobuf.1], Zc THost]⟩) (by rw [show X170.length = h.mons.length by omega])
 refine rd (nt (ws (rg ?_)))
 refine S.qb 5 [] [(50, .v (GT.val (⟨(f_withPage h.mem (el (f_freeIn h) 0) (el (el h.mons m.toNat).out page.toNat)), X170, h.buf, h.iobuf⟩ : THost) (⟨q135, (ph.mons.1, p166), ph.buf, ph.iobuf⟩ : PHost))), (51, .v (I m)), (52, .v (I page)), (54, .v (GT.val (⟨(el (f_freeIn h) 0), 3⟩ : TSlot) ()))] (.cons (Q_sem (s := Instr.build 55 [(0, I (el (f_freeIn h) 0)), (1, I 3)].toArray) (v := .agg [I (el (f_freeIn h) 0), I 3].toArray) (fun w => by kernel_rfl)) .nil) fun ac w β S => ?_
 have o174 := ow_Host (x := (⟨(f_withPage h.mem (el (f_freeIn h) 0) (el (el h.mons m.toNat).out page.toNat)), X170, h.buf, h.iobuf⟩ : THost)) (p := (⟨q135, (ph.mons.1, p166), ph.buf, ph.iobuf⟩ : PHost)) o137 o167 o8 o11 (Disj.symm (Disj.or d140 (Disj.symm d165))) (Disj.symm d141) (Disj.symm d142) (Disj.symm (Disj.symm (Disj.or d16 (Disj.symm d163)))) (Disj.symm (Disj.symm (Disj.or d17 (Disj.symm d164)))) d18 
 obtain ⟨Y1, hT1⟩ : ∃ z, z = (f_slotTo (⟨(f_withPage h.mem (el (f_freeIn h) 0) (el (el h.mons m.toNat).out page.toNat)), X170, h.buf, h.iobuf⟩ : THost) m page (⟨(el (f_freeIn h) 0), 3⟩ : TSlot)) := ⟨_, rfl⟩
 refine RG.op rfl (S.callTY (d := 55) o174 hT1 (c_spec_l22Slot w (⟨(f_withPage h.mem (el (f_freeIn h) 0) (el (el h.mons m.toNat).out page.toNat)), X170, h.buf, h.iobuf⟩ : THost) (⟨q135, (ph.mons.1, p166), ph.buf, ph.iobuf⟩ : PHost) (uniB [F136, (Or F4 F158), F7, F10]) (S.ownw o174) (fun b hb => (S.sep b (o174.sub b hb)).1) m page (⟨(el (f_freeIn h) 0), 3⟩ : TSlot) (show RSlot (⟨(el (f_freeIn h) 0), 3⟩ : TSlot) from ⟨i134, (show In64 3 from ⟨by decide, by decide⟩)⟩) (by (first | omega | (dsimp only; omega)))) fun ac w N q175 F176 S up o177 d178 => ?_)
 clear up d178 o174
 obtain ⟨F179, F182, F185, F188, o180, o183, o186, o189, s181, s184, s187, s190, d191, d192, d193, d194, d195, d196⟩ := sp_Host o177
 refine S.qem 1 [] [] 2 [(1, [slv Y1.mem.length q175.mem.1, slv Y1.mons.length q175.mons.1, slv Y1.buf.length q175.buf.1, slv Y1.iobuf.length q175.iobuf.1])] fun ac w β S => ?_
 refine (nt (wr (S.r [GT.val Y1 q175] ?_)))
 have o197 := ow_Host (x := Y1) (p := q175) o180 o183 o186 o189 d191 d192 d193 d194 d195 d196 
 exact retT_of S (show f_fetch h m page = Y1 by clear S; subst hT1; ((first | rw [fetch_free _ _ (show 0 < (f_freeIn h).length by omega)] | rw [fetch_full _ _ (show ¬ 0 < (f_freeIn h).length by omega)]); first | (subst_vars; rfl) | (subst_vars; simp [f_putIn, f_sendFirst, f_setM, f_slotTo, f_inval, el_set_self, *]; done))) rfl o197

theorem k1_spec_l22Mend {p : Prop} (h : p := by clear S; subst hT1; (first | (rw [mend_n (by assumption) (mid_inS (by assumption) (of_decide_eq_false (by assumption))) (enough_n (by omega) (by assumption))]; done) | (rw [mend_w (by assumption) (mid_inS (by assumption) (of_decide_eq_false (by assumption))) (enough_y (by omega) (by assumption)) (by assumption) (enough_y (mid_rights (by assumption) (mid_inS (by assumption) (of_decide_eq_false (by assumption))) (by assumption)) (by assumption))]; done) | (rw [mend_s (by assumption) (mid_inS (by assumption) (of_decide_eq_false (by assumption))) (enough_y (by omega) (by assumption)) (by assumption) (enough_n (mid_rights (by assumption) (mid_inS (by assumption) (of_decide_eq_false (by assumption))) (by assumption)) (by assumption))]; done) | (rw [mend_n (by assumption) (mid_outS (of_decide_eq_true (by assumption))) (enough_n (by omega) (by assumption))]; done) | (rw [mend_w (by assumption) (mid_outS (of_decide_eq_true (by assumption))) (enough_y (by omega) (by assumption)) (by assumption) (enough_y (mid_rights (by assumption) (mid_outS (of_decide_eq_true (by assumption))) (by assumption)) (by assumption))]; done) | (rw [mend_s (by assumption) (mid_outS (of_decide_eq_true (by assumption))) (enough_y (by omega) (by assumption)) (by assumption) (enough_n (mid_rights (by assumption) (mid_outS (of_decide_eq_true (by assumption))) (by assumption)) (by assumption))]; done) | (rw [mend_n (by assumption) (mid_inS (by assumption) (by assumption)) (enough_n (by omega) (by assumption))]; done) | (rw [mend_w (by assumption) (mid_inS (by assumption) (by assumption)) (enough_y (by omega) (by assumption)) (by assumption) (enough_y (mid_rights (by assumption) (mid_inS (by assumption) (by assumption)) (by assumption)) (by assumption))]; done) | (rw [mend_s (by assumption) (mid_inS (by assumption) (by assumption)) (enough_y (by omega) (by assumption)) (by assumption) (enough_n (mid_rights (by assumption) (mid_inS (by assumption) (by assumption)) (by assumption)) (by assumption))]; done) | (rw [mend_n (by assumption) (mid_outS (by assumption)) (enough_n (by omega) (by assumption))]; done) | (rw [mend_w (by assumption) (mid_outS (by assumption)) (enough_y (by omega) (by assumption)) (by assumption) (enough_y (mid_rights (by assumption) (mid_outS (by assumption)) (by assumption)) (by assumption))]; done) | (rw [mend_s (by assumption) (mid_outS (by assumption)) (enough_y (by omega) (by assumption)) (by assumption) (enough_n (mid_rights (by assumption) (mid_outS (by assumption)) (by assumption)) (by assumption))]; done))) : p := h
theorem k2_spec_l22Mend {p : Prop} (h : p := by clear S; (first | (rw [mend_n (by assumption) (mid_inS (by assumption) (of_decide_eq_false (by assumption))) (enough_n (by omega) (by assumption))]; done) | (rw [mend_w (by assumption) (mid_inS (by assumption) (of_decide_eq_false (by assumption))) (enough_y (by omega) (by assumption)) (by assumption) (enough_y (mid_rights (by assumption) (mid_inS (by assumption) (of_decide_eq_false (by assumption))) (by assumption)) (by assumption))]; done) | (rw [mend_s (by assumption) (mid_inS (by assumption) (of_decide_eq_false (by assumption))) (enough_y (by omega) (by assumption)) (by assumption) (enough_n (mid_rights (by assumption) (mid_inS (by assumption) (of_decide_eq_false (by assumption))) (by assumption)) (by assumption))]; done) | (rw [mend_n (by assumption) (mid_outS (of_decide_eq_true (by assumption))) (enough_n (by omega) (by assumption))]; done) | (rw [mend_w (by assumption) (mid_outS (of_decide_eq_true (by assumption))) (enough_y (by omega) (by assumption)) (by assumption) (enough_y (mid_rights (by assumption) (mid_outS (of_decide_eq_true (by assumption))) (by assumption)) (by assumption))]; done) | (rw [mend_s (by assumption) (mid_outS (of_decide_eq_true (by assumption))) (enough_y (by omega) (by assumption)) (by assumption) (enough_n (mid_rights (by assumption) (mid_outS (of_decide_eq_true (by assumption))) (by assumption)) (by assumption))]; done) | (rw [mend_n (by assumption) (mid_inS (by assumption) (by assumption)) (enough_n (by omega) (by assumption))]; done) | (rw [mend_w (by assumption) (mid_inS (by assumption) (by assumption)) (enough_y (by omega) (by assumption)) (by assumption) (enough_y (mid_rights (by assumption) (mid_inS (by assumption) (by assumption)) (by assumption)) (by assumption))]; done) | (rw [mend_s (by assumption) (mid_inS (by assumption) (by assumption)) (enough_y (by omega) (by assumption)) (by assumption) (enough_n (mid_rights (by assumption) (mid_inS (by assumption) (by assumption)) (by assumption)) (by assumption))]; done) | (rw [mend_n (by assumption) (mid_outS (by assumption)) (enough_n (by omega) (by assumption))]; done) | (rw [mend_w (by assumption) (mid_outS (by assumption)) (enough_y (by omega) (by assumption)) (by assumption) (enough_y (mid_rights (by assumption) (mid_outS (by assumption)) (by assumption)) (by assumption))]; done) | (rw [mend_s (by assumption) (mid_outS (by assumption)) (enough_y (by omega) (by assumption)) (by assumption) (enough_n (mid_rights (by assumption) (mid_outS (by assumption)) (by assumption)) (by assumption))]; done))) : p := h
theorem c_spec_l22Mend (w0 : World) (h : THost) (ph : PHost) (F : Bl) (hh : GT.own KK F w0 h ph) (hF : ∀ b, F b → b < w0.heap.size) (m : Int) (page : Int) (need : Int) (pre0 : f_hasPage h m page = true) (pre1 : 1 ≤ need) (pre2 : need ≤ 3) : Calls Tryz.prog 50 [GT.val h ph, I m, I page, I need].toArray w0 (RetT F F w0 (f_mend h m page need : THost)) := by
 refine Calls.walk F Tryz.func50 rfl rfl ?_
 intro ac β S
 have oh : Ow w0 F w0 (Lt w0.heap.size) F h ph := ⟨hh, hF, fun b hb => .inr hb⟩
 obtain ⟨F1, F4, F7, F10, o2, o5, o8, o11, s3, s6, s9, s12, d13, d14, d15, d16, d17, d18⟩ := sp_Host oh
 have hp := hasPage_t (h := h) (m := m) (page := page) (by assumption)
 refine ws (rg ?_)
 refine S.qem 2 [] [(4, .p 0 0), (8, .p 1 0)] 2 [(0, [slv h.mem.length ph.mem.1, slv h.mons.length ph.mons.1, slv h.buf.length ph.buf.1, slv h.iobuf.length ph.iobuf.1]), (1, Zc THost)] fun ac w β S => ?_
 refine (nt (ws (ws ?_)))
 refine S.drawn (keep := [1, 2, 3, 4, 8, 20]) (m := 2) (σ' := ⟨[(1, .v (I m)), (2, .v (I page)), (3, .v (I need)), (4, .p 0 0), (8, .p 1 0), (20, .v (B (decide ((el (el h.mons m.toNat).outer page.toNat) = (⟨-1, 0⟩ : TSlot)))))], [[slv h.mem.length ph.mem.1, slv h.mons.length ph.mons.1, slv h.buf.length ph.buf.1, slv h.iobuf.length ph.iobuf.1], Zc THost]⟩) (.cons (qt o5.rn m Tryz.underlying28) (.cons (qc o5.rn 47 m.toNat 0 (slv (el h.mons m.toNat).outer.length (ph.mons.2 m.toNat).outer.1)) (.cons (qt (RMon.outer (d := (el h.mons m.toNat)) (LRd.el o5.rn m.toNat (by omega))) page Tryz.underlying47) (.cons (qs (RMon.outer (d := (el h.mons m.toNat)) (LRd.el o5.rn m.toNat (by omega))) 55 page.toNat) (.cons (Q_call fun w hw => c_spec_NoSlot w ) (.cons (Eq_eq_Slot (t := 55) (el (el h.mons m.toNat).outer page.toNat) (⟨-1, 0⟩ : TSlot) (by kernel_rfl)) .nil)))))) rfl (by kernel_rfl) (by kernel_rfl) fun ac w S => ?_
 refine id (nt (S.c (decide ((el (el h.mons m.toNat).outer page.toNat) = (⟨-1, 0⟩ : TSlot))) (fun h19 => ?_) (fun h19 => ?_)))
 ·refine rg ?_
  refine S.qa 3 [] [(21, .v (GT.val h ph)), (22, .v (I m)), (23, .v (I page))] fun ac w β S => ?_
  have o20 := ow_Host (x := h) (p := ph) o2 o5 o8 o11 d13 d14 d15 d16 d17 d18 
  obtain ⟨Y1, hT1⟩ : ∃ z, z = (f_fetch h m page) := ⟨_, rfl⟩
  have l25 := fetch_bd hT1 (by assumption)
  refine RG.op rfl (S.callTY (d := 24) o20 hT1 (c_spec_l22In w h ph (uniB [F1, F4, F7, F10]) (S.ownw o20) (fun b hb => (S.sep b (o20.sub b hb)).1) m page (by (first | assumption | exact hasPage_ok (by assumption) | omega | (dsimp only; omega)))) fun ac w N q21 F22 S up o23 d24 => ?_)
  clear up d24 o20
  obtain ⟨F26, F29, F32, F35, o27, o30, o33, o36, s28, s31, s34, s37, d38, d39, d40, d41, d42, d43⟩ := sp_Host o23
  refine S.qem 1 [] [] 2 [(0, [slv Y1.mem.length q21.mem.1, slv Y1.mons.length q21.mons.1, slv Y1.buf.length q21.buf.1, slv Y1.iobuf.length q21.iobuf.1])] fun ac w β S => ?_
  refine (nt (ws (ws (rg ?_))))
  refine S.qg 3 [] [(27, .v (B ((land64 need 2) == 0)))] (.cons (Q_land64 (x := need) (y := 2)) .nil) fun ac w β S => ?_
  refine (nt (S.c ((land64 need 2) == 0) (fun h44 => ?_) (fun h44 => ?_)))
  ·have g45 : (land64 need 2) = 0 := eq_of_beq h44
   refine ws (rg ?_)
   refine S.qem 2 [] [] 2 [(1, [slv Y1.mem.length q21.mem.1, slv Y1.mons.length q21.mons.1, slv Y1.buf.length q21.buf.1, slv Y1.iobuf.length q21.iobuf.1])] fun ac w β S => ?_
   refine (nt (wr (rt (S.r [GT.val Y1 q21] ?_))))
   have o46 := ow_Host (x := Y1) (p := q21) o27 o30 o33 o36 d38 d39 d40 d41 d42 d43 
   exact retT_of S (show f_mend h m page need = Y1 from k1_spec_l22Mend) rfl o46
  have g47 : ¬ ((land64 need 2) = 0) := ne_of_beq_false h44
  refine wk (nt (ws (rg ?_)))
  refine S.qb 8 [] [(36, .v (pt (q21.mons.2 m.toNat).dirty.1.b ((q21.mons.2 m.toNat).dirty.1.off + page.toNat * 1)))] (.cons (qt o30.rn m Tryz.underlying28) (.cons (qc o30.rn 48 m.toNat 2 (slv (el Y1.mons m.toNat).dirty.length (q21.mons.2 m.toNat).dirty.1)) (.cons (qt (RMon.dirty (d := (el Y1.mons m.toNat)) (LRd.el o30.rn m.toNat (by omega))) page Tryz.underlying48) .nil))) fun ac w β S => ?_
  obtain ⟨F48, o49, s50, b51⟩ := foc2_Mon_dirty o30 (k := m.toNat) (show m.toNat < Y1.mons.length by omega)
  have l52 := LRd.le o49.rn
  have n53 := o49.sub
  refine RG.op rfl (S.sF (α := Bool) o49 (t := 4) (k := page.toNat) (j := 0) (off := (q21.mons.2 m.toNat).dirty.1.off + page.toNat * 1) (v := B true) (y := true) (q := ()) (fun _ _ _ => ⟨NoB, trivial, fun _ h => False.elim h⟩) fun w N F55 q56 S up o54 d57 s58 n59 => ?_)
  have d60 := d57 _ (Disj.symm (Disj.part (Disj.symm d38) s50)) (fun b _ h => False.elim h) o27.sub
  have d61 := d57 _ (Disj.symm (Disj.part d41 s50)) (fun b _ h => False.elim h) o33.sub
  have d62 := d57 _ (Disj.symm (Disj.part d42 s50)) (fun b _ h => False.elim h) o36.sub
  replace o27 := o27.upF (Disj.symm (Disj.part (Disj.symm d38) s50)) up
  replace o33 := o33.upF (Disj.symm (Disj.part d41 s50)) up
  replace o36 := o36.upF (Disj.symm (Disj.part d42 s50)) up
  clear d57 o49
  obtain ⟨p63, o64, c65⟩ := b51 _ _ _ _ _ NoB up o54 s58 (fun b _ h => False.elim h) (by show [slv _ _] = [slv _ _]; rw [List.length_set]) (fun b h => n59 b (n53 b h))
  clear up o54 n59
  have l66 : (Y1.mons.set m.toNat ({ el Y1.mons m.toNat with dirty := ((el Y1.mons m.toNat).dirty.set page.toNat true) })).length = Y1.mons.length := List.length_set
  obtain ⟨X67, hX68⟩ : ∃ z, z = Y1.mons.set m.toNat ({ el Y1.mons m.toNat with dirty := ((el Y1.mons m.toNat).dirty.set page.toNat true) }) := ⟨_, rfl⟩
  rw [← hX68] at o64 c65 l66
  obtain ⟨l69, e70⟩ := setm_dirty hX68 (show m.toNat < Y1.mons.length by omega) List.length_set
  replace S := S.z (σ' := ⟨[(1, .v (I m)), (2, .v (I page)), (4, .p 0 0), (8, .p 1 0), (36, .v (pt (q21.mons.2 m.toNat).dirty.1.b ((q21.mons.2 m.toNat).dirty.1.off + page.toNat * 1)))], [[slv Y1.mem.length q21.mem.1, slv Y1.mons.length q21.mons.1, slv Y1.buf.length q21.buf.1, slv Y1.iobuf.length q21.iobuf.1], Zc THost]⟩)
  replace S := S.cast (σ' := ⟨[(1, .v (I m)), (2, .v (I page)), (4, .p 0 0), (8, .p 1 0), (36, .v (pt (q21.mons.2 m.toNat).dirty.1.b ((q21.mons.2 m.toNat).dirty.1.off + page.toNat * 1)))], [[slv Y1.mem.length q21.mem.1, slv X67.length q21.mons.1, slv Y1.buf.length q21.buf.1, slv Y1.iobuf.length q21.iobuf.1], Zc THost]⟩) (by rw [show X67.length = Y1.mons.length by omega])
  refine rd (nt (ws (rg ?_)))
  refine S.qgm 11 [] [(9, .p 2 0)] (.cons (qt o64.rn m Tryz.underlying28) (.cons (qc o64.rn 47 m.toNat 0 (slv (el X67 m.toNat).outer.length ((q21.mons.1, p63).2 m.toNat).outer.1)) (.cons (qt (RMon.outer (d := (el X67 m.toNat)) (LRd.el o64.rn m.toNat (by omega))) page Tryz.underlying47) (.cons (qs (RMon.outer (d := (el X67 m.toNat)) (LRd.el o64.rn m.toNat (by omega))) 55 page.toNat) .nil)))) 3 [(2, GT.cells (el (el X67 m.toNat).outer page.toNat) ())] fun ac w β S => ?_
  refine (nt (ws (ws (rg ?_))))
  refine S.qg 4 [] [(49, .v (B ((land64 (el (el X67 m.toNat).outer page.toNat).rights 2) == 0)))] (.cons (Q_land64 (x := (el (el X67 m.toNat).outer page.toNat).rights) (y := 2)) .nil) fun ac w β S => ?_
  refine (nt (S.c ((land64 (el (el X67 m.toNat).outer page.toNat).rights 2) == 0) (fun h71 => ?_) (fun h71 => ?_)))
  ·have g72 : (land64 (el (el X67 m.toNat).outer page.toNat).rights 2) = 0 := eq_of_beq h71
   refine rg ?_
   refine S.qbm 6 [] [(50, .v (GT.val (⟨Y1.mem, X67, Y1.buf, Y1.iobuf⟩ : THost) (⟨q21.mem, (q21.mons.1, p63), q21.buf, q21.iobuf⟩ : PHost))), (51, .v (I m)), (52, .v (I page)), (55, .v (GT.val (⟨(el (el X67 m.toNat).outer page.toNat).page, 3⟩ : TSlot) ()))] (.cons (Q_sem (s := Instr.build 55 [(0, I (el (el X67 m.toNat).outer page.toNat).page), (1, I 3)].toArray) (v := .agg [I (el (el X67 m.toNat).outer page.toNat).page, I 3].toArray) (fun w => by kernel_rfl)) .nil) 2 [] fun ac w β S => ?_
   have o73 := ow_Host (x := (⟨Y1.mem, X67, Y1.buf, Y1.iobuf⟩ : THost)) (p := (⟨q21.mem, (q21.mons.1, p63), q21.buf, q21.iobuf⟩ : PHost)) o27 o64 o33 o36 (Disj.symm (Disj.or (Disj.symm d38) (Disj.symm d60))) d39 d40 (Disj.symm (Disj.symm (Disj.or d41 (Disj.symm d61)))) (Disj.symm (Disj.symm (Disj.or d42 (Disj.symm d62)))) d43 
   obtain ⟨Y2, hT2⟩ : ∃ z, z = (f_slotTo (⟨Y1.mem, X67, Y1.buf, Y1.iobuf⟩ : THost) m page (⟨(el (el X67 m.toNat).outer page.toNat).page, 3⟩ : TSlot)) := ⟨_, rfl⟩
   refine RG.op rfl (S.callTY (d := 56) o73 hT2 (c_spec_l22Slot w (⟨Y1.mem, X67, Y1.buf, Y1.iobuf⟩ : THost) (⟨q21.mem, (q21.mons.1, p63), q21.buf, q21.iobuf⟩ : PHost) (uniB [F26, (Or F29 F55), F32, F35]) (S.ownw o73) (fun b hb => (S.sep b (o73.sub b hb)).1) m page (⟨(el (el X67 m.toNat).outer page.toNat).page, 3⟩ : TSlot) (show RSlot (⟨(el (el X67 m.toNat).outer page.toNat).page, 3⟩ : TSlot) from ⟨(RSlot.page (d := (el (el X67 m.toNat).outer page.toNat)) (LRd.el (RMon.outer (d := (el X67 m.toNat)) (LRd.el o64.rn m.toNat (by omega))) page.toNat (by omega))), (show In64 3 from ⟨by decide, by decide⟩)⟩) (by (first | omega | (dsimp only; omega)))) fun ac w N q74 F75 S up o76 d77 => ?_)
   clear up d77 o73
   obtain ⟨F78, F81, F84, F87, o79, o82, o85, o88, s80, s83, s86, s89, d90, d91, d92, d93, d94, d95⟩ := sp_Host o76
   refine S.qem 1 [] [] 2 [(0, [slv Y2.mem.length q74.mem.1, slv Y2.mons.length q74.mons.1, slv Y2.buf.length q74.buf.1, slv Y2.iobuf.length q74.iobuf.1])] fun ac w β S => ?_
   refine (nt (ws (rg ?_)))
   refine S.qem 2 [] [] 2 [(1, [slv Y2.mem.length q74.mem.1, slv Y2.mons.length q74.mons.1, slv Y2.buf.length q74.buf.1, slv Y2.iobuf.length q74.iobuf.1])] fun ac w β S => ?_
   refine (nt (wr (S.r [GT.val Y2 q74] ?_)))
   have o96 := ow_Host (x := Y2) (p := q74) o79 o82 o85 o88 d90 d91 d92 d93 d94 d95 
   exact retT_of S (show f_mend h m page need = Y2 by clear S; subst hT2; subst hT1; (first | (rw [mend_n (by assumption) (mid_inS (by assumption) (of_decide_eq_false (by assumption))) (enough_n (by omega) (by assumption))]; done) | (rw [mend_w (by assumption) (mid_inS (by assumption) (of_decide_eq_false (by assumption))) (enough_y (by omega) (by assumption)) (by assumption) (enough_y (mid_rights (by assumption) (mid_inS (by assumption) (of_decide_eq_false (by assumption))) (by assumption)) (by assumption))]; done) | (rw [mend_s (by assumption) (mid_inS (by assumption) (of_decide_eq_false (by assumption))) (enough_y (by omega) (by assumption)) (by assumption) (enough_n (mid_rights (by assumption) (mid_inS (by assumption) (of_decide_eq_false (by assumption))) (by assumption)) (by assumption))]; done) | (rw [mend_n (by assumption) (mid_outS (of_decide_eq_true (by assumption))) (enough_n (by omega) (by assumption))]; done) | (rw [mend_w (by assumption) (mid_outS (of_decide_eq_true (by assumption))) (enough_y (by omega) (by assumption)) (by assumption) (enough_y (mid_rights (by assumption) (mid_outS (of_decide_eq_true (by assumption))) (by assumption)) (by assumption))]; done) | (rw [mend_s (by assumption) (mid_outS (of_decide_eq_true (by assumption))) (enough_y (by omega) (by assumption)) (by assumption) (enough_n (mid_rights (by assumption) (mid_outS (of_decide_eq_true (by assumption))) (by assumption)) (by assumption))]; done) | (rw [mend_n (by assumption) (mid_inS (by assumption) (by assumption)) (enough_n (by omega) (by assumption))]; done) | (rw [mend_w (by assumption) (mid_inS (by assumption) (by assumption)) (enough_y (by omega) (by assumption)) (by assumption) (enough_y (mid_rights (by assumption) (mid_inS (by assumption) (by assumption)) (by assumption)) (by assumption))]; done) | (rw [mend_s (by assumption) (mid_inS (by assumption) (by assumption)) (enough_y (by omega) (by assumption)) (by assumption) (enough_n (mid_rights (by assumption) (mid_inS (by assumption) (by assumption)) (by assumption)) (by assumption))]; done) | (rw [mend_n (by assumption) (mid_outS (by assumption)) (enough_n (by omega) (by assumption))]; done) | (rw [mend_w (by assumption) (mid_outS (by assumption)) (enough_y (by omega) (by assumption)) (by assumption) (enough_y (mid_rights (by assumption) (mid_outS (by assumption)) (by assumption)) (by assumption))]; done) | (rw [mend_s (by assumption) (mid_outS (by assumption)) (enough_y (by omega) (by assumption)) (by assumption) (enough_n (mid_rights (by assumption) (mid_outS (by assumption)) (by assumption)) (by assumption))]; done))) rfl o96
  have g97 : ¬ ((land64 (el (el X67 m.toNat).outer page.toNat).rights 2) = 0) := ne_of_beq_false h71
  refine wk (nt (ws (rg ?_)))
  refine S.qem 2 [] [] 2 [(1, [slv Y1.mem.length q21.mem.1, slv X67.length q21.mons.1, slv Y1.buf.length q21.buf.1, slv Y1.iobuf.length q21.iobuf.1])] fun ac w β S => ?_
  refine (nt (wr (S.r [GT.val (⟨Y1.mem, X67, Y1.buf, Y1.iobuf⟩ : THost) (⟨q21.mem, (q21.mons.1, p63), q21.buf, q21.iobuf⟩ : PHost)] ?_)))
  have o98 := ow_Host (x := (⟨Y1.mem, X67, Y1.buf, Y1.iobuf⟩ : THost)) (p := (⟨q21.mem, (q21.mons.1, p63), q21.buf, q21.iobuf⟩ : PHost)) o27 o64 o33 o36 (Disj.symm (Disj.or (Disj.symm d38) (Disj.symm d60))) d39 d40 (Disj.symm (Disj.symm (Disj.or d41 (Disj.symm d61)))) (Disj.symm (Disj.symm (Disj.or d42 (Disj.symm d62)))) d43 
  exact retT_of S (show f_mend h m page need = (⟨Y1.mem, X67, Y1.buf, Y1.iobuf⟩ : THost) from k1_spec_l22Mend) rfl o98
 refine wk (nt (ws (ws (rg ?_))))
 refine S.qg 3 [] [(27, .v (B ((land64 need 2) == 0)))] (.cons (Q_land64 (x := need) (y := 2)) .nil) fun ac w β S => ?_
 refine (nt (S.c ((land64 need 2) == 0) (fun h99 => ?_) (fun h99 => ?_)))
 ·have g100 : (land64 need 2) = 0 := eq_of_beq h99
  refine ws (rg ?_)
  refine S.qem 2 [] [] 2 [(1, [slv h.mem.length ph.mem.1, slv h.mons.length ph.mons.1, slv h.buf.length ph.buf.1, slv h.iobuf.length ph.iobuf.1])] fun ac w β S => ?_
  refine (nt (wr (rt (S.r [GT.val h ph] ?_))))
  have o101 := ow_Host (x := h) (p := ph) o2 o5 o8 o11 d13 d14 d15 d16 d17 d18 
  exact retT_of S (show f_mend h m page need = h from k2_spec_l22Mend) rfl o101
 have g102 : ¬ ((land64 need 2) = 0) := ne_of_beq_false h99
 refine wk (nt (ws (rg ?_)))
 refine S.qb 8 [] [(36, .v (pt (ph.mons.2 m.toNat).dirty.1.b ((ph.mons.2 m.toNat).dirty.1.off + page.toNat * 1)))] (.cons (qt o5.rn m Tryz.underlying28) (.cons (qc o5.rn 48 m.toNat 2 (slv (el h.mons m.toNat).dirty.length (ph.mons.2 m.toNat).dirty.1)) (.cons (qt (RMon.dirty (d := (el h.mons m.toNat)) (LRd.el o5.rn m.toNat (by omega))) page Tryz.underlying48) .nil))) fun ac w β S => ?_
 obtain ⟨F103, o104, s105, b106⟩ := foc2_Mon_dirty o5 (k := m.toNat) (show m.toNat < h.mons.length by omega)
 have l107 := LRd.le o104.rn
 have n108 := o104.sub
 refine RG.op rfl (S.sF (α := Bool) o104 (t := 4) (k := page.toNat) (j := 0) (off := (ph.mons.2 m.toNat).dirty.1.off + page.toNat * 1) (v := B true) (y := true) (q := ()) (fun _ _ _ => ⟨NoB, trivial, fun _ h => False.elim h⟩) fun w N F110 q111 S up o109 d112 s113 n114 => ?_)
 have d115 := d112 _ (Disj.symm (Disj.part (Disj.symm d13) s105)) (fun b _ h => False.elim h) o2.sub
 have d116 := d112 _ (Disj.symm (Disj.part d16 s105)) (fun b _ h => False.elim h) o8.sub
 have d117 := d112 _ (Disj.symm (Disj.part d17 s105)) (fun b _ h => False.elim h) o11.sub
 replace o2 := o2.upF (Disj.symm (Disj.part (Disj.symm d13) s105)) up
 replace o8 := o8.upF (Disj.symm (Disj.part d16 s105)) up
 replace o11 := o11.upF (Disj.symm (Disj.part d17 s105)) up
 clear d112 o104
 obtain ⟨p118, o119, c120⟩ := b106 _ _ _ _ _ NoB up o109 s113 (fun b _ h => False.elim h) (by show [slv _ _] = [slv _ _]; rw [List.length_set]) (fun b h => n114 b (n108 b h))
 clear up o109 n114
 have l121 : (h.mons.set m.toNat ({ el h.mons m.toNat with dirty := ((el h.mons m.toNat).dirty.set page.toNat true) })).length = h.mons.length := List.length_set
 obtain ⟨X122, hX123⟩ : ∃ z, z = h.mons.set m.toNat ({ el h.mons m.toNat with dirty := ((el h.mons m.toNat).dirty.set page.toNat true) }) := ⟨_, rfl⟩
 rw [← hX123] at o119 c120 l121
 obtain ⟨l124, e125⟩ := setm_dirty hX123 (show m.toNat < h.mons.length by omega) List.length_set
 replace S := S.z (σ' := ⟨[(1, .v (I m)), (2, .v (I page)), (4, .p 0 0), (8, .p 1 0), (36, .v (pt (ph.mons.2 m.toNat).dirty.1.b ((ph.mons.2 m.toNat).dirty.1.off + page.toNat * 1)))], [[slv h.mem.length ph.mem.1, slv h.mons.length ph.mons.1, slv h.buf.length ph.buf.1, slv h.iobuf.length ph.iobuf.1], Zc THost]⟩)
 replace S := S.cast (σ' := ⟨[(1, .v (I m)), (2, .v (I page)), (4, .p 0 0), (8, .p 1 0), (36, .v (pt (ph.mons.2 m.toNat).dirty.1.b ((ph.mons.2 m.toNat).dirty.1.off + page.toNat * 1)))], [[slv h.mem.length ph.mem.1, slv X122.length ph.mons.1, slv h.buf.length ph.buf.1, slv h.iobuf.length ph.iobuf.1], Zc THost]⟩) (by rw [show X122.length = h.mons.length by omega])
 refine rd (nt (ws (rg ?_)))
 refine S.qgm 11 [] [(9, .p 2 0)] (.cons (qt o119.rn m Tryz.underlying28) (.cons (qc o119.rn 47 m.toNat 0 (slv (el X122 m.toNat).outer.length ((ph.mons.1, p118).2 m.toNat).outer.1)) (.cons (qt (RMon.outer (d := (el X122 m.toNat)) (LRd.el o119.rn m.toNat (by omega))) page Tryz.underlying47) (.cons (qs (RMon.outer (d := (el X122 m.toNat)) (LRd.el o119.rn m.toNat (by omega))) 55 page.toNat) .nil)))) 3 [(2, GT.cells (el (el X122 m.toNat).outer page.toNat) ())] fun ac w β S => ?_
 refine (nt (ws (ws (rg ?_))))
 refine S.qg 4 [] [(49, .v (B ((land64 (el (el X122 m.toNat).outer page.toNat).rights 2) == 0)))] (.cons (Q_land64 (x := (el (el X122 m.toNat).outer page.toNat).rights) (y := 2)) .nil) fun ac w β S => ?_
 refine (nt (S.c ((land64 (el (el X122 m.toNat).outer page.toNat).rights 2) == 0) (fun h126 => ?_) (fun h126 => ?_)))
 ·have g127 : (land64 (el (el X122 m.toNat).outer page.toNat).rights 2) = 0 := eq_of_beq h126
  refine rg ?_
  refine S.qbm 6 [] [(50, .v (GT.val (⟨h.mem, X122, h.buf, h.iobuf⟩ : THost) (⟨ph.mem, (ph.mons.1, p118), ph.buf, ph.iobuf⟩ : PHost))), (51, .v (I m)), (52, .v (I page)), (55, .v (GT.val (⟨(el (el X122 m.toNat).outer page.toNat).page, 3⟩ : TSlot) ()))] (.cons (Q_sem (s := Instr.build 55 [(0, I (el (el X122 m.toNat).outer page.toNat).page), (1, I 3)].toArray) (v := .agg [I (el (el X122 m.toNat).outer page.toNat).page, I 3].toArray) (fun w => by kernel_rfl)) .nil) 2 [] fun ac w β S => ?_
  have o128 := ow_Host (x := (⟨h.mem, X122, h.buf, h.iobuf⟩ : THost)) (p := (⟨ph.mem, (ph.mons.1, p118), ph.buf, ph.iobuf⟩ : PHost)) o2 o119 o8 o11 (Disj.symm (Disj.or (Disj.symm d13) (Disj.symm d115))) d14 d15 (Disj.symm (Disj.symm (Disj.or d16 (Disj.symm d116)))) (Disj.symm (Disj.symm (Disj.or d17 (Disj.symm d117)))) d18 
  obtain ⟨Y1, hT1⟩ : ∃ z, z = (f_slotTo (⟨h.mem, X122, h.buf, h.iobuf⟩ : THost) m page (⟨(el (el X122 m.toNat).outer page.toNat).page, 3⟩ : TSlot)) := ⟨_, rfl⟩
  refine RG.op rfl (S.callTY (d := 56) o128 hT1 (c_spec_l22Slot w (⟨h.mem, X122, h.buf, h.iobuf⟩ : THost) (⟨ph.mem, (ph.mons.1, p118), ph.buf, ph.iobuf⟩ : PHost) (uniB [F1, (Or F4 F110), F7, F10]) (S.ownw o128) (fun b hb => (S.sep b (o128.sub b hb)).1) m page (⟨(el (el X122 m.toNat).outer page.toNat).page, 3⟩ : TSlot) (show RSlot (⟨(el (el X122 m.toNat).outer page.toNat).page, 3⟩ : TSlot) from ⟨(RSlot.page (d := (el (el X122 m.toNat).outer page.toNat)) (LRd.el (RMon.outer (d := (el X122 m.toNat)) (LRd.el o119.rn m.toNat (by omega))) page.toNat (by omega))), (show In64 3 from ⟨by decide, by decide⟩)⟩) (by (first | omega | (dsimp only; omega)))) fun ac w N q129 F130 S up o131 d132 => ?_)
  clear up d132 o128
  obtain ⟨F133, F136, F139, F142, o134, o137, o140, o143, s135, s138, s141, s144, d145, d146, d147, d148, d149, d150⟩ := sp_Host o131
  refine S.qem 1 [] [] 2 [(0, [slv Y1.mem.length q129.mem.1, slv Y1.mons.length q129.mons.1, slv Y1.buf.length q129.buf.1, slv Y1.iobuf.length q129.iobuf.1])] fun ac w β S => ?_
  refine (nt (ws (rg ?_)))
  refine S.qem 2 [] [] 2 [(1, [slv Y1.mem.length q129.mem.1, slv Y1.mons.length q129.mons.1, slv Y1.buf.length q129.buf.1, slv Y1.iobuf.length q129.iobuf.1])] fun ac w β S => ?_
  refine (nt (wr (S.r [GT.val Y1 q129] ?_)))
  have o151 := ow_Host (x := Y1) (p := q129) o134 o137 o140 o143 d145 d146 d147 d148 d149 d150 
  exact retT_of S (show f_mend h m page need = Y1 from k1_spec_l22Mend) rfl o151
 have g152 : ¬ ((land64 (el (el X122 m.toNat).outer page.toNat).rights 2) = 0) := ne_of_beq_false h126
 refine wk (nt (ws (rg ?_)))
 refine S.qem 2 [] [] 2 [(1, [slv h.mem.length ph.mem.1, slv X122.length ph.mons.1, slv h.buf.length ph.buf.1, slv h.iobuf.length ph.iobuf.1])] fun ac w β S => ?_
 refine (nt (wr (S.r [GT.val (⟨h.mem, X122, h.buf, h.iobuf⟩ : THost) (⟨ph.mem, (ph.mons.1, p118), ph.buf, ph.iobuf⟩ : PHost)] ?_)))
 have o153 := ow_Host (x := (⟨h.mem, X122, h.buf, h.iobuf⟩ : THost)) (p := (⟨ph.mem, (ph.mons.1, p118), ph.buf, ph.iobuf⟩ : PHost)) o2 o119 o8 o11 (Disj.symm (Disj.or (Disj.symm d13) (Disj.symm d115))) d14 d15 (Disj.symm (Disj.symm (Disj.or d16 (Disj.symm d116)))) (Disj.symm (Disj.symm (Disj.or d17 (Disj.symm d117)))) d18 
 exact retT_of S (show f_mend h m page need = (⟨h.mem, X122, h.buf, h.iobuf⟩ : THost) from k2_spec_l22Mend) rfl o153

theorem k0_spec_l04Has {p : Prop} (h : p := by clear S; (unfold f_hasCell; (repeat' split) <;> first | rfl | (rw [Bool.eq_iff_iff]; simp [f_within]; omega) | (rw [Bool.eq_iff_iff]; simp_all; omega))) : p := h
theorem c_spec_l04Has (w0 : World) (m : List (List Int)) (pm : LP (List Int)) (hm : RD w0 m pm) (page : Int) (cell : Int) : Calls Tryz.prog 97 [slv m.length pm.1, I page, I cell].toArray w0 (fun e w' => e = .returned (B (f_hasCell m page cell)) ∧ Chg NoB w0 w') := by
 refine Calls.walk NoB Tryz.func97 rfl rfl ?_
 intro ac β S
 have hlem : m.length ≤ 4194304 := LRd.le hm
 refine ws (rg ?_)
 refine S.qe 1 [] [] fun ac w β S => ?_
 refine (nt (ws (rg ?_)))
 refine S.qb 6 [] [(12, .v (B (f_within page 0 ((m.length : Int) - 1))))] (.cons (qm (m.length : Int) 1) (.cons (Q_call fun w hw => c_spec_l01In w page 0 ((m.length : Int) - 1)) .nil)) fun ac w β S => ?_
 rcases Bool.eq_false_or_eq_true (f_within page 0 ((m.length : Int) - 1)) with h1 | h1 <;> rw [h1] at S
 ·have g2 := within_t h1
  have b3 : (el m page.toNat).length ≤ 4194304 := LRd.le (LRd.el (S.arg hm) page.toNat (by omega))
  refine S.qg 10 [12] [(6, .v (B (f_within cell 0 (((el m page.toNat).length : Int) - 1))))] (.cons (qt (S.arg hm) page Tryz.underlying22) (.cons (qx (S.arg hm) 50 page.toNat) (.cons (qm ((el m page.toNat).length : Int) 1) (.cons (Q_call fun w hw => c_spec_l01In w cell 0 (((el m page.toNat).length : Int) - 1)) .nil)))) fun ac w β S => ?_
  exact (nt (wr (S.r [B (f_within cell 0 (((el m page.toNat).length : Int) - 1))] ⟨retB k0_spec_l04Has, S.chg⟩)))
 ·have g4 := within_f h1
  refine S.qe 10 [12] [(6, .v (B false))] fun ac w β S => ?_
  exact (nt (wr (S.r [B false] ⟨retB k0_spec_l04Has, S.chg⟩)))

theorem k0_spec_WithCell {p : Prop} (h : p := by clear S; (unfold f_withCell; (repeat' split) <;> first | rfl | (simp; done) | (exfalso; omega) | (exfalso; simp_all; done) | (exfalso; simp_all; omega))) : p := h
theorem c_spec_WithCell (w0 : World) (m : List (List Int)) (pm : LP (List Int)) (hm : RD w0 m pm) (page : Int) (cell : Int) (v : Int) (hv : In64 v) : Calls Tryz.prog 53 [slv m.length pm.1, I page, I cell, I v].toArray w0 (Ret1 NoB w0 (f_withCell m page cell v : List (List Int))) := by
 refine Calls.walk NoB Tryz.func53 rfl rfl ?_
 intro ac β S
 have hlem : m.length ≤ 4194304 := LRd.le hm
 have hlov := hv.lo; have hhiv := hv.hi
 refine ws (rg ?_)
 refine S.qe 1 [] [] fun ac w β S => ?_
 refine (nt (ws (rg ?_)))
 refine S.qa 1 [] [(10, .v (slv m.length pm.1))] fun ac w β S => ?_
 refine RG.op rfl (S.k1 11 (c_spec_l04Copy w m pm (S.rd (S.arg hm))) fun ac w N q1 F2 S up o3 d4 => ?_)
 clear up d4
 refine S.qe 1 [] [(9, .v (slv m.length q1.1))] fun ac w β S => ?_
 refine (nt (ws (ws (rg ?_))))
 refine S.qb 5 [] [(16, .v (B (f_hasCell m page cell)))] (.cons (Q_call fun w hw => c_spec_l04Has w m pm (rd_of (S.arg hm) hw) page cell) .nil) fun ac w β S => ?_
 rcases Bool.eq_false_or_eq_true (f_hasCell m page cell) with h5 | h5 <;> rw [h5] at S
 ·have g6 := hasCell_t h5
  refine S.qg 3 [16] [(19, .v (B (f_within v 0 99)))] (.cons (Q_call fun w hw => c_spec_l01In w v 0 99) .nil) fun ac w β S => ?_
  refine (nt (S.c (f_within v 0 99) (fun h7 => ?_) (fun h7 => ?_)))
  ·have g8 := within_t h7
   refine rg ?_
   refine S.qb 7 [] [(25, .v (I v)), (26, .v (pt (q1.2 page.toNat).1.b ((q1.2 page.toNat).1.off + cell.toNat * 1)))] (.cons (qt o3.rn page Tryz.underlying22) (.cons (qx o3.rn 50 page.toNat) (.cons (qt (LRd.el o3.rn page.toNat (by omega)) cell Tryz.underlying50) .nil))) fun ac w β S => ?_
   obtain ⟨F9, o10, s11, b12⟩ := foc2_id o3 (k := page.toNat) (show page.toNat < m.length by omega)
   have l13 := LRd.le o10.rn
   have n14 := o10.sub
   refine RG.op rfl (S.sF (α := Int) o10 (t := 3) (k := cell.toNat) (j := 0) (off := (q1.2 page.toNat).1.off + cell.toNat * 1) (v := I v) (y := v) (q := ()) (fun _ _ _ => ⟨NoB, hv, fun _ h => False.elim h⟩) fun w N F16 q17 S up o15 d18 s19 n20 => ?_)
   clear d18 o10
   obtain ⟨p21, o22, c23⟩ := b12 _ _ _ _ _ NoB up o15 s19 (fun b _ h => False.elim h) (by show [slv _ _] = [slv _ _]; rw [List.length_set]) (fun b h => n20 b (n14 b h))
   clear up o15 n20
   have l24 : (m.set page.toNat ((el m page.toNat).set cell.toNat v)).length = m.length := List.length_set
   refine rd (nt (ws (rg ?_)))
   refine S.qe 2 [] [(8, .v (slv m.length q1.1))] fun ac w β S => ?_
   exact (nt (wr (S.r [slv m.length q1.1] (ret1_of S (show f_withCell m page cell v = (m.set page.toNat ((el m page.toNat).set cell.toNat v)) from k0_spec_WithCell) (by rw [show m.length = (m.set page.toNat ((el m page.toNat).set cell.toNat v)).length from (by omega)]; rfl) o22))))
  have g25 := within_f h7
  refine wk (nt (ws (rg ?_)))
  refine S.qe 2 [] [(8, .v (slv m.length q1.1))] fun ac w β S => ?_
  exact (nt (wr (S.r [slv m.length q1.1] (ret1_of S (show f_withCell m page cell v = m from k0_spec_WithCell) rfl o3))))
 ·have g26 := hasCell_f h5
  refine S.qe 3 [16] [(19, .v (B false))] fun ac w β S => ?_
  refine (nt (S.c false (fun hx => by cases hx) (fun _ => ?_)))
  refine wk (nt (ws (rg ?_)))
  refine S.qe 2 [] [(8, .v (slv m.length q1.1))] fun ac w β S => ?_
  exact (nt (wr (S.r [slv m.length q1.1] (ret1_of S (show f_withCell m page cell v = m from k0_spec_WithCell) rfl o3))))

theorem k0_spec_HostPoke {p : Prop} (h : p := by clear S; subst hT1; (first | (rw [hostPoke_o2 (Or.inl (by assumption))]; done) | (rw [hostPoke_o2 (Or.inr (Or.inl (by assumption)))]; done) | (rw [hostPoke_o2 (Or.inr (Or.inr (by assumption)))]; done) | (rw [hostPoke_y2 (by assumption) (by assumption) (by assumption)]; done))) : p := h
theorem k1_spec_HostPoke {p : Prop} (h : p := by clear S; (first | (rw [hostPoke_o2 (Or.inl (by assumption))]; done) | (rw [hostPoke_o2 (Or.inr (Or.inl (by assumption)))]; done) | (rw [hostPoke_o2 (Or.inr (Or.inr (by assumption)))]; done) | (rw [hostPoke_y2 (by assumption) (by assumption) (by assumption)]; done))) : p := h
theorem c_spec_HostPoke (w0 : World) (h : THost) (ph : PHost) (hh : RD w0 h ph) (m : Int) (page : Int) (hpage : In64 page) (cell : Int) (hcell : In64 cell) (v : Int) (hv : In64 v) : Calls Tryz.prog 21 [GT.val h ph, I m, I page, I cell, I v].toArray w0 (Ret2 NoB w0 ((f_hostPoke h m page cell v).1 : THost) ((f_hostPoke h m page cell v).2 : Bool)) := by
 refine Calls.walk NoB Tryz.func21 rfl rfl ?_
 intro ac β S
 have hleh_mem : h.mem.length ≤ 4194304 := LRd.le (RHost.mem (d := h) hh)
 have hleh_mons : h.mons.length ≤ 4194304 := LRd.le (RHost.mons (d := h) hh)
 have hleh_buf : h.buf.length ≤ 4194304 := LRd.le (RHost.buf (d := h) hh)
 have hleh_iobuf : h.iobuf.length ≤ 4194304 := LRd.le (RHost.iobuf (d := h) hh)
 have hlopage := hpage.lo; have hhipage := hpage.hi
 have hlocell := hcell.lo; have hhicell := hcell.hi
 have hlov := hv.lo; have hhiv := hv.hi
 refine ws (rg ?_)
 refine S.qem 3 [] [(5, .p 0 0), (10, .p 1 0)] 2 [(0, GT.cells h ph), (1, Zc THost)] fun ac w β S => ?_
 refine (nt (ws (rg ?_)))
 refine S.qa 1 [] [(12, .v (GT.val h ph))] fun ac w β S => ?_
 refine RG.op rfl (S.k1 13 (c_spec_l21Copy w h ph (S.rd (S.arg hh))) fun ac w N q1 F2 S up o3 d4 => ?_)
 clear up d4
 obtain ⟨F5, F8, F11, F14, o6, o9, o12, o15, s7, s10, s13, s16, d17, d18, d19, d20, d21, d22⟩ := sp_Host o3
 refine S.qem 1 [] [] 2 [(0, [slv h.mem.length q1.mem.1, slv h.mons.length q1.mons.1, slv h.buf.length q1.buf.1, slv h.iobuf.length q1.iobuf.1])] fun ac w β S => ?_
 refine (nt (ws (ws (rg ?_))))
 refine S.qb 6 [] [(19, .v (B (!(f_hasPage h m page))))] (.cons (Q_call fun w hw => c_spec_l22Is w h q1 (rd_of (show GT.rd KK _ _ h q1 from ⟨o6.rn, o9.rn, o12.rn, o15.rn⟩) hw) m page) .nil) fun ac w β S => ?_
 rcases Bool.eq_false_or_eq_true (!(f_hasPage h m page)) with h23 | h23 <;> rw [h23] at S
 ·have h24 := not_t h23
  refine S.qe 9 [19] [(28, .v (B true))] fun ac w β S => ?_
  refine (nt (S.c true (fun _ => ?_) (fun hx => by cases hx)))
  refine ws (rg ?_)
  refine S.qem 3 [] [(11, .v (B false))] 2 [(1, [slv h.mem.length q1.mem.1, slv h.mons.length q1.mons.1, slv h.buf.length q1.buf.1, slv h.iobuf.length q1.iobuf.1])] fun ac w β S => ?_
  refine (nt (wr (rt (S.r [GT.val h q1, B false] ?_))))
  have o25 := ow_Host (x := h) (p := q1) o6 o9 o12 o15 d17 d18 d19 d20 d21 d22 
  exact ret2_of (p' := ()) S (show (f_hostPoke h m page cell v).1 = h from k1_spec_HostPoke) (show (f_hostPoke h m page cell v).2 = false from k1_spec_HostPoke) rfl rfl o25 trivial
 ·have h26 := not_f h23
  have g27 := hasPage_t h26
  refine S.qb 5 [19] [(24, .v (B (!(f_within cell 0 3))))] (.cons (Q_call fun w hw => c_spec_l01In w cell 0 3) .nil) fun ac w β S => ?_
  rcases Bool.eq_false_or_eq_true (!(f_within cell 0 3)) with h28 | h28 <;> rw [h28] at S
  ·have h29 := not_t h28
   have g30 := within_f h29
   refine S.qe 4 [24] [(28, .v (B true))] fun ac w β S => ?_
   refine (nt (S.c true (fun _ => ?_) (fun hx => by cases hx)))
   refine ws (rg ?_)
   refine S.qem 3 [] [(11, .v (B false))] 2 [(1, [slv h.mem.length q1.mem.1, slv h.mons.length q1.mons.1, slv h.buf.length q1.buf.1, slv h.iobuf.length q1.iobuf.1])] fun ac w β S => ?_
   refine (nt (wr (rt (S.r [GT.val h q1, B false] ?_))))
   have o31 := ow_Host (x := h) (p := q1) o6 o9 o12 o15 d17 d18 d19 d20 d21 d22 
   exact ret2_of (p' := ()) S (show (f_hostPoke h m page cell v).1 = h from k1_spec_HostPoke) (show (f_hostPoke h m page cell v).2 = false from k1_spec_HostPoke) rfl rfl o31 trivial
  ·have h32 := not_f h28
   have g33 := within_t h32
   refine S.qg 4 [24] [(28, .v (B (!(f_within v 0 99))))] (.cons (Q_call fun w hw => c_spec_l01In w v 0 99) .nil) fun ac w β S => ?_
   refine (nt (S.c (!(f_within v 0 99)) (fun h34 => ?_) (fun h34 => ?_)))
   ·have h35 := not_t h34
    have g36 := within_f h35
    refine ws (rg ?_)
    refine S.qem 3 [] [(11, .v (B false))] 2 [(1, [slv h.mem.length q1.mem.1, slv h.mons.length q1.mons.1, slv h.buf.length q1.buf.1, slv h.iobuf.length q1.iobuf.1])] fun ac w β S => ?_
    refine (nt (wr (rt (S.r [GT.val h q1, B false] ?_))))
    have o37 := ow_Host (x := h) (p := q1) o6 o9 o12 o15 d17 d18 d19 d20 d21 d22 
    exact ret2_of (p' := ()) S (show (f_hostPoke h m page cell v).1 = h from k1_spec_HostPoke) (show (f_hostPoke h m page cell v).2 = false from k1_spec_HostPoke) rfl rfl o37 trivial
   have h38 := not_f h34
   have g39 := within_t h38
   refine wk (nt (ws (rg ?_)))
   refine S.qa 3 [] [(30, .v (GT.val h q1)), (31, .v (I m)), (32, .v (I page))] fun ac w β S => ?_
   have o40 := ow_Host (x := h) (p := q1) o6 o9 o12 o15 d17 d18 d19 d20 d21 d22 
   obtain ⟨Y1, hT1⟩ : ∃ z, z = (f_mend h m page 2) := ⟨_, rfl⟩
   have l45 := mend_lens hT1 (by assumption)
   refine RG.op rfl (S.callTY (d := 33) o40 hT1 (c_spec_l22Mend w h q1 (uniB [F5, F8, F11, F14]) (S.ownw o40) (fun b hb => (S.sep b (o40.sub b hb)).1) m page 2 (by (first | assumption | exact hasPage_ok (by assumption) | omega | (dsimp only; omega))) (by (first | assumption | exact hasPage_ok (by assumption) | omega | (dsimp only; omega))) (by (first | assumption | exact hasPage_ok (by assumption) | omega | (dsimp only; omega)))) fun ac w N q41 F42 S up o43 d44 => ?_)
   clear up d44 o40
   obtain ⟨F46, F49, F52, F55, o47, o50, o53, o56, s48, s51, s54, s57, d58, d59, d60, d61, d62, d63⟩ := sp_Host o43
   refine S.qem 1 [] [] 2 [(0, [slv Y1.mem.length q41.mem.1, slv Y1.mons.length q41.mons.1, slv Y1.buf.length q41.buf.1, slv Y1.iobuf.length q41.iobuf.1])] fun ac w β S => ?_
   refine (nt (ws ?_))
   refine S.draw0 (f := 17) 16 rfl rfl fun w S => ?_
   refine S.hq 0 [0] [] [(34, .p 0 0)] .nil fun ac S => ?_
   refine S.hq 1 [1] [] [(35, .v (slv Y1.mem.length q41.mem.1))] .nil fun ac S => ?_
   refine S.hq 2 [2] [] [(36, .p 0 1)] .nil fun ac S => ?_
   refine S.hq 3 [3] [] [(37, .v (slv Y1.mons.length q41.mons.1))] .nil fun ac S => ?_
   refine S.hq 4 [4] [] [(38, .v (I m))] .nil fun ac S => ?_
   refine S.hq 5 [5] [] [(39, .v (pt q41.mons.1.b (q41.mons.1.off + m.toNat * 9)))] (.cons (qt o50.rn m Tryz.underlying28) .nil) fun ac S => ?_
   refine S.hq 6 [6] [] [(40, .v (pt q41.mons.1.b (q41.mons.1.off + m.toNat * 9)))] .nil fun ac S => ?_
   refine S.hq 7 [7] [] [(41, .v (slv (el Y1.mons m.toNat).outer.length (q41.mons.2 m.toNat).outer.1))] (.cons (qc o50.rn 47 m.toNat 0 (slv (el Y1.mons m.toNat).outer.length (q41.mons.2 m.toNat).outer.1)) .nil) fun ac S => ?_
   refine S.hq 8 [8] [] [(42, .v (I page))] .nil fun ac S => ?_
   refine S.hq 9 [9] [] [(43, .v (pt (q41.mons.2 m.toNat).outer.1.b ((q41.mons.2 m.toNat).outer.1.off + page.toNat * 2)))] (.cons (qt (RMon.outer (d := (el Y1.mons m.toNat)) (LRd.el o50.rn m.toNat (by omega))) page Tryz.underlying47) .nil) fun ac S => ?_
   refine S.hq 10 [10] [] [(44, .v (pt (q41.mons.2 m.toNat).outer.1.b ((q41.mons.2 m.toNat).outer.1.off + page.toNat * 2)))] .nil fun ac S => ?_
   have i64 : In64 (el (el Y1.mons m.toNat).outer page.toNat).page := (RSlot.page (d := (el (el Y1.mons m.toNat).outer page.toNat)) (LRd.el (RMon.outer (d := (el Y1.mons m.toNat)) (LRd.el o50.rn m.toNat (by omega))) page.toNat (by omega)))
   refine S.hq 11 [11] [] [(45, .v (I (el (el Y1.mons m.toNat).outer page.toNat).page))] (.cons (qc (RMon.outer (d := (el Y1.mons m.toNat)) (LRd.el o50.rn m.toNat (by omega))) 3 page.toNat 0 (I (el (el Y1.mons m.toNat).outer page.toNat).page)) .nil) fun ac S => ?_
   refine S.hq 12 [12] [] [(46, .v (I cell))] .nil fun ac S => ?_
   refine S.hq 13 [13] [] [(47, .v (I v))] .nil fun ac S => ?_
   refine WD.one (i := 14) (by kernel_rfl) ?_
   refine id (S.k1 48 (c_spec_WithCell w Y1.mem q41.mem (S.rd o47.rn) (el (el Y1.mons m.toNat).outer page.toNat).page cell v hv) fun ac w N q65 F66 S up o67 d68 => ?_)
   refine WD.next S up (by kernel_rfl) ?_
   have d69 := Disj.w d68 o47.sub
   have d70 := Disj.w d68 o50.sub
   have d71 := Disj.w d68 o53.sub
   have d72 := Disj.w d68 o56.sub
   replace o47 := o47.up up
   replace o50 := o50.up up
   replace o53 := o53.up up
   replace o56 := o56.up up
   clear up d68
   refine S.hq 15 [15] [] [(48, .v (slv (f_withCell Y1.mem (el (el Y1.mons m.toNat).outer page.toNat).page cell v).length q65.1)), (49, .p 0 0)] .nil fun ac S => ?_
   refine WD.one (i := 16) (by kernel_rfl) ?_
   refine S.stepq (i := 16) (keep := [5, 10]) (m := 2) (σ' := ⟨[(5, .p 0 0), (10, .p 1 0)], [[slv (f_withCell Y1.mem (el (el Y1.mons m.toNat).outer page.toNat).page cell v).length q65.1, slv Y1.mons.length q41.mons.1, slv Y1.buf.length q41.buf.1, slv Y1.iobuf.length q41.iobuf.1], Zc THost]⟩) .nil (by kernel_rfl) fun ac w β S hβ => ?_
   refine WD.last (by kernel_rfl) ?_
   clear hβ
   refine WD.done (by kernel_rfl) ?_ _
   refine id (nt (ws (rg ?_)))
   refine S.qem 3 [] [(11, .v (B true))] 2 [(1, [slv (f_withCell Y1.mem (el (el Y1.mons m.toNat).outer page.toNat).page cell v).length q65.1, slv Y1.mons.length q41.mons.1, slv Y1.buf.length q41.buf.1, slv Y1.iobuf.length q41.iobuf.1])] fun ac w β S => ?_
   refine (nt (wr (S.r [GT.val (⟨(f_withCell Y1.mem (el (el Y1.mons m.toNat).outer page.toNat).page cell v), Y1.mons, Y1.buf, Y1.iobuf⟩ : THost) (⟨q65, q41.mons, q41.buf, q41.iobuf⟩ : PHost), B true] ?_)))
   have o73 := ow_Host (x := (⟨(f_withCell Y1.mem (el (el Y1.mons m.toNat).outer page.toNat).page cell v), Y1.mons, Y1.buf, Y1.iobuf⟩ : THost)) (p := (⟨q65, q41.mons, q41.buf, q41.iobuf⟩ : PHost)) o67 o50 o53 o56 (Disj.symm d70) (Disj.symm d71) (Disj.symm d72) d61 d62 d63 
   exact ret2_of (p' := ()) S (show (f_hostPoke h m page cell v).1 = (⟨(f_withCell Y1.mem (el (el Y1.mons m.toNat).outer page.toNat).page cell v), Y1.mons, Y1.buf, Y1.iobuf⟩ : THost) from k0_spec_HostPoke) (show (f_hostPoke h m page cell v).2 = true from k0_spec_HostPoke) rfl rfl o73 trivial

theorem c_impl_copyInts (w0 : World) (l : List Int) (pl : LP Int) (hl : RD w0 l pl) : Calls Tryz.prog 117 [slv l.length pl.1].toArray w0 (Ret1 NoB w0 (l : List Int)) := by
 refine Calls.walk NoB Tryz.func117 rfl rfl ?_
 intro ac β S
 have hlel : l.length ≤ 4194304 := LRd.le hl
 refine ws (rg ?_)
 refine S.qe 1 [] [] fun ac w β S => ?_
 refine (nt (ws (rg ?_)))
 refine RG.op rfl (S.bs0 (α := Int) (d := 3) (by kernel_rfl) fun ac w N q1 F2 S up o3 d4 => ?_)
 clear up d4
 refine S.qa 1 [] [(3, .v (slv 0 q1.1)), (4, .v (slv l.length pl.1))] fun ac w β S => ?_
 have b9 : l.length ≤ 4194304 := LRd.le (S.arg hl)
 refine RG.op rfl (S.appFlat0 (α := Int) o3 (S.arg hl) (fun _ _ h => h) (by' := 8) (d := 5) (lx := 0) (ly := l.length) rfl fun ac w N q5 F6 S up o7 d8 => ?_)
 clear up d8
 refine S.qe 1 [] [(2, .v (slv l.length q5.1))] fun ac w β S => ?_
 exact (nt (wr (S.r [slv l.length q5.1] (ret1_of S (show l = l by clear S; simp) rfl o7))))

theorem c_impl_copyMem (w0 : World) (l : List (List Int)) (pl : LP (List Int)) (hl : RD w0 l pl) : Calls Tryz.prog 68 [slv l.length pl.1].toArray w0 (Ret1 NoB w0 (l : List (List Int))) := by
 refine Calls.walk NoB Tryz.func68 rfl rfl ?_
 intro ac β S
 have hlel : l.length ≤ 4194304 := LRd.le hl
 refine ws (rg ?_)
 refine S.qe 1 [] [] fun ac w β S => ?_
 refine (nt (ws (rg ?_)))
 refine RG.op rfl (S.bs0 (α := List Int) (d := 6) (by kernel_rfl) fun ac w N q1 F2 S up o3 d4 => ?_)
 clear up d4
 refine S.qe 1 [] [(3, .v (slv 0 q1.1))] fun ac w β S => ?_
 refine (nt (ws (ws (rg ?_))))
 refine S.qe 3 [] [(7, .v (slv l.length pl.1)), (8, .v (I (l.length : Int))), (9, .v (I 0))] fun ac w β S => ?_
 refine (nt (wp_block ?_))
 refine wp_loop_down (fun mm ac w => ∃ (k : Nat) (acc : List (List Int)) (q5 : _) (F6 : _) (u : _) (N : _) (β : _), mm = l.length - k ∧ (k ≤ l.length) ∧ (acc = l.take k) ∧ St Tryz.prog Tryz.f68.ntmps w0 NoB u N β ⟨[(3, .v (slv acc.length q5.1)), (7, .v (slv l.length pl.1)), (8, .v (I (l.length : Int))), (9, .v (I (k : Int)))], []⟩ ac w ∧ Ow w0 NoB u N F6 acc q5) _ ⟨0, ([] : List (List Int)), q1, F2, _, _, _, rfl, o0, (by simp), S.z, o3⟩ ?_
 clear S o3
 rintro mm ac w ⟨k, acc, q5, F6, u, N, β, rfl, hk, hacc, S, o7⟩
 have hlacc : acc.length = k := by rw [hacc]; simp; omega
 refine ws (rg ?_)
 refine S.qe 1 [] [(10, .v (B (decide ((k : Int) < (l.length : Int)))))] fun ac w β S => ?_
 refine (nt (ws (S.c (decide ((k : Int) < (l.length : Int))) (fun h8 => ?_) (fun h8 => ?_))))
 ·have g9 := of_decide_eq_true h8
  refine wk (nt (ws (wp_block (ws (rg ?_)))))
  refine S.qg 3 [] [(5, .v (slv (el l k).length (pl.2 k).1))] (.cons (qn (S.arg hl) k Tryz.underlying22) (.cons (qx (S.arg hl) 50 k) .nil)) fun ac w β S => ?_
  refine (nt (rg ?_))
  refine S.qa 2 [] [(13, .v (slv acc.length q5.1)), (14, .v (slv (el l k).length (pl.2 k).1))] fun ac w β S => ?_
  refine RG.op rfl (S.k1 15 (c_impl_copyInts w (el l k) (pl.2 k) (S.rd (LRd.el (S.arg hl) k (by omega)))) fun ac w N q10 F11 S up o12 d13 => ?_)
  have d14 := Disj.w d13 o7.sub
  replace o7 := o7.up up
  clear up d13
  refine RG.op rfl (S.bs1 (α := List Int) (x := (el l k)) (p := q10) o12.own o12.sub o12.young (d := 16) (by kernel_rfl) fun ac w N q15 F16 S up o17 d18 => ?_)
  have d19 := d18 _ d14 o7.sub
  replace o7 := o7.up up
  clear up d18
  refine RG.op rfl (S.appOwn (α := List Int) o7 o17 d19 (by' := 24) (d := 17) (lx := acc.length) (ly := 1) rfl rfl (by kernel_rfl) (show _ ≤ 4194304 by simp only [List.length_append, List.length_cons, List.length_nil]; omega) fun ac w N q20 F21 S up o22 d23 => ?_)
  clear up d23
  refine S.qe 1 [] [(3, .v (slv (acc ++ [(el l k)]).length q20.1))] fun ac w β S => ?_
  refine (nb (nt (rg ?_)))
  refine S.qg 2 [] [(9, .v (I ((k : Int) + 1)))] (.cons (qp (k : Int) 1) .nil) fun ac w β S => ?_
  refine (nt ?_)
  refine ⟨l.length - (k + 1), by omega, k + 1, (acc ++ [(el l k)]), q20, F21, _, _, _, rfl, ?_, ?_, S.z, o22⟩
  ·exact oz
  ·clear S; (first | (rw [take_el (by omega), hacc]; done) | (rw [take_el (by omega), hacc]; simp; done))
 have g24 := of_decide_eq_false h8
 refine wp_exit (ex_then (ex_then (ex_hit (nt (ws (rg ?_))))))
 refine S.qe 2 [] [(2, .v (slv acc.length q5.1))] fun ac w β S => ?_
 exact (nt (wr (S.r [slv acc.length q5.1] (ret1_of S (show l = acc by clear S; (rw [hacc, take_all (by omega)])) rfl o7))))

theorem c_impl_copyProg (w0 : World) (l : List TIns) (pl : LP TIns) (hl : RD w0 l pl) : Calls Tryz.prog 158 [slv l.length pl.1].toArray w0 (Ret1 NoB w0 (l : List TIns)) := by
 refine Calls.walk NoB Tryz.func158 rfl rfl ?_
 intro ac β S
 have hlel : l.length ≤ 4194304 := LRd.le hl
 refine ws (rg ?_)
 refine S.qe 1 [] [] fun ac w β S => ?_
 refine (nt (ws (rg ?_)))
 refine RG.op rfl (S.bs0 (α := TIns) (d := 3) (by kernel_rfl) fun ac w N q1 F2 S up o3 d4 => ?_)
 clear up d4
 refine S.qa 1 [] [(3, .v (slv 0 q1.1)), (4, .v (slv l.length pl.1))] fun ac w β S => ?_
 have b9 : l.length ≤ 4194304 := LRd.le (S.arg hl)
 refine RG.op rfl (S.appFlat0 (α := TIns) o3 (S.arg hl) (fun _ _ h => h) (by' := 16) (d := 5) (lx := 0) (ly := l.length) rfl fun ac w N q5 F6 S up o7 d8 => ?_)
 clear up d8
 refine S.qe 1 [] [(2, .v (slv l.length q5.1))] fun ac w β S => ?_
 exact (nt (wr (S.r [slv l.length q5.1] (ret1_of S (show l = l by clear S; simp) rfl o7))))

theorem c_impl_copyTable (w0 : World) (l : List TSlot) (pl : LP TSlot) (hl : RD w0 l pl) : Calls Tryz.prog 118 [slv l.length pl.1].toArray w0 (Ret1 NoB w0 (l : List TSlot)) := by
 refine Calls.walk NoB Tryz.func118 rfl rfl ?_
 intro ac β S
 have hlel : l.length ≤ 4194304 := LRd.le hl
 refine ws (rg ?_)
 refine S.qe 1 [] [] fun ac w β S => ?_
 refine (nt (ws (rg ?_)))
 refine RG.op rfl (S.bs0 (α := TSlot) (d := 3) (by kernel_rfl) fun ac w N q1 F2 S up o3 d4 => ?_)
 clear up d4
 refine S.qa 1 [] [(3, .v (slv 0 q1.1)), (4, .v (slv l.length pl.1))] fun ac w β S => ?_
 have b9 : l.length ≤ 4194304 := LRd.le (S.arg hl)
 refine RG.op rfl (S.appFlat0 (α := TSlot) o3 (S.arg hl) (fun _ _ h => h) (by' := 16) (d := 5) (lx := 0) (ly := l.length) rfl fun ac w N q5 F6 S up o7 d8 => ?_)
 clear up d8
 refine S.qe 1 [] [(2, .v (slv l.length q5.1))] fun ac w β S => ?_
 exact (nt (wr (S.r [slv l.length q5.1] (ret1_of S (show l = l by clear S; simp) rfl o7))))

theorem c_impl_copyGuest (w0 : World) (g : TGuest) (pg : PGuest) (hg : RD w0 g pg) : Calls Tryz.prog 139 [GT.val g pg].toArray w0 (Ret1 NoB w0 (g : TGuest)) := by
 refine Calls.walk NoB Tryz.func139 rfl rfl ?_
 intro ac β S
 have hleg_prog : g.prog.length ≤ 4194304 := LRd.le (RGuest.prog (d := g) hg)
 have hleg_written : g.written.length ≤ 4194304 := LRd.le (RGuest.written (d := g) hg)
 have hleg_live : g.live.length ≤ 4194304 := LRd.le (RGuest.live (d := g) hg)
 have hleg_seen : g.seen.length ≤ 4194304 := LRd.le (RGuest.seen (d := g) hg)
 refine ws (rg ?_)
 refine S.qem 2 [] [(1, .p 0 0), (2, .p 1 0)] 2 [(0, GT.cells g pg), (1, Zc TGuest)] fun ac w β S => ?_
 refine (nt (ws (rg ?_)))
 refine S.qa 2 [] [(4, .v (slv g.prog.length pg.prog.1))] fun ac w β S => ?_
 refine RG.op rfl (S.k1 5 (c_impl_copyProg w g.prog pg.prog (S.rd (RGuest.prog (d := g) (S.arg hg)))) fun ac w N q1 F2 S up o3 d4 => ?_)
 clear up d4
 refine S.qem 2 [] [] 2 [(0, [slv g.prog.length q1.1, I g.acc, I g.pc, slv g.written.length pg.written.1, slv g.live.length pg.live.1, I g.ctl.traps, I g.ctl.post, B g.ctl.opn, I g.pend, I g.exit.kind, I g.exit.page, B g.exit.wr, I g.exit.n, B g.halted, slv g.seen.length pg.seen.1])] fun ac w β S => ?_
 refine (nt (ws (rg ?_)))
 refine S.qa 2 [] [(8, .v (slv g.written.length pg.written.1))] fun ac w β S => ?_
 refine RG.op rfl (S.k1 9 (c_impl_copyTable w g.written pg.written (S.rd (RGuest.written (d := g) (S.arg hg)))) fun ac w N q5 F6 S up o7 d8 => ?_)
 have d9 := Disj.w d8 o3.sub
 replace o3 := o3.up up
 clear up d8
 refine S.qem 2 [] [] 2 [(0, [slv g.prog.length q1.1, I g.acc, I g.pc, slv g.written.length q5.1, slv g.live.length pg.live.1, I g.ctl.traps, I g.ctl.post, B g.ctl.opn, I g.pend, I g.exit.kind, I g.exit.page, B g.exit.wr, I g.exit.n, B g.halted, slv g.seen.length pg.seen.1])] fun ac w β S => ?_
 refine (nt (ws (rg ?_)))
 refine S.qa 2 [] [(12, .v (slv g.live.length pg.live.1))] fun ac w β S => ?_
 refine RG.op rfl (S.k1 13 (c_impl_copyTable w g.live pg.live (S.rd (RGuest.live (d := g) (S.arg hg)))) fun ac w N q10 F11 S up o12 d13 => ?_)
 have d14 := Disj.w d13 o3.sub
 have d15 := Disj.w d13 o7.sub
 replace o3 := o3.up up
 replace o7 := o7.up up
 clear up d13
 refine S.qem 2 [] [] 2 [(0, [slv g.prog.length q1.1, I g.acc, I g.pc, slv g.written.length q5.1, slv g.live.length q10.1, I g.ctl.traps, I g.ctl.post, B g.ctl.opn, I g.pend, I g.exit.kind, I g.exit.page, B g.exit.wr, I g.exit.n, B g.halted, slv g.seen.length pg.seen.1])] fun ac w β S => ?_
 refine (nt (ws (rg ?_)))
 refine S.qa 2 [] [(16, .v (slv g.seen.length pg.seen.1))] fun ac w β S => ?_
 refine RG.op rfl (S.k1 17 (c_impl_copyInts w g.seen pg.seen (S.rd (RGuest.seen (d := g) (S.arg hg)))) fun ac w N q16 F17 S up o18 d19 => ?_)
 have d20 := Disj.w d19 o3.sub
 have d21 := Disj.w d19 o7.sub
 have d22 := Disj.w d19 o12.sub
 replace o3 := o3.up up
 replace o7 := o7.up up
 replace o12 := o12.up up
 clear up d19
 refine S.qem 2 [] [] 2 [(0, [slv g.prog.length q1.1, I g.acc, I g.pc, slv g.written.length q5.1, slv g.live.length q10.1, I g.ctl.traps, I g.ctl.post, B g.ctl.opn, I g.pend, I g.exit.kind, I g.exit.page, B g.exit.wr, I g.exit.n, B g.halted, slv g.seen.length q16.1])] fun ac w β S => ?_
 refine (nt (ws (rg ?_)))
 refine S.qem 2 [] [] 2 [(1, [slv g.prog.length q1.1, I g.acc, I g.pc, slv g.written.length q5.1, slv g.live.length q10.1, I g.ctl.traps, I g.ctl.post, B g.ctl.opn, I g.pend, I g.exit.kind, I g.exit.page, B g.exit.wr, I g.exit.n, B g.halted, slv g.seen.length q16.1])] fun ac w β S => ?_
 refine (nt (wr (S.r [GT.val (⟨g.prog, g.acc, g.pc, g.written, g.live, g.ctl, g.pend, g.exit, g.halted, g.seen⟩ : TGuest) (⟨q1, q5, q10, q16⟩ : PGuest)] ?_)))
 have o23 := ow_Guest (x := (⟨g.prog, g.acc, g.pc, g.written, g.live, g.ctl, g.pend, g.exit, g.halted, g.seen⟩ : TGuest)) (p := (⟨q1, q5, q10, q16⟩ : PGuest)) o3 o7 o12 o18 d9 d14 d20 d15 d21 d22 (RGuest.acc (d := g) (S.arg hg)) (RGuest.pc (d := g) (S.arg hg)) (RGuest.ctl (d := g) (S.arg hg)) (RGuest.pend (d := g) (S.arg hg)) (RGuest.exit (d := g) (S.arg hg))
 exact ret1_of S (show g = (⟨g.prog, g.acc, g.pc, g.written, g.live, g.ctl, g.pend, g.exit, g.halted, g.seen⟩ : TGuest) by clear S; (first | rfl | simp)) rfl o23

theorem c_impl_copyGuests (w0 : World) (l : List TGuest) (pl : LP TGuest) (hl : RD w0 l pl) : Calls Tryz.prog 99 [slv l.length pl.1].toArray w0 (Ret1 NoB w0 (l : List TGuest)) := by
 refine Calls.walk NoB Tryz.func99 rfl rfl ?_
 intro ac β S
 have hlel : l.length ≤ 4194304 := LRd.le hl
 refine ws (rg ?_)
 refine S.qe 1 [] [] fun ac w β S => ?_
 refine (nt (ws (rg ?_)))
 refine RG.op rfl (S.bs0 (α := TGuest) (d := 6) (by kernel_rfl) fun ac w N q1 F2 S up o3 d4 => ?_)
 clear up d4
 refine S.qe 1 [] [(3, .v (slv 0 q1.1))] fun ac w β S => ?_
 refine (nt (ws (ws (rg ?_))))
 refine S.qe 3 [] [(7, .v (slv l.length pl.1)), (8, .v (I (l.length : Int))), (9, .v (I 0))] fun ac w β S => ?_
 refine (nt (wp_block ?_))
 refine wp_loop_down (fun mm ac w => ∃ (k : Nat) (acc : List TGuest) (q5 : _) (F6 : _) (u : _) (N : _) (β : _), mm = l.length - k ∧ (k ≤ l.length) ∧ (acc = l.take k) ∧ St Tryz.prog Tryz.f99.ntmps w0 NoB u N β ⟨[(3, .v (slv acc.length q5.1)), (7, .v (slv l.length pl.1)), (8, .v (I (l.length : Int))), (9, .v (I (k : Int)))], []⟩ ac w ∧ Ow w0 NoB u N F6 acc q5) _ ⟨0, ([] : List TGuest), q1, F2, _, _, _, rfl, o0, (by simp), S.z, o3⟩ ?_
 clear S o3
 rintro mm ac w ⟨k, acc, q5, F6, u, N, β, rfl, hk, hacc, S, o7⟩
 have hlacc : acc.length = k := by rw [hacc]; simp; omega
 refine ws (rg ?_)
 refine S.qe 1 [] [(10, .v (B (decide ((k : Int) < (l.length : Int)))))] fun ac w β S => ?_
 refine (nt (ws (S.c (decide ((k : Int) < (l.length : Int))) (fun h8 => ?_) (fun h8 => ?_))))
 ·have g9 := of_decide_eq_true h8
  refine wk (nt (ws (wp_block (ws (rg ?_)))))
  refine S.qgm 4 [] [(5, .p 0 0)] (.cons (qn (S.arg hl) k Tryz.underlying49) (.cons (qs (S.arg hl) 99 k) .nil)) 1 [(0, GT.cells (el l k) (pl.2 k))] fun ac w β S => ?_
  refine (nt (rg ?_))
  refine S.qam 2 [] [(13, .v (slv acc.length q5.1)), (14, .v (GT.val (el l k) (pl.2 k)))] 0 [] fun ac w β S => ?_
  refine RG.op rfl (S.k1 15 (c_impl_copyGuest w (el l k) (pl.2 k) (S.rd (LRd.el (S.arg hl) k (by omega)))) fun ac w N q10 F11 S up o12 d13 => ?_)
  have d14 := Disj.w d13 o7.sub
  replace o7 := o7.up up
  clear up d13
  have i18 : In64 (el l k).acc := RGuest.acc (d := (el l k)) o12.rn
  have i19 : In64 (el l k).pc := RGuest.pc (d := (el l k)) o12.rn
  have i26 : RCtl (el l k).ctl := RGuest.ctl (d := (el l k)) o12.rn
  have i27 : In64 (el l k).pend := RGuest.pend (d := (el l k)) o12.rn
  have i28 : RExit (el l k).exit := RGuest.exit (d := (el l k)) o12.rn
  obtain ⟨F15, F20, F23, F29, o16, o21, o24, o30, s17, s22, s25, s31, d32, d33, d34, d35, d36, d37⟩ := sp_Guest o12
  have o42 := ow_Guest (x := (el l k)) (p := q10) o16 o21 o24 o30 d32 d33 d34 d35 d36 d37 i18 i19 i26 i27 i28
  refine RG.op rfl (S.bs1 (α := TGuest) (x := (el l k)) (p := q10) o42.own o42.sub o42.young (d := 16) (by kernel_rfl) fun ac w N q38 F39 S up o40 d41 => ?_)
  have d43 := d41 _ (Disj.symm (Disj.or (Disj.part (Disj.symm d14) s17) (Disj.or (Disj.part (Disj.symm d14) s22) (Disj.or (Disj.part (Disj.symm d14) s25) (Disj.or (Disj.part (Disj.symm d14) s31) Disj.nob))))) o7.sub
  replace o7 := o7.up up
  clear up d41
  refine RG.op rfl (S.appOwn (α := TGuest) o7 o40 d43 (by' := 184) (d := 17) (lx := acc.length) (ly := 1) rfl rfl (by kernel_rfl) (show _ ≤ 4194304 by simp only [List.length_append, List.length_cons, List.length_nil]; omega) fun ac w N q44 F45 S up o46 d47 => ?_)
  clear up d47
  refine S.qe 1 [] [(3, .v (slv (acc ++ [(el l k)]).length q44.1))] fun ac w β S => ?_
  refine (nb (nt (rg ?_)))
  refine S.qg 2 [] [(9, .v (I ((k : Int) + 1)))] (.cons (qp (k : Int) 1) .nil) fun ac w β S => ?_
  refine (nt ?_)
  refine ⟨l.length - (k + 1), by omega, k + 1, (acc ++ [(el l k)]), q44, F45, _, _, _, rfl, ?_, ?_, S.z, o46⟩
  ·exact oz
  ·clear S; (first | (rw [take_el (by omega), hacc]; done) | (rw [take_el (by omega), hacc]; simp; done))
 have g48 := of_decide_eq_false h8
 refine wp_exit (ex_then (ex_then (ex_hit (nt (ws (rg ?_))))))
 refine S.qe 2 [] [(2, .v (slv acc.length q5.1))] fun ac w β S => ?_
 exact (nt (wr (S.r [slv acc.length q5.1] (ret1_of S (show l = acc by clear S; (rw [hacc, take_all (by omega)])) rfl o7))))

theorem c_impl_copyBare (w0 : World) (b : TBare) (pb : PBare) (hb : RD w0 b pb) : Calls Tryz.prog 100 [GT.val b pb].toArray w0 (Ret1 NoB w0 (b : TBare)) := by
 refine Calls.walk NoB Tryz.func100 rfl rfl ?_
 intro ac β S
 have hleb_mem : b.mem.length ≤ 4194304 := LRd.le (RBare.mem (d := b) hb)
 have hleb_guests : b.guests.length ≤ 4194304 := LRd.le (RBare.guests (d := b) hb)
 have hleb_outs : b.outs.length ≤ 4194304 := LRd.le (RBare.outs (d := b) hb)
 refine ws (rg ?_)
 refine S.qem 2 [] [(1, .p 0 0), (2, .p 1 0)] 2 [(0, GT.cells b pb), (1, Zc TBare)] fun ac w β S => ?_
 refine (nt (ws ?_))
 refine S.draw0 (f := 13) 12 rfl rfl fun w S => ?_
 refine S.hq 0 [0] [] [(3, .p 0 0)] .nil fun ac S => ?_
 refine S.hq 1 [1] [] [(4, .v (slv b.mem.length pb.mem.1))] .nil fun ac S => ?_
 refine S.hq 3 [3] [] [(6, .p 0 1)] .nil fun ac S => ?_
 refine S.hq 4 [4] [] [(7, .v (slv b.guests.length pb.guests.1))] .nil fun ac S => ?_
 refine S.hq 6 [6] [] [(9, .p 0 2)] .nil fun ac S => ?_
 refine S.hq 7 [7] [] [(10, .v (slv b.outs.length pb.outs.1))] .nil fun ac S => ?_
 refine S.hq 9 [9] [] [(12, .p 0 3)] .nil fun ac S => ?_
 refine S.hq 10 [10] [] [(13, .v (I b.pend))] .nil fun ac S => ?_
 refine WD.one (i := 2) (by kernel_rfl) ?_
 refine id (S.k1 5 (c_impl_copyMem w b.mem pb.mem (S.rd (RBare.mem (d := b) (S.arg hb)))) fun ac w N q1 F2 S up o3 d4 => ?_)
 refine WD.next S up (by kernel_rfl) ?_
 clear up d4
 refine WD.one (i := 5) (by kernel_rfl) ?_
 refine id (S.k1 8 (c_impl_copyGuests w b.guests pb.guests (S.rd (RBare.guests (d := b) (S.arg hb)))) fun ac w N q5 F6 S up o7 d8 => ?_)
 refine WD.next S up (by kernel_rfl) ?_
 have d9 := Disj.w d8 o3.sub
 replace o3 := o3.up up
 clear up d8
 refine WD.one (i := 8) (by kernel_rfl) ?_
 refine id (S.k1 11 (c_impl_copyInts w b.outs pb.outs (S.rd (RBare.outs (d := b) (S.arg hb)))) fun ac w N q10 F11 S up o12 d13 => ?_)
 refine WD.next S up (by kernel_rfl) ?_
 have d14 := Disj.w d13 o3.sub
 have d15 := Disj.w d13 o7.sub
 replace o3 := o3.up up
 replace o7 := o7.up up
 clear up d13
 refine S.hq 11 [11] [] [(14, .v (GT.val (⟨b.mem, b.guests, b.outs, b.pend⟩ : TBare) (⟨q1, q5, q10⟩ : PBare)))] (.cons (Q_sem (s := Instr.build 77 [(0, slv b.mem.length q1.1), (1, slv b.guests.length q5.1), (2, slv b.outs.length q10.1), (3, I b.pend)].toArray) (v := .agg [slv b.mem.length q1.1, slv b.guests.length q5.1, slv b.outs.length q10.1, I b.pend].toArray) (fun w => by kernel_rfl)) .nil) fun ac S => ?_
 refine WD.one (i := 12) (by kernel_rfl) ?_
 refine S.stepq (i := 12) (keep := [2]) (m := 2) (σ' := ⟨[(2, .p 1 0)], [GT.cells b pb, [slv b.mem.length q1.1, slv b.guests.length q5.1, slv b.outs.length q10.1, I b.pend]]⟩) .nil (by kernel_rfl) fun ac w β S hβ => ?_
 refine WD.last (by kernel_rfl) ?_
 clear hβ
 refine WD.done (by kernel_rfl) ?_ _
 refine id (nt (wr (S.r [GT.val (⟨b.mem, b.guests, b.outs, b.pend⟩ : TBare) (⟨q1, q5, q10⟩ : PBare)] ?_)))
 have o16 := ow_Bare (x := (⟨b.mem, b.guests, b.outs, b.pend⟩ : TBare)) (p := (⟨q1, q5, q10⟩ : PBare)) o3 o7 o12 d9 d14 d15 (RBare.pend (d := b) (S.arg hb))
 exact ret1_of S (show b = (⟨b.mem, b.guests, b.outs, b.pend⟩ : TBare) by clear S; (first | rfl | simp)) rfl o16

theorem k0_impl_within {p : Prop} (h : p := by clear S; first | rfl | (simp [f_within, *]; done) | (simp [f_within, *]; omega) | (simp_all [f_within]; done) | (simp_all [f_within]; omega)) : p := h
theorem c_impl_within (w0 : World) (n : Int) (a : Int) (b : Int) : Calls Tryz.prog 51 [I n, I a, I b].toArray w0 (fun e w' => e = .returned (B (f_within n a b)) ∧ Chg NoB w0 w') := by
 refine Calls.walk NoB Tryz.func51 rfl rfl ?_
 intro ac β S
 refine ws (rg ?_)
 refine S.qe 1 [] [] fun ac w β S => ?_
 refine (nt (ws (rg ?_)))
 refine S.qa 4 [] [(10, .v (B (decide (n ≥ a))))] fun ac w β S => ?_
 rcases Bool.eq_false_or_eq_true (decide (n ≥ a)) with h1 | h1 <;> rw [h1] at S
 ·have g2 := of_decide_eq_true h1
  refine S.qe 5 [10] [(6, .v (B (decide (n ≤ b))))] fun ac w β S => ?_
  exact (nt (wr (S.r [B (decide (n ≤ b))] ⟨retB k0_impl_within, S.chg⟩)))
 ·have g3 := of_decide_eq_false h1
  refine S.qe 5 [10] [(6, .v (B false))] fun ac w β S => ?_
  exact (nt (wr (S.r [B false] ⟨retB k0_impl_within, S.chg⟩)))

theorem k0_impl_InsOk {p : Prop} (h : p := by clear S; first | rfl | (simp [f_insOk, *]; done) | (simp [f_insOk, *]; omega) | (simp_all [f_insOk]; done) | (simp_all [f_insOk]; omega)) : p := h
theorem c_impl_InsOk (w0 : World) (i : TIns) : Calls Tryz.prog 175 [GT.val i ()].toArray w0 (fun e w' => e = .returned (B (f_insOk i)) ∧ Chg NoB w0 w') := by
 refine Calls.walk NoB Tryz.func175 rfl rfl ?_
 intro ac β S
 refine ws (rg ?_)
 refine S.qem 2 [] [(1, .p 0 0)] 1 [(0, GT.cells i ())] fun ac w β S => ?_
 refine (nt (ws (ws (rg ?_))))
 refine S.qe 2 [] [(4, .v (I i.opc))] fun ac w β S => ?_
 refine (nt (wp_block (ws (ws (rg ?_)))))
 refine S.qe 2 [] [(5, .v (B (i.opc == 1)))] fun ac w β S => ?_
 refine (nt (S.c (i.opc == 1) (fun h1 => ?_) (fun h1 => ?_)))
 ·rw [h1] at S
  have g2 : i.opc = 1 := eq_of_beq h1
  refine wk (nt (S.c true (fun _ => ?_) (fun hx => by cases hx)))
  refine ws (rg ?_)
  refine S.qg 4 [5] [(2, .v (B (f_within i.x 0 99)))] (.cons (Q_call fun w hw => c_impl_within w i.x 0 99) .nil) fun ac w β S => ?_
  exact (nt (wr (rb (rt (S.r [B (f_within i.x 0 99)] ⟨retB k0_impl_InsOk, S.chg⟩)))))
 have g3 : ¬ (i.opc = 1) := ne_of_beq_false h1
 refine ws (rg ?_)
 refine S.qe 2 [] [(5, .v (B (i.opc == 2)))] fun ac w β S => ?_
 refine (nt (S.c (i.opc == 2) (fun h4 => ?_) (fun h4 => ?_)))
 ·rw [h4] at S
  have g5 : i.opc = 2 := eq_of_beq h4
  refine wk (nt (S.c true (fun _ => ?_) (fun hx => by cases hx)))
  refine ws (rg ?_)
  refine S.qg 4 [5] [(2, .v (B (f_within i.x 0 99)))] (.cons (Q_call fun w hw => c_impl_within w i.x 0 99) .nil) fun ac w β S => ?_
  exact (nt (wr (rb (rt (S.r [B (f_within i.x 0 99)] ⟨retB k0_impl_InsOk, S.chg⟩)))))
 have g6 : ¬ (i.opc = 2) := ne_of_beq_false h4
 refine ws (rg ?_)
 refine S.qe 2 [] [(5, .v (B (i.opc == 5)))] fun ac w β S => ?_
 refine (nt (S.c (i.opc == 5) (fun h7 => ?_) (fun h7 => ?_)))
 ·rw [h7] at S
  have g8 : i.opc = 5 := eq_of_beq h7
  refine wk (nt (S.c true (fun _ => ?_) (fun hx => by cases hx)))
  refine ws (rg ?_)
  refine S.qg 4 [5] [(2, .v (B (f_within i.x 0 99)))] (.cons (Q_call fun w hw => c_impl_within w i.x 0 99) .nil) fun ac w β S => ?_
  exact (nt (wr (rb (rt (S.r [B (f_within i.x 0 99)] ⟨retB k0_impl_InsOk, S.chg⟩)))))
 have g9 : ¬ (i.opc = 5) := ne_of_beq_false h7
 refine rg ?_
 refine S.qe 2 [] [(5, .v (B (i.opc == 6)))] fun ac w β S => ?_
 refine (nt (S.c (i.opc == 6) (fun h10 => ?_) (fun h10 => ?_)))
 ·have g11 : i.opc = 6 := eq_of_beq h10
  refine ws (rg ?_)
  refine S.qg 4 [] [(2, .v (B (f_within i.x 0 99)))] (.cons (Q_call fun w hw => c_impl_within w i.x 0 99) .nil) fun ac w β S => ?_
  exact (nt (wr (rb (rt (S.r [B (f_within i.x 0 99)] ⟨retB k0_impl_InsOk, S.chg⟩)))))
 have g12 : ¬ (i.opc = 6) := ne_of_beq_false h10
 refine ws (ws (rg ?_))
 refine S.qe 2 [] [(13, .v (B (i.opc == 3)))] fun ac w β S => ?_
 refine (nt (S.c (i.opc == 3) (fun h13 => ?_) (fun h13 => ?_)))
 ·rw [h13] at S
  have g14 : i.opc = 3 := eq_of_beq h13
  refine wk (nt (S.c true (fun _ => ?_) (fun hx => by cases hx)))
  refine ws (rg ?_)
  refine S.qg 4 [13] [(2, .v (B (f_within i.x 0 15)))] (.cons (Q_call fun w hw => c_impl_within w i.x 0 15) .nil) fun ac w β S => ?_
  exact (nt (wr (rb (rt (S.r [B (f_within i.x 0 15)] ⟨retB k0_impl_InsOk, S.chg⟩)))))
 have g15 : ¬ (i.opc = 3) := ne_of_beq_false h13
 refine rg ?_
 refine S.qe 2 [] [(13, .v (B (i.opc == 4)))] fun ac w β S => ?_
 refine (nt (S.c (i.opc == 4) (fun h16 => ?_) (fun h16 => ?_)))
 ·have g17 : i.opc = 4 := eq_of_beq h16
  refine ws (rg ?_)
  refine S.qg 4 [] [(2, .v (B (f_within i.x 0 15)))] (.cons (Q_call fun w hw => c_impl_within w i.x 0 15) .nil) fun ac w β S => ?_
  exact (nt (wr (rb (rt (S.r [B (f_within i.x 0 15)] ⟨retB k0_impl_InsOk, S.chg⟩)))))
 have g18 : ¬ (i.opc = 4) := ne_of_beq_false h16
 refine ws (rg ?_)
 refine S.qe 2 [] [(19, .v (B (i.opc == 7)))] fun ac w β S => ?_
 refine (nt (S.c (i.opc == 7) (fun h19 => ?_) (fun h19 => ?_)))
 ·have g20 : i.opc = 7 := eq_of_beq h19
  refine ws (rg ?_)
  refine S.qe 4 [] [(2, .v (B (i.x == 0)))] fun ac w β S => ?_
  exact (nt (wr (rb (rt (S.r [B (i.x == 0)] ⟨retB k0_impl_InsOk, S.chg⟩)))))
 have g21 : ¬ (i.opc = 7) := ne_of_beq_false h19
 refine ws (rg ?_)
 refine S.qe 2 [] [(24, .v (B (i.opc == 8)))] fun ac w β S => ?_
 refine (nt (S.c (i.opc == 8) (fun h22 => ?_) (fun h22 => ?_)))
 ·have g23 : i.opc = 8 := eq_of_beq h22
  refine ws (rg ?_)
  refine S.qg 4 [] [(2, .v (B (f_within i.x 0 11)))] (.cons (Q_call fun w hw => c_impl_within w i.x 0 11) .nil) fun ac w β S => ?_
  exact (nt (wr (rb (rt (S.r [B (f_within i.x 0 11)] ⟨retB k0_impl_InsOk, S.chg⟩)))))
 have g24 : ¬ (i.opc = 8) := ne_of_beq_false h22
 refine wk (nb (nt (ws (rg ?_))))
 refine S.qe 1 [] [(2, .v (B false))] fun ac w β S => ?_
 exact (nt (wr (S.r [B false] ⟨retB k0_impl_InsOk, S.chg⟩)))

theorem c_impl_ProgOk (w0 : World) (p : List TIns) (pp : LP TIns) (hp : RD w0 p pp) : Calls Tryz.prog 159 [slv p.length pp.1].toArray w0 (fun e w' => e = .returned (B (f_progOk p)) ∧ Chg NoB w0 w') := by
 refine Calls.walk NoB Tryz.func159 rfl rfl ?_
 intro ac β S
 have hlep : p.length ≤ 4194304 := LRd.le hp
 refine ws (rg ?_)
 refine S.qe 1 [] [] fun ac w β S => ?_
 refine (nt (ws (ws (rg ?_))))
 refine S.qe 3 [] [(5, .v (slv p.length pp.1)), (6, .v (I (p.length : Int))), (7, .v (I 0))] fun ac w β S => ?_
 refine (nt (wp_block ?_))
 refine wp_loop_down (fun mm ac w => ∃ (k : Nat)  (u : _) (N : _) (β : _), mm = p.length - k ∧ (k ≤ p.length) ∧ ((p.take k).all f_insOk = true) ∧ St Tryz.prog Tryz.f159.ntmps w0 NoB u N β ⟨[(0, .v (slv p.length pp.1)), (5, .v (slv p.length pp.1)), (6, .v (I (p.length : Int))), (7, .v (I (k : Int)))], []⟩ ac w) _ ⟨0, _, _, _, rfl, o0, (by simp), S.z⟩ ?_
 clear S
 rintro mm ac w ⟨k, u, N, β, rfl, hk, he, S⟩
 refine ws (rg ?_)
 refine S.qe 1 [] [(8, .v (B (decide ((k : Int) < (p.length : Int)))))] fun ac w β S => ?_
 refine (nt (ws (S.c (decide ((k : Int) < (p.length : Int))) (fun h1 => ?_) (fun h1 => ?_))))
 ·have g2 := of_decide_eq_true h1
  refine wk (nt (ws (wp_block (ws (rg ?_)))))
  refine S.qgm 4 [] [(4, .p 0 0)] (.cons (qn (S.arg hp) k Tryz.underlying93) (.cons (qs (S.arg hp) 173 k) .nil)) 1 [(0, GT.cells (el p k) ())] fun ac w β S => ?_
  refine (nt (ws (rg ?_)))
  refine S.qgm 3 [] [(13, .v (B (!(f_insOk (el p k)))))] (.cons (Q_call fun w hw => c_impl_InsOk w (el p k)) .nil) 0 [] fun ac w β S => ?_
  refine (nt (S.c (!(f_insOk (el p k))) (fun h3 => ?_) (fun h3 => ?_)))
  ·have h4 := not_t h3
   refine ws (rg ?_)
   refine S.qe 1 [] [(2, .v (B false))] fun ac w β S => ?_
   exact (nt (wr (rb (rt (rt (rb (rt (S.r [B false] ⟨retB (by clear S; (first | (unfold f_progOk; rw [all_bad (k := k) (by omega) (by first | assumption | simp_all)]; simp; done) | (unfold f_progOk; rw [all_end (by omega) he]; simp; done) | (unfold f_progOk; rw [all_end (by omega) he]; simp [*]; done) | (unfold f_progOk; rw [all_end (by omega) he]; simp; omega))), S.chg⟩))))))))
  have h5 := not_f h3
  refine wk (nb (nt (rg ?_)))
  refine S.qg 2 [] [(7, .v (I ((k : Int) + 1)))] (.cons (qp (k : Int) 1) .nil) fun ac w β S => ?_
  refine (nt ?_)
  refine ⟨p.length - (k + 1), by omega, k + 1, _, _, _, rfl, ?_, ?_, S.z⟩
  ·exact oz
  ·clear S; exact all_step (by omega) he (by first | assumption | (simp only [f_slotOk, f_within] at *; simp_all; done) | (simp_all; done) | (simp_all; omega))
 have g6 := of_decide_eq_false h1
 refine wp_exit (ex_then (ex_then (ex_hit (nt (ws (rg ?_))))))
 refine S.qg 4 [] [(2, .v (B (f_within (p.length : Int) 1 12)))] (.cons (Q_call fun w hw => c_impl_within w (p.length : Int) 1 12) .nil) fun ac w β S => ?_
 exact (nt (wr (S.r [B (f_within (p.length : Int) 1 12)] ⟨retB (by clear S; (first | (unfold f_progOk; rw [all_end (by omega) he]; simp; done) | (unfold f_progOk; rw [all_end (by omega) he]; simp [*]; done) | (unfold f_progOk; rw [all_end (by omega) he]; simp; omega) | (unfold f_progOk; rw [all_bad (k := k) (by omega) (by first | assumption | simp_all)]; simp; done))), S.chg⟩)))

theorem c_impl_NoSlot (w0 : World)  : Calls Tryz.prog 89 [].toArray w0 (fun e w' => e = .returned (GT.val (⟨-1, 0⟩ : TSlot) ()) ∧ Chg NoB w0 w') := by
 refine Calls.walk NoB Tryz.func89 rfl rfl ?_
 intro ac β S
 refine ws (rg ?_)
 refine S.qem 1 [] [(0, .p 0 0)] 1 [(0, Zc TSlot)] fun ac w β S => ?_
 refine (nt (ws (rg ?_)))
 refine S.qgm 2 [] [] (.cons (Q_sem (s := Instr.build 55 [(0, I (-1))].toArray) (v := .agg [I (-1), I 0].toArray) (fun w => by kernel_rfl)) .nil) 1 [(0, [I (-1), I 0])] fun ac w β S => ?_
 exact (nt (wr (S.r [GT.val (⟨(-1), 0⟩ : TSlot) ()] ⟨retV (p := ()) (by clear S; first | rfl | (simp [id, *]; done) | (simp [id, *]; omega) | (simp_all [id]; done) | (simp_all [id]; omega)), S.chg⟩)))

theorem k0_impl_SlotOk {p : Prop} (h : p := by clear S; first | rfl | (simp [f_slotOk, *]; done) | (simp [f_slotOk, *]; omega) | (simp_all [f_slotOk]; done) | (simp_all [f_slotOk]; omega)) : p := h
theorem c_impl_SlotOk (w0 : World) (s : TSlot) (pages : Int) (pre0 : 0 ≤ pages) (pre1 : pages ≤ 1000) : Calls Tryz.prog 171 [GT.val s (), I pages].toArray w0 (fun e w' => e = .returned (B (f_slotOk s pages)) ∧ Chg NoB w0 w') := by
 refine Calls.walk NoB Tryz.func171 rfl rfl ?_
 intro ac β S
 refine ws (rg ?_)
 refine S.qem 2 [] [(2, .p 0 0)] 1 [(0, GT.cells s ())] fun ac w β S => ?_
 refine (nt (ws ?_))
 rcases Bool.eq_false_or_eq_true (decide (s = (⟨-1, 0⟩ : TSlot))) with h1 | h1
 ·refine S.drawnO [(3, true)] (keep := [4]) (m := 0) (σ' := ⟨[(4, .v (B true))], []⟩) (.cons (Q_call fun w hw => c_impl_NoSlot w ) (.cons (Eq_eq_Slot (t := 55) s (⟨-1, 0⟩ : TSlot) (by kernel_rfl)) .nil)) rfl (by kernel_rfl) (by kernel_rfl) (.cons h1 .nil) fun ac w S => ?_
  exact id (nt (wr (S.r [B true] ⟨retB k0_impl_SlotOk, S.chg⟩)))
 ·rcases Bool.eq_false_or_eq_true (decide (pages > 0)) with h2 | h2
  ·have g3 := of_decide_eq_true h2
   rcases Bool.eq_false_or_eq_true (f_within s.page 0 (pages - 1)) with h4 | h4
   ·have g5 := within_t h4
    refine S.drawnO [(3, false), (6, true), (13, true)] (keep := [4]) (m := 0) (σ' := ⟨[(4, .v (B (f_within s.rights 1 3)))], []⟩) (.cons (Q_call fun w hw => c_impl_NoSlot w ) (.cons (Eq_eq_Slot (t := 55) s (⟨-1, 0⟩ : TSlot) (by kernel_rfl)) (.cons (qm pages 1) (.cons (Q_call fun w hw => c_impl_within w s.page 0 (pages - 1)) (.cons (Q_call fun w hw => c_impl_within w s.rights 1 3) .nil))))) rfl (by kernel_rfl) (by kernel_rfl) (.cons h1 (.cons h2 (.cons h4 .nil))) fun ac w S => ?_
    exact id (nt (wr (S.r [B (f_within s.rights 1 3)] ⟨retB k0_impl_SlotOk, S.chg⟩)))
   ·have g6 := within_f h4
    refine S.drawnO [(3, false), (6, true), (13, false)] (keep := [4]) (m := 0) (σ' := ⟨[(4, .v (B false))], []⟩) (.cons (Q_call fun w hw => c_impl_NoSlot w ) (.cons (Eq_eq_Slot (t := 55) s (⟨-1, 0⟩ : TSlot) (by kernel_rfl)) (.cons (qm pages 1) (.cons (Q_call fun w hw => c_impl_within w s.page 0 (pages - 1)) .nil)))) rfl (by kernel_rfl) (by kernel_rfl) (.cons h1 (.cons h2 (.cons h4 .nil))) fun ac w S => ?_
    exact id (nt (wr (S.r [B false] ⟨retB k0_impl_SlotOk, S.chg⟩)))
  ·have g7 := of_decide_eq_false h2
   refine S.drawnO [(3, false), (6, false)] (keep := [4]) (m := 0) (σ' := ⟨[(4, .v (B false))], []⟩) (.cons (Q_call fun w hw => c_impl_NoSlot w ) (.cons (Eq_eq_Slot (t := 55) s (⟨-1, 0⟩ : TSlot) (by kernel_rfl)) .nil)) rfl (by kernel_rfl) (by kernel_rfl) (.cons h1 (.cons h2 .nil)) fun ac w S => ?_
   exact id (nt (wr (S.r [B false] ⟨retB k0_impl_SlotOk, S.chg⟩)))

theorem c_impl_TableOk (w0 : World) (t : List TSlot) (pt : LP TSlot) (ht : RD w0 t pt) (size : Int) (pages : Int) (pre0 : 0 ≤ pages) (pre1 : pages ≤ 1000) : Calls Tryz.prog 153 [slv t.length pt.1, I size, I pages].toArray w0 (fun e w' => e = .returned (B (f_tableOk t size pages)) ∧ Chg NoB w0 w') := by
 refine Calls.walk NoB Tryz.func153 rfl rfl ?_
 intro ac β S
 have hlet : t.length ≤ 4194304 := LRd.le ht
 refine ws (rg ?_)
 refine S.qe 1 [] [] fun ac w β S => ?_
 refine (nt (ws (ws (rg ?_))))
 refine S.qe 3 [] [(9, .v (slv t.length pt.1)), (10, .v (I (t.length : Int))), (11, .v (I 0))] fun ac w β S => ?_
 refine (nt (wp_block ?_))
 refine wp_loop_down (fun mm ac w => ∃ (k : Nat)  (u : _) (N : _) (β : _), mm = t.length - k ∧ (k ≤ t.length) ∧ ((t.take k).all (fun s => f_slotOk s pages) = true) ∧ St Tryz.prog Tryz.f153.ntmps w0 NoB u N β ⟨[(0, .v (slv t.length pt.1)), (1, .v (I size)), (2, .v (I pages)), (9, .v (slv t.length pt.1)), (10, .v (I (t.length : Int))), (11, .v (I (k : Int)))], []⟩ ac w) _ ⟨0, _, _, _, rfl, o0, (by simp), S.z⟩ ?_
 clear S
 rintro mm ac w ⟨k, u, N, β, rfl, hk, he, S⟩
 refine ws (rg ?_)
 refine S.qe 1 [] [(12, .v (B (decide ((k : Int) < (t.length : Int)))))] fun ac w β S => ?_
 refine (nt (ws (S.c (decide ((k : Int) < (t.length : Int))) (fun h1 => ?_) (fun h1 => ?_))))
 ·have g2 := of_decide_eq_true h1
  refine wk (nt (ws (wp_block (ws (rg ?_)))))
  refine S.qgm 4 [] [(8, .p 0 0)] (.cons (qn (S.arg ht) k Tryz.underlying47) (.cons (qs (S.arg ht) 55 k) .nil)) 1 [(0, GT.cells (el t k) ())] fun ac w β S => ?_
  refine (nt (ws (rg ?_)))
  refine S.qgm 4 [] [(18, .v (B (!(f_slotOk (el t k) pages))))] (.cons (Q_call fun w hw => c_impl_SlotOk w (el t k) pages (by omega) (by omega)) .nil) 0 [] fun ac w β S => ?_
  refine (nt (S.c (!(f_slotOk (el t k) pages)) (fun h3 => ?_) (fun h3 => ?_)))
  ·have h4 := not_t h3
   refine ws (rg ?_)
   refine S.qe 1 [] [(6, .v (B false))] fun ac w β S => ?_
   exact (nt (wr (rb (rt (rt (rb (rt (S.r [B false] ⟨retB (by clear S; (first | (unfold f_tableOk; rw [all_bad (k := k) (by omega) (by first | assumption | simp_all)]; simp; done) | (unfold f_tableOk; rw [all_end (by omega) he]; simp; done) | (unfold f_tableOk; rw [all_end (by omega) he]; simp [*]; done) | (unfold f_tableOk; rw [all_end (by omega) he]; simp; omega))), S.chg⟩))))))))
  have h5 := not_f h3
  refine wk (nb (nt (rg ?_)))
  refine S.qg 2 [] [(11, .v (I ((k : Int) + 1)))] (.cons (qp (k : Int) 1) .nil) fun ac w β S => ?_
  refine (nt ?_)
  refine ⟨t.length - (k + 1), by omega, k + 1, _, _, _, rfl, ?_, ?_, S.z⟩
  ·exact oz
  ·clear S; exact all_step (by omega) he (by first | assumption | (simp only [f_slotOk, f_within] at *; simp_all; done) | (simp_all; done) | (simp_all; omega))
 have g6 := of_decide_eq_false h1
 refine wp_exit (ex_then (ex_then (ex_hit (nt (ws (rg ?_))))))
 refine S.qe 5 [] [(6, .v (B ((t.length : Int) == size)))] fun ac w β S => ?_
 exact (nt (wr (S.r [B ((t.length : Int) == size)] ⟨retB (by clear S; (first | (unfold f_tableOk; rw [all_end (by omega) he]; simp; done) | (unfold f_tableOk; rw [all_end (by omega) he]; simp [*]; done) | (unfold f_tableOk; rw [all_end (by omega) he]; simp; omega) | (unfold f_tableOk; rw [all_bad (k := k) (by omega) (by first | assumption | simp_all)]; simp; done))), S.chg⟩)))

theorem c_impl_CtlFaults (w0 : World) (c : TCtl) : Calls Tryz.prog 176 [GT.val c ()].toArray w0 (Ret1 NoB w0 (f_ctlFaults c : List Int)) := by
 refine Calls.walk NoB Tryz.func176 rfl rfl ?_
 intro ac β S
 refine ws (rg ?_)
 refine S.qem 2 [] [(1, .p 0 0)] 1 [(0, GT.cells c ())] fun ac w β S => ?_
 refine (nt (ws (rg ?_)))
 refine RG.op rfl (S.bs0 (α := Int) (d := 4) (by kernel_rfl) fun ac w N q1 F2 S up o3 d4 => ?_)
 clear up d4
 refine S.qe 1 [] [(3, .v (slv 0 q1.1))] fun ac w β S => ?_
 refine (nt (ws (ws (rg ?_))))
 refine S.qg 4 [] [(8, .v (B (!(f_within c.traps 0 3))))] (.cons (Q_call fun w hw => c_impl_within w c.traps 0 3) .nil) fun ac w β S => ?_
 refine (nt ?_)
 refine wp_region_cut (fun ac w => ∃ (acc1 : List Int) (q5 : _) (F6 : _) (u : _) (N : _) (β : _), (acc1 = (if f_within c.traps 0 3 then [] else [1])) ∧ St Tryz.prog Tryz.f176.ntmps w0 NoB u N β ⟨[(1, .p 0 0), (3, .v (slv acc1.length q5.1))], [GT.cells c ()]⟩ ac w ∧ Ow w0 NoB u N F6 acc1 q5) ?_ ?_
 ·refine S.c (!(f_within c.traps 0 3)) (fun h8 => ?_) (fun h8 => ?_)
  ·have h9 := not_t h8
   have g10 := within_f h9
   refine rg ?_
   refine S.qa 1 [] [(9, .v (slv 0 q1.1))] fun ac w β S => ?_
   refine RG.op rfl (S.bs1 (α := Int) (x := 1) (p := ()) (F := NoB) (show In64 1 from ⟨by decide, by decide⟩) (fun b h => False.elim h) (fun b h => False.elim h) (d := 10) (by kernel_rfl) fun ac w N q11 F12 S up o13 d14 => ?_)
   have d15 := d14 _ (fun b _ h => False.elim h) o3.sub
   replace o3 := o3.up up
   clear up d14
   refine RG.op rfl (S.appFlat0 (α := Int) o3 o13.rn (fun _ _ h => h) (by' := 8) (d := 11) (lx := 0) (ly := 1) rfl fun ac w N q16 F17 S up o18 d19 => ?_)
   have d20 := d19 _ (Disj.symm d15) o13.sub
   replace o13 := o13.upF (Disj.symm d15) up
   clear up d19
   refine S.qe 1 [] [(3, .v (slv ([1]).length q16.1))] fun ac w β S => ?_
   exact ⟨rfl, ([1]), q16, F17, _, _, _, (by clear S; (first | (rw [if_pos (by assumption)]; simp [*]; done) | (rw [if_neg (by simp [*])]; simp [*]; done) | ((repeat' split) <;> first | rfl | (simp; done) | (exfalso; simp_all; done) | (simp_all; done)))), S.z, o18⟩
  have h21 := not_f h8
  have g22 := within_t h21
  refine wk ?_
  exact ⟨rfl, ([] : List Int), q1, F2, _, _, _, (by clear S; (first | (rw [if_pos (by assumption)]; simp [*]; done) | (rw [if_neg (by simp [*])]; simp [*]; done) | ((repeat' split) <;> first | rfl | (simp; done) | (exfalso; simp_all; done) | (simp_all; done)))), S.z, o3⟩
 clear S o3
 rintro ac w ⟨acc1, q5, F6, u, N, β, ha1, S, o7⟩
 have hl1 : acc1.length ≤ 1 := by rw [ha1]; (repeat' split) <;> simp
 refine id (nt (ws (ws (rg ?_))))
 refine S.qg 4 [] [(15, .v (B (!(f_within c.post 0 255))))] (.cons (Q_call fun w hw => c_impl_within w c.post 0 255) .nil) fun ac w β S => ?_
 refine (nt ?_)
 refine wp_region_cut (fun ac w => ∃ (acc2 : List Int) (q23 : _) (F24 : _) (u : _) (N : _) (β : _), (acc2 = (if f_within c.traps 0 3 then [] else [1]) ++ (if f_within c.post 0 255 then [] else [2])) ∧ St Tryz.prog Tryz.f176.ntmps w0 NoB u N β ⟨[(1, .p 0 0), (3, .v (slv acc2.length q23.1))], [GT.cells c ()]⟩ ac w ∧ Ow w0 NoB u N F24 acc2 q23) ?_ ?_
 ·refine S.c (!(f_within c.post 0 255)) (fun h26 => ?_) (fun h26 => ?_)
  ·have h27 := not_t h26
   have g28 := within_f h27
   refine rg ?_
   refine S.qa 1 [] [(16, .v (slv acc1.length q5.1))] fun ac w β S => ?_
   refine RG.op rfl (S.bs1 (α := Int) (x := 2) (p := ()) (F := NoB) (show In64 2 from ⟨by decide, by decide⟩) (fun b h => False.elim h) (fun b h => False.elim h) (d := 17) (by kernel_rfl) fun ac w N q29 F30 S up o31 d32 => ?_)
   have d33 := d32 _ (fun b _ h => False.elim h) o7.sub
   replace o7 := o7.up up
   clear up d32
   refine RG.op rfl (S.appFlat (α := Int) o7 o31.rn (fun _ _ h => h) (by' := 8) (d := 18) (lx := acc1.length) (ly := 1) rfl rfl (by kernel_rfl) (show _ ≤ 4194304 by simp only [List.length_append, List.length_cons, List.length_nil]; omega) fun ac w N q34 F35 S up o36 d37 => ?_)
   have d38 := d37 _ (Disj.symm d33) o31.sub
   replace o31 := o31.upF (Disj.symm d33) up
   clear up d37
   refine S.qe 1 [] [(3, .v (slv (acc1 ++ [2]).length q34.1))] fun ac w β S => ?_
   exact ⟨rfl, (acc1 ++ [2]), q34, F35, _, _, _, (by clear S; (first | (rw [if_pos (by assumption)]; simp [*]; done) | (rw [if_neg (by simp [*])]; simp [*]; done) | (rw [ha1]; (repeat' split) <;> first | rfl | (simp; done) | (exfalso; simp_all; done) | (simp_all; done)))), S.z, o36⟩
  have h39 := not_f h26
  have g40 := within_t h39
  refine wk ?_
  exact ⟨rfl, acc1, q5, F6, _, _, _, (by clear S; (first | (rw [if_pos (by assumption)]; simp [*]; done) | (rw [if_neg (by simp [*])]; simp [*]; done) | (rw [ha1]; (repeat' split) <;> first | rfl | (simp; done) | (exfalso; simp_all; done) | (simp_all; done)))), S.z, o7⟩
 clear S o7
 rintro ac w ⟨acc2, q23, F24, u, N, β, ha2, S, o25⟩
 have hl2 : acc2.length ≤ 2 := by rw [ha2]; (repeat' split) <;> simp
 refine id (nt (ws (ws (rg ?_))))
 refine S.qa 4 [] [(22, .v (B (c.post != 0)))] fun ac w β S => ?_
 rcases Bool.eq_false_or_eq_true (c.post != 0) with h41 | h41 <;> rw [h41] at S
 ·have g42 : ¬ (c.post = 0) := bne_iff_ne.1 h41
  refine S.qe 4 [22] [(26, .v (B (!c.opn)))] fun ac w β S => ?_
  refine (nt ?_)
  refine wp_region_cut (fun ac w => ∃ (acc3 : List Int) (q43 : _) (F44 : _) (u : _) (N : _) (β : _), (acc3 = (if f_within c.traps 0 3 then [] else [1]) ++ (if f_within c.post 0 255 then [] else [2]) ++ (if c.post ≠ 0 ∧ c.opn = false then [3] else [])) ∧ St Tryz.prog Tryz.f176.ntmps w0 NoB u N β ⟨[(1, .p 0 0), (3, .v (slv acc3.length q43.1))], [GT.cells c ()]⟩ ac w ∧ Ow w0 NoB u N F44 acc3 q43) ?_ ?_
  ·refine S.c (!c.opn) (fun h46 => ?_) (fun h46 => ?_)
   ·have h47 := not_t h46
    refine rg ?_
    refine S.qa 1 [] [(27, .v (slv acc2.length q23.1))] fun ac w β S => ?_
    refine RG.op rfl (S.bs1 (α := Int) (x := 3) (p := ()) (F := NoB) (show In64 3 from ⟨by decide, by decide⟩) (fun b h => False.elim h) (fun b h => False.elim h) (d := 28) (by kernel_rfl) fun ac w N q48 F49 S up o50 d51 => ?_)
    have d52 := d51 _ (fun b _ h => False.elim h) o25.sub
    replace o25 := o25.up up
    clear up d51
    refine RG.op rfl (S.appFlat (α := Int) o25 o50.rn (fun _ _ h => h) (by' := 8) (d := 29) (lx := acc2.length) (ly := 1) rfl rfl (by kernel_rfl) (show _ ≤ 4194304 by simp only [List.length_append, List.length_cons, List.length_nil]; omega) fun ac w N q53 F54 S up o55 d56 => ?_)
    have d57 := d56 _ (Disj.symm d52) o50.sub
    replace o50 := o50.upF (Disj.symm d52) up
    clear up d56
    refine S.qe 1 [] [(3, .v (slv (acc2 ++ [3]).length q53.1))] fun ac w β S => ?_
    exact ⟨rfl, (acc2 ++ [3]), q53, F54, _, _, _, (by clear S; (first | (rw [if_pos (by assumption)]; simp [*]; done) | (rw [if_neg (by simp [*])]; simp [*]; done) | (rw [ha2]; (repeat' split) <;> first | rfl | (simp; done) | (exfalso; simp_all; done) | (simp_all; done)))), S.z, o55⟩
   have h58 := not_f h46
   refine wk ?_
   exact ⟨rfl, acc2, q23, F24, _, _, _, (by clear S; (first | (rw [if_pos (by assumption)]; simp [*]; done) | (rw [if_neg (by simp [*])]; simp [*]; done) | (rw [ha2]; (repeat' split) <;> first | rfl | (simp; done) | (exfalso; simp_all; done) | (simp_all; done)))), S.z, o25⟩
  clear S o25
  rintro ac w ⟨acc3, q43, F44, u, N, β, ha3, S, o45⟩
  have hl3 : acc3.length ≤ 3 := by rw [ha3]; (repeat' split) <;> simp
  refine id (nt (ws (ws (rg ?_))))
  refine S.qa 4 [] [(33, .v (B (c.traps == 2)))] fun ac w β S => ?_
  rcases Bool.eq_false_or_eq_true (c.traps == 2) with h59 | h59 <;> rw [h59] at S
  ·have g60 : c.traps = 2 := eq_of_beq h59
   refine S.qem 4 [33] [(37, .v (B (c.post != 0)))] 0 [] fun ac w β S => ?_
   refine (nt ?_)
   refine wp_region_cut (fun ac w => ∃ (acc4 : List Int) (q61 : _) (F62 : _) (u : _) (N : _) (β : _), (acc4 = (if f_within c.traps 0 3 then [] else [1]) ++ (if f_within c.post 0 255 then [] else [2]) ++ (if c.post ≠ 0 ∧ c.opn = false then [3] else []) ++ (if c.traps = 2 ∧ c.post ≠ 0 then [4] else [])) ∧ St Tryz.prog Tryz.f176.ntmps w0 NoB u N β ⟨[(3, .v (slv acc4.length q61.1))], []⟩ ac w ∧ Ow w0 NoB u N F62 acc4 q61) ?_ ?_
   ·refine S.c (c.post != 0) (fun h64 => ?_) (fun h64 => ?_)
    ·have g65 : ¬ (c.post = 0) := bne_iff_ne.1 h64
     refine rg ?_
     refine S.qa 1 [] [(38, .v (slv acc3.length q43.1))] fun ac w β S => ?_
     refine RG.op rfl (S.bs1 (α := Int) (x := 4) (p := ()) (F := NoB) (show In64 4 from ⟨by decide, by decide⟩) (fun b h => False.elim h) (fun b h => False.elim h) (d := 39) (by kernel_rfl) fun ac w N q66 F67 S up o68 d69 => ?_)
     have d70 := d69 _ (fun b _ h => False.elim h) o45.sub
     replace o45 := o45.up up
     clear up d69
     refine RG.op rfl (S.appFlat (α := Int) o45 o68.rn (fun _ _ h => h) (by' := 8) (d := 40) (lx := acc3.length) (ly := 1) rfl rfl (by kernel_rfl) (show _ ≤ 4194304 by simp only [List.length_append, List.length_cons, List.length_nil]; omega) fun ac w N q71 F72 S up o73 d74 => ?_)
     have d75 := d74 _ (Disj.symm d70) o68.sub
     replace o68 := o68.upF (Disj.symm d70) up
     clear up d74
     refine S.qe 1 [] [(3, .v (slv (acc3 ++ [4]).length q71.1))] fun ac w β S => ?_
     exact ⟨rfl, (acc3 ++ [4]), q71, F72, _, _, _, (by clear S; (first | (rw [if_pos (by assumption)]; simp [*]; done) | (rw [if_neg (by simp [*])]; simp [*]; done) | (rw [ha3]; (repeat' split) <;> first | rfl | (simp; done) | (exfalso; simp_all; done) | (simp_all; done)))), S.z, o73⟩
    have g76 : c.post = 0 := ne_f h64
    refine wk ?_
    exact ⟨rfl, acc3, q43, F44, _, _, _, (by clear S; (first | (rw [if_pos (by assumption)]; simp [*]; done) | (rw [if_neg (by simp [*])]; simp [*]; done) | (rw [ha3]; (repeat' split) <;> first | rfl | (simp; done) | (exfalso; simp_all; done) | (simp_all; done)))), S.z, o45⟩
   clear S o45
   rintro ac w ⟨acc4, q61, F62, u, N, β, ha4, S, o63⟩
   have hl4 : acc4.length ≤ 4 := by rw [ha4]; (repeat' split) <;> simp
   refine id (nt (ws (rg ?_)))
   refine S.qe 2 [] [(2, .v (slv acc4.length q61.1))] fun ac w β S => ?_
   exact (nt (wr (S.r [slv acc4.length q61.1] (ret1_of S (show f_ctlFaults c = acc4 by clear S; (rw [ha4]; rfl)) rfl o63))))
  ·have g77 : ¬ (c.traps = 2) := ne_of_beq_false h59
   refine S.qem 4 [33] [(37, .v (B false))] 0 [] fun ac w β S => ?_
   refine (nt ?_)
   refine wp_region_cut (fun ac w => ∃ (acc4 : List Int) (q78 : _) (F79 : _) (u : _) (N : _) (β : _), (acc4 = (if f_within c.traps 0 3 then [] else [1]) ++ (if f_within c.post 0 255 then [] else [2]) ++ (if c.post ≠ 0 ∧ c.opn = false then [3] else []) ++ (if c.traps = 2 ∧ c.post ≠ 0 then [4] else [])) ∧ St Tryz.prog Tryz.f176.ntmps w0 NoB u N β ⟨[(3, .v (slv acc4.length q78.1))], []⟩ ac w ∧ Ow w0 NoB u N F79 acc4 q78) ?_ ?_
   ·refine S.c false (fun hx => by cases hx) (fun _ => ?_)
    refine wk ?_
    exact ⟨rfl, acc3, q43, F44, _, _, _, (by clear S; (first | (rw [if_pos (by assumption)]; simp [*]; done) | (rw [if_neg (by simp [*])]; simp [*]; done) | (rw [ha3]; (repeat' split) <;> first | rfl | (simp; done) | (exfalso; simp_all; done) | (simp_all; done)))), S.z, o45⟩
   clear S o45
   rintro ac w ⟨acc4, q78, F79, u, N, β, ha4, S, o80⟩
   have hl4 : acc4.length ≤ 4 := by rw [ha4]; (repeat' split) <;> simp
   refine id (nt (ws (rg ?_)))
   refine S.qe 2 [] [(2, .v (slv acc4.length q78.1))] fun ac w β S => ?_
   exact (nt (wr (S.r [slv acc4.length q78.1] (ret1_of S (show f_ctlFaults c = acc4 by clear S; (rw [ha4]; rfl)) rfl o80))))
 ·have g81 : c.post = 0 := ne_f h41
  refine S.qe 4 [22] [(26, .v (B false))] fun ac w β S => ?_
  refine (nt ?_)
  refine wp_region_cut (fun ac w => ∃ (acc3 : List Int) (q82 : _) (F83 : _) (u : _) (N : _) (β : _), (acc3 = (if f_within c.traps 0 3 then [] else [1]) ++ (if f_within c.post 0 255 then [] else [2]) ++ (if c.post ≠ 0 ∧ c.opn = false then [3] else [])) ∧ St Tryz.prog Tryz.f176.ntmps w0 NoB u N β ⟨[(1, .p 0 0), (3, .v (slv acc3.length q82.1))], [GT.cells c ()]⟩ ac w ∧ Ow w0 NoB u N F83 acc3 q82) ?_ ?_
  ·refine S.c false (fun hx => by cases hx) (fun _ => ?_)
   refine wk ?_
   exact ⟨rfl, acc2, q23, F24, _, _, _, (by clear S; (first | (rw [if_pos (by assumption)]; simp [*]; done) | (rw [if_neg (by simp [*])]; simp [*]; done) | (rw [ha2]; (repeat' split) <;> first | rfl | (simp; done) | (exfalso; simp_all; done) | (simp_all; done)))), S.z, o25⟩
  clear S o25
  rintro ac w ⟨acc3, q82, F83, u, N, β, ha3, S, o84⟩
  have hl3 : acc3.length ≤ 3 := by rw [ha3]; (repeat' split) <;> simp
  refine id (nt (ws (ws (rg ?_))))
  refine S.qa 4 [] [(33, .v (B (c.traps == 2)))] fun ac w β S => ?_
  rcases Bool.eq_false_or_eq_true (c.traps == 2) with h85 | h85 <;> rw [h85] at S
  ·have g86 : c.traps = 2 := eq_of_beq h85
   refine S.qem 4 [33] [(37, .v (B (c.post != 0)))] 0 [] fun ac w β S => ?_
   refine (nt ?_)
   refine wp_region_cut (fun ac w => ∃ (acc4 : List Int) (q87 : _) (F88 : _) (u : _) (N : _) (β : _), (acc4 = (if f_within c.traps 0 3 then [] else [1]) ++ (if f_within c.post 0 255 then [] else [2]) ++ (if c.post ≠ 0 ∧ c.opn = false then [3] else []) ++ (if c.traps = 2 ∧ c.post ≠ 0 then [4] else [])) ∧ St Tryz.prog Tryz.f176.ntmps w0 NoB u N β ⟨[(3, .v (slv acc4.length q87.1))], []⟩ ac w ∧ Ow w0 NoB u N F88 acc4 q87) ?_ ?_
   ·refine S.c (c.post != 0) (fun h90 => ?_) (fun h90 => ?_)
    ·have g91 : ¬ (c.post = 0) := bne_iff_ne.1 h90
     refine rg ?_
     refine S.qa 1 [] [(38, .v (slv acc3.length q82.1))] fun ac w β S => ?_
     refine RG.op rfl (S.bs1 (α := Int) (x := 4) (p := ()) (F := NoB) (show In64 4 from ⟨by decide, by decide⟩) (fun b h => False.elim h) (fun b h => False.elim h) (d := 39) (by kernel_rfl) fun ac w N q92 F93 S up o94 d95 => ?_)
     have d96 := d95 _ (fun b _ h => False.elim h) o84.sub
     replace o84 := o84.up up
     clear up d95
     refine RG.op rfl (S.appFlat (α := Int) o84 o94.rn (fun _ _ h => h) (by' := 8) (d := 40) (lx := acc3.length) (ly := 1) rfl rfl (by kernel_rfl) (show _ ≤ 4194304 by simp only [List.length_append, List.length_cons, List.length_nil]; omega) fun ac w N q97 F98 S up o99 d100 => ?_)
     have d101 := d100 _ (Disj.symm d96) o94.sub
     replace o94 := o94.upF (Disj.symm d96) up
     clear up d100
     refine S.qe 1 [] [(3, .v (slv (acc3 ++ [4]).length q97.1))] fun ac w β S => ?_
     exact ⟨rfl, (acc3 ++ [4]), q97, F98, _, _, _, (by clear S; (first | (rw [if_pos (by assumption)]; simp [*]; done) | (rw [if_neg (by simp [*])]; simp [*]; done) | (rw [ha3]; (repeat' split) <;> first | rfl | (simp; done) | (exfalso; simp_all; done) | (simp_all; done)))), S.z, o99⟩
    have g102 : c.post = 0 := ne_f h90
    refine wk ?_
    exact ⟨rfl, acc3, q82, F83, _, _, _, (by clear S; (first | (rw [if_pos (by assumption)]; simp [*]; done) | (rw [if_neg (by simp [*])]; simp [*]; done) | (rw [ha3]; (repeat' split) <;> first | rfl | (simp; done) | (exfalso; simp_all; done) | (simp_all; done)))), S.z, o84⟩
   clear S o84
   rintro ac w ⟨acc4, q87, F88, u, N, β, ha4, S, o89⟩
   have hl4 : acc4.length ≤ 4 := by rw [ha4]; (repeat' split) <;> simp
   refine id (nt (ws (rg ?_)))
   refine S.qe 2 [] [(2, .v (slv acc4.length q87.1))] fun ac w β S => ?_
   exact (nt (wr (S.r [slv acc4.length q87.1] (ret1_of S (show f_ctlFaults c = acc4 by clear S; (rw [ha4]; rfl)) rfl o89))))
  ·have g103 : ¬ (c.traps = 2) := ne_of_beq_false h85
   refine S.qem 4 [33] [(37, .v (B false))] 0 [] fun ac w β S => ?_
   refine (nt ?_)
   refine wp_region_cut (fun ac w => ∃ (acc4 : List Int) (q104 : _) (F105 : _) (u : _) (N : _) (β : _), (acc4 = (if f_within c.traps 0 3 then [] else [1]) ++ (if f_within c.post 0 255 then [] else [2]) ++ (if c.post ≠ 0 ∧ c.opn = false then [3] else []) ++ (if c.traps = 2 ∧ c.post ≠ 0 then [4] else [])) ∧ St Tryz.prog Tryz.f176.ntmps w0 NoB u N β ⟨[(3, .v (slv acc4.length q104.1))], []⟩ ac w ∧ Ow w0 NoB u N F105 acc4 q104) ?_ ?_
   ·refine S.c false (fun hx => by cases hx) (fun _ => ?_)
    refine wk ?_
    exact ⟨rfl, acc3, q82, F83, _, _, _, (by clear S; (first | (rw [if_pos (by assumption)]; simp [*]; done) | (rw [if_neg (by simp [*])]; simp [*]; done) | (rw [ha3]; (repeat' split) <;> first | rfl | (simp; done) | (exfalso; simp_all; done) | (simp_all; done)))), S.z, o84⟩
   clear S o84
   rintro ac w ⟨acc4, q104, F105, u, N, β, ha4, S, o106⟩
   have hl4 : acc4.length ≤ 4 := by rw [ha4]; (repeat' split) <;> simp
   refine id (nt (ws (rg ?_)))
   refine S.qe 2 [] [(2, .v (slv acc4.length q104.1))] fun ac w β S => ?_
   exact (nt (wr (S.r [slv acc4.length q104.1] (ret1_of S (show f_ctlFaults c = acc4 by clear S; (rw [ha4]; rfl)) rfl o106))))

theorem c_impl_CtlOk (w0 : World) (c : TCtl) : Calls Tryz.prog 160 [GT.val c ()].toArray w0 (fun e w' => e = .returned (B (f_ctlOk c)) ∧ Chg NoB w0 w') := by
 refine Calls.walk NoB Tryz.func160 rfl rfl ?_
 intro ac β S
 refine ws (rg ?_)
 refine S.qem 2 [] [(1, .p 0 0)] 1 [(0, GT.cells c ())] fun ac w β S => ?_
 refine (nt (ws (rg ?_)))
 refine S.qam 1 [] [(3, .v (GT.val c ()))] 0 [] fun ac w β S => ?_
 refine RG.op rfl (S.k1 4 (c_impl_CtlFaults w c) fun ac w N q1 F2 S up o3 d4 => ?_)
 clear up d4
 refine S.qe 3 [] [(2, .v (B (((f_ctlFaults c).length : Int) == 0)))] fun ac w β S => ?_
 exact (nt (wr (S.r [B (((f_ctlFaults c).length : Int) == 0)] ⟨retB (by clear S; first | rfl | (simp [f_ctlOk, *]; done) | (simp [f_ctlOk, *]; omega) | (simp_all [f_ctlOk]; done) | (simp_all [f_ctlOk]; omega)), S.chg⟩)))

theorem c_impl_PendOk (w0 : World) (p : Int) : Calls Tryz.prog 141 [I p].toArray w0 (fun e w' => e = .returned (B (f_within p 0 255)) ∧ Chg NoB w0 w') := by
 refine Calls.walk NoB Tryz.func141 rfl rfl ?_
 intro ac β S
 refine ws (rg ?_)
 refine S.qe 1 [] [] fun ac w β S => ?_
 refine (nt (ws (rg ?_)))
 refine S.qg 3 [] [(2, .v (B (f_within p 0 255)))] (.cons (Q_call fun w hw => c_impl_within w p 0 255) .nil) fun ac w β S => ?_
 exact (nt (wr (S.r [B (f_within p 0 255)] ⟨retB (by clear S; first | rfl | (simp [f_within, *]; done) | (simp [f_within, *]; omega) | (simp_all [f_within]; done) | (simp_all [f_within]; omega)), S.chg⟩)))

theorem k0_impl_ExitOk {p : Prop} (h : p := by clear S; (unfold f_exitOk; (repeat' split) <;> first | rfl | (exfalso; simp_all; done) | (exfalso; omega) | (rw [Bool.eq_iff_iff]; simp [TExit.ext_iff, *]; done) | (rw [Bool.eq_iff_iff]; simp_all [TExit.ext_iff, and_assoc]; done) | (rw [Bool.eq_iff_iff]; simp_all [TExit.ext_iff, and_assoc]; omega))) : p := h
theorem c_impl_ExitOk (w0 : World) (x : TExit) : Calls Tryz.prog 161 [GT.val x ()].toArray w0 (fun e w' => e = .returned (B (f_exitOk x)) ∧ Chg NoB w0 w') := by
 refine Calls.walk NoB Tryz.func161 rfl rfl ?_
 intro ac β S
 refine ws (rg ?_)
 refine S.qem 2 [] [(1, .p 0 0)] 1 [(0, GT.cells x ())] fun ac w β S => ?_
 refine (nt (ws (ws (rg ?_))))
 refine S.qe 2 [] [(4, .v (I x.kind))] fun ac w β S => ?_
 refine (nt (wp_block (ws (ws (rg ?_)))))
 refine S.qe 2 [] [(5, .v (B (x.kind == 0)))] fun ac w β S => ?_
 refine (nt (S.c (x.kind == 0) (fun h1 => ?_) (fun h1 => ?_)))
 ·rw [h1] at S
  have g2 : x.kind = 0 := eq_of_beq h1
  refine wk (nt (S.c true (fun _ => ?_) (fun hx => by cases hx)))
  refine ws (rg ?_)
  refine S.qa 4 [5] [(11, .v (B (x.page == 0)))] fun ac w β S => ?_
  rcases Bool.eq_false_or_eq_true (x.page == 0) with h3 | h3 <;> rw [h3] at S
  ·have g4 : x.page = 0 := eq_of_beq h3
   refine S.qa 5 [11] [(16, .v (B (!x.wr)))] fun ac w β S => ?_
   rcases Bool.eq_false_or_eq_true (!x.wr) with h5 | h5 <;> rw [h5] at S
   ·have h6 := not_t h5
    refine S.qe 5 [16] [(2, .v (B (x.n == 0)))] fun ac w β S => ?_
    exact (nt (wr (rb (rt (S.r [B (x.n == 0)] ⟨retB k0_impl_ExitOk, S.chg⟩)))))
   ·have h7 := not_f h5
    refine S.qe 5 [16] [(2, .v (B false))] fun ac w β S => ?_
    exact (nt (wr (rb (rt (S.r [B false] ⟨retB k0_impl_ExitOk, S.chg⟩)))))
  ·have g8 : ¬ (x.page = 0) := ne_of_beq_false h3
   refine S.qe 10 [11] [(2, .v (B false))] fun ac w β S => ?_
   exact (nt (wr (rb (rt (S.r [B false] ⟨retB k0_impl_ExitOk, S.chg⟩)))))
 have g9 : ¬ (x.kind = 0) := ne_of_beq_false h1
 refine rg ?_
 refine S.qe 2 [] [(5, .v (B (x.kind == 4)))] fun ac w β S => ?_
 refine (nt (S.c (x.kind == 4) (fun h10 => ?_) (fun h10 => ?_)))
 ·have g11 : x.kind = 4 := eq_of_beq h10
  refine ws (rg ?_)
  refine S.qa 4 [] [(11, .v (B (x.page == 0)))] fun ac w β S => ?_
  rcases Bool.eq_false_or_eq_true (x.page == 0) with h12 | h12 <;> rw [h12] at S
  ·have g13 : x.page = 0 := eq_of_beq h12
   refine S.qa 5 [11] [(16, .v (B (!x.wr)))] fun ac w β S => ?_
   rcases Bool.eq_false_or_eq_true (!x.wr) with h14 | h14 <;> rw [h14] at S
   ·have h15 := not_t h14
    refine S.qe 5 [16] [(2, .v (B (x.n == 0)))] fun ac w β S => ?_
    exact (nt (wr (rb (rt (S.r [B (x.n == 0)] ⟨retB k0_impl_ExitOk, S.chg⟩)))))
   ·have h16 := not_f h14
    refine S.qe 5 [16] [(2, .v (B false))] fun ac w β S => ?_
    exact (nt (wr (rb (rt (S.r [B false] ⟨retB k0_impl_ExitOk, S.chg⟩)))))
  ·have g17 : ¬ (x.page = 0) := ne_of_beq_false h12
   refine S.qe 10 [11] [(2, .v (B false))] fun ac w β S => ?_
   exact (nt (wr (rb (rt (S.r [B false] ⟨retB k0_impl_ExitOk, S.chg⟩)))))
 have g18 : ¬ (x.kind = 4) := ne_of_beq_false h10
 refine ws (rg ?_)
 refine S.qe 2 [] [(21, .v (B (x.kind == 1)))] fun ac w β S => ?_
 refine (nt (S.c (x.kind == 1) (fun h19 => ?_) (fun h19 => ?_)))
 ·have g20 : x.kind = 1 := eq_of_beq h19
  refine ws (rg ?_)
  refine S.qb 4 [] [(26, .v (B (f_within x.page 0 3)))] (.cons (Q_call fun w hw => c_impl_within w x.page 0 3) .nil) fun ac w β S => ?_
  rcases Bool.eq_false_or_eq_true (f_within x.page 0 3) with h21 | h21 <;> rw [h21] at S
  ·have g22 := within_t h21
   refine S.qe 5 [26] [(2, .v (B (x.n == 0)))] fun ac w β S => ?_
   exact (nt (wr (rb (rt (S.r [B (x.n == 0)] ⟨retB k0_impl_ExitOk, S.chg⟩)))))
  ·have g23 := within_f h21
   refine S.qe 5 [26] [(2, .v (B false))] fun ac w β S => ?_
   exact (nt (wr (rb (rt (S.r [B false] ⟨retB k0_impl_ExitOk, S.chg⟩)))))
 have g24 : ¬ (x.kind = 1) := ne_of_beq_false h19
 refine ws (ws (rg ?_))
 refine S.qe 2 [] [(31, .v (B (x.kind == 2)))] fun ac w β S => ?_
 refine (nt (S.c (x.kind == 2) (fun h25 => ?_) (fun h25 => ?_)))
 ·rw [h25] at S
  have g26 : x.kind = 2 := eq_of_beq h25
  refine wk (nt (S.c true (fun _ => ?_) (fun hx => by cases hx)))
  refine ws (rg ?_)
  refine S.qb 4 [31] [(37, .v (B (f_within x.n 0 99)))] (.cons (Q_call fun w hw => c_impl_within w x.n 0 99) .nil) fun ac w β S => ?_
  rcases Bool.eq_false_or_eq_true (f_within x.n 0 99) with h27 | h27 <;> rw [h27] at S
  ·have g28 := within_t h27
   refine S.qa 5 [37] [(42, .v (B (x.page == 0)))] fun ac w β S => ?_
   rcases Bool.eq_false_or_eq_true (x.page == 0) with h29 | h29 <;> rw [h29] at S
   ·have g30 : x.page = 0 := eq_of_beq h29
    refine S.qe 5 [42] [(2, .v (B (!x.wr)))] fun ac w β S => ?_
    exact (nt (wr (rb (rt (S.r [B (!x.wr)] ⟨retB k0_impl_ExitOk, S.chg⟩)))))
   ·have g31 : ¬ (x.page = 0) := ne_of_beq_false h29
    refine S.qe 5 [42] [(2, .v (B false))] fun ac w β S => ?_
    exact (nt (wr (rb (rt (S.r [B false] ⟨retB k0_impl_ExitOk, S.chg⟩)))))
  ·have g32 := within_f h27
   refine S.qe 10 [37] [(2, .v (B false))] fun ac w β S => ?_
   exact (nt (wr (rb (rt (S.r [B false] ⟨retB k0_impl_ExitOk, S.chg⟩)))))
 have g33 : ¬ (x.kind = 2) := ne_of_beq_false h25
 refine rg ?_
 refine S.qe 2 [] [(31, .v (B (x.kind == 3)))] fun ac w β S => ?_
 refine (nt (S.c (x.kind == 3) (fun h34 => ?_) (fun h34 => ?_)))
 ·have g35 : x.kind = 3 := eq_of_beq h34
  refine ws (rg ?_)
  refine S.qb 4 [] [(37, .v (B (f_within x.n 0 99)))] (.cons (Q_call fun w hw => c_impl_within w x.n 0 99) .nil) fun ac w β S => ?_
  rcases Bool.eq_false_or_eq_true (f_within x.n 0 99) with h36 | h36 <;> rw [h36] at S
  ·have g37 := within_t h36
   refine S.qa 5 [37] [(42, .v (B (x.page == 0)))] fun ac w β S => ?_
   rcases Bool.eq_false_or_eq_true (x.page == 0) with h38 | h38 <;> rw [h38] at S
   ·have g39 : x.page = 0 := eq_of_beq h38
    refine S.qe 5 [42] [(2, .v (B (!x.wr)))] fun ac w β S => ?_
    exact (nt (wr (rb (rt (S.r [B (!x.wr)] ⟨retB k0_impl_ExitOk, S.chg⟩)))))
   ·have g40 : ¬ (x.page = 0) := ne_of_beq_false h38
    refine S.qe 5 [42] [(2, .v (B false))] fun ac w β S => ?_
    exact (nt (wr (rb (rt (S.r [B false] ⟨retB k0_impl_ExitOk, S.chg⟩)))))
  ·have g41 := within_f h36
   refine S.qe 10 [37] [(2, .v (B false))] fun ac w β S => ?_
   exact (nt (wr (rb (rt (S.r [B false] ⟨retB k0_impl_ExitOk, S.chg⟩)))))
 have g42 : ¬ (x.kind = 3) := ne_of_beq_false h34
 refine wk (nb (nt (ws (rg ?_))))
 refine S.qe 1 [] [(2, .v (B false))] fun ac w β S => ?_
 exact (nt (wr (S.r [B false] ⟨retB k0_impl_ExitOk, S.chg⟩)))

theorem k0_impl_GuestOk {p : Prop} (h : p := by clear S; first | rfl | (simp [f_guestOk, *]; done) | (simp [f_guestOk, *]; omega) | (simp_all [f_guestOk]; done) | (simp_all [f_guestOk]; omega)) : p := h
theorem c_impl_GuestOk (w0 : World) (g : TGuest) (pg : PGuest) (hg : RD w0 g pg) : Calls Tryz.prog 140 [GT.val g pg].toArray w0 (fun e w' => e = .returned (B (f_guestOk g)) ∧ Chg NoB w0 w') := by
 refine Calls.walk NoB Tryz.func140 rfl rfl ?_
 intro ac β S
 have hleg_prog : g.prog.length ≤ 4194304 := LRd.le (RGuest.prog (d := g) hg)
 have hleg_written : g.written.length ≤ 4194304 := LRd.le (RGuest.written (d := g) hg)
 have hleg_live : g.live.length ≤ 4194304 := LRd.le (RGuest.live (d := g) hg)
 have hleg_seen : g.seen.length ≤ 4194304 := LRd.le (RGuest.seen (d := g) hg)
 refine ws (rg ?_)
 refine S.qem 2 [] [(1, .p 0 0)] 1 [(0, GT.cells g pg)] fun ac w β S => ?_
 refine (nt (ws (rg ?_)))
 refine S.qb 4 [] [(6, .v (B (f_progOk g.prog)))] (.cons (Q_call fun w hw => c_impl_ProgOk w g.prog pg.prog (rd_of (RGuest.prog (d := g) (S.arg hg)) hw)) .nil) fun ac w β S => ?_
 rcases Bool.eq_false_or_eq_true (f_progOk g.prog) with h1 | h1 <;> rw [h1] at S
 ·refine S.qb 5 [6] [(11, .v (B (f_within g.acc 0 99)))] (.cons (Q_call fun w hw => c_impl_within w g.acc 0 99) .nil) fun ac w β S => ?_
  rcases Bool.eq_false_or_eq_true (f_within g.acc 0 99) with h2 | h2 <;> rw [h2] at S
  ·have g3 := within_t h2
   refine S.qb 5 [11] [(16, .v (B (f_within g.pc 0 12)))] (.cons (Q_call fun w hw => c_impl_within w g.pc 0 12) .nil) fun ac w β S => ?_
   rcases Bool.eq_false_or_eq_true (f_within g.pc 0 12) with h4 | h4 <;> rw [h4] at S
   ·have g5 := within_t h4
    refine S.qb 5 [16] [(21, .v (B (f_tableOk g.written 4 8)))] (.cons (Q_call fun w hw => c_impl_TableOk w g.written pg.written (rd_of (RGuest.written (d := g) (S.arg hg)) hw) 4 8 (by omega) (by omega)) .nil) fun ac w β S => ?_
    rcases Bool.eq_false_or_eq_true (f_tableOk g.written 4 8) with h6 | h6 <;> rw [h6] at S
    ·have g7 := tableOk_t h6
     refine S.qb 5 [21] [(26, .v (B (f_tableOk g.live 4 8)))] (.cons (Q_call fun w hw => c_impl_TableOk w g.live pg.live (rd_of (RGuest.live (d := g) (S.arg hg)) hw) 4 8 (by omega) (by omega)) .nil) fun ac w β S => ?_
     rcases Bool.eq_false_or_eq_true (f_tableOk g.live 4 8) with h8 | h8 <;> rw [h8] at S
     ·have g9 := tableOk_t h8
      refine S.qb 5 [26] [(31, .v (B (f_ctlOk g.ctl)))] (.cons (Q_call fun w hw => c_impl_CtlOk w g.ctl) .nil) fun ac w β S => ?_
      rcases Bool.eq_false_or_eq_true (f_ctlOk g.ctl) with h10 | h10 <;> rw [h10] at S
      ·refine S.qb 5 [31] [(36, .v (B (f_within g.pend 0 255)))] (.cons (Q_call fun w hw => c_impl_PendOk w g.pend) .nil) fun ac w β S => ?_
       rcases Bool.eq_false_or_eq_true (f_within g.pend 0 255) with h11 | h11 <;> rw [h11] at S
       ·have g12 := within_t h11
        refine S.qb 5 [36] [(41, .v (B (f_exitOk g.exit)))] (.cons (Q_call fun w hw => c_impl_ExitOk w g.exit) .nil) fun ac w β S => ?_
        rcases Bool.eq_false_or_eq_true (f_exitOk g.exit) with h13 | h13 <;> rw [h13] at S
        ·refine S.qe 6 [41] [(2, .v (B (decide ((g.seen.length : Int) ≤ 40))))] fun ac w β S => ?_
         exact (nt (wr (S.r [B (decide ((g.seen.length : Int) ≤ 40))] ⟨retB k0_impl_GuestOk, S.chg⟩)))
        ·refine S.qe 6 [41] [(2, .v (B false))] fun ac w β S => ?_
         exact (nt (wr (S.r [B false] ⟨retB k0_impl_GuestOk, S.chg⟩)))
       ·have g14 := within_f h11
        refine S.qe 11 [36] [(2, .v (B false))] fun ac w β S => ?_
        exact (nt (wr (S.r [B false] ⟨retB k0_impl_GuestOk, S.chg⟩)))
      ·refine S.qe 16 [31] [(2, .v (B false))] fun ac w β S => ?_
       exact (nt (wr (S.r [B false] ⟨retB k0_impl_GuestOk, S.chg⟩)))
     ·refine S.qe 21 [26] [(2, .v (B false))] fun ac w β S => ?_
      exact (nt (wr (S.r [B false] ⟨retB k0_impl_GuestOk, S.chg⟩)))
    ·refine S.qe 26 [21] [(2, .v (B false))] fun ac w β S => ?_
     exact (nt (wr (S.r [B false] ⟨retB k0_impl_GuestOk, S.chg⟩)))
   ·have g15 := within_f h4
    refine S.qe 31 [16] [(2, .v (B false))] fun ac w β S => ?_
    exact (nt (wr (S.r [B false] ⟨retB k0_impl_GuestOk, S.chg⟩)))
  ·have g16 := within_f h2
   refine S.qe 36 [11] [(2, .v (B false))] fun ac w β S => ?_
   exact (nt (wr (S.r [B false] ⟨retB k0_impl_GuestOk, S.chg⟩)))
 ·refine S.qe 41 [6] [(2, .v (B false))] fun ac w β S => ?_
  exact (nt (wr (S.r [B false] ⟨retB k0_impl_GuestOk, S.chg⟩)))

theorem c_impl_PageOk (w0 : World) (cells : List Int) (pcells : LP Int) (hcells : RD w0 cells pcells) : Calls Tryz.prog 135 [slv cells.length pcells.1].toArray w0 (fun e w' => e = .returned (B (f_pageOk cells)) ∧ Chg NoB w0 w') := by
 refine Calls.walk NoB Tryz.func135 rfl rfl ?_
 intro ac β S
 have hlecells : cells.length ≤ 4194304 := LRd.le hcells
 refine ws (rg ?_)
 refine S.qe 1 [] [] fun ac w β S => ?_
 refine (nt (ws (ws (rg ?_))))
 refine S.qe 3 [] [(5, .v (slv cells.length pcells.1)), (6, .v (I (cells.length : Int))), (7, .v (I 0))] fun ac w β S => ?_
 refine (nt (wp_block ?_))
 refine wp_loop_down (fun mm ac w => ∃ (k : Nat)  (u : _) (N : _) (β : _), mm = cells.length - k ∧ (k ≤ cells.length) ∧ ((cells.take k).all (fun v => f_within v 0 99) = true) ∧ St Tryz.prog Tryz.f135.ntmps w0 NoB u N β ⟨[(0, .v (slv cells.length pcells.1)), (5, .v (slv cells.length pcells.1)), (6, .v (I (cells.length : Int))), (7, .v (I (k : Int)))], []⟩ ac w) _ ⟨0, _, _, _, rfl, o0, (by simp), S.z⟩ ?_
 clear S
 rintro mm ac w ⟨k, u, N, β, rfl, hk, he, S⟩
 refine ws (rg ?_)
 refine S.qe 1 [] [(8, .v (B (decide ((k : Int) < (cells.length : Int)))))] fun ac w β S => ?_
 refine (nt (ws (S.c (decide ((k : Int) < (cells.length : Int))) (fun h1 => ?_) (fun h1 => ?_))))
 ·have g2 := of_decide_eq_true h1
  refine wk (nt (ws (wp_block (ws (rg ?_)))))
  refine S.qg 3 [] [(4, .v (I (el cells k)))] (.cons (qn (S.arg hcells) k Tryz.underlying50) (.cons (qx (S.arg hcells) 3 k) .nil)) fun ac w β S => ?_
  refine (nt (ws (rg ?_)))
  refine S.qg 3 [] [(13, .v (B (!(f_within (el cells k) 0 99))))] (.cons (Q_call fun w hw => c_impl_within w (el cells k) 0 99) .nil) fun ac w β S => ?_
  refine (nt (S.c (!(f_within (el cells k) 0 99)) (fun h3 => ?_) (fun h3 => ?_)))
  ·have h4 := not_t h3
   have g5 := within_f h4
   refine ws (rg ?_)
   refine S.qe 1 [] [(2, .v (B false))] fun ac w β S => ?_
   exact (nt (wr (rb (rt (rt (rb (rt (S.r [B false] ⟨retB (by clear S; (first | (unfold f_pageOk; rw [all_bad (k := k) (by omega) (by first | assumption | simp_all)]; simp; done) | (unfold f_pageOk; rw [all_end (by omega) he]; simp; done) | (unfold f_pageOk; rw [all_end (by omega) he]; simp [*]; done) | (unfold f_pageOk; rw [all_end (by omega) he]; simp; omega))), S.chg⟩))))))))
  have h6 := not_f h3
  have g7 := within_t h6
  refine wk (nb (nt (rg ?_)))
  refine S.qg 2 [] [(7, .v (I ((k : Int) + 1)))] (.cons (qp (k : Int) 1) .nil) fun ac w β S => ?_
  refine (nt ?_)
  refine ⟨cells.length - (k + 1), by omega, k + 1, _, _, _, rfl, ?_, ?_, S.z⟩
  ·exact oz
  ·clear S; exact all_step (by omega) he (by first | assumption | (simp only [f_slotOk, f_within] at *; simp_all; done) | (simp_all; done) | (simp_all; omega))
 have g8 := of_decide_eq_false h1
 refine wp_exit (ex_then (ex_then (ex_hit (nt (ws (rg ?_))))))
 refine S.qe 4 [] [(2, .v (B ((cells.length : Int) == 4)))] fun ac w β S => ?_
 exact (nt (wr (S.r [B ((cells.length : Int) == 4)] ⟨retB (by clear S; (first | (unfold f_pageOk; rw [all_end (by omega) he]; simp; done) | (unfold f_pageOk; rw [all_end (by omega) he]; simp [*]; done) | (unfold f_pageOk; rw [all_end (by omega) he]; simp; omega) | (unfold f_pageOk; rw [all_bad (k := k) (by omega) (by first | assumption | simp_all)]; simp; done))), S.chg⟩)))

theorem c_impl_MemOk (w0 : World) (m : List (List Int)) (pm : LP (List Int)) (hm : RD w0 m pm) (pages : Int) : Calls Tryz.prog 120 [slv m.length pm.1, I pages].toArray w0 (fun e w' => e = .returned (B (f_memOk m pages)) ∧ Chg NoB w0 w') := by
 refine Calls.walk NoB Tryz.func120 rfl rfl ?_
 intro ac β S
 have hlem : m.length ≤ 4194304 := LRd.le hm
 refine ws (rg ?_)
 refine S.qe 1 [] [] fun ac w β S => ?_
 refine (nt (ws (ws (rg ?_))))
 refine S.qe 3 [] [(7, .v (slv m.length pm.1)), (8, .v (I (m.length : Int))), (9, .v (I 0))] fun ac w β S => ?_
 refine (nt (wp_block ?_))
 refine wp_loop_down (fun mm ac w => ∃ (k : Nat)  (u : _) (N : _) (β : _), mm = m.length - k ∧ (k ≤ m.length) ∧ ((m.take k).all f_pageOk = true) ∧ St Tryz.prog Tryz.f120.ntmps w0 NoB u N β ⟨[(0, .v (slv m.length pm.1)), (1, .v (I pages)), (7, .v (slv m.length pm.1)), (8, .v (I (m.length : Int))), (9, .v (I (k : Int)))], []⟩ ac w) _ ⟨0, _, _, _, rfl, o0, (by simp), S.z⟩ ?_
 clear S
 rintro mm ac w ⟨k, u, N, β, rfl, hk, he, S⟩
 refine ws (rg ?_)
 refine S.qe 1 [] [(10, .v (B (decide ((k : Int) < (m.length : Int)))))] fun ac w β S => ?_
 refine (nt (ws (S.c (decide ((k : Int) < (m.length : Int))) (fun h1 => ?_) (fun h1 => ?_))))
 ·have g2 := of_decide_eq_true h1
  refine wk (nt (ws (wp_block (ws (rg ?_)))))
  refine S.qg 3 [] [(6, .v (slv (el m k).length (pm.2 k).1))] (.cons (qn (S.arg hm) k Tryz.underlying22) (.cons (qx (S.arg hm) 50 k) .nil)) fun ac w β S => ?_
  refine (nt (ws (rg ?_)))
  refine S.qg 3 [] [(15, .v (B (!(f_pageOk (el m k)))))] (.cons (Q_call fun w hw => c_impl_PageOk w (el m k) (pm.2 k) (rd_of (LRd.el (S.arg hm) k (by omega)) hw)) .nil) fun ac w β S => ?_
  refine (nt (S.c (!(f_pageOk (el m k))) (fun h3 => ?_) (fun h3 => ?_)))
  ·have h4 := not_t h3
   refine ws (rg ?_)
   refine S.qe 1 [] [(4, .v (B false))] fun ac w β S => ?_
   exact (nt (wr (rb (rt (rt (rb (rt (S.r [B false] ⟨retB (by clear S; (first | (unfold f_memOk; rw [all_bad (k := k) (by omega) (by first | assumption | simp_all)]; simp; done) | (unfold f_memOk; rw [all_end (by omega) he]; simp; done) | (unfold f_memOk; rw [all_end (by omega) he]; simp [*]; done) | (unfold f_memOk; rw [all_end (by omega) he]; simp; omega))), S.chg⟩))))))))
  have h5 := not_f h3
  refine wk (nb (nt (rg ?_)))
  refine S.qg 2 [] [(9, .v (I ((k : Int) + 1)))] (.cons (qp (k : Int) 1) .nil) fun ac w β S => ?_
  refine (nt ?_)
  refine ⟨m.length - (k + 1), by omega, k + 1, _, _, _, rfl, ?_, ?_, S.z⟩
  ·exact oz
  ·clear S; exact all_step (by omega) he (by first | assumption | (simp only [f_slotOk, f_within] at *; simp_all; done) | (simp_all; done) | (simp_all; omega))
 have g6 := of_decide_eq_false h1
 refine wp_exit (ex_then (ex_then (ex_hit (nt (ws (rg ?_))))))
 refine S.qe 5 [] [(4, .v (B ((m.length : Int) == pages)))] fun ac w β S => ?_
 exact (nt (wr (S.r [B ((m.length : Int) == pages)] ⟨retB (by clear S; (first | (unfold f_memOk; rw [all_end (by omega) he]; simp; done) | (unfold f_memOk; rw [all_end (by omega) he]; simp [*]; done) | (unfold f_memOk; rw [all_end (by omega) he]; simp; omega) | (unfold f_memOk; rw [all_bad (k := k) (by omega) (by first | assumption | simp_all)]; simp; done))), S.chg⟩)))

end Go.Proofs.YtklppedmchbdmaaGreat
