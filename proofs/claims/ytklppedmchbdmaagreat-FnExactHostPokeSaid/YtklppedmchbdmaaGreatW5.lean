/- The walks: what each function that the laws reach computes (part 5). -/
import Derived.Test.YtklppedmchbdmaaGreatW4
import Derived.Test.YtklppedmchbdmaaGreatProg
import Derived.KernelRfl
namespace Go.Proofs.YtklppedmchbdmaaGreat
open Go
set_option linter.unusedVariables false
set_option linter.unusedSimpArgs false
set_option maxRecDepth 100000

theorem k0_laws_heldKeptS {p : Prop} (h : p := by clear S; (first | (rw [hr, hd_end (by omega)]; done) | (rw [hr, hd_step (by omega)]; simp [he_Kept, w1, hdi, hdb, hdc, *]; done) | (rw [hr, hd_step (by omega)]; simp_all [he_Kept, w1, hdi, hdb, hdc]; done))) : p := h
theorem c_laws_heldKeptS (w0 : World) (a : List TKept) (pa : LP TKept) (ha : RD w0 a pa) (k : Int) : Calls Tryz.prog 86 [slv a.length pa.1, I k].toArray w0 (fun e w' => e = .returned (I (hdl a k)) ∧ Chg NoB w0 w') := by
 refine Calls.walk NoB Tryz.func86 rfl rfl ?_
 intro ac β S
 have hlea : a.length ≤ 4194304 := LRd.le ha
 refine ws (rg ?_)
 refine S.qe 1 [] [] fun ac w β S => ?_
 refine (nt (ws (ws (rg ?_))))
 refine S.qe 1 [] [(5, .v (I 0))] fun ac w β S => ?_
 refine (nt (wp_block ?_))
 refine wp_loop_down (fun mm ac w => ∃ (i : Nat) (j : Int)  (u : _) (N : _) (β : _), mm = a.length - i ∧ (i ≤ a.length) ∧ (hdl a k = hdlc (a.drop i) j id) ∧ St Tryz.prog Tryz.f86.ntmps w0 NoB u N β ⟨[(0, .v (slv a.length pa.1)), (1, .v (I j)), (5, .v (I (i : Int)))], []⟩ ac w) _ ⟨0, k, _, _, _, rfl, o0, (by rfl), S.z⟩ ?_
 clear S
 rintro mm ac w ⟨i, j, u, N, β, rfl, hi, hr, S⟩
 refine ws (ws (rg ?_))
 refine S.qe 4 [] [(9, .v (B (decide ((i : Int) < (a.length : Int)))))] fun ac w β S => ?_
 refine (nt (S.c (decide ((i : Int) < (a.length : Int))) (fun h1 => ?_) (fun h1 => ?_)))
 ·have g2 := of_decide_eq_true h1
  refine wk (nt (ws (wp_block (ws (rg ?_)))))
  refine S.qg 8 [] [(1, .v (I (hdl (el a i).known j)))] (.cons (qn (S.arg ha) i Tryz.underlying51) (.cons (qc (S.arg ha) 48 i 0 (slv (el a i).known.length (pa.2 i).known.1)) (.cons (Q_call fun w hw => c_laws_heldBoolS w (el a i).known (pa.2 i).known (rd_of (RKept.known (d := (el a i)) (LRd.el (S.arg ha) i (by omega))) hw) j) .nil))) fun ac w β S => ?_
  refine (nt (ws (ws (rg ?_))))
  refine S.qe 2 [] [(20, .v (B (decide ((hdl (el a i).known j) < 0))))] fun ac w β S => ?_
  refine (nt (S.c (decide ((hdl (el a i).known j) < 0)) (fun h3 => ?_) (fun h3 => ?_)))
  ·have g4 := of_decide_eq_true h3
   refine ws (rg ?_)
   refine S.qe 1 [] [(4, .v (I (-1)))] fun ac w β S => ?_
   exact (nt (wr (rt (rb (rt (rt (rb (rt (S.r [I (-1)] ⟨retI k0_laws_heldKeptS, S.chg⟩)))))))))
  have g5 := of_decide_eq_false h3
  refine wk (nt (ws (rg ?_)))
  refine S.qg 8 [] [(1, .v (I (hdl (el a i).slots (hdl (el a i).known j))))] (.cons (qn (S.arg ha) i Tryz.underlying51) (.cons (qc (S.arg ha) 47 i 1 (slv (el a i).slots.length (pa.2 i).slots.1)) (.cons (Q_call fun w hw => c_laws_heldSlotS w (el a i).slots (pa.2 i).slots (rd_of (RKept.slots (d := (el a i)) (LRd.el (S.arg ha) i (by omega))) hw) (hdl (el a i).known j)) .nil))) fun ac w β S => ?_
  refine (nt (ws (rg ?_)))
  refine S.qe 2 [] [(29, .v (B (decide ((hdl (el a i).slots (hdl (el a i).known j)) < 0))))] fun ac w β S => ?_
  refine (nt (S.c (decide ((hdl (el a i).slots (hdl (el a i).known j)) < 0)) (fun h6 => ?_) (fun h6 => ?_)))
  ·have g7 := of_decide_eq_true h6
   refine ws (rg ?_)
   refine S.qe 1 [] [(4, .v (I (-1)))] fun ac w β S => ?_
   exact (nt (wr (rb (rt (rt (rb (rt (S.r [I (-1)] ⟨retI k0_laws_heldKeptS, S.chg⟩))))))))
  have g8 := of_decide_eq_false h6
  refine wk (nb (nt (rg ?_)))
  refine S.qg 3 [] [(5, .v (I ((i : Int) + 1)))] (.cons (qp (i : Int) 1) .nil) fun ac w β S => ?_
  refine (nt ?_)
  refine ⟨a.length - (i + 1), by omega, i + 1, (hdl (el a i).slots (hdl (el a i).known j)), _, _, _, rfl, ?_, ?_, S.z⟩
  ·exact oz
  ·clear S; (rw [hr, hd_step (by omega)]; simp [he_Kept, w1, hdi, hdb, hdc, *])
 have g9 := of_decide_eq_false h1
 refine wp_exit (ex_then (ex_then (ex_hit (nt (ws (rg ?_))))))
 refine S.qe 2 [] [(4, .v (I j))] fun ac w β S => ?_
 exact (nt (wr (S.r [I j] ⟨retI k0_laws_heldKeptS, S.chg⟩)))

theorem k0_laws_heldMonS {p : Prop} (h : p := by clear S; (first | (rw [hr, hd_end (by omega)]; done) | (rw [hr, hd_step (by omega)]; simp [he_Mon, w1, hdi, hdb, hdc, *]; done) | (rw [hr, hd_step (by omega)]; simp_all [he_Mon, w1, hdi, hdb, hdc]; done))) : p := h
theorem c_laws_heldMonS (w0 : World) (a : List TMon) (pa : LP TMon) (ha : RD w0 a pa) (k : Int) : Calls Tryz.prog 43 [slv a.length pa.1, I k].toArray w0 (fun e w' => e = .returned (I (hdl a k)) ∧ Chg NoB w0 w') := by
 refine Calls.walk NoB Tryz.func43 rfl rfl ?_
 intro ac β S
 have hlea : a.length ≤ 4194304 := LRd.le ha
 refine ws (rg ?_)
 refine S.qe 1 [] [] fun ac w β S => ?_
 refine (nt (ws (ws (rg ?_))))
 refine S.qe 1 [] [(5, .v (I 0))] fun ac w β S => ?_
 refine (nt (wp_block ?_))
 refine wp_loop_down (fun mm ac w => ∃ (i : Nat) (j : Int)  (u : _) (N : _) (β : _), mm = a.length - i ∧ (i ≤ a.length) ∧ (hdl a k = hdlc (a.drop i) j id) ∧ St Tryz.prog Tryz.f43.ntmps w0 NoB u N β ⟨[(0, .v (slv a.length pa.1)), (1, .v (I j)), (5, .v (I (i : Int)))], []⟩ ac w) _ ⟨0, k, _, _, _, rfl, o0, (by rfl), S.z⟩ ?_
 clear S
 rintro mm ac w ⟨i, j, u, N, β, rfl, hi, hr, S⟩
 refine ws (ws (rg ?_))
 refine S.qe 4 [] [(9, .v (B (decide ((i : Int) < (a.length : Int)))))] fun ac w β S => ?_
 refine (nt (S.c (decide ((i : Int) < (a.length : Int))) (fun h1 => ?_) (fun h1 => ?_)))
 ·have g2 := of_decide_eq_true h1
  refine wk (nt (ws (wp_block (ws (rg ?_)))))
  refine S.qg 8 [] [(1, .v (I (hdl (el a i).outer j)))] (.cons (qn (S.arg ha) i Tryz.underlying28) (.cons (qc (S.arg ha) 47 i 0 (slv (el a i).outer.length (pa.2 i).outer.1)) (.cons (Q_call fun w hw => c_laws_heldSlotS w (el a i).outer (pa.2 i).outer (rd_of (RMon.outer (d := (el a i)) (LRd.el (S.arg ha) i (by omega))) hw) j) .nil))) fun ac w β S => ?_
  refine (nt (ws (ws (rg ?_))))
  refine S.qe 2 [] [(20, .v (B (decide ((hdl (el a i).outer j) < 0))))] fun ac w β S => ?_
  refine (nt (S.c (decide ((hdl (el a i).outer j) < 0)) (fun h3 => ?_) (fun h3 => ?_)))
  ·have g4 := of_decide_eq_true h3
   refine ws (rg ?_)
   refine S.qe 1 [] [(4, .v (I (-1)))] fun ac w β S => ?_
   exact (nt (wr (rt (rb (rt (rt (rb (rt (S.r [I (-1)] ⟨retI k0_laws_heldMonS, S.chg⟩)))))))))
  have g5 := of_decide_eq_false h3
  refine wk (nt (ws (rg ?_)))
  refine S.qg 8 [] [(1, .v (I (hdl (el a i).out (hdl (el a i).outer j))))] (.cons (qn (S.arg ha) i Tryz.underlying28) (.cons (qc (S.arg ha) 22 i 1 (slv (el a i).out.length (pa.2 i).out.1)) (.cons (Q_call fun w hw => c_laws_heldIntSS w (el a i).out (pa.2 i).out (rd_of (RMon.out (d := (el a i)) (LRd.el (S.arg ha) i (by omega))) hw) (hdl (el a i).outer j)) .nil))) fun ac w β S => ?_
  refine (nt (ws (ws (rg ?_))))
  refine S.qe 2 [] [(29, .v (B (decide ((hdl (el a i).out (hdl (el a i).outer j)) < 0))))] fun ac w β S => ?_
  refine (nt (S.c (decide ((hdl (el a i).out (hdl (el a i).outer j)) < 0)) (fun h6 => ?_) (fun h6 => ?_)))
  ·have g7 := of_decide_eq_true h6
   refine ws (rg ?_)
   refine S.qe 1 [] [(4, .v (I (-1)))] fun ac w β S => ?_
   exact (nt (wr (rt (rb (rt (rt (rb (rt (S.r [I (-1)] ⟨retI k0_laws_heldMonS, S.chg⟩)))))))))
  have g8 := of_decide_eq_false h6
  refine wk (nt (ws (rg ?_)))
  refine S.qg 8 [] [(1, .v (I (hdl (el a i).dirty (hdl (el a i).out (hdl (el a i).outer j)))))] (.cons (qn (S.arg ha) i Tryz.underlying28) (.cons (qc (S.arg ha) 48 i 2 (slv (el a i).dirty.length (pa.2 i).dirty.1)) (.cons (Q_call fun w hw => c_laws_heldBoolS w (el a i).dirty (pa.2 i).dirty (rd_of (RMon.dirty (d := (el a i)) (LRd.el (S.arg ha) i (by omega))) hw) (hdl (el a i).out (hdl (el a i).outer j))) .nil))) fun ac w β S => ?_
  refine (nt (ws (ws (rg ?_))))
  refine S.qe 2 [] [(38, .v (B (decide ((hdl (el a i).dirty (hdl (el a i).out (hdl (el a i).outer j))) < 0))))] fun ac w β S => ?_
  refine (nt (S.c (decide ((hdl (el a i).dirty (hdl (el a i).out (hdl (el a i).outer j))) < 0)) (fun h9 => ?_) (fun h9 => ?_)))
  ·have g10 := of_decide_eq_true h9
   refine ws (rg ?_)
   refine S.qe 1 [] [(4, .v (I (-1)))] fun ac w β S => ?_
   exact (nt (wr (rt (rb (rt (rt (rb (rt (S.r [I (-1)] ⟨retI k0_laws_heldMonS, S.chg⟩)))))))))
  have g11 := of_decide_eq_false h9
  refine wk (nt (ws (rg ?_)))
  refine S.qg 8 [] [(1, .v (I (hdl (el a i).guests (hdl (el a i).dirty (hdl (el a i).out (hdl (el a i).outer j))))))] (.cons (qn (S.arg ha) i Tryz.underlying28) (.cons (qc (S.arg ha) 49 i 3 (slv (el a i).guests.length (pa.2 i).guests.1)) (.cons (Q_call fun w hw => c_laws_heldGuestS w (el a i).guests (pa.2 i).guests (rd_of (RMon.guests (d := (el a i)) (LRd.el (S.arg ha) i (by omega))) hw) (hdl (el a i).dirty (hdl (el a i).out (hdl (el a i).outer j)))) .nil))) fun ac w β S => ?_
  refine (nt (ws (ws (rg ?_))))
  refine S.qe 2 [] [(47, .v (B (decide ((hdl (el a i).guests (hdl (el a i).dirty (hdl (el a i).out (hdl (el a i).outer j)))) < 0))))] fun ac w β S => ?_
  refine (nt (S.c (decide ((hdl (el a i).guests (hdl (el a i).dirty (hdl (el a i).out (hdl (el a i).outer j)))) < 0)) (fun h12 => ?_) (fun h12 => ?_)))
  ·have g13 := of_decide_eq_true h12
   refine ws (rg ?_)
   refine S.qe 1 [] [(4, .v (I (-1)))] fun ac w β S => ?_
   exact (nt (wr (rt (rb (rt (rt (rb (rt (S.r [I (-1)] ⟨retI k0_laws_heldMonS, S.chg⟩)))))))))
  have g14 := of_decide_eq_false h12
  refine wk (nt (ws (rg ?_)))
  refine S.qg 8 [] [(1, .v (I (hdl (el a i).outs (hdl (el a i).guests (hdl (el a i).dirty (hdl (el a i).out (hdl (el a i).outer j)))))))] (.cons (qn (S.arg ha) i Tryz.underlying28) (.cons (qc (S.arg ha) 50 i 4 (slv (el a i).outs.length (pa.2 i).outs.1)) (.cons (Q_call fun w hw => c_laws_heldIntS w (el a i).outs (pa.2 i).outs (rd_of (RMon.outs (d := (el a i)) (LRd.el (S.arg ha) i (by omega))) hw) (hdl (el a i).guests (hdl (el a i).dirty (hdl (el a i).out (hdl (el a i).outer j))))) .nil))) fun ac w β S => ?_
  refine (nt (ws (ws (rg ?_))))
  refine S.qe 2 [] [(56, .v (B (decide ((hdl (el a i).outs (hdl (el a i).guests (hdl (el a i).dirty (hdl (el a i).out (hdl (el a i).outer j))))) < 0))))] fun ac w β S => ?_
  refine (nt (S.c (decide ((hdl (el a i).outs (hdl (el a i).guests (hdl (el a i).dirty (hdl (el a i).out (hdl (el a i).outer j))))) < 0)) (fun h15 => ?_) (fun h15 => ?_)))
  ·have g16 := of_decide_eq_true h15
   refine ws (rg ?_)
   refine S.qe 1 [] [(4, .v (I (-1)))] fun ac w β S => ?_
   exact (nt (wr (rt (rb (rt (rt (rb (rt (S.r [I (-1)] ⟨retI k0_laws_heldMonS, S.chg⟩)))))))))
  have g17 := of_decide_eq_false h15
  refine wk (nt (ws (ws (rg ?_))))
  refine S.qg 7 [] [(63, .v (B ((el a i).pend != (hdl (el a i).outs (hdl (el a i).guests (hdl (el a i).dirty (hdl (el a i).out (hdl (el a i).outer j))))))))] (.cons (qn (S.arg ha) i Tryz.underlying28) (.cons (qc (S.arg ha) 3 i 5 (I (el a i).pend)) .nil)) fun ac w β S => ?_
  refine (nt (S.c ((el a i).pend != (hdl (el a i).outs (hdl (el a i).guests (hdl (el a i).dirty (hdl (el a i).out (hdl (el a i).outer j)))))) (fun h18 => ?_) (fun h18 => ?_)))
  ·have g19 : ¬ ((el a i).pend = (hdl (el a i).outs (hdl (el a i).guests (hdl (el a i).dirty (hdl (el a i).out (hdl (el a i).outer j)))))) := bne_iff_ne.1 h18
   refine ws (rg ?_)
   refine S.qe 1 [] [(4, .v (I (-1)))] fun ac w β S => ?_
   exact (nt (wr (rt (rb (rt (rt (rb (rt (S.r [I (-1)] ⟨retI k0_laws_heldMonS, S.chg⟩)))))))))
  have g20 : (el a i).pend = (hdl (el a i).outs (hdl (el a i).guests (hdl (el a i).dirty (hdl (el a i).out (hdl (el a i).outer j))))) := ne_f h18
  refine wk (nt (ws (rg ?_)))
  refine S.qg 3 [] [(1, .v (I (w1 (hdl (el a i).outs (hdl (el a i).guests (hdl (el a i).dirty (hdl (el a i).out (hdl (el a i).outer j))))))))] (.cons (Q_addw (x := (hdl (el a i).outs (hdl (el a i).guests (hdl (el a i).dirty (hdl (el a i).out (hdl (el a i).outer j)))))) (y := 1)) .nil) fun ac w β S => ?_
  refine (nt (ws (ws (rg ?_))))
  refine S.qg 7 [] [(72, .v (B ((el a i).traps != (w1 (hdl (el a i).outs (hdl (el a i).guests (hdl (el a i).dirty (hdl (el a i).out (hdl (el a i).outer j)))))))))] (.cons (qn (S.arg ha) i Tryz.underlying28) (.cons (qc (S.arg ha) 3 i 6 (I (el a i).traps)) .nil)) fun ac w β S => ?_
  refine (nt (S.c ((el a i).traps != (w1 (hdl (el a i).outs (hdl (el a i).guests (hdl (el a i).dirty (hdl (el a i).out (hdl (el a i).outer j))))))) (fun h21 => ?_) (fun h21 => ?_)))
  ·have g22 : ¬ ((el a i).traps = (w1 (hdl (el a i).outs (hdl (el a i).guests (hdl (el a i).dirty (hdl (el a i).out (hdl (el a i).outer j))))))) := bne_iff_ne.1 h21
   refine ws (rg ?_)
   refine S.qe 1 [] [(4, .v (I (-1)))] fun ac w β S => ?_
   exact (nt (wr (rt (rb (rt (rt (rb (rt (S.r [I (-1)] ⟨retI k0_laws_heldMonS, S.chg⟩)))))))))
  have g23 : (el a i).traps = (w1 (hdl (el a i).outs (hdl (el a i).guests (hdl (el a i).dirty (hdl (el a i).out (hdl (el a i).outer j)))))) := ne_f h21
  refine wk (nt (ws (rg ?_)))
  refine S.qg 3 [] [(1, .v (I (w1 (w1 (hdl (el a i).outs (hdl (el a i).guests (hdl (el a i).dirty (hdl (el a i).out (hdl (el a i).outer j)))))))))] (.cons (Q_addw (x := (w1 (hdl (el a i).outs (hdl (el a i).guests (hdl (el a i).dirty (hdl (el a i).out (hdl (el a i).outer j))))))) (y := 1)) .nil) fun ac w β S => ?_
  refine (nt (ws (rg ?_)))
  refine S.qg 8 [] [(1, .v (I (hdl (el a i).tables (w1 (w1 (hdl (el a i).outs (hdl (el a i).guests (hdl (el a i).dirty (hdl (el a i).out (hdl (el a i).outer j))))))))))] (.cons (qn (S.arg ha) i Tryz.underlying28) (.cons (qc (S.arg ha) 51 i 7 (slv (el a i).tables.length (pa.2 i).tables.1)) (.cons (Q_call fun w hw => c_laws_heldKeptS w (el a i).tables (pa.2 i).tables (rd_of (RMon.tables (d := (el a i)) (LRd.el (S.arg ha) i (by omega))) hw) (w1 (w1 (hdl (el a i).outs (hdl (el a i).guests (hdl (el a i).dirty (hdl (el a i).out (hdl (el a i).outer j)))))))) .nil))) fun ac w β S => ?_
  refine (nt (ws (ws (rg ?_))))
  refine S.qe 2 [] [(83, .v (B (decide ((hdl (el a i).tables (w1 (w1 (hdl (el a i).outs (hdl (el a i).guests (hdl (el a i).dirty (hdl (el a i).out (hdl (el a i).outer j)))))))) < 0))))] fun ac w β S => ?_
  refine (nt (S.c (decide ((hdl (el a i).tables (w1 (w1 (hdl (el a i).outs (hdl (el a i).guests (hdl (el a i).dirty (hdl (el a i).out (hdl (el a i).outer j)))))))) < 0)) (fun h24 => ?_) (fun h24 => ?_)))
  ·have g25 := of_decide_eq_true h24
   refine ws (rg ?_)
   refine S.qe 1 [] [(4, .v (I (-1)))] fun ac w β S => ?_
   exact (nt (wr (rt (rb (rt (rt (rb (rt (S.r [I (-1)] ⟨retI k0_laws_heldMonS, S.chg⟩)))))))))
  have g26 := of_decide_eq_false h24
  refine wk (nt (ws (ws (rg ?_))))
  refine S.qg 7 [] [(90, .v (B ((el a i).owned != (hdl (el a i).tables (w1 (w1 (hdl (el a i).outs (hdl (el a i).guests (hdl (el a i).dirty (hdl (el a i).out (hdl (el a i).outer j)))))))))))] (.cons (qn (S.arg ha) i Tryz.underlying28) (.cons (qc (S.arg ha) 3 i 8 (I (el a i).owned)) .nil)) fun ac w β S => ?_
  refine (nt (S.c ((el a i).owned != (hdl (el a i).tables (w1 (w1 (hdl (el a i).outs (hdl (el a i).guests (hdl (el a i).dirty (hdl (el a i).out (hdl (el a i).outer j))))))))) (fun h27 => ?_) (fun h27 => ?_)))
  ·have g28 : ¬ ((el a i).owned = (hdl (el a i).tables (w1 (w1 (hdl (el a i).outs (hdl (el a i).guests (hdl (el a i).dirty (hdl (el a i).out (hdl (el a i).outer j))))))))) := bne_iff_ne.1 h27
   refine ws (rg ?_)
   refine S.qe 1 [0, 1, 5, 9, 20, 29, 38, 47, 56, 63, 72, 83, 90] [(4, .v (I (-1)))] fun ac w β S => ?_
   exact (nt (wr (rt (rb (rt (rt (rb (rt (S.r [I (-1)] ⟨retI k0_laws_heldMonS, S.chg⟩)))))))))
  have g29 : (el a i).owned = (hdl (el a i).tables (w1 (w1 (hdl (el a i).outs (hdl (el a i).guests (hdl (el a i).dirty (hdl (el a i).out (hdl (el a i).outer j)))))))) := ne_f h27
  refine wk (nt (rg ?_))
  refine S.qg 3 [] [(1, .v (I (w1 (hdl (el a i).tables (w1 (w1 (hdl (el a i).outs (hdl (el a i).guests (hdl (el a i).dirty (hdl (el a i).out (hdl (el a i).outer j)))))))))))] (.cons (Q_addw (x := (hdl (el a i).tables (w1 (w1 (hdl (el a i).outs (hdl (el a i).guests (hdl (el a i).dirty (hdl (el a i).out (hdl (el a i).outer j))))))))) (y := 1)) .nil) fun ac w β S => ?_
  refine (nb (nt (rg ?_)))
  refine S.qg 3 [] [(5, .v (I ((i : Int) + 1)))] (.cons (qp (i : Int) 1) .nil) fun ac w β S => ?_
  refine (nt ?_)
  refine ⟨a.length - (i + 1), by omega, i + 1, (w1 (hdl (el a i).tables (w1 (w1 (hdl (el a i).outs (hdl (el a i).guests (hdl (el a i).dirty (hdl (el a i).out (hdl (el a i).outer j))))))))), _, _, _, rfl, ?_, ?_, S.z⟩
  ·exact oz
  ·clear S; (rw [hr, hd_step (by omega)]; simp [he_Mon, w1, hdi, hdb, hdc, *])
 have g30 := of_decide_eq_false h1
 refine wp_exit (ex_then (ex_then (ex_hit (nt (ws (rg ?_))))))
 refine S.qe 2 [] [(4, .v (I j))] fun ac w β S => ?_
 exact (nt (wr (S.r [I j] ⟨retI k0_laws_heldMonS, S.chg⟩)))

theorem k0_laws_heldEntryS {p : Prop} (h : p := by clear S; (first | (rw [hr, hd_end (by omega)]; done) | (rw [hr, hd_step (by omega)]; simp [he_Entry, w1, hdi, hdb, hdc, *]; done) | (rw [hr, hd_step (by omega)]; simp_all [he_Entry, w1, hdi, hdb, hdc]; done))) : p := h
theorem c_laws_heldEntryS (w0 : World) (a : List TEntry) (pa : LP TEntry) (ha : RD w0 a pa) (k : Int) : Calls Tryz.prog 44 [slv a.length pa.1, I k].toArray w0 (fun e w' => e = .returned (I (hdl a k)) ∧ Chg NoB w0 w') := by
 refine Calls.walk NoB Tryz.func44 rfl rfl ?_
 intro ac β S
 have hlea : a.length ≤ 4194304 := LRd.le ha
 refine ws (rg ?_)
 refine S.qe 1 [] [] fun ac w β S => ?_
 refine (nt (ws (ws (rg ?_))))
 refine S.qe 1 [] [(5, .v (I 0))] fun ac w β S => ?_
 refine (nt (wp_block ?_))
 refine wp_loop_down (fun mm ac w => ∃ (i : Nat) (j : Int)  (u : _) (N : _) (β : _), mm = a.length - i ∧ (i ≤ a.length) ∧ (hdl a k = hdlc (a.drop i) j id) ∧ St Tryz.prog Tryz.f44.ntmps w0 NoB u N β ⟨[(0, .v (slv a.length pa.1)), (1, .v (I j)), (5, .v (I (i : Int)))], []⟩ ac w) _ ⟨0, k, _, _, _, rfl, o0, (by rfl), S.z⟩ ?_
 clear S
 rintro mm ac w ⟨i, j, u, N, β, rfl, hi, hr, S⟩
 refine ws (ws (rg ?_))
 refine S.qe 4 [] [(9, .v (B (decide ((i : Int) < (a.length : Int)))))] fun ac w β S => ?_
 refine (nt (S.c (decide ((i : Int) < (a.length : Int))) (fun h1 => ?_) (fun h1 => ?_)))
 ·have g2 := of_decide_eq_true h1
  refine wk (nt (ws (wp_block (ws (ws (rg ?_))))))
  refine S.qg 7 [] [(18, .v (B ((el a i).tag != j)))] (.cons (qn (S.arg ha) i Tryz.underlying29) (.cons (qc (S.arg ha) 3 i 0 (I (el a i).tag)) .nil)) fun ac w β S => ?_
  refine (nt (S.c ((el a i).tag != j) (fun h3 => ?_) (fun h3 => ?_)))
  ·have g4 : ¬ ((el a i).tag = j) := bne_iff_ne.1 h3
   refine ws (rg ?_)
   refine S.qe 1 [] [(4, .v (I (-1)))] fun ac w β S => ?_
   exact (nt (wr (rt (rb (rt (rt (rb (rt (S.r [I (-1)] ⟨retI k0_laws_heldEntryS, S.chg⟩)))))))))
  have g5 : (el a i).tag = j := ne_f h3
  refine wk (nt (ws (rg ?_)))
  refine S.qg 3 [] [(1, .v (I (w1 j)))] (.cons (Q_addw (x := j) (y := 1)) .nil) fun ac w β S => ?_
  refine (nt (ws (ws (rg ?_))))
  refine S.qg 7 [] [(27, .v (B ((el a i).page != (w1 j))))] (.cons (qn (S.arg ha) i Tryz.underlying29) (.cons (qc (S.arg ha) 3 i 1 (I (el a i).page)) .nil)) fun ac w β S => ?_
  refine (nt (S.c ((el a i).page != (w1 j)) (fun h6 => ?_) (fun h6 => ?_)))
  ·have g7 : ¬ ((el a i).page = (w1 j)) := bne_iff_ne.1 h6
   refine ws (rg ?_)
   refine S.qe 1 [] [(4, .v (I (-1)))] fun ac w β S => ?_
   exact (nt (wr (rt (rb (rt (rt (rb (rt (S.r [I (-1)] ⟨retI k0_laws_heldEntryS, S.chg⟩)))))))))
  have g8 : (el a i).page = (w1 j) := ne_f h6
  refine wk (nt (ws (rg ?_)))
  refine S.qg 3 [] [(1, .v (I (w1 (w1 j))))] (.cons (Q_addw (x := (w1 j)) (y := 1)) .nil) fun ac w β S => ?_
  refine (nt (ws (ws (rg ?_))))
  refine S.qg 7 [] [(36, .v (B ((el a i).host != (w1 (w1 j)))))] (.cons (qn (S.arg ha) i Tryz.underlying29) (.cons (qc (S.arg ha) 3 i 2 (I (el a i).host)) .nil)) fun ac w β S => ?_
  refine (nt (S.c ((el a i).host != (w1 (w1 j))) (fun h9 => ?_) (fun h9 => ?_)))
  ·have g10 : ¬ ((el a i).host = (w1 (w1 j))) := bne_iff_ne.1 h9
   refine ws (rg ?_)
   refine S.qe 1 [] [(4, .v (I (-1)))] fun ac w β S => ?_
   exact (nt (wr (rt (rb (rt (rt (rb (rt (S.r [I (-1)] ⟨retI k0_laws_heldEntryS, S.chg⟩)))))))))
  have g11 : (el a i).host = (w1 (w1 j)) := ne_f h9
  refine wk (nt (ws (rg ?_)))
  refine S.qg 3 [] [(1, .v (I (w1 (w1 (w1 j)))))] (.cons (Q_addw (x := (w1 (w1 j))) (y := 1)) .nil) fun ac w β S => ?_
  refine (nt (ws (ws (rg ?_))))
  refine S.qg 7 [] [(45, .v (B ((el a i).rights != (w1 (w1 (w1 j))))))] (.cons (qn (S.arg ha) i Tryz.underlying29) (.cons (qc (S.arg ha) 3 i 3 (I (el a i).rights)) .nil)) fun ac w β S => ?_
  refine (nt (S.c ((el a i).rights != (w1 (w1 (w1 j)))) (fun h12 => ?_) (fun h12 => ?_)))
  ·have g13 : ¬ ((el a i).rights = (w1 (w1 (w1 j)))) := bne_iff_ne.1 h12
   refine ws (rg ?_)
   refine S.qe 1 [] [(4, .v (I (-1)))] fun ac w β S => ?_
   exact (nt (wr (rt (rb (rt (rt (rb (rt (S.r [I (-1)] ⟨retI k0_laws_heldEntryS, S.chg⟩)))))))))
  have g14 : (el a i).rights = (w1 (w1 (w1 j))) := ne_f h12
  refine wk (nt (rg ?_))
  refine S.qg 3 [] [(1, .v (I (w1 (w1 (w1 (w1 j))))))] (.cons (Q_addw (x := (w1 (w1 (w1 j)))) (y := 1)) .nil) fun ac w β S => ?_
  refine (nb (nt (rg ?_)))
  refine S.qg 3 [] [(5, .v (I ((i : Int) + 1)))] (.cons (qp (i : Int) 1) .nil) fun ac w β S => ?_
  refine (nt ?_)
  refine ⟨a.length - (i + 1), by omega, i + 1, (w1 (w1 (w1 (w1 j)))), _, _, _, rfl, ?_, ?_, S.z⟩
  ·exact oz
  ·clear S; (rw [hr, hd_step (by omega)]; simp [he_Entry, w1, hdi, hdb, hdc, *])
 have g15 := of_decide_eq_false h1
 refine wp_exit (ex_then (ex_then (ex_hit (nt (ws (rg ?_))))))
 refine S.qe 2 [] [(4, .v (I j))] fun ac w β S => ?_
 exact (nt (wr (S.r [I j] ⟨retI k0_laws_heldEntryS, S.chg⟩)))

theorem c_laws_heldHost (w0 : World) (a : THost) (pa : PHost) (ha : RD w0 a pa) (k : Int) : Calls Tryz.prog 14 [GT.val a pa, I k].toArray w0 (fun e w' => e = .returned (I (hdT_Host a k)) ∧ Chg NoB w0 w') := by
 refine Calls.walk NoB Tryz.func14 rfl rfl ?_
 intro ac β S
 have hlea_mem : a.mem.length ≤ 4194304 := LRd.le (RHost.mem (d := a) ha)
 have hlea_mons : a.mons.length ≤ 4194304 := LRd.le (RHost.mons (d := a) ha)
 have hlea_buf : a.buf.length ≤ 4194304 := LRd.le (RHost.buf (d := a) ha)
 have hlea_iobuf : a.iobuf.length ≤ 4194304 := LRd.le (RHost.iobuf (d := a) ha)
 refine ws (rg ?_)
 refine S.qem 2 [] [(2, .p 0 0)] 1 [(0, GT.cells a pa)] fun ac w β S => ?_
 refine (nt (ws (rg ?_)))
 refine S.qg 5 [] [(1, .v (I (hdl a.mem k)))] (.cons (Q_call fun w hw => c_laws_heldIntSS w a.mem pa.mem (rd_of (RHost.mem (d := a) (S.arg ha)) hw) k) .nil) fun ac w β S => ?_
 refine (nt (ws (ws (rg ?_))))
 refine S.qe 2 [] [(10, .v (B (decide ((hdl a.mem k) < 0))))] fun ac w β S => ?_
 refine (nt (S.c (decide ((hdl a.mem k) < 0)) (fun h1 => ?_) (fun h1 => ?_)))
 ·have g2 := of_decide_eq_true h1
  refine ws (rg ?_)
  refine S.qe 1 [] [(4, .v (I (-1)))] fun ac w β S => ?_
  exact (nt (wr (rt (S.r [I (-1)] ⟨retI (by clear S; (simp [hdT_Host, hdc, *])), S.chg⟩))))
 have g3 := of_decide_eq_false h1
 refine wk (nt (ws (rg ?_)))
 refine S.qg 5 [] [(1, .v (I (hdl a.mons (hdl a.mem k))))] (.cons (Q_call fun w hw => c_laws_heldMonS w a.mons pa.mons (rd_of (RHost.mons (d := a) (S.arg ha)) hw) (hdl a.mem k)) .nil) fun ac w β S => ?_
 refine (nt (ws (ws (rg ?_))))
 refine S.qe 2 [] [(16, .v (B (decide ((hdl a.mons (hdl a.mem k)) < 0))))] fun ac w β S => ?_
 refine (nt (S.c (decide ((hdl a.mons (hdl a.mem k)) < 0)) (fun h4 => ?_) (fun h4 => ?_)))
 ·have g5 := of_decide_eq_true h4
  refine ws (rg ?_)
  refine S.qe 1 [] [(4, .v (I (-1)))] fun ac w β S => ?_
  exact (nt (wr (rt (S.r [I (-1)] ⟨retI (by clear S; (simp [hdT_Host, hdc, *])), S.chg⟩))))
 have g6 := of_decide_eq_false h4
 refine wk (nt (ws (rg ?_)))
 refine S.qg 5 [] [(1, .v (I (hdl a.buf (hdl a.mons (hdl a.mem k)))))] (.cons (Q_call fun w hw => c_laws_heldEntryS w a.buf pa.buf (rd_of (RHost.buf (d := a) (S.arg ha)) hw) (hdl a.mons (hdl a.mem k))) .nil) fun ac w β S => ?_
 refine (nt (ws (ws (rg ?_))))
 refine S.qe 2 [] [(22, .v (B (decide ((hdl a.buf (hdl a.mons (hdl a.mem k))) < 0))))] fun ac w β S => ?_
 refine (nt (S.c (decide ((hdl a.buf (hdl a.mons (hdl a.mem k))) < 0)) (fun h7 => ?_) (fun h7 => ?_)))
 ·have g8 := of_decide_eq_true h7
  refine ws (rg ?_)
  refine S.qe 1 [] [(4, .v (I (-1)))] fun ac w β S => ?_
  exact (nt (wr (rt (S.r [I (-1)] ⟨retI (by clear S; (simp [hdT_Host, hdc, *])), S.chg⟩))))
 have g9 := of_decide_eq_false h7
 refine wk (nt (ws (rg ?_)))
 refine S.qgm 5 [] [(1, .v (I (hdl a.iobuf (hdl a.buf (hdl a.mons (hdl a.mem k))))))] (.cons (Q_call fun w hw => c_laws_heldEntryS w a.iobuf pa.iobuf (rd_of (RHost.iobuf (d := a) (S.arg ha)) hw) (hdl a.buf (hdl a.mons (hdl a.mem k)))) .nil) 0 [] fun ac w β S => ?_
 refine (nt (ws (ws (rg ?_))))
 refine S.qe 2 [] [(28, .v (B (decide ((hdl a.iobuf (hdl a.buf (hdl a.mons (hdl a.mem k)))) < 0))))] fun ac w β S => ?_
 refine (nt (S.c (decide ((hdl a.iobuf (hdl a.buf (hdl a.mons (hdl a.mem k)))) < 0)) (fun h10 => ?_) (fun h10 => ?_)))
 ·have g11 := of_decide_eq_true h10
  refine ws (rg ?_)
  refine S.qe 1 [] [(4, .v (I (-1)))] fun ac w β S => ?_
  exact (nt (wr (rt (S.r [I (-1)] ⟨retI (by clear S; (simp [hdT_Host, hdc, *])), S.chg⟩))))
 have g12 := of_decide_eq_false h10
 refine wk (nt (ws (rg ?_)))
 refine S.qe 2 [] [(4, .v (I (hdl a.iobuf (hdl a.buf (hdl a.mons (hdl a.mem k))))))] fun ac w β S => ?_
 exact (nt (wr (S.r [I (hdl a.iobuf (hdl a.buf (hdl a.mons (hdl a.mem k))))] ⟨retI (by clear S; (simp [hdT_Host, hdc, *])), S.chg⟩)))

theorem k0_laws_FnExactHostPoke {p : Prop} (h : p := by clear S; first | rfl | (exfalso; omega) | (exfalso; simp_all; done) | (exfalso; simp_all; omega)) : p := h
theorem c_laws_FnExactHostPoke (w0 : World) (aH : THost) (paH : PHost) (haH : GT.rd KR (Lt w0.heap.size) w0 aH paH) (aM : Int) (aPage : Int) (haPage : In64 aPage) (aCell : Int) (haCell : In64 aCell) (aV : Int) (haV : In64 aV) : Calls Tryz.prog 7 [GT.val aH paH, I aM, I aPage, I aCell, I aV].toArray w0 (fun e w' => e = .returned (B true) ∧ Chg NoB w0 w') := by
 refine Calls.walk NoB Tryz.func7 rfl rfl ?_
 intro ac β S
 have hloaPage := haPage.lo; have hhiaPage := haPage.hi
 have hloaCell := haCell.lo; have hhiaCell := haCell.hi
 have hloaV := haV.lo; have hhiaV := haV.hi
 refine ws (rg ?_)
 refine S.qem 2 [] [(5, .p 0 0)] 1 [(0, GT.cells aH paH)] fun ac w β S => ?_
 refine (nt (ws (rg ?_)))
 refine S.qe 1 [] [(11, .v (I 1048576))] fun ac w β S => ?_
 refine (nt (ws (rg ?_)))
 have b1 := f_sz_cs (SZ.sz aH) 1048576
 refine S.qg 4 [] [(11, .v (I (f_sz (SZ.sz aH) 1048576)))] (.cons (Q_call fun w hw => c_laws_szHost w aH paH (rd_of (S.arg haH) hw) 1048576 (by omega) (by omega)) .nil) fun ac w β S => ?_
 refine (nt (ws (ws (rg ?_))))
 refine S.qe 2 [] [(26, .v (B (decide ((f_sz (SZ.sz aH) 1048576) < 0))))] fun ac w β S => ?_
 refine (nt (S.c (decide ((f_sz (SZ.sz aH) 1048576) < 0)) (fun h2 => ?_) (fun h2 => ?_)))
 ·have g3 := of_decide_eq_true h2
  refine ws (rg ?_)
  refine S.qe 1 [] [(10, .v (B true))] fun ac w β S => ?_
  exact (nt (wr (rt (S.r [B true] ⟨retB k0_laws_FnExactHostPoke, S.chg⟩))))
 have g4 := of_decide_eq_false h2
 have hkaH : RD w0 aH paH := SZ.cut haH (show SZ.sz aH ≤ 4194304 by omega)
 have hcaH : SZ.sz aH ≤ 1048576 := by omega
 refine wk (nt (ws (rg ?_)))
 refine S.qa 1 [] [(28, .v (GT.val aH paH))] fun ac w β S => ?_
 refine RG.op rfl (S.k1 29 (c_laws_toHost w aH paH (S.rd (S.arg hkaH))) fun ac w N q5 F6 S up o7 d8 => ?_)
 clear up d8
 refine S.qa 4 [] [(29, .v (GT.val aH q5)), (30, .v (I aM)), (31, .v (I aPage)), (32, .v (I aCell)), (33, .v (I aV))] fun ac w β S => ?_
 refine RG.op rfl (S.call2 (r := (f_hostPoke aH aM aPage aCell aV).1) (r' := (f_hostPoke aH aM aPage aCell aV).2) (d := 34) (c_spec_HostPoke w aH q5 (S.rd o7.rn) aM aPage haPage aCell haCell aV haV) (by kernel_rfl) rfl fun ac w N q9 q10 F11 F12 S up o13 o14 d15 d16 d17 => ?_)
 have d18 := Disj.w d16 o7.sub
 have d19 := Disj.w d15 o7.sub
 replace o7 := o7.up up
 clear up d15
 clear d16
 refine S.qem 6 [] [(12, .p 1 0), (13, .v (B (f_hostPoke aH aM aPage aCell aV).2))] 2 [(1, GT.cells (f_hostPoke aH aM aPage aCell aV).1 q9)] fun ac w β S => ?_
 refine (nt (ws (rg ?_)))
 refine S.qa 1 [] [(37, .v (GT.val aH paH))] fun ac w β S => ?_
 refine RG.op rfl (S.k1 38 (c_laws_toHost w aH paH (S.rd (S.arg hkaH))) fun ac w N q20 F21 S up o22 d23 => ?_)
 have d24 := Disj.w d23 o13.sub
 replace o13 := o13.up up
 clear up d23
 refine S.qem 2 [] [(14, .p 2 0)] 3 [(2, GT.cells aH q20)] fun ac w β S => ?_
 refine (nt (ws (rg ?_)))
 refine S.qa 5 [] [(40, .v (GT.val aH q20)), (41, .v (I aM)), (42, .v (I aPage)), (43, .v (I aCell)), (44, .v (I aV))] fun ac w β S => ?_
 refine RG.op rfl (S.call2 (r := (f_hostPoke aH aM aPage aCell aV).1) (r' := (f_hostPoke aH aM aPage aCell aV).2) (d := 45) (c_impl_HostPoke w aH q20 (S.rd o22.rn) aM aPage haPage aCell haCell aV haV) (by kernel_rfl) rfl fun ac w N q25 q26 F27 F28 S up o29 o30 d31 d32 d33 => ?_)
 have d34 := Disj.w d32 o13.sub
 have d35 := Disj.w d32 o22.sub
 have d36 := Disj.w d31 o13.sub
 have d37 := Disj.w d31 o22.sub
 replace o13 := o13.up up
 replace o22 := o22.up up
 clear up d31
 clear d32
 refine S.qem 6 [0, 11, 26, 28, 29, 30, 31, 32, 33, 37, 40, 41, 42, 43, 44] [(15, .p 3 0), (16, .v (B (f_hostPoke aH aM aPage aCell aV).2))] 4 [(3, GT.cells (f_hostPoke aH aM aPage aCell aV).1 q25)] fun ac w β S => ?_
 refine (nt (ws (ws (rg ?_))))
 refine S.qb 5 [] [(52, .v (B (!(decide ((f_hostPoke aH aM aPage aCell aV).1 = (f_hostPoke aH aM aPage aCell aV).1)))))] (.cons (Q_call fun w hw => c_laws_eqHost w (f_hostPoke aH aM aPage aCell aV).1 q25 (rd_of o29.rn hw) (f_hostPoke aH aM aPage aCell aV).1 q9 (rd_of o13.rn hw)) .nil) fun ac w β S => ?_
 rcases Bool.eq_false_or_eq_true (!(decide ((f_hostPoke aH aM aPage aCell aV).1 = (f_hostPoke aH aM aPage aCell aV).1))) with h38 | h38 <;> rw [h38] at S
 ·have h39 := not_t h38
  have g40 := of_decide_eq_false h39
  refine S.qe 4 [52] [(56, .v (B true))] fun ac w β S => ?_
  refine (nt (S.c true (fun _ => ?_) (fun hx => by cases hx)))
  refine ws (rg ?_)
  refine S.qe 1 [] [(10, .v (B false))] fun ac w β S => ?_
  exact (nt (wr (rt (S.r [B false] ⟨retB k0_laws_FnExactHostPoke, S.chg⟩))))
 ·have h41 := not_f h38
  have g42 := of_decide_eq_true h41
  refine S.qe 4 [52] [(56, .v (B (!((f_hostPoke aH aM aPage aCell aV).2 == (f_hostPoke aH aM aPage aCell aV).2))))] fun ac w β S => ?_
  refine (nt (S.c (!((f_hostPoke aH aM aPage aCell aV).2 == (f_hostPoke aH aM aPage aCell aV).2)) (fun h43 => ?_) (fun h43 => ?_)))
  ·have h44 := not_t h43
   have g45 : ¬ ((f_hostPoke aH aM aPage aCell aV).2 = (f_hostPoke aH aM aPage aCell aV).2) := ne_of_beq_false h44
   refine ws (rg ?_)
   refine S.qe 1 [] [(10, .v (B false))] fun ac w β S => ?_
   exact (nt (wr (rt (S.r [B false] ⟨retB k0_laws_FnExactHostPoke, S.chg⟩))))
  have h46 := not_f h43
  have g47 : (f_hostPoke aH aM aPage aCell aV).2 = (f_hostPoke aH aM aPage aCell aV).2 := eq_of_beq h46
  refine wk (nt (ws (ws ?_)))
  refine S.draw0 (f := 5) 5 rfl rfl fun w S => ?_
  refine S.hq 0 [] [] [(57, .v (GT.val aH q20))] .nil fun ac S => ?_
  refine S.hq 1 [] [] [(58, .v (GT.val aH paH))] .nil fun ac S => ?_
  refine WD.one (i := 2) (by kernel_rfl) ?_
  refine id (S.k1 59 (c_laws_toHost w aH paH (S.rd (S.arg hkaH))) fun ac w N q48 F49 S up o50 d51 => ?_)
  refine WD.next S up (by kernel_rfl) ?_
  have d52 := Disj.w d51 o13.sub
  have d53 := Disj.w d51 o22.sub
  have d54 := Disj.w d51 o29.sub
  replace o13 := o13.up up
  replace o22 := o22.up up
  replace o29 := o29.up up
  clear up d51
  refine WD.one (i := 3) (by kernel_rfl) ?_
  refine S.stepq (i := 3) (keep := [1, 2, 3, 4, 5, 12, 13, 14, 15, 16, 60]) (m := 4) (σ' := ⟨[(1, .v (I aM)), (2, .v (I aPage)), (3, .v (I aCell)), (4, .v (I aV)), (5, .p 0 0), (12, .p 1 0), (13, .v (B (f_hostPoke aH aM aPage aCell aV).2)), (14, .p 2 0), (15, .p 3 0), (16, .v (B (f_hostPoke aH aM aPage aCell aV).2)), (60, .v (B (decide (aH = aH))))], [GT.cells aH paH, GT.cells (f_hostPoke aH aM aPage aCell aV).1 q9, GT.cells aH q20, GT.cells (f_hostPoke aH aM aPage aCell aV).1 q25]⟩) (.cons (Q_call fun w hw => c_laws_eqHost w aH q20 (rd_of o22.rn hw) aH q48 (rd_of o50.rn hw)) .nil) (by kernel_rfl) fun ac w β S hβ => ?_
  refine WD.stayq S hβ ?_
  clear hβ
  refine S.hq 4 [] [] [(61, .v (B (!(decide (aH = aH)))))] .nil fun ac S => ?_
  refine WD.done (by kernel_rfl) ?_ _
  refine id (nt (S.c (!(decide (aH = aH))) (fun h55 => ?_) (fun h55 => ?_)))
  ·have h56 := not_t h55
   have g57 := of_decide_eq_false h56
   refine ws (rg ?_)
   refine S.qe 1 [] [(10, .v (B false))] fun ac w β S => ?_
   exact (nt (wr (rt (S.r [B false] ⟨retB k0_laws_FnExactHostPoke, S.chg⟩))))
  have h58 := not_f h55
  have g59 := of_decide_eq_true h58
  refine wk (nt (ws (rg ?_)))
  refine S.qe 1 [] [(17, .v (I 1))] fun ac w β S => ?_
  refine (nt (ws (rg ?_)))
  refine S.qa 2 [] [(62, .v (GT.val aH q20)), (63, .v (I 1))] fun ac w β S => ?_
  have z68 := sz_hostPoke aH aM aPage aCell aV
  refine RG.op rfl (S.callX (hd := hdT_Host) (d := 64) o22 (c_laws_markHost w aH q20 F21 (S.ownw o22) (fun b hb => (S.sep b (o22.sub b hb)).1) 1 (by omega) (by omega)) (by kernel_rfl) rfl fun ac w N q60 y61 k62 S up o63 c64 x65 b66 b67 => ?_)
  replace o13 := o13.upF d24 up
  replace o29 := o29.upF (Disj.symm d37) up
  clear up
  replace S := S.z (σ' := ⟨[(1, .v (I aM)), (2, .v (I aPage)), (3, .v (I aCell)), (4, .v (I aV)), (5, .p 0 0), (12, .p 1 0), (13, .v (B (f_hostPoke aH aM aPage aCell aV).2)), (15, .p 3 0), (16, .v (B (f_hostPoke aH aM aPage aCell aV).2)), (63, .v (I 1)), (64, .v (I k62))], [GT.cells aH paH, GT.cells (f_hostPoke aH aM aPage aCell aV).1 q9, GT.cells aH q20, GT.cells (f_hostPoke aH aM aPage aCell aV).1 q25]⟩)
  have hw0 : GT.cells y61 q60 = GT.cells aH q20 := c64
  replace S := S.cast (σ' := ⟨[(1, .v (I aM)), (2, .v (I aPage)), (3, .v (I aCell)), (4, .v (I aV)), (5, .p 0 0), (12, .p 1 0), (13, .v (B (f_hostPoke aH aM aPage aCell aV).2)), (15, .p 3 0), (16, .v (B (f_hostPoke aH aM aPage aCell aV).2)), (63, .v (I 1)), (64, .v (I k62))], [GT.cells aH paH, GT.cells (f_hostPoke aH aM aPage aCell aV).1 q9, GT.cells y61 q60, GT.cells (f_hostPoke aH aM aPage aCell aV).1 q25]⟩) (by rw [hw0])
  clear hw0
  refine S.qe 1 [] [(17, .v (I k62))] fun ac w β S => ?_
  refine (nt (ws (ws (rg ?_))))
  refine S.qa 3 [] [(67, .v (B (decide (k62 < 0))))] fun ac w β S => ?_
  rcases Bool.eq_false_or_eq_true (decide (k62 < 0)) with h69 | h69 <;> rw [h69] at S
  ·have g70 := of_decide_eq_true h69
   refine S.qe 10 [67] [(77, .v (B true))] fun ac w β S => ?_
   refine (nt (S.c true (fun _ => ?_) (fun hx => by cases hx)))
   refine ws (rg ?_)
   refine S.qe 1 [1, 2, 3, 4, 5, 12, 13, 15, 16, 17, 63, 64, 77] [(10, .v (B false))] fun ac w β S => ?_
   exact (nt (wr (rt (S.r [B false] ⟨retB k0_laws_FnExactHostPoke, S.chg⟩))))
  ·have g71 := of_decide_eq_false h69
   refine S.qb 6 [67] [(73, .v (B (!(decide ((f_hostPoke aH aM aPage aCell aV).1 = (f_hostPoke aH aM aPage aCell aV).1)))))] (.cons (Q_call fun w hw => c_laws_eqHost w (f_hostPoke aH aM aPage aCell aV).1 q25 (rd_of o29.rn hw) (f_hostPoke aH aM aPage aCell aV).1 q9 (rd_of o13.rn hw)) .nil) fun ac w β S => ?_
   rw [h38] at S
   refine S.qe 4 [73] [(77, .v (B (!((f_hostPoke aH aM aPage aCell aV).2 == (f_hostPoke aH aM aPage aCell aV).2))))] fun ac w β S => ?_
   refine (nt (S.c (!((f_hostPoke aH aM aPage aCell aV).2 == (f_hostPoke aH aM aPage aCell aV).2)) (fun h72 => ?_) (fun h72 => ?_)))
   ·have h73 := not_t h72
    have g74 : ¬ ((f_hostPoke aH aM aPage aCell aV).2 = (f_hostPoke aH aM aPage aCell aV).2) := ne_of_beq_false h73
    refine ws (rg ?_)
    refine S.qe 1 [1, 2, 3, 4, 5, 12, 13, 15, 16, 17, 63, 64, 77] [(10, .v (B false))] fun ac w β S => ?_
    exact (nt (wr (rt (S.r [B false] ⟨retB k0_laws_FnExactHostPoke, S.chg⟩))))
   have h75 := not_f h72
   have g76 : (f_hostPoke aH aM aPage aCell aV).2 = (f_hostPoke aH aM aPage aCell aV).2 := eq_of_beq h75
   refine wk (nt (ws (rg ?_)))
   refine S.qe 1 [] [(18, .v (I 1))] fun ac w β S => ?_
   refine (nt (ws (rg ?_)))
   refine S.qa 2 [] [(78, .v (GT.val (f_hostPoke aH aM aPage aCell aV).1 q25)), (79, .v (I 1))] fun ac w β S => ?_
   have z85 := sz_hostPoke aH aM aPage aCell aV
   refine RG.op rfl (S.callX (hd := hdT_Host) (d := 80) o29 (c_laws_markHost w (f_hostPoke aH aM aPage aCell aV).1 q25 F27 (S.ownw o29) (fun b hb => (S.sep b (o29.sub b hb)).1) 1 (by omega) (by omega)) (by kernel_rfl) rfl fun ac w N q77 y78 k79 S up o80 c81 x82 b83 b84 => ?_)
   replace o13 := o13.upF d36 up
   replace o63 := o63.upF (Disj.symm (Disj.symm d37)) up
   clear up
   replace S := S.z (σ' := ⟨[(1, .v (I aM)), (2, .v (I aPage)), (3, .v (I aCell)), (4, .v (I aV)), (5, .p 0 0), (12, .p 1 0), (13, .v (B (f_hostPoke aH aM aPage aCell aV).2)), (15, .p 3 0), (79, .v (I 1)), (80, .v (I k79))], [GT.cells aH paH, GT.cells (f_hostPoke aH aM aPage aCell aV).1 q9, GT.cells y61 q60, GT.cells (f_hostPoke aH aM aPage aCell aV).1 q25]⟩)
   have hw0 : GT.cells y78 q77 = GT.cells (f_hostPoke aH aM aPage aCell aV).1 q25 := c81
   replace S := S.cast (σ' := ⟨[(1, .v (I aM)), (2, .v (I aPage)), (3, .v (I aCell)), (4, .v (I aV)), (5, .p 0 0), (12, .p 1 0), (13, .v (B (f_hostPoke aH aM aPage aCell aV).2)), (15, .p 3 0), (79, .v (I 1)), (80, .v (I k79))], [GT.cells aH paH, GT.cells (f_hostPoke aH aM aPage aCell aV).1 q9, GT.cells y61 q60, GT.cells y78 q77]⟩) (by rw [hw0])
   clear hw0
   refine S.qe 1 [] [(18, .v (I k79))] fun ac w β S => ?_
   refine (nt (ws (rg ?_)))
   refine S.qe 1 [] [(19, .v (I 1))] fun ac w β S => ?_
   refine (nt (ws (rg ?_)))
   refine S.qg 4 [] [(19, .v (I (hdT_Host y78 1)))] (.cons (Q_call fun w hw => c_laws_heldHost w y78 q77 (rd_of o80.rn hw) 1) .nil) fun ac w β S => ?_
   refine (nt (ws (ws (rg ?_))))
   refine S.qe 2 [] [(85, .v (B (decide ((hdT_Host y78 1) < 0))))] fun ac w β S => ?_
   refine (nt (S.c (decide ((hdT_Host y78 1) < 0)) (fun h86 => ?_) (fun h86 => ?_)))
   ·have g87 := of_decide_eq_true h86
    refine ws (rg ?_)
    refine S.qe 1 [1, 2, 3, 4, 5, 12, 13, 15, 18, 19, 79, 80, 85] [(10, .v (B false))] fun ac w β S => ?_
    exact (nt (wr (rt (S.r [B false] ⟨retB k0_laws_FnExactHostPoke, S.chg⟩))))
   have g88 := of_decide_eq_false h86
   refine wk (nt (ws (ws (rg ?_))))
   refine S.qe 3 [] [(88, .v (B ((hdT_Host y78 1) != k79)))] fun ac w β S => ?_
   refine (nt (S.c ((hdT_Host y78 1) != k79) (fun h89 => ?_) (fun h89 => ?_)))
   ·have g90 : ¬ ((hdT_Host y78 1) = k79) := bne_iff_ne.1 h89
    refine ws (rg ?_)
    refine S.qe 1 [1, 2, 3, 4, 5, 12, 13, 15, 18, 19, 79, 80, 85, 88] [(10, .v (B false))] fun ac w β S => ?_
    exact (nt (wr (rt (S.r [B false] ⟨retB k0_laws_FnExactHostPoke, S.chg⟩))))
   have g91 : (hdT_Host y78 1) = k79 := ne_f h89
   refine wk (nt (ws (rg ?_)))
   refine S.qa 1 [] [(90, .v (GT.val aH paH))] fun ac w β S => ?_
   refine RG.op rfl (S.k1 91 (c_laws_toHost w aH paH (S.rd (S.arg hkaH))) fun ac w N q92 F93 S up o94 d95 => ?_)
   have d96 := Disj.w d95 o13.sub
   have d97 := Disj.w d95 o63.sub
   have d98 := Disj.w d95 o80.sub
   replace o13 := o13.up up
   replace o63 := o63.up up
   replace o80 := o80.up up
   clear up d95
   refine S.qa 4 [] [(91, .v (GT.val aH q92)), (92, .v (I aM)), (93, .v (I aPage)), (94, .v (I aCell)), (95, .v (I aV))] fun ac w β S => ?_
   refine RG.op rfl (S.call2 (r := (f_hostPoke aH aM aPage aCell aV).1) (r' := (f_hostPoke aH aM aPage aCell aV).2) (d := 96) (c_impl_HostPoke w aH q92 (S.rd o94.rn) aM aPage haPage aCell haCell aV haV) (by kernel_rfl) rfl fun ac w N q99 q100 F101 F102 S up o103 o104 d105 d106 d107 => ?_)
   have d108 := Disj.w d106 o13.sub
   have d109 := Disj.w d106 o63.sub
   have d110 := Disj.w d106 o80.sub
   have d111 := Disj.w d106 o94.sub
   have d112 := Disj.w d105 o13.sub
   have d113 := Disj.w d105 o63.sub
   have d114 := Disj.w d105 o80.sub
   have d115 := Disj.w d105 o94.sub
   replace o13 := o13.up up
   replace o63 := o63.up up
   replace o80 := o80.up up
   replace o94 := o94.up up
   clear up d105
   clear d106
   refine S.qem 6 [1, 2, 3, 4, 5, 19, 79, 80, 85, 88, 90, 91, 92, 93, 94, 95] [(20, .p 4 0), (21, .v (B (f_hostPoke aH aM aPage aCell aV).2))] 5 [(4, GT.cells (f_hostPoke aH aM aPage aCell aV).1 q99)] fun ac w β S => ?_
   refine (nt (ws (ws (rg ?_))))
   refine S.qbm 5 [] [(103, .v (B (!(decide ((f_hostPoke aH aM aPage aCell aV).1 = (f_hostPoke aH aM aPage aCell aV).1)))))] (.cons (Q_call fun w hw => c_laws_eqHost w (f_hostPoke aH aM aPage aCell aV).1 q99 (rd_of o103.rn hw) (f_hostPoke aH aM aPage aCell aV).1 q9 (rd_of o13.rn hw)) .nil) 4 [] fun ac w β S => ?_
   rw [h38] at S
   refine S.qe 4 [103] [(107, .v (B (!((f_hostPoke aH aM aPage aCell aV).2 == (f_hostPoke aH aM aPage aCell aV).2))))] fun ac w β S => ?_
   refine (nt (S.c (!((f_hostPoke aH aM aPage aCell aV).2 == (f_hostPoke aH aM aPage aCell aV).2)) (fun h116 => ?_) (fun h116 => ?_)))
   ·have h117 := not_t h116
    have g118 : ¬ ((f_hostPoke aH aM aPage aCell aV).2 = (f_hostPoke aH aM aPage aCell aV).2) := ne_of_beq_false h117
    refine ws (rg ?_)
    refine S.qe 1 [] [(10, .v (B false))] fun ac w β S => ?_
    exact (nt (wr (rt (S.r [B false] ⟨retB k0_laws_FnExactHostPoke, S.chg⟩))))
   have h119 := not_f h116
   have g120 : (f_hostPoke aH aM aPage aCell aV).2 = (f_hostPoke aH aM aPage aCell aV).2 := eq_of_beq h119
   refine wk (nt (ws (rg ?_)))
   refine S.qe 1 [] [(19, .v (I 1))] fun ac w β S => ?_
   refine (nt (ws (rg ?_)))
   refine S.qgm 4 [] [(19, .v (I (hdT_Host y78 1)))] (.cons (Q_call fun w hw => c_laws_heldHost w y78 q77 (rd_of o80.rn hw) 1) .nil) 0 [] fun ac w β S => ?_
   refine (nt (ws (ws (rg ?_))))
   refine S.qe 2 [] [(112, .v (B (decide ((hdT_Host y78 1) < 0))))] fun ac w β S => ?_
   refine (nt (S.c (decide ((hdT_Host y78 1) < 0)) (fun h121 => ?_) (fun h121 => ?_)))
   ·have g122 := of_decide_eq_true h121
    refine ws (rg ?_)
    refine S.qe 1 [] [(10, .v (B false))] fun ac w β S => ?_
    exact (nt (wr (rt (S.r [B false] ⟨retB k0_laws_FnExactHostPoke, S.chg⟩))))
   have g123 := of_decide_eq_false h121
   refine wk (nt (ws (ws (rg ?_))))
   refine S.qe 3 [] [(115, .v (B ((hdT_Host y78 1) != k79)))] fun ac w β S => ?_
   refine (nt (S.c ((hdT_Host y78 1) != k79) (fun h124 => ?_) (fun h124 => ?_)))
   ·have g125 : ¬ ((hdT_Host y78 1) = k79) := bne_iff_ne.1 h124
    refine ws (rg ?_)
    refine S.qe 1 [] [(10, .v (B false))] fun ac w β S => ?_
    exact (nt (wr (rt (S.r [B false] ⟨retB k0_laws_FnExactHostPoke, S.chg⟩))))
   have g126 : (hdT_Host y78 1) = k79 := ne_f h124
   refine wk (nt (ws (rg ?_)))
   refine S.qe 1 [] [(10, .v (B true))] fun ac w β S => ?_
   exact (nt (wr (S.r [B true] ⟨retB k0_laws_FnExactHostPoke, S.chg⟩)))

end Go.Proofs.YtklppedmchbdmaaGreat
