/- The walks: what each function that the laws reach computes (part 5). -/
import Derived.Test.YtkbcponpcghjpaaGreatW4
import Derived.Test.YtkbcponpcghjpaaGreatProg
import Derived.KernelRfl
namespace Go.Proofs.YtkbcponpcghjpaaGreat
open Go
set_option linter.unusedVariables false
set_option linter.unusedSimpArgs false

theorem k0_laws_heldGuestS {p : Prop} (h : p := by clear S; (first | (rw [hr, hd_end (by omega)]; done) | (rw [hr, hd_step (by omega)]; simp [he_Guest, w1, hdi, hdb, hdc, *]; done) | (rw [hr, hd_step (by omega)]; simp_all [he_Guest, w1, hdi, hdb, hdc]; done))) : p := h
set_option maxRecDepth 100000 in
theorem c_laws_heldGuestS (w0 : World) (a : List TGuest) (pa : LP TGuest) (ha : GT.rd KK (Lt w0.heap.size) w0 a pa) (k : Int) : Calls Tryz.prog 100 [slv (a).length pa.1, I k].toArray w0 (fun e w' => e = .returned (I (hdl a k)) ∧ Chg NoB w0 w') := by
 refine Calls.walk (args := [slv (a).length pa.1, I k]) NoB Tryz.func100 rfl rfl ?_
 intro ac β S
 have hlea : a.length ≤ 4194304 := LRd.le ha
 refine ws (rg ?_)
 refine S.qe 1 [] [] ?_; clear S; intro ac w β S
 refine (nt (ws (ws (rg ?_))))
 refine S.qe 1 [] [(5, .v (I 0))] ?_; clear S; intro ac w β S
 refine (nt (wp_block ?_))
 refine wp_loop_down (fun mm ac w => ∃ (i : Nat) (j : Int)  (u : World) (N : Bl) (β : Nat → Nat), mm = a.length - i ∧ (i ≤ a.length) ∧ (hdl a k = hdlc (a.drop i) j id) ∧ St Tryz.prog Tryz.f100.ntmps w0 NoB u N β ⟨[(0, .v (slv (a).length pa.1)), (1, .v (I j)), (5, .v (I (i : Int)))], []⟩ ac w) _ ⟨0, k, _, _, _, rfl, (by first | omega | (simp; done) | (simp; omega)), (by rfl), S.z⟩ ?_
 clear S
 rintro mm ac w ⟨i, j, u, N, β, rfl, hi, hr, S⟩
 refine ws (ws (rg ?_))
 refine S.qe 4 [] [(9, .v (B (decide ((i : Int) < ((a).length : Int)))))] ?_; clear S; intro ac w β S
 refine (nt (S.c (decide ((i : Int) < ((a).length : Int))) (fun h1 => ?_) (fun h1 => ?_)))
 ·have g2 := of_decide_eq_true h1
  refine wk (nt (ws (wp_block (ws (rg ?_)))))
  refine S.qg 8 [] [(1, .v (I (hdl ((el a i).prog) j)))] (.cons (Q_idx (S.arg ha) (l := (a).length) (k := i) (i := (i : Int)) rfl rfl (by omega) Tryz.underlying54 (by kernel_rfl)) (.cons (Q_cell (S.arg ha) (t := 95) (k := i) (j := 0) (v := slv ((el a i).prog).length ((pa.2 i).prog).1) (by omega) (by kernel_rfl) (by kernel_rfl)) (.cons (Q_call fun w hw => c_laws_heldInsS w ((el a i).prog) ((pa.2 i).prog) (rd_of (RGuest.prog (d := (el a i)) (LRd.el (S.arg ha) i (by omega))) hw) j) .nil))) ?_; clear S; intro ac w β S
  refine (nt (ws (ws (rg ?_))))
  refine S.qe 2 [] [(20, .v (B (decide ((hdl ((el a i).prog) j) < 0))))] ?_; clear S; intro ac w β S
  refine (nt (S.c (decide ((hdl ((el a i).prog) j) < 0)) (fun h3 => ?_) (fun h3 => ?_)))
  ·have g4 := of_decide_eq_true h3
   refine ws (rg ?_)
   refine S.qe 1 [] [(4, .v (I (-1)))] ?_; clear S; intro ac w β S
   exact (nt (wr (rt (rb (rt (rt (rb (rt (S.r [I (-1)] ⟨retI k0_laws_heldGuestS, S.chg⟩)))))))))
  ·have g5 := of_decide_eq_false h3
   refine wk (nt (ws (ws (rg ?_))))
   refine S.qg 7 [] [(27, .v (B ((el a i).acc != (hdl ((el a i).prog) j))))] (.cons (Q_idx (S.arg ha) (l := (a).length) (k := i) (i := (i : Int)) rfl rfl (by omega) Tryz.underlying54 (by kernel_rfl)) (.cons (Q_cell (S.arg ha) (t := 3) (k := i) (j := 1) (v := I ((el a i).acc)) (by omega) (by kernel_rfl) (by kernel_rfl)) .nil)) ?_; clear S; intro ac w β S
   refine (nt (S.c ((el a i).acc != (hdl ((el a i).prog) j)) (fun h6 => ?_) (fun h6 => ?_)))
   ·have g7 : ¬ ((el a i).acc = (hdl ((el a i).prog) j)) := bne_iff_ne.1 h6
    refine ws (rg ?_)
    refine S.qe 1 [] [(4, .v (I (-1)))] ?_; clear S; intro ac w β S
    exact (nt (wr (rt (rb (rt (rt (rb (rt (S.r [I (-1)] ⟨retI k0_laws_heldGuestS, S.chg⟩)))))))))
   ·have g8 : (el a i).acc = (hdl ((el a i).prog) j) := ne_f h6
    refine wk (nt (ws (rg ?_)))
    refine S.qg 3 [] [(1, .v (I (w1 (hdl ((el a i).prog) j))))] (.cons (Q_addw (x := (hdl ((el a i).prog) j)) (y := 1)) .nil) ?_; clear S; intro ac w β S
    refine (nt (ws (ws (rg ?_))))
    refine S.qg 7 [] [(36, .v (B ((el a i).pc != (w1 (hdl ((el a i).prog) j)))))] (.cons (Q_idx (S.arg ha) (l := (a).length) (k := i) (i := (i : Int)) rfl rfl (by omega) Tryz.underlying54 (by kernel_rfl)) (.cons (Q_cell (S.arg ha) (t := 3) (k := i) (j := 2) (v := I ((el a i).pc)) (by omega) (by kernel_rfl) (by kernel_rfl)) .nil)) ?_; clear S; intro ac w β S
    refine (nt (S.c ((el a i).pc != (w1 (hdl ((el a i).prog) j))) (fun h9 => ?_) (fun h9 => ?_)))
    ·have g10 : ¬ ((el a i).pc = (w1 (hdl ((el a i).prog) j))) := bne_iff_ne.1 h9
     refine ws (rg ?_)
     refine S.qe 1 [] [(4, .v (I (-1)))] ?_; clear S; intro ac w β S
     exact (nt (wr (rt (rb (rt (rt (rb (rt (S.r [I (-1)] ⟨retI k0_laws_heldGuestS, S.chg⟩)))))))))
    ·have g11 : (el a i).pc = (w1 (hdl ((el a i).prog) j)) := ne_f h9
     refine wk (nt (ws (rg ?_)))
     refine S.qg 3 [] [(1, .v (I (w1 (w1 (hdl ((el a i).prog) j)))))] (.cons (Q_addw (x := (w1 (hdl ((el a i).prog) j))) (y := 1)) .nil) ?_; clear S; intro ac w β S
     refine (nt (ws (rg ?_)))
     refine S.qg 8 [] [(1, .v (I (hdl ((el a i).written) (w1 (w1 (hdl ((el a i).prog) j))))))] (.cons (Q_idx (S.arg ha) (l := (a).length) (k := i) (i := (i : Int)) rfl rfl (by omega) Tryz.underlying54 (by kernel_rfl)) (.cons (Q_cell (S.arg ha) (t := 61) (k := i) (j := 3) (v := slv ((el a i).written).length ((pa.2 i).written).1) (by omega) (by kernel_rfl) (by kernel_rfl)) (.cons (Q_call fun w hw => c_laws_heldSlotS w ((el a i).written) ((pa.2 i).written) (rd_of (RGuest.written (d := (el a i)) (LRd.el (S.arg ha) i (by omega))) hw) (w1 (w1 (hdl ((el a i).prog) j)))) .nil))) ?_; clear S; intro ac w β S
     refine (nt (ws (ws (rg ?_))))
     refine S.qe 2 [] [(47, .v (B (decide ((hdl ((el a i).written) (w1 (w1 (hdl ((el a i).prog) j)))) < 0))))] ?_; clear S; intro ac w β S
     refine (nt (S.c (decide ((hdl ((el a i).written) (w1 (w1 (hdl ((el a i).prog) j)))) < 0)) (fun h12 => ?_) (fun h12 => ?_)))
     ·have g13 := of_decide_eq_true h12
      refine ws (rg ?_)
      refine S.qe 1 [] [(4, .v (I (-1)))] ?_; clear S; intro ac w β S
      exact (nt (wr (rt (rb (rt (rt (rb (rt (S.r [I (-1)] ⟨retI k0_laws_heldGuestS, S.chg⟩)))))))))
     ·have g14 := of_decide_eq_false h12
      refine wk (nt (ws (rg ?_)))
      refine S.qg 8 [] [(1, .v (I (hdl ((el a i).live) (hdl ((el a i).written) (w1 (w1 (hdl ((el a i).prog) j)))))))] (.cons (Q_idx (S.arg ha) (l := (a).length) (k := i) (i := (i : Int)) rfl rfl (by omega) Tryz.underlying54 (by kernel_rfl)) (.cons (Q_cell (S.arg ha) (t := 61) (k := i) (j := 4) (v := slv ((el a i).live).length ((pa.2 i).live).1) (by omega) (by kernel_rfl) (by kernel_rfl)) (.cons (Q_call fun w hw => c_laws_heldSlotS w ((el a i).live) ((pa.2 i).live) (rd_of (RGuest.live (d := (el a i)) (LRd.el (S.arg ha) i (by omega))) hw) (hdl ((el a i).written) (w1 (w1 (hdl ((el a i).prog) j))))) .nil))) ?_; clear S; intro ac w β S
      refine (nt (ws (ws (rg ?_))))
      refine S.qe 2 [] [(56, .v (B (decide ((hdl ((el a i).live) (hdl ((el a i).written) (w1 (w1 (hdl ((el a i).prog) j))))) < 0))))] ?_; clear S; intro ac w β S
      refine (nt (S.c (decide ((hdl ((el a i).live) (hdl ((el a i).written) (w1 (w1 (hdl ((el a i).prog) j))))) < 0)) (fun h15 => ?_) (fun h15 => ?_)))
      ·have g16 := of_decide_eq_true h15
       refine ws (rg ?_)
       refine S.qe 1 [] [(4, .v (I (-1)))] ?_; clear S; intro ac w β S
       exact (nt (wr (rt (rb (rt (rt (rb (rt (S.r [I (-1)] ⟨retI k0_laws_heldGuestS, S.chg⟩)))))))))
      ·have g17 := of_decide_eq_false h15
       refine wk (nt (ws (ws (rg ?_))))
       refine S.qg 8 [] [(64, .v (B (((el a i).ctl).traps != (hdl ((el a i).live) (hdl ((el a i).written) (w1 (w1 (hdl ((el a i).prog) j))))))))] (.cons (Q_idx (S.arg ha) (l := (a).length) (k := i) (i := (i : Int)) rfl rfl (by omega) Tryz.underlying54 (by kernel_rfl)) (.cons (Q_cell (S.arg ha) (t := 3) (k := i) (j := 5) (v := I (((el a i).ctl).traps)) (by omega) (by kernel_rfl) (by kernel_rfl)) .nil)) ?_; clear S; intro ac w β S
       refine (nt (S.c (((el a i).ctl).traps != (hdl ((el a i).live) (hdl ((el a i).written) (w1 (w1 (hdl ((el a i).prog) j)))))) (fun h18 => ?_) (fun h18 => ?_)))
       ·have g19 : ¬ (((el a i).ctl).traps = (hdl ((el a i).live) (hdl ((el a i).written) (w1 (w1 (hdl ((el a i).prog) j)))))) := bne_iff_ne.1 h18
        refine ws (rg ?_)
        refine S.qe 1 [] [(4, .v (I (-1)))] ?_; clear S; intro ac w β S
        exact (nt (wr (rt (rb (rt (rt (rb (rt (S.r [I (-1)] ⟨retI k0_laws_heldGuestS, S.chg⟩)))))))))
       ·have g20 : ((el a i).ctl).traps = (hdl ((el a i).live) (hdl ((el a i).written) (w1 (w1 (hdl ((el a i).prog) j))))) := ne_f h18
        refine wk (nt (ws (rg ?_)))
        refine S.qg 3 [] [(1, .v (I (w1 (hdl ((el a i).live) (hdl ((el a i).written) (w1 (w1 (hdl ((el a i).prog) j))))))))] (.cons (Q_addw (x := (hdl ((el a i).live) (hdl ((el a i).written) (w1 (w1 (hdl ((el a i).prog) j)))))) (y := 1)) .nil) ?_; clear S; intro ac w β S
        refine (nt (ws (ws (rg ?_))))
        refine S.qg 8 [] [(74, .v (B (((el a i).ctl).post != (w1 (hdl ((el a i).live) (hdl ((el a i).written) (w1 (w1 (hdl ((el a i).prog) j)))))))))] (.cons (Q_idx (S.arg ha) (l := (a).length) (k := i) (i := (i : Int)) rfl rfl (by omega) Tryz.underlying54 (by kernel_rfl)) (.cons (Q_cell (S.arg ha) (t := 3) (k := i) (j := 6) (v := I (((el a i).ctl).post)) (by omega) (by kernel_rfl) (by kernel_rfl)) .nil)) ?_; clear S; intro ac w β S
        refine (nt (S.c (((el a i).ctl).post != (w1 (hdl ((el a i).live) (hdl ((el a i).written) (w1 (w1 (hdl ((el a i).prog) j))))))) (fun h21 => ?_) (fun h21 => ?_)))
        ·have g22 : ¬ (((el a i).ctl).post = (w1 (hdl ((el a i).live) (hdl ((el a i).written) (w1 (w1 (hdl ((el a i).prog) j))))))) := bne_iff_ne.1 h21
         refine ws (rg ?_)
         refine S.qe 1 [] [(4, .v (I (-1)))] ?_; clear S; intro ac w β S
         exact (nt (wr (rt (rb (rt (rt (rb (rt (S.r [I (-1)] ⟨retI k0_laws_heldGuestS, S.chg⟩)))))))))
        ·have g23 : ((el a i).ctl).post = (w1 (hdl ((el a i).live) (hdl ((el a i).written) (w1 (w1 (hdl ((el a i).prog) j)))))) := ne_f h21
         refine wk (nt (ws (rg ?_)))
         refine S.qg 3 [] [(1, .v (I (w1 (w1 (hdl ((el a i).live) (hdl ((el a i).written) (w1 (w1 (hdl ((el a i).prog) j)))))))))] (.cons (Q_addw (x := (w1 (hdl ((el a i).live) (hdl ((el a i).written) (w1 (w1 (hdl ((el a i).prog) j))))))) (y := 1)) .nil) ?_; clear S; intro ac w β S
         refine (nt (ws (ws (rg ?_))))
         refine S.qg 10 [] [(86, .v (B (!(((el a i).ctl).opn == ((Int.tmod (w1 (w1 (hdl ((el a i).live) (hdl ((el a i).written) (w1 (w1 (hdl ((el a i).prog) j))))))) 3) == 0)))))] (.cons (Q_idx (S.arg ha) (l := (a).length) (k := i) (i := (i : Int)) rfl rfl (by omega) Tryz.underlying54 (by kernel_rfl)) (.cons (Q_cell (S.arg ha) (t := 4) (k := i) (j := 7) (v := B (((el a i).ctl).opn)) (by omega) (by kernel_rfl) (by kernel_rfl)) (.cons (Q_rem (x := (w1 (w1 (hdl ((el a i).live) (hdl ((el a i).written) (w1 (w1 (hdl ((el a i).prog) j)))))))) (y := 3) (by decide)) .nil))) ?_; clear S; intro ac w β S
         refine (nt (S.c (!(((el a i).ctl).opn == ((Int.tmod (w1 (w1 (hdl ((el a i).live) (hdl ((el a i).written) (w1 (w1 (hdl ((el a i).prog) j))))))) 3) == 0))) (fun h24 => ?_) (fun h24 => ?_)))
         ·have h25 := not_t h24
          have g26 : ¬ (((el a i).ctl).opn = ((Int.tmod (w1 (w1 (hdl ((el a i).live) (hdl ((el a i).written) (w1 (w1 (hdl ((el a i).prog) j))))))) 3) == 0)) := ne_of_beq_false h25
          refine ws (rg ?_)
          refine S.qe 1 [] [(4, .v (I (-1)))] ?_; clear S; intro ac w β S
          exact (nt (wr (rt (rb (rt (rt (rb (rt (S.r [I (-1)] ⟨retI k0_laws_heldGuestS, S.chg⟩)))))))))
         ·have h27 := not_f h24
          have g28 : ((el a i).ctl).opn = ((Int.tmod (w1 (w1 (hdl ((el a i).live) (hdl ((el a i).written) (w1 (w1 (hdl ((el a i).prog) j))))))) 3) == 0) := eq_of_beq h27
          refine wk (nt (ws (rg ?_)))
          refine S.qg 3 [] [(1, .v (I (w1 (w1 (w1 (hdl ((el a i).live) (hdl ((el a i).written) (w1 (w1 (hdl ((el a i).prog) j))))))))))] (.cons (Q_addw (x := (w1 (w1 (hdl ((el a i).live) (hdl ((el a i).written) (w1 (w1 (hdl ((el a i).prog) j)))))))) (y := 1)) .nil) ?_; clear S; intro ac w β S
          refine (nt (ws (ws (rg ?_))))
          refine S.qg 7 [] [(95, .v (B ((el a i).pend != (w1 (w1 (w1 (hdl ((el a i).live) (hdl ((el a i).written) (w1 (w1 (hdl ((el a i).prog) j)))))))))))] (.cons (Q_idx (S.arg ha) (l := (a).length) (k := i) (i := (i : Int)) rfl rfl (by omega) Tryz.underlying54 (by kernel_rfl)) (.cons (Q_cell (S.arg ha) (t := 3) (k := i) (j := 8) (v := I ((el a i).pend)) (by omega) (by kernel_rfl) (by kernel_rfl)) .nil)) ?_; clear S; intro ac w β S
          refine (nt (S.c ((el a i).pend != (w1 (w1 (w1 (hdl ((el a i).live) (hdl ((el a i).written) (w1 (w1 (hdl ((el a i).prog) j))))))))) (fun h29 => ?_) (fun h29 => ?_)))
          ·have g30 : ¬ ((el a i).pend = (w1 (w1 (w1 (hdl ((el a i).live) (hdl ((el a i).written) (w1 (w1 (hdl ((el a i).prog) j))))))))) := bne_iff_ne.1 h29
           refine ws (rg ?_)
           refine S.qe 1 [0, 1, 5, 9, 20, 27, 36, 47, 56, 64, 74, 86, 95] [(4, .v (I (-1)))] ?_; clear S; intro ac w β S
           exact (nt (wr (rt (rb (rt (rt (rb (rt (S.r [I (-1)] ⟨retI k0_laws_heldGuestS, S.chg⟩)))))))))
          ·have g31 : (el a i).pend = (w1 (w1 (w1 (hdl ((el a i).live) (hdl ((el a i).written) (w1 (w1 (hdl ((el a i).prog) j)))))))) := ne_f h29
           refine wk (nt (ws (rg ?_)))
           refine S.qg 3 [] [(1, .v (I (w1 (w1 (w1 (w1 (hdl ((el a i).live) (hdl ((el a i).written) (w1 (w1 (hdl ((el a i).prog) j)))))))))))] (.cons (Q_addw (x := (w1 (w1 (w1 (hdl ((el a i).live) (hdl ((el a i).written) (w1 (w1 (hdl ((el a i).prog) j))))))))) (y := 1)) .nil) ?_; clear S; intro ac w β S
           refine (nt (ws (ws (rg ?_))))
           refine S.qg 8 [] [(105, .v (B (((el a i).exit).kind != (w1 (w1 (w1 (w1 (hdl ((el a i).live) (hdl ((el a i).written) (w1 (w1 (hdl ((el a i).prog) j))))))))))))] (.cons (Q_idx (S.arg ha) (l := (a).length) (k := i) (i := (i : Int)) rfl rfl (by omega) Tryz.underlying54 (by kernel_rfl)) (.cons (Q_cell (S.arg ha) (t := 3) (k := i) (j := 9) (v := I (((el a i).exit).kind)) (by omega) (by kernel_rfl) (by kernel_rfl)) .nil)) ?_; clear S; intro ac w β S
           refine (nt (S.c (((el a i).exit).kind != (w1 (w1 (w1 (w1 (hdl ((el a i).live) (hdl ((el a i).written) (w1 (w1 (hdl ((el a i).prog) j)))))))))) (fun h32 => ?_) (fun h32 => ?_)))
           ·have g33 : ¬ (((el a i).exit).kind = (w1 (w1 (w1 (w1 (hdl ((el a i).live) (hdl ((el a i).written) (w1 (w1 (hdl ((el a i).prog) j)))))))))) := bne_iff_ne.1 h32
            refine ws (rg ?_)
            refine S.qe 1 [0, 1, 5, 9, 20, 27, 36, 47, 56, 64, 74, 86, 95, 105] [(4, .v (I (-1)))] ?_; clear S; intro ac w β S
            exact (nt (wr (rt (rb (rt (rt (rb (rt (S.r [I (-1)] ⟨retI k0_laws_heldGuestS, S.chg⟩)))))))))
           ·have g34 : ((el a i).exit).kind = (w1 (w1 (w1 (w1 (hdl ((el a i).live) (hdl ((el a i).written) (w1 (w1 (hdl ((el a i).prog) j))))))))) := ne_f h32
            refine wk (nt (ws (rg ?_)))
            refine S.qg 3 [] [(1, .v (I (w1 (w1 (w1 (w1 (w1 (hdl ((el a i).live) (hdl ((el a i).written) (w1 (w1 (hdl ((el a i).prog) j))))))))))))] (.cons (Q_addw (x := (w1 (w1 (w1 (w1 (hdl ((el a i).live) (hdl ((el a i).written) (w1 (w1 (hdl ((el a i).prog) j)))))))))) (y := 1)) .nil) ?_; clear S; intro ac w β S
            refine (nt (ws (ws (rg ?_))))
            refine S.qg 8 [] [(115, .v (B (((el a i).exit).page != (w1 (w1 (w1 (w1 (w1 (hdl ((el a i).live) (hdl ((el a i).written) (w1 (w1 (hdl ((el a i).prog) j)))))))))))))] (.cons (Q_idx (S.arg ha) (l := (a).length) (k := i) (i := (i : Int)) rfl rfl (by omega) Tryz.underlying54 (by kernel_rfl)) (.cons (Q_cell (S.arg ha) (t := 3) (k := i) (j := 10) (v := I (((el a i).exit).page)) (by omega) (by kernel_rfl) (by kernel_rfl)) .nil)) ?_; clear S; intro ac w β S
            refine (nt (S.c (((el a i).exit).page != (w1 (w1 (w1 (w1 (w1 (hdl ((el a i).live) (hdl ((el a i).written) (w1 (w1 (hdl ((el a i).prog) j))))))))))) (fun h35 => ?_) (fun h35 => ?_)))
            ·have g36 : ¬ (((el a i).exit).page = (w1 (w1 (w1 (w1 (w1 (hdl ((el a i).live) (hdl ((el a i).written) (w1 (w1 (hdl ((el a i).prog) j))))))))))) := bne_iff_ne.1 h35
             refine ws (rg ?_)
             refine S.qe 1 [0, 1, 5, 9, 20, 27, 36, 47, 56, 64, 74, 86, 95, 105, 115] [(4, .v (I (-1)))] ?_; clear S; intro ac w β S
             exact (nt (wr (rt (rb (rt (rt (rb (rt (S.r [I (-1)] ⟨retI k0_laws_heldGuestS, S.chg⟩)))))))))
            ·have g37 : ((el a i).exit).page = (w1 (w1 (w1 (w1 (w1 (hdl ((el a i).live) (hdl ((el a i).written) (w1 (w1 (hdl ((el a i).prog) j)))))))))) := ne_f h35
             refine wk (nt (ws (rg ?_)))
             refine S.qg 3 [] [(1, .v (I (w1 (w1 (w1 (w1 (w1 (w1 (hdl ((el a i).live) (hdl ((el a i).written) (w1 (w1 (hdl ((el a i).prog) j)))))))))))))] (.cons (Q_addw (x := (w1 (w1 (w1 (w1 (w1 (hdl ((el a i).live) (hdl ((el a i).written) (w1 (w1 (hdl ((el a i).prog) j))))))))))) (y := 1)) .nil) ?_; clear S; intro ac w β S
             refine (nt (ws (ws (rg ?_))))
             refine S.qg 10 [] [(127, .v (B (!(((el a i).exit).wr == ((Int.tmod (w1 (w1 (w1 (w1 (w1 (w1 (hdl ((el a i).live) (hdl ((el a i).written) (w1 (w1 (hdl ((el a i).prog) j))))))))))) 3) == 0)))))] (.cons (Q_idx (S.arg ha) (l := (a).length) (k := i) (i := (i : Int)) rfl rfl (by omega) Tryz.underlying54 (by kernel_rfl)) (.cons (Q_cell (S.arg ha) (t := 4) (k := i) (j := 11) (v := B (((el a i).exit).wr)) (by omega) (by kernel_rfl) (by kernel_rfl)) (.cons (Q_rem (x := (w1 (w1 (w1 (w1 (w1 (w1 (hdl ((el a i).live) (hdl ((el a i).written) (w1 (w1 (hdl ((el a i).prog) j)))))))))))) (y := 3) (by decide)) .nil))) ?_; clear S; intro ac w β S
             refine (nt (S.c (!(((el a i).exit).wr == ((Int.tmod (w1 (w1 (w1 (w1 (w1 (w1 (hdl ((el a i).live) (hdl ((el a i).written) (w1 (w1 (hdl ((el a i).prog) j))))))))))) 3) == 0))) (fun h38 => ?_) (fun h38 => ?_)))
             ·have h39 := not_t h38
              have g40 : ¬ (((el a i).exit).wr = ((Int.tmod (w1 (w1 (w1 (w1 (w1 (w1 (hdl ((el a i).live) (hdl ((el a i).written) (w1 (w1 (hdl ((el a i).prog) j))))))))))) 3) == 0)) := ne_of_beq_false h39
              refine ws (rg ?_)
              refine S.qe 1 [0, 1, 5, 9, 20, 27, 36, 47, 56, 64, 74, 86, 95, 105, 115, 127] [(4, .v (I (-1)))] ?_; clear S; intro ac w β S
              exact (nt (wr (rt (rb (rt (rt (rb (rt (S.r [I (-1)] ⟨retI k0_laws_heldGuestS, S.chg⟩)))))))))
             ·have h41 := not_f h38
              have g42 : ((el a i).exit).wr = ((Int.tmod (w1 (w1 (w1 (w1 (w1 (w1 (hdl ((el a i).live) (hdl ((el a i).written) (w1 (w1 (hdl ((el a i).prog) j))))))))))) 3) == 0) := eq_of_beq h41
              refine wk (nt (ws (rg ?_)))
              refine S.qg 3 [9, 20, 27, 36, 47, 56, 64, 74, 86, 95, 105, 115, 127] [(1, .v (I (w1 (w1 (w1 (w1 (w1 (w1 (w1 (hdl ((el a i).live) (hdl ((el a i).written) (w1 (w1 (hdl ((el a i).prog) j))))))))))))))] (.cons (Q_addw (x := (w1 (w1 (w1 (w1 (w1 (w1 (hdl ((el a i).live) (hdl ((el a i).written) (w1 (w1 (hdl ((el a i).prog) j)))))))))))) (y := 1)) .nil) ?_; clear S; intro ac w β S
              refine (nt (ws (ws (rg ?_))))
              refine S.qg 8 [] [(137, .v (B (((el a i).exit).n != (w1 (w1 (w1 (w1 (w1 (w1 (w1 (hdl ((el a i).live) (hdl ((el a i).written) (w1 (w1 (hdl ((el a i).prog) j)))))))))))))))] (.cons (Q_idx (S.arg ha) (l := (a).length) (k := i) (i := (i : Int)) rfl rfl (by omega) Tryz.underlying54 (by kernel_rfl)) (.cons (Q_cell (S.arg ha) (t := 3) (k := i) (j := 12) (v := I (((el a i).exit).n)) (by omega) (by kernel_rfl) (by kernel_rfl)) .nil)) ?_; clear S; intro ac w β S
              refine (nt (S.c (((el a i).exit).n != (w1 (w1 (w1 (w1 (w1 (w1 (w1 (hdl ((el a i).live) (hdl ((el a i).written) (w1 (w1 (hdl ((el a i).prog) j))))))))))))) (fun h43 => ?_) (fun h43 => ?_)))
              ·have g44 : ¬ (((el a i).exit).n = (w1 (w1 (w1 (w1 (w1 (w1 (w1 (hdl ((el a i).live) (hdl ((el a i).written) (w1 (w1 (hdl ((el a i).prog) j))))))))))))) := bne_iff_ne.1 h43
               refine ws (rg ?_)
               refine S.qe 1 [] [(4, .v (I (-1)))] ?_; clear S; intro ac w β S
               exact (nt (wr (rt (rb (rt (rt (rb (rt (S.r [I (-1)] ⟨retI k0_laws_heldGuestS, S.chg⟩)))))))))
              ·have g45 : ((el a i).exit).n = (w1 (w1 (w1 (w1 (w1 (w1 (w1 (hdl ((el a i).live) (hdl ((el a i).written) (w1 (w1 (hdl ((el a i).prog) j)))))))))))) := ne_f h43
               refine wk (nt (ws (rg ?_)))
               refine S.qg 3 [] [(1, .v (I (w1 (w1 (w1 (w1 (w1 (w1 (w1 (w1 (hdl ((el a i).live) (hdl ((el a i).written) (w1 (w1 (hdl ((el a i).prog) j)))))))))))))))] (.cons (Q_addw (x := (w1 (w1 (w1 (w1 (w1 (w1 (w1 (hdl ((el a i).live) (hdl ((el a i).written) (w1 (w1 (hdl ((el a i).prog) j))))))))))))) (y := 1)) .nil) ?_; clear S; intro ac w β S
               refine (nt (ws (ws (rg ?_))))
               refine S.qg 9 [] [(148, .v (B (!((el a i).halted == ((Int.tmod (w1 (w1 (w1 (w1 (w1 (w1 (w1 (w1 (hdl ((el a i).live) (hdl ((el a i).written) (w1 (w1 (hdl ((el a i).prog) j))))))))))))) 3) == 0)))))] (.cons (Q_idx (S.arg ha) (l := (a).length) (k := i) (i := (i : Int)) rfl rfl (by omega) Tryz.underlying54 (by kernel_rfl)) (.cons (Q_cell (S.arg ha) (t := 4) (k := i) (j := 13) (v := B ((el a i).halted)) (by omega) (by kernel_rfl) (by kernel_rfl)) (.cons (Q_rem (x := (w1 (w1 (w1 (w1 (w1 (w1 (w1 (w1 (hdl ((el a i).live) (hdl ((el a i).written) (w1 (w1 (hdl ((el a i).prog) j)))))))))))))) (y := 3) (by decide)) .nil))) ?_; clear S; intro ac w β S
               refine (nt (S.c (!((el a i).halted == ((Int.tmod (w1 (w1 (w1 (w1 (w1 (w1 (w1 (w1 (hdl ((el a i).live) (hdl ((el a i).written) (w1 (w1 (hdl ((el a i).prog) j))))))))))))) 3) == 0))) (fun h46 => ?_) (fun h46 => ?_)))
               ·have h47 := not_t h46
                have g48 : ¬ ((el a i).halted = ((Int.tmod (w1 (w1 (w1 (w1 (w1 (w1 (w1 (w1 (hdl ((el a i).live) (hdl ((el a i).written) (w1 (w1 (hdl ((el a i).prog) j))))))))))))) 3) == 0)) := ne_of_beq_false h47
                refine ws (rg ?_)
                refine S.qe 1 [] [(4, .v (I (-1)))] ?_; clear S; intro ac w β S
                exact (nt (wr (rt (rb (rt (rt (rb (rt (S.r [I (-1)] ⟨retI k0_laws_heldGuestS, S.chg⟩)))))))))
               ·have h49 := not_f h46
                have g50 : (el a i).halted = ((Int.tmod (w1 (w1 (w1 (w1 (w1 (w1 (w1 (w1 (hdl ((el a i).live) (hdl ((el a i).written) (w1 (w1 (hdl ((el a i).prog) j))))))))))))) 3) == 0) := eq_of_beq h49
                refine wk (nt (ws (rg ?_)))
                refine S.qg 3 [] [(1, .v (I (w1 (w1 (w1 (w1 (w1 (w1 (w1 (w1 (w1 (hdl ((el a i).live) (hdl ((el a i).written) (w1 (w1 (hdl ((el a i).prog) j))))))))))))))))] (.cons (Q_addw (x := (w1 (w1 (w1 (w1 (w1 (w1 (w1 (w1 (hdl ((el a i).live) (hdl ((el a i).written) (w1 (w1 (hdl ((el a i).prog) j)))))))))))))) (y := 1)) .nil) ?_; clear S; intro ac w β S
                refine (nt (ws (rg ?_)))
                refine S.qg 8 [] [(1, .v (I (hdl ((el a i).seen) (w1 (w1 (w1 (w1 (w1 (w1 (w1 (w1 (w1 (hdl ((el a i).live) (hdl ((el a i).written) (w1 (w1 (hdl ((el a i).prog) j)))))))))))))))))] (.cons (Q_idx (S.arg ha) (l := (a).length) (k := i) (i := (i : Int)) rfl rfl (by omega) Tryz.underlying54 (by kernel_rfl)) (.cons (Q_cell (S.arg ha) (t := 55) (k := i) (j := 14) (v := slv ((el a i).seen).length ((pa.2 i).seen).1) (by omega) (by kernel_rfl) (by kernel_rfl)) (.cons (Q_call fun w hw => c_laws_heldIntS w ((el a i).seen) ((pa.2 i).seen) (rd_of (RGuest.seen (d := (el a i)) (LRd.el (S.arg ha) i (by omega))) hw) (w1 (w1 (w1 (w1 (w1 (w1 (w1 (w1 (w1 (hdl ((el a i).live) (hdl ((el a i).written) (w1 (w1 (hdl ((el a i).prog) j))))))))))))))) .nil))) ?_; clear S; intro ac w β S
                refine (nt (ws (rg ?_)))
                refine S.qe 2 [] [(159, .v (B (decide ((hdl ((el a i).seen) (w1 (w1 (w1 (w1 (w1 (w1 (w1 (w1 (w1 (hdl ((el a i).live) (hdl ((el a i).written) (w1 (w1 (hdl ((el a i).prog) j))))))))))))))) < 0))))] ?_; clear S; intro ac w β S
                refine (nt (S.c (decide ((hdl ((el a i).seen) (w1 (w1 (w1 (w1 (w1 (w1 (w1 (w1 (w1 (hdl ((el a i).live) (hdl ((el a i).written) (w1 (w1 (hdl ((el a i).prog) j))))))))))))))) < 0)) (fun h51 => ?_) (fun h51 => ?_)))
                ·have g52 := of_decide_eq_true h51
                 refine ws (rg ?_)
                 refine S.qe 1 [] [(4, .v (I (-1)))] ?_; clear S; intro ac w β S
                 exact (nt (wr (rb (rt (rt (rb (rt (S.r [I (-1)] ⟨retI k0_laws_heldGuestS, S.chg⟩))))))))
                ·have g53 := of_decide_eq_false h51
                 refine wk (nb (nt (rg ?_)))
                 refine S.qg 3 [] [(5, .v (I ((i : Int) + 1)))] (.cons (Q_add (x := (i : Int)) (y := 1) ⟨by omega, by omega⟩) .nil) ?_; clear S; intro ac w β S
                 refine (nt ?_)
                 refine ⟨a.length - (i + 1), by omega, i + 1, (hdl ((el a i).seen) (w1 (w1 (w1 (w1 (w1 (w1 (w1 (w1 (w1 (hdl ((el a i).live) (hdl ((el a i).written) (w1 (w1 (hdl ((el a i).prog) j))))))))))))))), _, _, _, rfl, ?_, ?_, S.z⟩
                 ·clear S; first | omega | (simp [*]; done) | (simp [*]; omega)
                 ·clear S; (rw [hr, hd_step (by omega)]; simp [he_Guest, w1, hdi, hdb, hdc, *])
 ·have g54 := of_decide_eq_false h1
  refine wp_exit (ex_then (ex_then (ex_hit (nt (ws (rg ?_))))))
  refine S.qe 2 [] [(4, .v (I j))] ?_; clear S; intro ac w β S
  exact (nt (wr (S.r [I j] ⟨retI k0_laws_heldGuestS, S.chg⟩)))

theorem k0_laws_heldKeptS {p : Prop} (h : p := by clear S; (first | (rw [hr, hd_end (by omega)]; done) | (rw [hr, hd_step (by omega)]; simp [he_Kept, w1, hdi, hdb, hdc, *]; done) | (rw [hr, hd_step (by omega)]; simp_all [he_Kept, w1, hdi, hdb, hdc]; done))) : p := h
set_option maxRecDepth 100000 in
theorem c_laws_heldKeptS (w0 : World) (a : List TKept) (pa : LP TKept) (ha : GT.rd KK (Lt w0.heap.size) w0 a pa) (k : Int) : Calls Tryz.prog 101 [slv (a).length pa.1, I k].toArray w0 (fun e w' => e = .returned (I (hdl a k)) ∧ Chg NoB w0 w') := by
 refine Calls.walk (args := [slv (a).length pa.1, I k]) NoB Tryz.func101 rfl rfl ?_
 intro ac β S
 have hlea : a.length ≤ 4194304 := LRd.le ha
 refine ws (rg ?_)
 refine S.qe 1 [] [] ?_; clear S; intro ac w β S
 refine (nt (ws (ws (rg ?_))))
 refine S.qe 1 [] [(5, .v (I 0))] ?_; clear S; intro ac w β S
 refine (nt (wp_block ?_))
 refine wp_loop_down (fun mm ac w => ∃ (i : Nat) (j : Int)  (u : World) (N : Bl) (β : Nat → Nat), mm = a.length - i ∧ (i ≤ a.length) ∧ (hdl a k = hdlc (a.drop i) j id) ∧ St Tryz.prog Tryz.f101.ntmps w0 NoB u N β ⟨[(0, .v (slv (a).length pa.1)), (1, .v (I j)), (5, .v (I (i : Int)))], []⟩ ac w) _ ⟨0, k, _, _, _, rfl, (by first | omega | (simp; done) | (simp; omega)), (by rfl), S.z⟩ ?_
 clear S
 rintro mm ac w ⟨i, j, u, N, β, rfl, hi, hr, S⟩
 refine ws (ws (rg ?_))
 refine S.qe 4 [] [(9, .v (B (decide ((i : Int) < ((a).length : Int)))))] ?_; clear S; intro ac w β S
 refine (nt (S.c (decide ((i : Int) < ((a).length : Int))) (fun h1 => ?_) (fun h1 => ?_)))
 ·have g2 := of_decide_eq_true h1
  refine wk (nt (ws (wp_block (ws (rg ?_)))))
  refine S.qg 8 [] [(1, .v (I (hdl ((el a i).known) j)))] (.cons (Q_idx (S.arg ha) (l := (a).length) (k := i) (i := (i : Int)) rfl rfl (by omega) Tryz.underlying63 (by kernel_rfl)) (.cons (Q_cell (S.arg ha) (t := 62) (k := i) (j := 0) (v := slv ((el a i).known).length ((pa.2 i).known).1) (by omega) (by kernel_rfl) (by kernel_rfl)) (.cons (Q_call fun w hw => c_laws_heldBoolS w ((el a i).known) ((pa.2 i).known) (rd_of (RKept.known (d := (el a i)) (LRd.el (S.arg ha) i (by omega))) hw) j) .nil))) ?_; clear S; intro ac w β S
  refine (nt (ws (ws (rg ?_))))
  refine S.qe 2 [] [(20, .v (B (decide ((hdl ((el a i).known) j) < 0))))] ?_; clear S; intro ac w β S
  refine (nt (S.c (decide ((hdl ((el a i).known) j) < 0)) (fun h3 => ?_) (fun h3 => ?_)))
  ·have g4 := of_decide_eq_true h3
   refine ws (rg ?_)
   refine S.qe 1 [] [(4, .v (I (-1)))] ?_; clear S; intro ac w β S
   exact (nt (wr (rt (rb (rt (rt (rb (rt (S.r [I (-1)] ⟨retI k0_laws_heldKeptS, S.chg⟩)))))))))
  ·have g5 := of_decide_eq_false h3
   refine wk (nt (ws (rg ?_)))
   refine S.qg 8 [] [(1, .v (I (hdl ((el a i).slots) (hdl ((el a i).known) j))))] (.cons (Q_idx (S.arg ha) (l := (a).length) (k := i) (i := (i : Int)) rfl rfl (by omega) Tryz.underlying63 (by kernel_rfl)) (.cons (Q_cell (S.arg ha) (t := 61) (k := i) (j := 1) (v := slv ((el a i).slots).length ((pa.2 i).slots).1) (by omega) (by kernel_rfl) (by kernel_rfl)) (.cons (Q_call fun w hw => c_laws_heldSlotS w ((el a i).slots) ((pa.2 i).slots) (rd_of (RKept.slots (d := (el a i)) (LRd.el (S.arg ha) i (by omega))) hw) (hdl ((el a i).known) j)) .nil))) ?_; clear S; intro ac w β S
   refine (nt (ws (rg ?_)))
   refine S.qe 2 [] [(29, .v (B (decide ((hdl ((el a i).slots) (hdl ((el a i).known) j)) < 0))))] ?_; clear S; intro ac w β S
   refine (nt (S.c (decide ((hdl ((el a i).slots) (hdl ((el a i).known) j)) < 0)) (fun h6 => ?_) (fun h6 => ?_)))
   ·have g7 := of_decide_eq_true h6
    refine ws (rg ?_)
    refine S.qe 1 [] [(4, .v (I (-1)))] ?_; clear S; intro ac w β S
    exact (nt (wr (rb (rt (rt (rb (rt (S.r [I (-1)] ⟨retI k0_laws_heldKeptS, S.chg⟩))))))))
   ·have g8 := of_decide_eq_false h6
    refine wk (nb (nt (rg ?_)))
    refine S.qg 3 [] [(5, .v (I ((i : Int) + 1)))] (.cons (Q_add (x := (i : Int)) (y := 1) ⟨by omega, by omega⟩) .nil) ?_; clear S; intro ac w β S
    refine (nt ?_)
    refine ⟨a.length - (i + 1), by omega, i + 1, (hdl ((el a i).slots) (hdl ((el a i).known) j)), _, _, _, rfl, ?_, ?_, S.z⟩
    ·clear S; first | omega | (simp [*]; done) | (simp [*]; omega)
    ·clear S; (rw [hr, hd_step (by omega)]; simp [he_Kept, w1, hdi, hdb, hdc, *])
 ·have g9 := of_decide_eq_false h1
  refine wp_exit (ex_then (ex_then (ex_hit (nt (ws (rg ?_))))))
  refine S.qe 2 [] [(4, .v (I j))] ?_; clear S; intro ac w β S
  exact (nt (wr (S.r [I j] ⟨retI k0_laws_heldKeptS, S.chg⟩)))

theorem k0_laws_heldMonS {p : Prop} (h : p := by clear S; (first | (rw [hr, hd_end (by omega)]; done) | (rw [hr, hd_step (by omega)]; simp [he_Mon, w1, hdi, hdb, hdc, *]; done) | (rw [hr, hd_step (by omega)]; simp_all [he_Mon, w1, hdi, hdb, hdc]; done))) : p := h
set_option maxRecDepth 100000 in
theorem c_laws_heldMonS (w0 : World) (a : List TMon) (pa : LP TMon) (ha : GT.rd KK (Lt w0.heap.size) w0 a pa) (k : Int) : Calls Tryz.prog 48 [slv (a).length pa.1, I k].toArray w0 (fun e w' => e = .returned (I (hdl a k)) ∧ Chg NoB w0 w') := by
 refine Calls.walk (args := [slv (a).length pa.1, I k]) NoB Tryz.func48 rfl rfl ?_
 intro ac β S
 have hlea : a.length ≤ 4194304 := LRd.le ha
 refine ws (rg ?_)
 refine S.qe 1 [] [] ?_; clear S; intro ac w β S
 refine (nt (ws (ws (rg ?_))))
 refine S.qe 1 [] [(5, .v (I 0))] ?_; clear S; intro ac w β S
 refine (nt (wp_block ?_))
 refine wp_loop_down (fun mm ac w => ∃ (i : Nat) (j : Int)  (u : World) (N : Bl) (β : Nat → Nat), mm = a.length - i ∧ (i ≤ a.length) ∧ (hdl a k = hdlc (a.drop i) j id) ∧ St Tryz.prog Tryz.f48.ntmps w0 NoB u N β ⟨[(0, .v (slv (a).length pa.1)), (1, .v (I j)), (5, .v (I (i : Int)))], []⟩ ac w) _ ⟨0, k, _, _, _, rfl, (by first | omega | (simp; done) | (simp; omega)), (by rfl), S.z⟩ ?_
 clear S
 rintro mm ac w ⟨i, j, u, N, β, rfl, hi, hr, S⟩
 refine ws (ws (rg ?_))
 refine S.qe 4 [] [(9, .v (B (decide ((i : Int) < ((a).length : Int)))))] ?_; clear S; intro ac w β S
 refine (nt (S.c (decide ((i : Int) < ((a).length : Int))) (fun h1 => ?_) (fun h1 => ?_)))
 ·have g2 := of_decide_eq_true h1
  refine wk (nt (ws (wp_block (ws (rg ?_)))))
  refine S.qg 8 [] [(1, .v (I (hdl ((el a i).outer) j)))] (.cons (Q_idx (S.arg ha) (l := (a).length) (k := i) (i := (i : Int)) rfl rfl (by omega) Tryz.underlying30 (by kernel_rfl)) (.cons (Q_cell (S.arg ha) (t := 61) (k := i) (j := 0) (v := slv ((el a i).outer).length ((pa.2 i).outer).1) (by omega) (by kernel_rfl) (by kernel_rfl)) (.cons (Q_call fun w hw => c_laws_heldSlotS w ((el a i).outer) ((pa.2 i).outer) (rd_of (RMon.outer (d := (el a i)) (LRd.el (S.arg ha) i (by omega))) hw) j) .nil))) ?_; clear S; intro ac w β S
  refine (nt (ws (ws (rg ?_))))
  refine S.qe 2 [] [(20, .v (B (decide ((hdl ((el a i).outer) j) < 0))))] ?_; clear S; intro ac w β S
  refine (nt (S.c (decide ((hdl ((el a i).outer) j) < 0)) (fun h3 => ?_) (fun h3 => ?_)))
  ·have g4 := of_decide_eq_true h3
   refine ws (rg ?_)
   refine S.qe 1 [] [(4, .v (I (-1)))] ?_; clear S; intro ac w β S
   exact (nt (wr (rt (rb (rt (rt (rb (rt (S.r [I (-1)] ⟨retI k0_laws_heldMonS, S.chg⟩)))))))))
  ·have g5 := of_decide_eq_false h3
   refine wk (nt (ws (rg ?_)))
   refine S.qg 8 [] [(1, .v (I (hdl ((el a i).out) (hdl ((el a i).outer) j))))] (.cons (Q_idx (S.arg ha) (l := (a).length) (k := i) (i := (i : Int)) rfl rfl (by omega) Tryz.underlying30 (by kernel_rfl)) (.cons (Q_cell (S.arg ha) (t := 22) (k := i) (j := 1) (v := slv ((el a i).out).length ((pa.2 i).out).1) (by omega) (by kernel_rfl) (by kernel_rfl)) (.cons (Q_call fun w hw => c_laws_heldIntSS w ((el a i).out) ((pa.2 i).out) (rd_of (RMon.out (d := (el a i)) (LRd.el (S.arg ha) i (by omega))) hw) (hdl ((el a i).outer) j)) .nil))) ?_; clear S; intro ac w β S
   refine (nt (ws (ws (rg ?_))))
   refine S.qe 2 [] [(29, .v (B (decide ((hdl ((el a i).out) (hdl ((el a i).outer) j)) < 0))))] ?_; clear S; intro ac w β S
   refine (nt (S.c (decide ((hdl ((el a i).out) (hdl ((el a i).outer) j)) < 0)) (fun h6 => ?_) (fun h6 => ?_)))
   ·have g7 := of_decide_eq_true h6
    refine ws (rg ?_)
    refine S.qe 1 [] [(4, .v (I (-1)))] ?_; clear S; intro ac w β S
    exact (nt (wr (rt (rb (rt (rt (rb (rt (S.r [I (-1)] ⟨retI k0_laws_heldMonS, S.chg⟩)))))))))
   ·have g8 := of_decide_eq_false h6
    refine wk (nt (ws (rg ?_)))
    refine S.qg 8 [] [(1, .v (I (hdl ((el a i).dirty) (hdl ((el a i).out) (hdl ((el a i).outer) j)))))] (.cons (Q_idx (S.arg ha) (l := (a).length) (k := i) (i := (i : Int)) rfl rfl (by omega) Tryz.underlying30 (by kernel_rfl)) (.cons (Q_cell (S.arg ha) (t := 62) (k := i) (j := 2) (v := slv ((el a i).dirty).length ((pa.2 i).dirty).1) (by omega) (by kernel_rfl) (by kernel_rfl)) (.cons (Q_call fun w hw => c_laws_heldBoolS w ((el a i).dirty) ((pa.2 i).dirty) (rd_of (RMon.dirty (d := (el a i)) (LRd.el (S.arg ha) i (by omega))) hw) (hdl ((el a i).out) (hdl ((el a i).outer) j))) .nil))) ?_; clear S; intro ac w β S
    refine (nt (ws (ws (rg ?_))))
    refine S.qe 2 [] [(38, .v (B (decide ((hdl ((el a i).dirty) (hdl ((el a i).out) (hdl ((el a i).outer) j))) < 0))))] ?_; clear S; intro ac w β S
    refine (nt (S.c (decide ((hdl ((el a i).dirty) (hdl ((el a i).out) (hdl ((el a i).outer) j))) < 0)) (fun h9 => ?_) (fun h9 => ?_)))
    ·have g10 := of_decide_eq_true h9
     refine ws (rg ?_)
     refine S.qe 1 [] [(4, .v (I (-1)))] ?_; clear S; intro ac w β S
     exact (nt (wr (rt (rb (rt (rt (rb (rt (S.r [I (-1)] ⟨retI k0_laws_heldMonS, S.chg⟩)))))))))
    ·have g11 := of_decide_eq_false h9
     refine wk (nt (ws (rg ?_)))
     refine S.qg 8 [] [(1, .v (I (hdl ((el a i).guests) (hdl ((el a i).dirty) (hdl ((el a i).out) (hdl ((el a i).outer) j))))))] (.cons (Q_idx (S.arg ha) (l := (a).length) (k := i) (i := (i : Int)) rfl rfl (by omega) Tryz.underlying30 (by kernel_rfl)) (.cons (Q_cell (S.arg ha) (t := 54) (k := i) (j := 3) (v := slv ((el a i).guests).length ((pa.2 i).guests).1) (by omega) (by kernel_rfl) (by kernel_rfl)) (.cons (Q_call fun w hw => c_laws_heldGuestS w ((el a i).guests) ((pa.2 i).guests) (rd_of (RMon.guests (d := (el a i)) (LRd.el (S.arg ha) i (by omega))) hw) (hdl ((el a i).dirty) (hdl ((el a i).out) (hdl ((el a i).outer) j)))) .nil))) ?_; clear S; intro ac w β S
     refine (nt (ws (ws (rg ?_))))
     refine S.qe 2 [] [(47, .v (B (decide ((hdl ((el a i).guests) (hdl ((el a i).dirty) (hdl ((el a i).out) (hdl ((el a i).outer) j)))) < 0))))] ?_; clear S; intro ac w β S
     refine (nt (S.c (decide ((hdl ((el a i).guests) (hdl ((el a i).dirty) (hdl ((el a i).out) (hdl ((el a i).outer) j)))) < 0)) (fun h12 => ?_) (fun h12 => ?_)))
     ·have g13 := of_decide_eq_true h12
      refine ws (rg ?_)
      refine S.qe 1 [] [(4, .v (I (-1)))] ?_; clear S; intro ac w β S
      exact (nt (wr (rt (rb (rt (rt (rb (rt (S.r [I (-1)] ⟨retI k0_laws_heldMonS, S.chg⟩)))))))))
     ·have g14 := of_decide_eq_false h12
      refine wk (nt (ws (rg ?_)))
      refine S.qg 8 [] [(1, .v (I (hdl ((el a i).outs) (hdl ((el a i).guests) (hdl ((el a i).dirty) (hdl ((el a i).out) (hdl ((el a i).outer) j)))))))] (.cons (Q_idx (S.arg ha) (l := (a).length) (k := i) (i := (i : Int)) rfl rfl (by omega) Tryz.underlying30 (by kernel_rfl)) (.cons (Q_cell (S.arg ha) (t := 55) (k := i) (j := 4) (v := slv ((el a i).outs).length ((pa.2 i).outs).1) (by omega) (by kernel_rfl) (by kernel_rfl)) (.cons (Q_call fun w hw => c_laws_heldIntS w ((el a i).outs) ((pa.2 i).outs) (rd_of (RMon.outs (d := (el a i)) (LRd.el (S.arg ha) i (by omega))) hw) (hdl ((el a i).guests) (hdl ((el a i).dirty) (hdl ((el a i).out) (hdl ((el a i).outer) j))))) .nil))) ?_; clear S; intro ac w β S
      refine (nt (ws (ws (rg ?_))))
      refine S.qe 2 [] [(56, .v (B (decide ((hdl ((el a i).outs) (hdl ((el a i).guests) (hdl ((el a i).dirty) (hdl ((el a i).out) (hdl ((el a i).outer) j))))) < 0))))] ?_; clear S; intro ac w β S
      refine (nt (S.c (decide ((hdl ((el a i).outs) (hdl ((el a i).guests) (hdl ((el a i).dirty) (hdl ((el a i).out) (hdl ((el a i).outer) j))))) < 0)) (fun h15 => ?_) (fun h15 => ?_)))
      ·have g16 := of_decide_eq_true h15
       refine ws (rg ?_)
       refine S.qe 1 [] [(4, .v (I (-1)))] ?_; clear S; intro ac w β S
       exact (nt (wr (rt (rb (rt (rt (rb (rt (S.r [I (-1)] ⟨retI k0_laws_heldMonS, S.chg⟩)))))))))
      ·have g17 := of_decide_eq_false h15
       refine wk (nt (ws (ws (rg ?_))))
       refine S.qg 7 [] [(63, .v (B ((el a i).pend != (hdl ((el a i).outs) (hdl ((el a i).guests) (hdl ((el a i).dirty) (hdl ((el a i).out) (hdl ((el a i).outer) j))))))))] (.cons (Q_idx (S.arg ha) (l := (a).length) (k := i) (i := (i : Int)) rfl rfl (by omega) Tryz.underlying30 (by kernel_rfl)) (.cons (Q_cell (S.arg ha) (t := 3) (k := i) (j := 5) (v := I ((el a i).pend)) (by omega) (by kernel_rfl) (by kernel_rfl)) .nil)) ?_; clear S; intro ac w β S
       refine (nt (S.c ((el a i).pend != (hdl ((el a i).outs) (hdl ((el a i).guests) (hdl ((el a i).dirty) (hdl ((el a i).out) (hdl ((el a i).outer) j)))))) (fun h18 => ?_) (fun h18 => ?_)))
       ·have g19 : ¬ ((el a i).pend = (hdl ((el a i).outs) (hdl ((el a i).guests) (hdl ((el a i).dirty) (hdl ((el a i).out) (hdl ((el a i).outer) j)))))) := bne_iff_ne.1 h18
        refine ws (rg ?_)
        refine S.qe 1 [] [(4, .v (I (-1)))] ?_; clear S; intro ac w β S
        exact (nt (wr (rt (rb (rt (rt (rb (rt (S.r [I (-1)] ⟨retI k0_laws_heldMonS, S.chg⟩)))))))))
       ·have g20 : (el a i).pend = (hdl ((el a i).outs) (hdl ((el a i).guests) (hdl ((el a i).dirty) (hdl ((el a i).out) (hdl ((el a i).outer) j))))) := ne_f h18
        refine wk (nt (ws (rg ?_)))
        refine S.qg 3 [] [(1, .v (I (w1 (hdl ((el a i).outs) (hdl ((el a i).guests) (hdl ((el a i).dirty) (hdl ((el a i).out) (hdl ((el a i).outer) j))))))))] (.cons (Q_addw (x := (hdl ((el a i).outs) (hdl ((el a i).guests) (hdl ((el a i).dirty) (hdl ((el a i).out) (hdl ((el a i).outer) j)))))) (y := 1)) .nil) ?_; clear S; intro ac w β S
        refine (nt (ws (ws (rg ?_))))
        refine S.qg 7 [] [(72, .v (B ((el a i).traps != (w1 (hdl ((el a i).outs) (hdl ((el a i).guests) (hdl ((el a i).dirty) (hdl ((el a i).out) (hdl ((el a i).outer) j)))))))))] (.cons (Q_idx (S.arg ha) (l := (a).length) (k := i) (i := (i : Int)) rfl rfl (by omega) Tryz.underlying30 (by kernel_rfl)) (.cons (Q_cell (S.arg ha) (t := 3) (k := i) (j := 6) (v := I ((el a i).traps)) (by omega) (by kernel_rfl) (by kernel_rfl)) .nil)) ?_; clear S; intro ac w β S
        refine (nt (S.c ((el a i).traps != (w1 (hdl ((el a i).outs) (hdl ((el a i).guests) (hdl ((el a i).dirty) (hdl ((el a i).out) (hdl ((el a i).outer) j))))))) (fun h21 => ?_) (fun h21 => ?_)))
        ·have g22 : ¬ ((el a i).traps = (w1 (hdl ((el a i).outs) (hdl ((el a i).guests) (hdl ((el a i).dirty) (hdl ((el a i).out) (hdl ((el a i).outer) j))))))) := bne_iff_ne.1 h21
         refine ws (rg ?_)
         refine S.qe 1 [] [(4, .v (I (-1)))] ?_; clear S; intro ac w β S
         exact (nt (wr (rt (rb (rt (rt (rb (rt (S.r [I (-1)] ⟨retI k0_laws_heldMonS, S.chg⟩)))))))))
        ·have g23 : (el a i).traps = (w1 (hdl ((el a i).outs) (hdl ((el a i).guests) (hdl ((el a i).dirty) (hdl ((el a i).out) (hdl ((el a i).outer) j)))))) := ne_f h21
         refine wk (nt (ws (rg ?_)))
         refine S.qg 3 [] [(1, .v (I (w1 (w1 (hdl ((el a i).outs) (hdl ((el a i).guests) (hdl ((el a i).dirty) (hdl ((el a i).out) (hdl ((el a i).outer) j)))))))))] (.cons (Q_addw (x := (w1 (hdl ((el a i).outs) (hdl ((el a i).guests) (hdl ((el a i).dirty) (hdl ((el a i).out) (hdl ((el a i).outer) j))))))) (y := 1)) .nil) ?_; clear S; intro ac w β S
         refine (nt (ws (rg ?_)))
         refine S.qg 8 [] [(1, .v (I (hdl ((el a i).tables) (w1 (w1 (hdl ((el a i).outs) (hdl ((el a i).guests) (hdl ((el a i).dirty) (hdl ((el a i).out) (hdl ((el a i).outer) j))))))))))] (.cons (Q_idx (S.arg ha) (l := (a).length) (k := i) (i := (i : Int)) rfl rfl (by omega) Tryz.underlying30 (by kernel_rfl)) (.cons (Q_cell (S.arg ha) (t := 63) (k := i) (j := 7) (v := slv ((el a i).tables).length ((pa.2 i).tables).1) (by omega) (by kernel_rfl) (by kernel_rfl)) (.cons (Q_call fun w hw => c_laws_heldKeptS w ((el a i).tables) ((pa.2 i).tables) (rd_of (RMon.tables (d := (el a i)) (LRd.el (S.arg ha) i (by omega))) hw) (w1 (w1 (hdl ((el a i).outs) (hdl ((el a i).guests) (hdl ((el a i).dirty) (hdl ((el a i).out) (hdl ((el a i).outer) j)))))))) .nil))) ?_; clear S; intro ac w β S
         refine (nt (ws (ws (rg ?_))))
         refine S.qe 2 [] [(83, .v (B (decide ((hdl ((el a i).tables) (w1 (w1 (hdl ((el a i).outs) (hdl ((el a i).guests) (hdl ((el a i).dirty) (hdl ((el a i).out) (hdl ((el a i).outer) j)))))))) < 0))))] ?_; clear S; intro ac w β S
         refine (nt (S.c (decide ((hdl ((el a i).tables) (w1 (w1 (hdl ((el a i).outs) (hdl ((el a i).guests) (hdl ((el a i).dirty) (hdl ((el a i).out) (hdl ((el a i).outer) j)))))))) < 0)) (fun h24 => ?_) (fun h24 => ?_)))
         ·have g25 := of_decide_eq_true h24
          refine ws (rg ?_)
          refine S.qe 1 [] [(4, .v (I (-1)))] ?_; clear S; intro ac w β S
          exact (nt (wr (rt (rb (rt (rt (rb (rt (S.r [I (-1)] ⟨retI k0_laws_heldMonS, S.chg⟩)))))))))
         ·have g26 := of_decide_eq_false h24
          refine wk (nt (ws (ws (rg ?_))))
          refine S.qg 7 [] [(90, .v (B ((el a i).owned != (hdl ((el a i).tables) (w1 (w1 (hdl ((el a i).outs) (hdl ((el a i).guests) (hdl ((el a i).dirty) (hdl ((el a i).out) (hdl ((el a i).outer) j)))))))))))] (.cons (Q_idx (S.arg ha) (l := (a).length) (k := i) (i := (i : Int)) rfl rfl (by omega) Tryz.underlying30 (by kernel_rfl)) (.cons (Q_cell (S.arg ha) (t := 3) (k := i) (j := 8) (v := I ((el a i).owned)) (by omega) (by kernel_rfl) (by kernel_rfl)) .nil)) ?_; clear S; intro ac w β S
          refine (nt (S.c ((el a i).owned != (hdl ((el a i).tables) (w1 (w1 (hdl ((el a i).outs) (hdl ((el a i).guests) (hdl ((el a i).dirty) (hdl ((el a i).out) (hdl ((el a i).outer) j))))))))) (fun h27 => ?_) (fun h27 => ?_)))
          ·have g28 : ¬ ((el a i).owned = (hdl ((el a i).tables) (w1 (w1 (hdl ((el a i).outs) (hdl ((el a i).guests) (hdl ((el a i).dirty) (hdl ((el a i).out) (hdl ((el a i).outer) j))))))))) := bne_iff_ne.1 h27
           refine ws (rg ?_)
           refine S.qe 1 [0, 1, 5, 9, 20, 29, 38, 47, 56, 63, 72, 83, 90] [(4, .v (I (-1)))] ?_; clear S; intro ac w β S
           exact (nt (wr (rt (rb (rt (rt (rb (rt (S.r [I (-1)] ⟨retI k0_laws_heldMonS, S.chg⟩)))))))))
          ·have g29 : (el a i).owned = (hdl ((el a i).tables) (w1 (w1 (hdl ((el a i).outs) (hdl ((el a i).guests) (hdl ((el a i).dirty) (hdl ((el a i).out) (hdl ((el a i).outer) j)))))))) := ne_f h27
           refine wk (nt (rg ?_))
           refine S.qg 3 [] [(1, .v (I (w1 (hdl ((el a i).tables) (w1 (w1 (hdl ((el a i).outs) (hdl ((el a i).guests) (hdl ((el a i).dirty) (hdl ((el a i).out) (hdl ((el a i).outer) j)))))))))))] (.cons (Q_addw (x := (hdl ((el a i).tables) (w1 (w1 (hdl ((el a i).outs) (hdl ((el a i).guests) (hdl ((el a i).dirty) (hdl ((el a i).out) (hdl ((el a i).outer) j))))))))) (y := 1)) .nil) ?_; clear S; intro ac w β S
           refine (nb (nt (rg ?_)))
           refine S.qg 3 [] [(5, .v (I ((i : Int) + 1)))] (.cons (Q_add (x := (i : Int)) (y := 1) ⟨by omega, by omega⟩) .nil) ?_; clear S; intro ac w β S
           refine (nt ?_)
           refine ⟨a.length - (i + 1), by omega, i + 1, (w1 (hdl ((el a i).tables) (w1 (w1 (hdl ((el a i).outs) (hdl ((el a i).guests) (hdl ((el a i).dirty) (hdl ((el a i).out) (hdl ((el a i).outer) j))))))))), _, _, _, rfl, ?_, ?_, S.z⟩
           ·clear S; first | omega | (simp [*]; done) | (simp [*]; omega)
           ·clear S; (rw [hr, hd_step (by omega)]; simp [he_Mon, w1, hdi, hdb, hdc, *])
 ·have g30 := of_decide_eq_false h1
  refine wp_exit (ex_then (ex_then (ex_hit (nt (ws (rg ?_))))))
  refine S.qe 2 [] [(4, .v (I j))] ?_; clear S; intro ac w β S
  exact (nt (wr (S.r [I j] ⟨retI k0_laws_heldMonS, S.chg⟩)))

theorem k0_laws_heldEntryS {p : Prop} (h : p := by clear S; (first | (rw [hr, hd_end (by omega)]; done) | (rw [hr, hd_step (by omega)]; simp [he_Entry, w1, hdi, hdb, hdc, *]; done) | (rw [hr, hd_step (by omega)]; simp_all [he_Entry, w1, hdi, hdb, hdc]; done))) : p := h
set_option maxRecDepth 100000 in
theorem c_laws_heldEntryS (w0 : World) (a : List TEntry) (pa : LP TEntry) (ha : GT.rd KK (Lt w0.heap.size) w0 a pa) (k : Int) : Calls Tryz.prog 49 [slv (a).length pa.1, I k].toArray w0 (fun e w' => e = .returned (I (hdl a k)) ∧ Chg NoB w0 w') := by
 refine Calls.walk (args := [slv (a).length pa.1, I k]) NoB Tryz.func49 rfl rfl ?_
 intro ac β S
 have hlea : a.length ≤ 4194304 := LRd.le ha
 refine ws (rg ?_)
 refine S.qe 1 [] [] ?_; clear S; intro ac w β S
 refine (nt (ws (ws (rg ?_))))
 refine S.qe 1 [] [(5, .v (I 0))] ?_; clear S; intro ac w β S
 refine (nt (wp_block ?_))
 refine wp_loop_down (fun mm ac w => ∃ (i : Nat) (j : Int)  (u : World) (N : Bl) (β : Nat → Nat), mm = a.length - i ∧ (i ≤ a.length) ∧ (hdl a k = hdlc (a.drop i) j id) ∧ St Tryz.prog Tryz.f49.ntmps w0 NoB u N β ⟨[(0, .v (slv (a).length pa.1)), (1, .v (I j)), (5, .v (I (i : Int)))], []⟩ ac w) _ ⟨0, k, _, _, _, rfl, (by first | omega | (simp; done) | (simp; omega)), (by rfl), S.z⟩ ?_
 clear S
 rintro mm ac w ⟨i, j, u, N, β, rfl, hi, hr, S⟩
 refine ws (ws (rg ?_))
 refine S.qe 4 [] [(9, .v (B (decide ((i : Int) < ((a).length : Int)))))] ?_; clear S; intro ac w β S
 refine (nt (S.c (decide ((i : Int) < ((a).length : Int))) (fun h1 => ?_) (fun h1 => ?_)))
 ·have g2 := of_decide_eq_true h1
  refine wk (nt (ws (wp_block (ws (ws (rg ?_))))))
  refine S.qg 7 [] [(18, .v (B ((el a i).tag != j)))] (.cons (Q_idx (S.arg ha) (l := (a).length) (k := i) (i := (i : Int)) rfl rfl (by omega) Tryz.underlying31 (by kernel_rfl)) (.cons (Q_cell (S.arg ha) (t := 3) (k := i) (j := 0) (v := I ((el a i).tag)) (by omega) (by kernel_rfl) (by kernel_rfl)) .nil)) ?_; clear S; intro ac w β S
  refine (nt (S.c ((el a i).tag != j) (fun h3 => ?_) (fun h3 => ?_)))
  ·have g4 : ¬ ((el a i).tag = j) := bne_iff_ne.1 h3
   refine ws (rg ?_)
   refine S.qe 1 [] [(4, .v (I (-1)))] ?_; clear S; intro ac w β S
   exact (nt (wr (rt (rb (rt (rt (rb (rt (S.r [I (-1)] ⟨retI k0_laws_heldEntryS, S.chg⟩)))))))))
  ·have g5 : (el a i).tag = j := ne_f h3
   refine wk (nt (ws (rg ?_)))
   refine S.qg 3 [] [(1, .v (I (w1 j)))] (.cons (Q_addw (x := j) (y := 1)) .nil) ?_; clear S; intro ac w β S
   refine (nt (ws (ws (rg ?_))))
   refine S.qg 7 [] [(27, .v (B ((el a i).page != (w1 j))))] (.cons (Q_idx (S.arg ha) (l := (a).length) (k := i) (i := (i : Int)) rfl rfl (by omega) Tryz.underlying31 (by kernel_rfl)) (.cons (Q_cell (S.arg ha) (t := 3) (k := i) (j := 1) (v := I ((el a i).page)) (by omega) (by kernel_rfl) (by kernel_rfl)) .nil)) ?_; clear S; intro ac w β S
   refine (nt (S.c ((el a i).page != (w1 j)) (fun h6 => ?_) (fun h6 => ?_)))
   ·have g7 : ¬ ((el a i).page = (w1 j)) := bne_iff_ne.1 h6
    refine ws (rg ?_)
    refine S.qe 1 [] [(4, .v (I (-1)))] ?_; clear S; intro ac w β S
    exact (nt (wr (rt (rb (rt (rt (rb (rt (S.r [I (-1)] ⟨retI k0_laws_heldEntryS, S.chg⟩)))))))))
   ·have g8 : (el a i).page = (w1 j) := ne_f h6
    refine wk (nt (ws (rg ?_)))
    refine S.qg 3 [] [(1, .v (I (w1 (w1 j))))] (.cons (Q_addw (x := (w1 j)) (y := 1)) .nil) ?_; clear S; intro ac w β S
    refine (nt (ws (ws (rg ?_))))
    refine S.qg 7 [] [(36, .v (B ((el a i).host != (w1 (w1 j)))))] (.cons (Q_idx (S.arg ha) (l := (a).length) (k := i) (i := (i : Int)) rfl rfl (by omega) Tryz.underlying31 (by kernel_rfl)) (.cons (Q_cell (S.arg ha) (t := 3) (k := i) (j := 2) (v := I ((el a i).host)) (by omega) (by kernel_rfl) (by kernel_rfl)) .nil)) ?_; clear S; intro ac w β S
    refine (nt (S.c ((el a i).host != (w1 (w1 j))) (fun h9 => ?_) (fun h9 => ?_)))
    ·have g10 : ¬ ((el a i).host = (w1 (w1 j))) := bne_iff_ne.1 h9
     refine ws (rg ?_)
     refine S.qe 1 [] [(4, .v (I (-1)))] ?_; clear S; intro ac w β S
     exact (nt (wr (rt (rb (rt (rt (rb (rt (S.r [I (-1)] ⟨retI k0_laws_heldEntryS, S.chg⟩)))))))))
    ·have g11 : (el a i).host = (w1 (w1 j)) := ne_f h9
     refine wk (nt (ws (rg ?_)))
     refine S.qg 3 [] [(1, .v (I (w1 (w1 (w1 j)))))] (.cons (Q_addw (x := (w1 (w1 j))) (y := 1)) .nil) ?_; clear S; intro ac w β S
     refine (nt (ws (ws (rg ?_))))
     refine S.qg 7 [] [(45, .v (B ((el a i).rights != (w1 (w1 (w1 j))))))] (.cons (Q_idx (S.arg ha) (l := (a).length) (k := i) (i := (i : Int)) rfl rfl (by omega) Tryz.underlying31 (by kernel_rfl)) (.cons (Q_cell (S.arg ha) (t := 3) (k := i) (j := 3) (v := I ((el a i).rights)) (by omega) (by kernel_rfl) (by kernel_rfl)) .nil)) ?_; clear S; intro ac w β S
     refine (nt (S.c ((el a i).rights != (w1 (w1 (w1 j)))) (fun h12 => ?_) (fun h12 => ?_)))
     ·have g13 : ¬ ((el a i).rights = (w1 (w1 (w1 j)))) := bne_iff_ne.1 h12
      refine ws (rg ?_)
      refine S.qe 1 [] [(4, .v (I (-1)))] ?_; clear S; intro ac w β S
      exact (nt (wr (rt (rb (rt (rt (rb (rt (S.r [I (-1)] ⟨retI k0_laws_heldEntryS, S.chg⟩)))))))))
     ·have g14 : (el a i).rights = (w1 (w1 (w1 j))) := ne_f h12
      refine wk (nt (rg ?_))
      refine S.qg 3 [] [(1, .v (I (w1 (w1 (w1 (w1 j))))))] (.cons (Q_addw (x := (w1 (w1 (w1 j)))) (y := 1)) .nil) ?_; clear S; intro ac w β S
      refine (nb (nt (rg ?_)))
      refine S.qg 3 [] [(5, .v (I ((i : Int) + 1)))] (.cons (Q_add (x := (i : Int)) (y := 1) ⟨by omega, by omega⟩) .nil) ?_; clear S; intro ac w β S
      refine (nt ?_)
      refine ⟨a.length - (i + 1), by omega, i + 1, (w1 (w1 (w1 (w1 j)))), _, _, _, rfl, ?_, ?_, S.z⟩
      ·clear S; first | omega | (simp [*]; done) | (simp [*]; omega)
      ·clear S; (rw [hr, hd_step (by omega)]; simp [he_Entry, w1, hdi, hdb, hdc, *])
 ·have g15 := of_decide_eq_false h1
  refine wp_exit (ex_then (ex_then (ex_hit (nt (ws (rg ?_))))))
  refine S.qe 2 [] [(4, .v (I j))] ?_; clear S; intro ac w β S
  exact (nt (wr (S.r [I j] ⟨retI k0_laws_heldEntryS, S.chg⟩)))

set_option maxRecDepth 100000 in
theorem c_laws_heldHost (w0 : World) (a : THost) (pa : PHost) (ha : GT.rd KK (Lt w0.heap.size) w0 a pa) (k : Int) : Calls Tryz.prog 16 [GT.val a pa, I k].toArray w0 (fun e w' => e = .returned (I (hdT_Host a k)) ∧ Chg NoB w0 w') := by
 refine Calls.walk (args := [GT.val a pa, I k]) NoB Tryz.func16 rfl rfl ?_
 intro ac β S
 have hlea_mem : a.mem.length ≤ 4194304 := LRd.le (RHost.mem (d := a) ha)
 have hlea_mons : a.mons.length ≤ 4194304 := LRd.le (RHost.mons (d := a) ha)
 have hlea_buf : a.buf.length ≤ 4194304 := LRd.le (RHost.buf (d := a) ha)
 have hlea_iobuf : a.iobuf.length ≤ 4194304 := LRd.le (RHost.iobuf (d := a) ha)
 refine ws (rg ?_)
 refine S.qem 2 [] [(2, .p 0 0)] 1 [(0, GT.cells a pa)] ?_; clear S; intro ac w β S
 refine (nt (ws (rg ?_)))
 refine S.qg 5 [] [(1, .v (I (hdl a.mem k)))] (.cons (Q_call fun w hw => c_laws_heldIntSS w a.mem pa.mem (rd_of (RHost.mem (d := a) (S.arg ha)) hw) k) .nil) ?_; clear S; intro ac w β S
 refine (nt (ws (ws (rg ?_))))
 refine S.qe 2 [] [(10, .v (B (decide ((hdl a.mem k) < 0))))] ?_; clear S; intro ac w β S
 refine (nt (S.c (decide ((hdl a.mem k) < 0)) (fun h1 => ?_) (fun h1 => ?_)))
 ·have g2 := of_decide_eq_true h1
  refine ws (rg ?_)
  refine S.qe 1 [] [(4, .v (I (-1)))] ?_; clear S; intro ac w β S
  exact (nt (wr (rt (S.r [I (-1)] ⟨retI (by clear S; (simp [hdT_Host, hdc, *])), S.chg⟩))))
 ·have g3 := of_decide_eq_false h1
  refine wk (nt (ws (rg ?_)))
  refine S.qg 5 [] [(1, .v (I (hdl a.mons (hdl a.mem k))))] (.cons (Q_call fun w hw => c_laws_heldMonS w a.mons pa.mons (rd_of (RHost.mons (d := a) (S.arg ha)) hw) (hdl a.mem k)) .nil) ?_; clear S; intro ac w β S
  refine (nt (ws (ws (rg ?_))))
  refine S.qe 2 [] [(16, .v (B (decide ((hdl a.mons (hdl a.mem k)) < 0))))] ?_; clear S; intro ac w β S
  refine (nt (S.c (decide ((hdl a.mons (hdl a.mem k)) < 0)) (fun h4 => ?_) (fun h4 => ?_)))
  ·have g5 := of_decide_eq_true h4
   refine ws (rg ?_)
   refine S.qe 1 [] [(4, .v (I (-1)))] ?_; clear S; intro ac w β S
   exact (nt (wr (rt (S.r [I (-1)] ⟨retI (by clear S; (simp [hdT_Host, hdc, *])), S.chg⟩))))
  ·have g6 := of_decide_eq_false h4
   refine wk (nt (ws (rg ?_)))
   refine S.qg 5 [] [(1, .v (I (hdl a.buf (hdl a.mons (hdl a.mem k)))))] (.cons (Q_call fun w hw => c_laws_heldEntryS w a.buf pa.buf (rd_of (RHost.buf (d := a) (S.arg ha)) hw) (hdl a.mons (hdl a.mem k))) .nil) ?_; clear S; intro ac w β S
   refine (nt (ws (ws (rg ?_))))
   refine S.qe 2 [] [(22, .v (B (decide ((hdl a.buf (hdl a.mons (hdl a.mem k))) < 0))))] ?_; clear S; intro ac w β S
   refine (nt (S.c (decide ((hdl a.buf (hdl a.mons (hdl a.mem k))) < 0)) (fun h7 => ?_) (fun h7 => ?_)))
   ·have g8 := of_decide_eq_true h7
    refine ws (rg ?_)
    refine S.qe 1 [] [(4, .v (I (-1)))] ?_; clear S; intro ac w β S
    exact (nt (wr (rt (S.r [I (-1)] ⟨retI (by clear S; (simp [hdT_Host, hdc, *])), S.chg⟩))))
   ·have g9 := of_decide_eq_false h7
    refine wk (nt (ws (rg ?_)))
    refine S.qgm 5 [] [(1, .v (I (hdl a.iobuf (hdl a.buf (hdl a.mons (hdl a.mem k))))))] (.cons (Q_call fun w hw => c_laws_heldEntryS w a.iobuf pa.iobuf (rd_of (RHost.iobuf (d := a) (S.arg ha)) hw) (hdl a.buf (hdl a.mons (hdl a.mem k)))) .nil) 0 [] ?_; clear S; intro ac w β S
    refine (nt (ws (ws (rg ?_))))
    refine S.qe 2 [] [(28, .v (B (decide ((hdl a.iobuf (hdl a.buf (hdl a.mons (hdl a.mem k)))) < 0))))] ?_; clear S; intro ac w β S
    refine (nt (S.c (decide ((hdl a.iobuf (hdl a.buf (hdl a.mons (hdl a.mem k)))) < 0)) (fun h10 => ?_) (fun h10 => ?_)))
    ·have g11 := of_decide_eq_true h10
     refine ws (rg ?_)
     refine S.qe 1 [] [(4, .v (I (-1)))] ?_; clear S; intro ac w β S
     exact (nt (wr (rt (S.r [I (-1)] ⟨retI (by clear S; (simp [hdT_Host, hdc, *])), S.chg⟩))))
    ·have g12 := of_decide_eq_false h10
     refine wk (nt (ws (rg ?_)))
     refine S.qe 2 [] [(4, .v (I (hdl a.iobuf (hdl a.buf (hdl a.mons (hdl a.mem k))))))] ?_; clear S; intro ac w β S
     exact (nt (wr (S.r [I (hdl a.iobuf (hdl a.buf (hdl a.mons (hdl a.mem k))))] ⟨retI (by clear S; (simp [hdT_Host, hdc, *])), S.chg⟩)))

theorem k0_laws_FnExactHostSet {p : Prop} (h : p := by clear S; first | rfl | (exfalso; omega) | (exfalso; simp_all; done) | (exfalso; simp_all; omega)) : p := h
set_option maxRecDepth 100000 in
theorem c_laws_FnExactHostSet (w0 : World) (aH : THost) (paH : PHost) (haH : GT.rd KR (Lt w0.heap.size) w0 aH paH) (aM : Int) (aG : Int) (haG : In64 aG) (aPage : Int) (haPage : In64 aPage) (aS : TSlot) (haS : RSlot aS) : Calls Tryz.prog 3 [GT.val aH paH, I aM, I aG, I aPage, GT.val aS ()].toArray w0 (fun e w' => e = .returned (B true) ∧ Chg NoB w0 w') := by
 refine Calls.walk (args := [GT.val aH paH, I aM, I aG, I aPage, GT.val aS ()]) NoB Tryz.func3 rfl rfl ?_
 intro ac β S
 have hloaG := haG.lo; have hhiaG := haG.hi
 have hloaPage := haPage.lo; have hhiaPage := haPage.hi
 refine ws (rg ?_)
 refine S.qem 3 [] [(5, .p 0 0), (9, .p 1 0)] 2 [(0, GT.cells aH paH), (1, GT.cells aS ())] ?_; clear S; intro ac w β S
 refine (nt (ws (rg ?_)))
 refine S.qe 1 [] [(11, .v (I 1048576))] ?_; clear S; intro ac w β S
 refine (nt (ws (rg ?_)))
 have b1 := f_sz_cs (SZ.sz aH) 1048576
 refine S.qg 4 [] [(11, .v (I (f_sz (SZ.sz aH) 1048576)))] (.cons (Q_call fun w hw => c_laws_szHost w aH paH (rd_of (S.arg haH) hw) 1048576 (by omega) (by omega)) .nil) ?_; clear S; intro ac w β S
 refine (nt (ws (ws (rg ?_))))
 refine S.qe 2 [] [(26, .v (B (decide ((f_sz (SZ.sz aH) 1048576) < 0))))] ?_; clear S; intro ac w β S
 refine (nt (S.c (decide ((f_sz (SZ.sz aH) 1048576) < 0)) (fun h2 => ?_) (fun h2 => ?_)))
 ·have g3 := of_decide_eq_true h2
  refine ws (rg ?_)
  refine S.qe 1 [] [(10, .v (B true))] ?_; clear S; intro ac w β S
  exact (nt (wr (rt (S.r [B true] ⟨retB k0_laws_FnExactHostSet, S.chg⟩))))
 ·have g4 := of_decide_eq_false h2
  have hkaH : GT.rd KK (Lt w0.heap.size) w0 aH paH := SZ.cut haH (show SZ.sz aH ≤ 4194304 by omega)
  have hcaH : SZ.sz aH ≤ 1048576 := by omega
  refine wk (nt (ws ?_))
  let σ5 : Sy := ⟨[(1, .v (I aM)), (2, .v (I aG)), (3, .v (I aPage)), (5, .p 0 0), (9, .p 1 0), (26, .v (B (decide ((f_sz (SZ.sz aH) 1048576) < 0))))], [GT.cells aH paH, GT.cells aS ()]⟩
  obtain ⟨u0, N0, β0, S⟩ : ∃ u0 N0 β0, St Tryz.prog Tryz.f3.ntmps w0 NoB u0 N0 β0 σ5 ac w := ⟨_, _, _, S.z⟩
  refine wp_region_cut (fun ac w => ∃ q47 F48 u N β, St Tryz.prog Tryz.f3.ntmps w0 NoB u N β (σ5.dl [26] [(12, .p 2 0), (13, .v (B ((f_hostSet aH aM aG aPage aS).2)))] 3 [(2, GT.cells ((f_hostSet aH aM aG aPage aS).1) q47)]) ac w ∧ Ow w0 NoB u N F48 ((f_hostSet aH aM aG aPage aS).1) q47) ?_ ?_
  ·refine S.draw0 (f := 14) 12 rfl rfl ?_
   clear S; intro w S
   refine S.hq 0 [0] [] [(28, .v (GT.val aH paH))] .nil ?_
   clear S; intro ac S
   refine S.hq 2 [2] [] [(30, .v (I aM))] .nil ?_
   clear S; intro ac S
   refine S.hq 3 [3] [] [(31, .v (I aG))] .nil ?_
   clear S; intro ac S
   refine S.hq 4 [4] [] [(32, .v (I aPage))] .nil ?_
   clear S; intro ac S
   refine S.hq 5 [5] [] [(33, .v (GT.val aS ()))] .nil ?_
   clear S; intro ac S
   refine WD.nameW fun W hW => ?_
   refine WD.castW (l' := mkL 14 [0, 2, 3, 4, 5]) (by kernel_rfl) ?_
   have hK49 ac w q47 F48 u N β (S : St Tryz.prog Tryz.f3.ntmps w0 NoB u N β (σ5.dl [26] [(12, .p 2 0), (13, .v (B ((f_hostSet aH aM aG aPage aS).2)))] 3 [(2, GT.cells ((f_hostSet aH aM aG aPage aS).1) q47)]) ac w) (o46 : Ow w0 NoB u N F48 ((f_hostSet aH aM aG aPage aS).1) q47) : W 0 (mkL 14 [0, 1, 2, 3, 4, 5, 6, 7, 8, 9, 10, 11, 12, 13]) ac w := by
    exact od hW ⟨rfl, q47, F48, _, _, _, S.z, o46⟩
   have hK50 ac w q32 F33 u N β (S : St Tryz.prog Tryz.f3.ntmps w0 NoB u N β (σ5.dl [26] [(12, .p 2 0), (36, .v (GT.val ((f_hostSet aH aM aG aPage aS).1) q32)), (37, .v (B ((f_hostSet aH aM aG aPage aS).2)))] 3 [(2, Zc THost)]) ac w) (o31 : Ow w0 NoB u N F33 ((f_hostSet aH aM aG aPage aS).1) q32) (hNN : NN N0 u0 N u) (hBB : BB σ5.bx.length β0 β) : W 2 (mkL 14 [0, 1, 2, 3, 4, 5, 6, 7, 8, 9, 10, 11]) ac w := by
    exact o1 hW 12 (S.wl hW [13] .nil fun _ _ _ S => hK49 _ _ q32 F33 _ _ _ S o31)
   have hK51 ac w q32 F33 u N β (S : St Tryz.prog Tryz.f3.ntmps w0 NoB u N β (σ5.dl [26] [(36, .v (GT.val ((f_hostSet aH aM aG aPage aS).1) q32)), (37, .v (B ((f_hostSet aH aM aG aPage aS).2)))] 2 []) ac w) (o31 : Ow w0 NoB u N F33 ((f_hostSet aH aM aG aPage aS).1) q32) (hNN : NN N0 u0 N u) (hBB : BB σ5.bx.length β0 β) : W 3 (mkL 14 [0, 1, 2, 3, 4, 5, 6, 7, 8, 9, 10]) ac w := by
    exact o1 hW 11 (S.wq hW hNN hBB [] .nil fun _ _ _ S hB => hK50 _ _ q32 F33 _ _ _ S o31 hNN hB)
   have hK52 ac w q12 F13 u N β (S : St Tryz.prog Tryz.f3.ntmps w0 NoB u N β (σ5.dl [26] [(12, .p 2 0), (29, .v (GT.val aH q12)), (30, .v (I aM)), (31, .v (I aG)), (32, .v (I aPage)), (34, .v (GT.val aS ()))] 3 [(2, Zc THost)]) ac w) (o11 : Ow w0 NoB u N F13 aH q12) (hNN : NN N0 u0 N u) (hBB : BB σ5.bx.length β0 β) : W 6 (mkL 14 [0, 1, 2, 3, 4, 5, 6, 11]) ac w := by
    refine o1 hW 7 ?_
    refine id (S.call2 (r := (f_hostSet aH aM aG aPage aS).1) (r' := (f_hostSet aH aM aG aPage aS).2) (d := 35) (c_spec_HostSet w aH q12 (S.rd o11.rn) aM aG haG aPage haPage aS (haS)) (by kernel_rfl) rfl ?_)
    clear S; intro ac w N q53 q54 F55 F56 S up o57 o58 d59 d60 d61
    have hb62 := fun b h => (⟨(up b (hNN b h).1).1, (up b (hNN b h).1).2.trans (hNN b h).2⟩ : _ ∧ _)
    refine WD.sc S hb62 hBB fun hC => ?_
    have d63 : Disj F13 F56 := fun b x y => d60 b (o11.sub b x) y
    have d64 : Disj F13 F55 := fun b x y => d59 b (o11.sub b x) y
    replace o11 := o11.up up
    clear up d59
    clear d60
    exact S.wh hW [8, 9, 10] hC fun _ S => hK50 _ _ q53 F55 _ _ _ S o57 hb62 hBB
   have hK65 ac w q12 F13 u N β (S : St Tryz.prog Tryz.f3.ntmps w0 NoB u N β (σ5.dl [26] [(29, .v (GT.val aH q12)), (30, .v (I aM)), (31, .v (I aG)), (32, .v (I aPage)), (34, .v (GT.val aS ()))] 2 []) ac w) (o11 : Ow w0 NoB u N F13 aH q12) (hNN : NN N0 u0 N u) (hBB : BB σ5.bx.length β0 β) : W 7 (mkL 14 [0, 1, 2, 3, 4, 5, 6]) ac w := by
    refine o2 hW 7 11 ?_ (S.wq hW hNN hBB [] .nil fun _ _ _ S hB => hK52 _ _ q12 F13 _ _ _ S o11 hNN hB)
    refine id (S.call2 (r := (f_hostSet aH aM aG aPage aS).1) (r' := (f_hostSet aH aM aG aPage aS).2) (d := 35) (c_spec_HostSet w aH q12 (S.rd o11.rn) aM aG haG aPage haPage aS (haS)) (by kernel_rfl) rfl ?_)
    clear S; intro ac w N q66 q67 F68 F69 S up o70 o71 d72 d73 d74
    have hb75 := fun b h => (⟨(up b (hNN b h).1).1, (up b (hNN b h).1).2.trans (hNN b h).2⟩ : _ ∧ _)
    refine WD.sc S hb75 hBB fun hC => ?_
    have d76 : Disj F13 F69 := fun b x y => d73 b (o11.sub b x) y
    have d77 : Disj F13 F68 := fun b x y => d72 b (o11.sub b x) y
    replace o11 := o11.up up
    clear up d72
    clear d73
    exact S.wh hW [8, 9, 10] hC fun _ S => hK51 _ _ q66 F68 _ _ _ S o70 hb75 hBB
   have hK78 ac w q12 F13 u N β (S : St Tryz.prog Tryz.f3.ntmps w0 NoB u N β (σ5.dl [26] [(12, .p 2 0), (29, .v (GT.val aH q12)), (30, .v (I aM)), (31, .v (I aG)), (32, .v (I aPage)), (33, .v (GT.val aS ()))] 3 [(2, Zc THost)]) ac w) (o11 : Ow w0 NoB u N F13 aH q12) (hNN : NN N0 u0 N u) (hBB : BB σ5.bx.length β0 β) : W 7 (mkL 14 [0, 1, 2, 3, 4, 5, 11]) ac w := by
    exact o1 hW 6 (S.wq hW hNN hBB [] (.cons (Q_call fun w hw => c_laws_toSlot w aS) .nil) fun _ _ _ S hB => hK52 _ _ q12 F13 _ _ _ S o11 hNN hB)
   have hK79 ac w q12 F13 u N β (S : St Tryz.prog Tryz.f3.ntmps w0 NoB u N β (σ5.dl [26] [(29, .v (GT.val aH q12)), (30, .v (I aM)), (31, .v (I aG)), (32, .v (I aPage)), (33, .v (GT.val aS ()))] 2 []) ac w) (o11 : Ow w0 NoB u N F13 aH q12) (hNN : NN N0 u0 N u) (hBB : BB σ5.bx.length β0 β) : W 8 (mkL 14 [0, 1, 2, 3, 4, 5]) ac w := by
    exact o2 hW 6 11 (S.wq hW hNN hBB [] (.cons (Q_call fun w hw => c_laws_toSlot w aS) .nil) fun _ _ _ S hB => hK65 _ _ q12 F13 _ _ _ S o11 hNN hB) (S.wq hW hNN hBB [] .nil fun _ _ _ S hB => hK78 _ _ q12 F13 _ _ _ S o11 hNN hB)
   have hK80 ac w u N β (S : St Tryz.prog Tryz.f3.ntmps w0 NoB u N β (σ5.dl [26] [(12, .p 2 0), (28, .v (GT.val aH paH)), (30, .v (I aM)), (31, .v (I aG)), (32, .v (I aPage)), (33, .v (GT.val aS ()))] 3 [(2, Zc THost)]) ac w) (hNN : NN N0 u0 N u) (hBB : BB σ5.bx.length β0 β) : W 8 (mkL 14 [0, 2, 3, 4, 5, 11]) ac w := by
    refine o1 hW 1 ?_
    refine id (S.call1 (r := aH) (d := 29) (c_laws_toHost w aH paH (S.rd (S.arg hkaH))) (by kernel_rfl) rfl ?_)
    clear S; intro ac w N q81 F82 S up o83 d84
    have hb85 := fun b h => (⟨(up b (hNN b h).1).1, (up b (hNN b h).1).2.trans (hNN b h).2⟩ : _ ∧ _)
    refine WD.sc S hb85 hBB fun hC => ?_
    clear up d84
    exact S.wh hW [] hC fun _ S => hK78 _ _ q81 F82 _ _ _ S o83 hb85 hBB
   have hNN : NN N0 u0 N0 u0 := fun b h => ⟨h, rfl⟩
   have hBB : BB σ5.bx.length β0 β0 := fun _ _ => rfl
   refine o2 hW 1 11 ?_ (S.wq hW hNN hBB [] .nil fun _ _ _ S hB => hK80 _ _ _ _ _ S hNN hB)
   refine id (S.call1 (r := aH) (d := 29) (c_laws_toHost w aH paH (S.rd (S.arg hkaH))) (by kernel_rfl) rfl ?_)
   clear S; intro ac w N q86 F87 S up o88 d89
   have hb90 := fun b h => (⟨(up b (hNN b h).1).1, (up b (hNN b h).1).2.trans (hNN b h).2⟩ : _ ∧ _)
   refine WD.sc S hb90 hBB fun hC => ?_
   clear up d89
   exact S.wh hW [] hC fun _ S => hK79 _ _ q86 F87 _ _ _ S o88 hb90 hBB
  clear S
  rintro ac w ⟨q47, F48, u, N, β, S, o46⟩
  refine id (nt (ws (rg ?_)))
  refine S.qa 1 [] [(38, .v (GT.val aH paH))] ?_; clear S; intro ac w β S
  refine RG.op rfl (S.call1 (r := aH) (d := 39) (c_laws_toHost w aH paH (S.rd (S.arg hkaH))) (by kernel_rfl) rfl ?_)
  clear S; intro ac w N q91 F92 S up o93 d94
  have d95 : Disj F48 F92 := fun b x y => d94 b (o46.sub b x) y
  replace o46 := o46.up up
  clear up d94
  refine S.qem 2 [] [(14, .p 3 0)] 4 [(3, GT.cells aH q91)] ?_; clear S; intro ac w β S
  refine (nt (ws ?_))
  let σ96 : Sy := ⟨[(1, .v (I aM)), (2, .v (I aG)), (3, .v (I aPage)), (5, .p 0 0), (9, .p 1 0), (12, .p 2 0), (13, .v (B ((f_hostSet aH aM aG aPage aS).2))), (14, .p 3 0)], [GT.cells aH paH, GT.cells aS (), GT.cells ((f_hostSet aH aM aG aPage aS).1) q47, GT.cells aH q91]⟩
  obtain ⟨u0, N0, β0, S, o46, o93⟩ : ∃ u0 N0 β0, St Tryz.prog Tryz.f3.ntmps w0 NoB u0 N0 β0 σ96 ac w ∧ Ow w0 NoB u0 N0 F48 ((f_hostSet aH aM aG aPage aS).1) q47 ∧ Ow w0 NoB u0 N0 F92 aH q91 := ⟨_, _, _, S.z, o46, o93⟩
  refine wp_region_cut (fun ac w => ∃ q129 F130 u N β, St Tryz.prog Tryz.f3.ntmps w0 NoB u N β (σ96.dl [] [(15, .p 4 0), (16, .v (B ((f_hostSet aH aM aG aPage aS).2)))] 5 [(4, GT.cells ((f_hostSet aH aM aG aPage aS).1) q129)]) ac w ∧ Ow w0 NoB u N F48 ((f_hostSet aH aM aG aPage aS).1) q47 ∧ Ow w0 NoB u N F92 aH q91 ∧ Ow w0 NoB u N F130 ((f_hostSet aH aM aG aPage aS).1) q129 ∧ Disj F48 F130 ∧ Disj F92 F130) ?_ ?_
  ·refine S.draw0 (f := 13) 11 rfl rfl ?_
   clear S; intro w S
   refine S.hq 0 [0] [] [(41, .v (GT.val aH q91))] .nil ?_
   clear S; intro ac S
   refine S.hq 1 [1] [] [(42, .v (I aM))] .nil ?_
   clear S; intro ac S
   refine S.hq 2 [2] [] [(43, .v (I aG))] .nil ?_
   clear S; intro ac S
   refine S.hq 3 [3] [] [(44, .v (I aPage))] .nil ?_
   clear S; intro ac S
   refine S.hq 4 [4] [] [(45, .v (GT.val aS ()))] .nil ?_
   clear S; intro ac S
   refine WD.nameW fun W hW => ?_
   refine WD.castW (l' := mkL 13 [0, 1, 2, 3, 4]) (by kernel_rfl) ?_
   have hK131 ac w q129 F130 u N β (S : St Tryz.prog Tryz.f3.ntmps w0 NoB u N β (σ96.dl [] [(15, .p 4 0), (16, .v (B ((f_hostSet aH aM aG aPage aS).2)))] 5 [(4, GT.cells ((f_hostSet aH aM aG aPage aS).1) q129)]) ac w) (o46 : Ow w0 NoB u N F48 ((f_hostSet aH aM aG aPage aS).1) q47) (o93 : Ow w0 NoB u N F92 aH q91) (o128 : Ow w0 NoB u N F130 ((f_hostSet aH aM aG aPage aS).1) q129) (d132 : Disj F48 F130) (d133 : Disj F92 F130) : W 0 (mkL 13 [0, 1, 2, 3, 4, 5, 6, 7, 8, 9, 10, 11, 12]) ac w := by
    exact od hW ⟨rfl, q129, F130, _, _, _, S.z, o46, o93, o128, d132, d133⟩
   have hK134 ac w q112 F113 u N β (S : St Tryz.prog Tryz.f3.ntmps w0 NoB u N β (σ96.dl [] [(15, .p 4 0), (48, .v (GT.val ((f_hostSet aH aM aG aPage aS).1) q112)), (49, .v (B ((f_hostSet aH aM aG aPage aS).2)))] 5 [(4, Zc THost)]) ac w) (o46 : Ow w0 NoB u N F48 ((f_hostSet aH aM aG aPage aS).1) q47) (o93 : Ow w0 NoB u N F92 aH q91) (o111 : Ow w0 NoB u N F113 ((f_hostSet aH aM aG aPage aS).1) q112) (d135 : Disj F48 F113) (d136 : Disj F92 F113) (hNN : NN N0 u0 N u) (hBB : BB σ96.bx.length β0 β) : W 2 (mkL 13 [0, 1, 2, 3, 4, 5, 6, 7, 8, 9, 10]) ac w := by
    exact o1 hW 11 (S.wl hW [12] .nil fun _ _ _ S => hK131 _ _ q112 F113 _ _ _ S o46 o93 o111 d135 d136)
   have hK137 ac w q112 F113 u N β (S : St Tryz.prog Tryz.f3.ntmps w0 NoB u N β (σ96.dl [] [(48, .v (GT.val ((f_hostSet aH aM aG aPage aS).1) q112)), (49, .v (B ((f_hostSet aH aM aG aPage aS).2)))] 4 []) ac w) (o46 : Ow w0 NoB u N F48 ((f_hostSet aH aM aG aPage aS).1) q47) (o93 : Ow w0 NoB u N F92 aH q91) (o111 : Ow w0 NoB u N F113 ((f_hostSet aH aM aG aPage aS).1) q112) (d138 : Disj F48 F113) (d139 : Disj F92 F113) (hNN : NN N0 u0 N u) (hBB : BB σ96.bx.length β0 β) : W 3 (mkL 13 [0, 1, 2, 3, 4, 5, 6, 7, 8, 9]) ac w := by
    exact o1 hW 10 (S.wq hW hNN hBB [] .nil fun _ _ _ S hB => hK134 _ _ q112 F113 _ _ _ S o46 o93 o111 d138 d139 hNN hB)
   have hK140 ac w u N β (S : St Tryz.prog Tryz.f3.ntmps w0 NoB u N β (σ96.dl [] [(15, .p 4 0), (41, .v (GT.val aH q91)), (42, .v (I aM)), (43, .v (I aG)), (44, .v (I aPage)), (46, .v (GT.val aS ()))] 5 [(4, Zc THost)]) ac w) (o46 : Ow w0 NoB u N F48 ((f_hostSet aH aM aG aPage aS).1) q47) (o93 : Ow w0 NoB u N F92 aH q91) (hNN : NN N0 u0 N u) (hBB : BB σ96.bx.length β0 β) : W 6 (mkL 13 [0, 1, 2, 3, 4, 5, 10]) ac w := by
    refine o1 hW 6 ?_
    refine id (S.call2 (r := (f_hostSet aH aM aG aPage aS).1) (r' := (f_hostSet aH aM aG aPage aS).2) (d := 47) (c_impl_HostSet w aH q91 (S.rd o93.rn) aM aG haG aPage haPage aS (haS)) (by kernel_rfl) rfl ?_)
    clear S; intro ac w N q141 q142 F143 F144 S up o145 o146 d147 d148 d149
    have hb150 := fun b h => (⟨(up b (hNN b h).1).1, (up b (hNN b h).1).2.trans (hNN b h).2⟩ : _ ∧ _)
    refine WD.sc S hb150 hBB fun hC => ?_
    have d151 : Disj F48 F144 := fun b x y => d148 b (o46.sub b x) y
    have d152 : Disj F92 F144 := fun b x y => d148 b (o93.sub b x) y
    have d153 : Disj F48 F143 := fun b x y => d147 b (o46.sub b x) y
    have d154 : Disj F92 F143 := fun b x y => d147 b (o93.sub b x) y
    replace o46 := o46.up up
    replace o93 := o93.up up
    clear up d147
    clear d148
    exact S.wh hW [7, 8, 9] hC fun _ S => hK134 _ _ q141 F143 _ _ _ S o46 o93 o145 d153 d154 hb150 hBB
   have hK155 ac w u N β (S : St Tryz.prog Tryz.f3.ntmps w0 NoB u N β (σ96.dl [] [(41, .v (GT.val aH q91)), (42, .v (I aM)), (43, .v (I aG)), (44, .v (I aPage)), (46, .v (GT.val aS ()))] 4 []) ac w) (o46 : Ow w0 NoB u N F48 ((f_hostSet aH aM aG aPage aS).1) q47) (o93 : Ow w0 NoB u N F92 aH q91) (hNN : NN N0 u0 N u) (hBB : BB σ96.bx.length β0 β) : W 7 (mkL 13 [0, 1, 2, 3, 4, 5]) ac w := by
    refine o2 hW 6 10 ?_ (S.wq hW hNN hBB [] .nil fun _ _ _ S hB => hK140 _ _ _ _ _ S o46 o93 hNN hB)
    refine id (S.call2 (r := (f_hostSet aH aM aG aPage aS).1) (r' := (f_hostSet aH aM aG aPage aS).2) (d := 47) (c_impl_HostSet w aH q91 (S.rd o93.rn) aM aG haG aPage haPage aS (haS)) (by kernel_rfl) rfl ?_)
    clear S; intro ac w N q156 q157 F158 F159 S up o160 o161 d162 d163 d164
    have hb165 := fun b h => (⟨(up b (hNN b h).1).1, (up b (hNN b h).1).2.trans (hNN b h).2⟩ : _ ∧ _)
    refine WD.sc S hb165 hBB fun hC => ?_
    have d166 : Disj F48 F159 := fun b x y => d163 b (o46.sub b x) y
    have d167 : Disj F92 F159 := fun b x y => d163 b (o93.sub b x) y
    have d168 : Disj F48 F158 := fun b x y => d162 b (o46.sub b x) y
    have d169 : Disj F92 F158 := fun b x y => d162 b (o93.sub b x) y
    replace o46 := o46.up up
    replace o93 := o93.up up
    clear up d162
    clear d163
    exact S.wh hW [7, 8, 9] hC fun _ S => hK137 _ _ q156 F158 _ _ _ S o46 o93 o160 d168 d169 hb165 hBB
   have hK170 ac w u N β (S : St Tryz.prog Tryz.f3.ntmps w0 NoB u N β (σ96.dl [] [(15, .p 4 0), (41, .v (GT.val aH q91)), (42, .v (I aM)), (43, .v (I aG)), (44, .v (I aPage)), (45, .v (GT.val aS ()))] 5 [(4, Zc THost)]) ac w) (o46 : Ow w0 NoB u N F48 ((f_hostSet aH aM aG aPage aS).1) q47) (o93 : Ow w0 NoB u N F92 aH q91) (hNN : NN N0 u0 N u) (hBB : BB σ96.bx.length β0 β) : W 7 (mkL 13 [0, 1, 2, 3, 4, 10]) ac w := by
    exact o1 hW 5 (S.wq hW hNN hBB [] (.cons (Q_call fun w hw => c_laws_toSlot w aS) .nil) fun _ _ _ S hB => hK140 _ _ _ _ _ S o46 o93 hNN hB)
   have hNN : NN N0 u0 N0 u0 := fun b h => ⟨h, rfl⟩
   have hBB : BB σ96.bx.length β0 β0 := fun _ _ => rfl
   exact o2 hW 5 10 (S.wq hW hNN hBB [] (.cons (Q_call fun w hw => c_laws_toSlot w aS) .nil) fun _ _ _ S hB => hK155 _ _ _ _ _ S o46 o93 hNN hB) (S.wq hW hNN hBB [] .nil fun _ _ _ S hB => hK170 _ _ _ _ _ S o46 o93 hNN hB)
  clear S o46 o93
  rintro ac w ⟨q129, F130, u, N, β, S, o46, o93, o128, d171, d172⟩
  refine id (nt (ws (ws (rg ?_))))
  refine S.qb 5 [] [(54, .v (B (!(decide (((f_hostSet aH aM aG aPage aS).1) = ((f_hostSet aH aM aG aPage aS).1))))))] (.cons (Q_call fun w hw => c_laws_eqHost w ((f_hostSet aH aM aG aPage aS).1) q129 (rd_of o128.rn hw) ((f_hostSet aH aM aG aPage aS).1) q47 (rd_of o46.rn hw)) .nil) ?_; clear S; intro ac w β S
  rcases Bool.eq_false_or_eq_true (!(decide (((f_hostSet aH aM aG aPage aS).1) = ((f_hostSet aH aM aG aPage aS).1)))) with h173 | h173 <;> rw [h173] at S
  ·have h174 := not_t h173
   have g175 := of_decide_eq_false h174
   refine S.qe 4 [54] [(58, .v (B true))] ?_; clear S; intro ac w β S
   refine (nt (S.c true (fun _ => ?_) (fun hx => by cases hx)))
   refine ws (rg ?_)
   refine S.qe 1 [] [(10, .v (B false))] ?_; clear S; intro ac w β S
   exact (nt (wr (rt (S.r [B false] ⟨retB k0_laws_FnExactHostSet, S.chg⟩))))
  ·have h176 := not_f h173
   have g177 := of_decide_eq_true h176
   refine S.qe 4 [54] [(58, .v (B (!((f_hostSet aH aM aG aPage aS).2 == (f_hostSet aH aM aG aPage aS).2))))] ?_; clear S; intro ac w β S
   refine (nt (S.c (!((f_hostSet aH aM aG aPage aS).2 == (f_hostSet aH aM aG aPage aS).2)) (fun h178 => ?_) (fun h178 => ?_)))
   ·have h179 := not_t h178
    have g180 : ¬ ((f_hostSet aH aM aG aPage aS).2 = (f_hostSet aH aM aG aPage aS).2) := ne_of_beq_false h179
    refine ws (rg ?_)
    refine S.qe 1 [] [(10, .v (B false))] ?_; clear S; intro ac w β S
    exact (nt (wr (rt (S.r [B false] ⟨retB k0_laws_FnExactHostSet, S.chg⟩))))
   ·have h181 := not_f h178
    have g182 : (f_hostSet aH aM aG aPage aS).2 = (f_hostSet aH aM aG aPage aS).2 := eq_of_beq h181
    refine wk (nt (ws (ws ?_)))
    refine S.draw0 (f := 5) 5 rfl rfl ?_
    clear S; intro w S
    refine S.hoist (i := 0) (path := []) (keep := [1, 2, 3, 5, 9, 12, 13, 14, 15, 16, 59]) (m := 5) (σ' := ⟨[(1, .v (I aM)), (2, .v (I aG)), (3, .v (I aPage)), (5, .p 0 0), (9, .p 1 0), (12, .p 2 0), (13, .v (B ((f_hostSet aH aM aG aPage aS).2))), (14, .p 3 0), (15, .p 4 0), (16, .v (B ((f_hostSet aH aM aG aPage aS).2))), (59, .v (GT.val aH q91))], [GT.cells aH paH, GT.cells aS (), GT.cells ((f_hostSet aH aM aG aPage aS).1) q47, GT.cells aH q91, GT.cells ((f_hostSet aH aM aG aPage aS).1) q129]⟩) (by kernel_rfl) (by kernel_rfl) .nil (by kernel_rfl) ?_
    clear S; intro ac S
    refine S.hoist (i := 1) (path := []) (keep := [1, 2, 3, 5, 9, 12, 13, 14, 15, 16, 59, 60]) (m := 5) (σ' := ⟨[(1, .v (I aM)), (2, .v (I aG)), (3, .v (I aPage)), (5, .p 0 0), (9, .p 1 0), (12, .p 2 0), (13, .v (B ((f_hostSet aH aM aG aPage aS).2))), (14, .p 3 0), (15, .p 4 0), (16, .v (B ((f_hostSet aH aM aG aPage aS).2))), (59, .v (GT.val aH q91)), (60, .v (GT.val aH paH))], [GT.cells aH paH, GT.cells aS (), GT.cells ((f_hostSet aH aM aG aPage aS).1) q47, GT.cells aH q91, GT.cells ((f_hostSet aH aM aG aPage aS).1) q129]⟩) (by kernel_rfl) (by kernel_rfl) .nil (by kernel_rfl) ?_
    clear S; intro ac S
    refine WD.one (i := 2) (by kernel_rfl) ?_
    refine id (S.call1 (r := aH) (d := 61) (c_laws_toHost w aH paH (S.rd (S.arg hkaH))) (by kernel_rfl) rfl ?_)
    clear S; intro ac w N q183 F184 S up o185 d186
    refine WD.next S up rfl ?_
    have d187 : Disj F48 F184 := fun b x y => d186 b (o46.sub b x) y
    have d188 : Disj F92 F184 := fun b x y => d186 b (o93.sub b x) y
    have d189 : Disj F130 F184 := fun b x y => d186 b (o128.sub b x) y
    replace o46 := o46.up up
    replace o93 := o93.up up
    replace o128 := o128.up up
    clear up d186
    refine WD.one (i := 3) (by kernel_rfl) ?_
    refine S.stepq (i := 3) (keep := [1, 2, 3, 5, 9, 12, 13, 14, 15, 16, 62]) (m := 5) (σ' := ⟨[(1, .v (I aM)), (2, .v (I aG)), (3, .v (I aPage)), (5, .p 0 0), (9, .p 1 0), (12, .p 2 0), (13, .v (B ((f_hostSet aH aM aG aPage aS).2))), (14, .p 3 0), (15, .p 4 0), (16, .v (B ((f_hostSet aH aM aG aPage aS).2))), (62, .v (B (decide (aH = aH))))], [GT.cells aH paH, GT.cells aS (), GT.cells ((f_hostSet aH aM aG aPage aS).1) q47, GT.cells aH q91, GT.cells ((f_hostSet aH aM aG aPage aS).1) q129]⟩) (.cons (Q_call fun w hw => c_laws_eqHost w aH q91 (rd_of o93.rn hw) aH q183 (rd_of o185.rn hw)) .nil) (by kernel_rfl) ?_
    clear S; intro ac w β S hβ
    refine WD.stay S hβ (fun _ _ h => h) ?_
    clear hβ
    refine S.hoist (i := 4) (path := []) (keep := [1, 2, 3, 5, 9, 12, 13, 14, 15, 16, 63]) (m := 5) (σ' := ⟨[(1, .v (I aM)), (2, .v (I aG)), (3, .v (I aPage)), (5, .p 0 0), (9, .p 1 0), (12, .p 2 0), (13, .v (B ((f_hostSet aH aM aG aPage aS).2))), (14, .p 3 0), (15, .p 4 0), (16, .v (B ((f_hostSet aH aM aG aPage aS).2))), (63, .v (B (!(decide (aH = aH)))))], [GT.cells aH paH, GT.cells aS (), GT.cells ((f_hostSet aH aM aG aPage aS).1) q47, GT.cells aH q91, GT.cells ((f_hostSet aH aM aG aPage aS).1) q129]⟩) (by kernel_rfl) (by kernel_rfl) .nil (by kernel_rfl) ?_
    clear S; intro ac S
    refine WD.done (by kernel_rfl) ?_ _
    refine id (nt (S.c (!(decide (aH = aH))) (fun h190 => ?_) (fun h190 => ?_)))
    ·have h191 := not_t h190
     have g192 := of_decide_eq_false h191
     refine ws (rg ?_)
     refine S.qe 1 [] [(10, .v (B false))] ?_; clear S; intro ac w β S
     exact (nt (wr (rt (S.r [B false] ⟨retB k0_laws_FnExactHostSet, S.chg⟩))))
    ·have h193 := not_f h190
     have g194 := of_decide_eq_true h193
     refine wk (nt (ws (rg ?_)))
     refine S.qe 1 [] [(17, .v (I 1))] ?_; clear S; intro ac w β S
     refine (nt (ws (rg ?_)))
     refine S.qa 2 [] [(64, .v (GT.val aH q91)), (65, .v (I 1))] ?_; clear S; intro ac w β S
     have z203 := sz_hostSet aH aM aG aPage aS
     refine RG.op rfl (S.callX (hd := hdT_Host) (d := 66) o93 (c_laws_markHost w aH q91 F92 (S.ownw o93) (fun b hb => (S.sep b (o93.sub b hb)).1) 1 (by omega) (by omega)) (by kernel_rfl) rfl ?_)
     clear S; intro ac w N q195 y196 k197 S up o198 c199 x200 b201 b202
     replace o46 := o46.upF d95 up
     replace o128 := o128.upF (Disj.symm d172) up
     clear up
     replace S := S.z (σ' := ⟨[(1, .v (I aM)), (2, .v (I aG)), (3, .v (I aPage)), (5, .p 0 0), (9, .p 1 0), (12, .p 2 0), (13, .v (B ((f_hostSet aH aM aG aPage aS).2))), (15, .p 4 0), (16, .v (B ((f_hostSet aH aM aG aPage aS).2))), (65, .v (I 1)), (66, .v (I k197))], [GT.cells aH paH, GT.cells aS (), GT.cells ((f_hostSet aH aM aG aPage aS).1) q47, GT.cells aH q91, GT.cells ((f_hostSet aH aM aG aPage aS).1) q129]⟩)
     have hw0 : GT.cells y196 q195 = GT.cells aH q91 := c199
     replace S := S.cast (σ' := ⟨[(1, .v (I aM)), (2, .v (I aG)), (3, .v (I aPage)), (5, .p 0 0), (9, .p 1 0), (12, .p 2 0), (13, .v (B ((f_hostSet aH aM aG aPage aS).2))), (15, .p 4 0), (16, .v (B ((f_hostSet aH aM aG aPage aS).2))), (65, .v (I 1)), (66, .v (I k197))], [GT.cells aH paH, GT.cells aS (), GT.cells ((f_hostSet aH aM aG aPage aS).1) q47, GT.cells y196 q195, GT.cells ((f_hostSet aH aM aG aPage aS).1) q129]⟩) (by rw [hw0])
     clear hw0
     refine S.qe 1 [] [(17, .v (I k197))] ?_; clear S; intro ac w β S
     refine (nt (ws (ws (rg ?_))))
     refine S.qa 3 [] [(69, .v (B (decide (k197 < 0))))] ?_; clear S; intro ac w β S
     rcases Bool.eq_false_or_eq_true (decide (k197 < 0)) with h204 | h204 <;> rw [h204] at S
     ·have g205 := of_decide_eq_true h204
      refine S.qe 10 [69] [(79, .v (B true))] ?_; clear S; intro ac w β S
      refine (nt (S.c true (fun _ => ?_) (fun hx => by cases hx)))
      refine ws (rg ?_)
      refine S.qe 1 [1, 2, 3, 5, 9, 12, 13, 15, 16, 17, 65, 66, 79] [(10, .v (B false))] ?_; clear S; intro ac w β S
      exact (nt (wr (rt (S.r [B false] ⟨retB k0_laws_FnExactHostSet, S.chg⟩))))
     ·have g206 := of_decide_eq_false h204
      refine S.qb 6 [69] [(75, .v (B (!(decide (((f_hostSet aH aM aG aPage aS).1) = ((f_hostSet aH aM aG aPage aS).1))))))] (.cons (Q_call fun w hw => c_laws_eqHost w ((f_hostSet aH aM aG aPage aS).1) q129 (rd_of o128.rn hw) ((f_hostSet aH aM aG aPage aS).1) q47 (rd_of o46.rn hw)) .nil) ?_; clear S; intro ac w β S
      rw [h173] at S
      refine S.qe 4 [75] [(79, .v (B (!((f_hostSet aH aM aG aPage aS).2 == (f_hostSet aH aM aG aPage aS).2))))] ?_; clear S; intro ac w β S
      refine (nt (S.c (!((f_hostSet aH aM aG aPage aS).2 == (f_hostSet aH aM aG aPage aS).2)) (fun h207 => ?_) (fun h207 => ?_)))
      ·have h208 := not_t h207
       have g209 : ¬ ((f_hostSet aH aM aG aPage aS).2 = (f_hostSet aH aM aG aPage aS).2) := ne_of_beq_false h208
       refine ws (rg ?_)
       refine S.qe 1 [1, 2, 3, 5, 9, 12, 13, 15, 16, 17, 65, 66, 79] [(10, .v (B false))] ?_; clear S; intro ac w β S
       exact (nt (wr (rt (S.r [B false] ⟨retB k0_laws_FnExactHostSet, S.chg⟩))))
      ·have h210 := not_f h207
       have g211 : (f_hostSet aH aM aG aPage aS).2 = (f_hostSet aH aM aG aPage aS).2 := eq_of_beq h210
       refine wk (nt (ws (rg ?_)))
       refine S.qe 1 [] [(18, .v (I 1))] ?_; clear S; intro ac w β S
       refine (nt (ws (rg ?_)))
       refine S.qa 2 [] [(80, .v (GT.val ((f_hostSet aH aM aG aPage aS).1) q129)), (81, .v (I 1))] ?_; clear S; intro ac w β S
       have z220 := sz_hostSet aH aM aG aPage aS
       refine RG.op rfl (S.callX (hd := hdT_Host) (d := 82) o128 (c_laws_markHost w ((f_hostSet aH aM aG aPage aS).1) q129 F130 (S.ownw o128) (fun b hb => (S.sep b (o128.sub b hb)).1) 1 (by omega) (by omega)) (by kernel_rfl) rfl ?_)
       clear S; intro ac w N q212 y213 k214 S up o215 c216 x217 b218 b219
       replace o46 := o46.upF d171 up
       replace o198 := o198.upF (Disj.symm (Disj.symm d172)) up
       clear up
       replace S := S.z (σ' := ⟨[(1, .v (I aM)), (2, .v (I aG)), (3, .v (I aPage)), (5, .p 0 0), (9, .p 1 0), (12, .p 2 0), (13, .v (B ((f_hostSet aH aM aG aPage aS).2))), (15, .p 4 0), (81, .v (I 1)), (82, .v (I k214))], [GT.cells aH paH, GT.cells aS (), GT.cells ((f_hostSet aH aM aG aPage aS).1) q47, GT.cells y196 q195, GT.cells ((f_hostSet aH aM aG aPage aS).1) q129]⟩)
       have hw0 : GT.cells y213 q212 = GT.cells ((f_hostSet aH aM aG aPage aS).1) q129 := c216
       replace S := S.cast (σ' := ⟨[(1, .v (I aM)), (2, .v (I aG)), (3, .v (I aPage)), (5, .p 0 0), (9, .p 1 0), (12, .p 2 0), (13, .v (B ((f_hostSet aH aM aG aPage aS).2))), (15, .p 4 0), (81, .v (I 1)), (82, .v (I k214))], [GT.cells aH paH, GT.cells aS (), GT.cells ((f_hostSet aH aM aG aPage aS).1) q47, GT.cells y196 q195, GT.cells y213 q212]⟩) (by rw [hw0])
       clear hw0
       refine S.qe 1 [] [(18, .v (I k214))] ?_; clear S; intro ac w β S
       refine (nt (ws (rg ?_)))
       refine S.qe 1 [] [(19, .v (I 1))] ?_; clear S; intro ac w β S
       refine (nt (ws (rg ?_)))
       refine S.qg 4 [] [(19, .v (I (hdT_Host y213 1)))] (.cons (Q_call fun w hw => c_laws_heldHost w y213 q212 (rd_of o215.rn hw) 1) .nil) ?_; clear S; intro ac w β S
       refine (nt (ws (ws (rg ?_))))
       refine S.qe 2 [] [(87, .v (B (decide ((hdT_Host y213 1) < 0))))] ?_; clear S; intro ac w β S
       refine (nt (S.c (decide ((hdT_Host y213 1) < 0)) (fun h221 => ?_) (fun h221 => ?_)))
       ·have g222 := of_decide_eq_true h221
        refine ws (rg ?_)
        refine S.qe 1 [1, 2, 3, 5, 9, 12, 13, 15, 18, 19, 81, 82, 87] [(10, .v (B false))] ?_; clear S; intro ac w β S
        exact (nt (wr (rt (S.r [B false] ⟨retB k0_laws_FnExactHostSet, S.chg⟩))))
       ·have g223 := of_decide_eq_false h221
        refine wk (nt (ws (ws (rg ?_))))
        refine S.qe 3 [] [(90, .v (B ((hdT_Host y213 1) != k214)))] ?_; clear S; intro ac w β S
        refine (nt (S.c ((hdT_Host y213 1) != k214) (fun h224 => ?_) (fun h224 => ?_)))
        ·have g225 : ¬ ((hdT_Host y213 1) = k214) := bne_iff_ne.1 h224
         refine ws (rg ?_)
         refine S.qe 1 [1, 2, 3, 5, 9, 12, 13, 15, 18, 19, 81, 82, 87, 90] [(10, .v (B false))] ?_; clear S; intro ac w β S
         exact (nt (wr (rt (S.r [B false] ⟨retB k0_laws_FnExactHostSet, S.chg⟩))))
        ·have g226 : (hdT_Host y213 1) = k214 := ne_f h224
         refine wk (nt (ws ?_))
         let σ227 : Sy := ⟨[(1, .v (I aM)), (2, .v (I aG)), (3, .v (I aPage)), (5, .p 0 0), (9, .p 1 0), (12, .p 2 0), (13, .v (B ((f_hostSet aH aM aG aPage aS).2))), (15, .p 4 0), (18, .v (I k214)), (90, .v (B ((hdT_Host y213 1) != k214)))], [GT.cells aH paH, GT.cells aS (), GT.cells ((f_hostSet aH aM aG aPage aS).1) q47, GT.cells y196 q195, GT.cells y213 q212]⟩
         obtain ⟨u0, N0, β0, S, o46, o198, o215⟩ : ∃ u0 N0 β0, St Tryz.prog Tryz.f3.ntmps w0 NoB u0 N0 β0 σ227 ac w ∧ Ow w0 NoB u0 N0 F48 ((f_hostSet aH aM aG aPage aS).1) q47 ∧ Ow w0 NoB u0 N0 F92 y196 q195 ∧ Ow w0 NoB u0 N0 F130 y213 q212 := ⟨_, _, _, S.z, o46, o198, o215⟩
         refine wp_region_cut (fun ac w => ∃ q287 F288 u N β, St Tryz.prog Tryz.f3.ntmps w0 NoB u N β (σ227.dl [1, 2, 3, 5, 9, 90] [(20, .p 5 0), (21, .v (B ((f_hostSet aH aM aG aPage aS).2)))] 6 [(5, GT.cells ((f_hostSet aH aM aG aPage aS).1) q287)]) ac w ∧ Ow w0 NoB u N F48 ((f_hostSet aH aM aG aPage aS).1) q47 ∧ Ow w0 NoB u N F92 y196 q195 ∧ Ow w0 NoB u N F130 y213 q212 ∧ Ow w0 NoB u N F288 ((f_hostSet aH aM aG aPage aS).1) q287 ∧ Disj F48 F288 ∧ Disj F92 F288 ∧ Disj F130 F288) ?_ ?_
         ·refine S.draw0 (f := 14) 12 rfl rfl ?_
          clear S; intro w S
          refine S.hq 0 [0] [] [(92, .v (GT.val aH paH))] .nil ?_
          clear S; intro ac S
          refine S.hq 2 [2] [] [(94, .v (I aM))] .nil ?_
          clear S; intro ac S
          refine S.hq 3 [3] [] [(95, .v (I aG))] .nil ?_
          clear S; intro ac S
          refine S.hq 4 [4] [] [(96, .v (I aPage))] .nil ?_
          clear S; intro ac S
          refine S.hq 5 [5] [] [(97, .v (GT.val aS ()))] .nil ?_
          clear S; intro ac S
          refine WD.nameW fun W hW => ?_
          refine WD.castW (l' := mkL 14 [0, 2, 3, 4, 5]) (by kernel_rfl) ?_
          have hK289 ac w q287 F288 u N β (S : St Tryz.prog Tryz.f3.ntmps w0 NoB u N β (σ227.dl [1, 2, 3, 5, 9, 90] [(20, .p 5 0), (21, .v (B ((f_hostSet aH aM aG aPage aS).2)))] 6 [(5, GT.cells ((f_hostSet aH aM aG aPage aS).1) q287)]) ac w) (o46 : Ow w0 NoB u N F48 ((f_hostSet aH aM aG aPage aS).1) q47) (o198 : Ow w0 NoB u N F92 y196 q195) (o215 : Ow w0 NoB u N F130 y213 q212) (o286 : Ow w0 NoB u N F288 ((f_hostSet aH aM aG aPage aS).1) q287) (d290 : Disj F48 F288) (d291 : Disj F92 F288) (d292 : Disj F130 F288) : W 0 (mkL 14 [0, 1, 2, 3, 4, 5, 6, 7, 8, 9, 10, 11, 12, 13]) ac w := by
           exact od hW ⟨rfl, q287, F288, _, _, _, S.z, o46, o198, o215, o286, d290, d291, d292⟩
          have hK293 ac w q266 F267 u N β (S : St Tryz.prog Tryz.f3.ntmps w0 NoB u N β (σ227.dl [1, 2, 3, 5, 9, 90] [(20, .p 5 0), (100, .v (GT.val ((f_hostSet aH aM aG aPage aS).1) q266)), (101, .v (B ((f_hostSet aH aM aG aPage aS).2)))] 6 [(5, Zc THost)]) ac w) (o46 : Ow w0 NoB u N F48 ((f_hostSet aH aM aG aPage aS).1) q47) (o198 : Ow w0 NoB u N F92 y196 q195) (o215 : Ow w0 NoB u N F130 y213 q212) (o265 : Ow w0 NoB u N F267 ((f_hostSet aH aM aG aPage aS).1) q266) (d294 : Disj F48 F267) (d295 : Disj F92 F267) (d296 : Disj F130 F267) (hNN : NN N0 u0 N u) (hBB : BB σ227.bx.length β0 β) : W 2 (mkL 14 [0, 1, 2, 3, 4, 5, 6, 7, 8, 9, 10, 11]) ac w := by
           exact o1 hW 12 (S.wl hW [13] .nil fun _ _ _ S => hK289 _ _ q266 F267 _ _ _ S o46 o198 o215 o265 d294 d295 d296)
          have hK297 ac w q266 F267 u N β (S : St Tryz.prog Tryz.f3.ntmps w0 NoB u N β (σ227.dl [1, 2, 3, 5, 9, 90] [(100, .v (GT.val ((f_hostSet aH aM aG aPage aS).1) q266)), (101, .v (B ((f_hostSet aH aM aG aPage aS).2)))] 5 []) ac w) (o46 : Ow w0 NoB u N F48 ((f_hostSet aH aM aG aPage aS).1) q47) (o198 : Ow w0 NoB u N F92 y196 q195) (o215 : Ow w0 NoB u N F130 y213 q212) (o265 : Ow w0 NoB u N F267 ((f_hostSet aH aM aG aPage aS).1) q266) (d298 : Disj F48 F267) (d299 : Disj F92 F267) (d300 : Disj F130 F267) (hNN : NN N0 u0 N u) (hBB : BB σ227.bx.length β0 β) : W 3 (mkL 14 [0, 1, 2, 3, 4, 5, 6, 7, 8, 9, 10]) ac w := by
           exact o1 hW 11 (S.wq hW hNN hBB [] .nil fun _ _ _ S hB => hK293 _ _ q266 F267 _ _ _ S o46 o198 o215 o265 d298 d299 d300 hNN hB)
          have hK301 ac w q237 F238 u N β (S : St Tryz.prog Tryz.f3.ntmps w0 NoB u N β (σ227.dl [1, 2, 3, 5, 9, 90] [(20, .p 5 0), (93, .v (GT.val aH q237)), (94, .v (I aM)), (95, .v (I aG)), (96, .v (I aPage)), (98, .v (GT.val aS ()))] 6 [(5, Zc THost)]) ac w) (o46 : Ow w0 NoB u N F48 ((f_hostSet aH aM aG aPage aS).1) q47) (o198 : Ow w0 NoB u N F92 y196 q195) (o215 : Ow w0 NoB u N F130 y213 q212) (o236 : Ow w0 NoB u N F238 aH q237) (d302 : Disj F48 F238) (d303 : Disj F92 F238) (d304 : Disj F130 F238) (hNN : NN N0 u0 N u) (hBB : BB σ227.bx.length β0 β) : W 6 (mkL 14 [0, 1, 2, 3, 4, 5, 6, 11]) ac w := by
           refine o1 hW 7 ?_
           refine id (S.call2 (r := (f_hostSet aH aM aG aPage aS).1) (r' := (f_hostSet aH aM aG aPage aS).2) (d := 99) (c_impl_HostSet w aH q237 (S.rd o236.rn) aM aG haG aPage haPage aS (haS)) (by kernel_rfl) rfl ?_)
           clear S; intro ac w N q305 q306 F307 F308 S up o309 o310 d311 d312 d313
           have hb314 := fun b h => (⟨(up b (hNN b h).1).1, (up b (hNN b h).1).2.trans (hNN b h).2⟩ : _ ∧ _)
           refine WD.sc S hb314 hBB fun hC => ?_
           have d315 : Disj F48 F308 := fun b x y => d312 b (o46.sub b x) y
           have d316 : Disj F92 F308 := fun b x y => d312 b (o198.sub b x) y
           have d317 : Disj F130 F308 := fun b x y => d312 b (o215.sub b x) y
           have d318 : Disj F238 F308 := fun b x y => d312 b (o236.sub b x) y
           have d319 : Disj F48 F307 := fun b x y => d311 b (o46.sub b x) y
           have d320 : Disj F92 F307 := fun b x y => d311 b (o198.sub b x) y
           have d321 : Disj F130 F307 := fun b x y => d311 b (o215.sub b x) y
           have d322 : Disj F238 F307 := fun b x y => d311 b (o236.sub b x) y
           replace o46 := o46.up up
           replace o198 := o198.up up
           replace o215 := o215.up up
           replace o236 := o236.up up
           clear up d311
           clear d312
           exact S.wh hW [8, 9, 10] hC fun _ S => hK293 _ _ q305 F307 _ _ _ S o46 o198 o215 o309 d319 d320 d321 hb314 hBB
          have hK323 ac w q237 F238 u N β (S : St Tryz.prog Tryz.f3.ntmps w0 NoB u N β (σ227.dl [1, 2, 3, 5, 9, 90] [(93, .v (GT.val aH q237)), (94, .v (I aM)), (95, .v (I aG)), (96, .v (I aPage)), (98, .v (GT.val aS ()))] 5 []) ac w) (o46 : Ow w0 NoB u N F48 ((f_hostSet aH aM aG aPage aS).1) q47) (o198 : Ow w0 NoB u N F92 y196 q195) (o215 : Ow w0 NoB u N F130 y213 q212) (o236 : Ow w0 NoB u N F238 aH q237) (d324 : Disj F48 F238) (d325 : Disj F92 F238) (d326 : Disj F130 F238) (hNN : NN N0 u0 N u) (hBB : BB σ227.bx.length β0 β) : W 7 (mkL 14 [0, 1, 2, 3, 4, 5, 6]) ac w := by
           refine o2 hW 7 11 ?_ (S.wq hW hNN hBB [] .nil fun _ _ _ S hB => hK301 _ _ q237 F238 _ _ _ S o46 o198 o215 o236 d324 d325 d326 hNN hB)
           refine id (S.call2 (r := (f_hostSet aH aM aG aPage aS).1) (r' := (f_hostSet aH aM aG aPage aS).2) (d := 99) (c_impl_HostSet w aH q237 (S.rd o236.rn) aM aG haG aPage haPage aS (haS)) (by kernel_rfl) rfl ?_)
           clear S; intro ac w N q327 q328 F329 F330 S up o331 o332 d333 d334 d335
           have hb336 := fun b h => (⟨(up b (hNN b h).1).1, (up b (hNN b h).1).2.trans (hNN b h).2⟩ : _ ∧ _)
           refine WD.sc S hb336 hBB fun hC => ?_
           have d337 : Disj F48 F330 := fun b x y => d334 b (o46.sub b x) y
           have d338 : Disj F92 F330 := fun b x y => d334 b (o198.sub b x) y
           have d339 : Disj F130 F330 := fun b x y => d334 b (o215.sub b x) y
           have d340 : Disj F238 F330 := fun b x y => d334 b (o236.sub b x) y
           have d341 : Disj F48 F329 := fun b x y => d333 b (o46.sub b x) y
           have d342 : Disj F92 F329 := fun b x y => d333 b (o198.sub b x) y
           have d343 : Disj F130 F329 := fun b x y => d333 b (o215.sub b x) y
           have d344 : Disj F238 F329 := fun b x y => d333 b (o236.sub b x) y
           replace o46 := o46.up up
           replace o198 := o198.up up
           replace o215 := o215.up up
           replace o236 := o236.up up
           clear up d333
           clear d334
           exact S.wh hW [8, 9, 10] hC fun _ S => hK297 _ _ q327 F329 _ _ _ S o46 o198 o215 o331 d341 d342 d343 hb336 hBB
          have hK345 ac w q237 F238 u N β (S : St Tryz.prog Tryz.f3.ntmps w0 NoB u N β (σ227.dl [1, 2, 3, 5, 9, 90] [(20, .p 5 0), (93, .v (GT.val aH q237)), (94, .v (I aM)), (95, .v (I aG)), (96, .v (I aPage)), (97, .v (GT.val aS ()))] 6 [(5, Zc THost)]) ac w) (o46 : Ow w0 NoB u N F48 ((f_hostSet aH aM aG aPage aS).1) q47) (o198 : Ow w0 NoB u N F92 y196 q195) (o215 : Ow w0 NoB u N F130 y213 q212) (o236 : Ow w0 NoB u N F238 aH q237) (d346 : Disj F48 F238) (d347 : Disj F92 F238) (d348 : Disj F130 F238) (hNN : NN N0 u0 N u) (hBB : BB σ227.bx.length β0 β) : W 7 (mkL 14 [0, 1, 2, 3, 4, 5, 11]) ac w := by
           exact o1 hW 6 (S.wq hW hNN hBB [] (.cons (Q_call fun w hw => c_laws_toSlot w aS) .nil) fun _ _ _ S hB => hK301 _ _ q237 F238 _ _ _ S o46 o198 o215 o236 d346 d347 d348 hNN hB)
          have hK349 ac w q237 F238 u N β (S : St Tryz.prog Tryz.f3.ntmps w0 NoB u N β (σ227.dl [1, 2, 3, 5, 9, 90] [(93, .v (GT.val aH q237)), (94, .v (I aM)), (95, .v (I aG)), (96, .v (I aPage)), (97, .v (GT.val aS ()))] 5 []) ac w) (o46 : Ow w0 NoB u N F48 ((f_hostSet aH aM aG aPage aS).1) q47) (o198 : Ow w0 NoB u N F92 y196 q195) (o215 : Ow w0 NoB u N F130 y213 q212) (o236 : Ow w0 NoB u N F238 aH q237) (d350 : Disj F48 F238) (d351 : Disj F92 F238) (d352 : Disj F130 F238) (hNN : NN N0 u0 N u) (hBB : BB σ227.bx.length β0 β) : W 8 (mkL 14 [0, 1, 2, 3, 4, 5]) ac w := by
           exact o2 hW 6 11 (S.wq hW hNN hBB [] (.cons (Q_call fun w hw => c_laws_toSlot w aS) .nil) fun _ _ _ S hB => hK323 _ _ q237 F238 _ _ _ S o46 o198 o215 o236 d350 d351 d352 hNN hB) (S.wq hW hNN hBB [] .nil fun _ _ _ S hB => hK345 _ _ q237 F238 _ _ _ S o46 o198 o215 o236 d350 d351 d352 hNN hB)
          have hK353 ac w u N β (S : St Tryz.prog Tryz.f3.ntmps w0 NoB u N β (σ227.dl [1, 2, 3, 5, 9, 90] [(20, .p 5 0), (92, .v (GT.val aH paH)), (94, .v (I aM)), (95, .v (I aG)), (96, .v (I aPage)), (97, .v (GT.val aS ()))] 6 [(5, Zc THost)]) ac w) (o46 : Ow w0 NoB u N F48 ((f_hostSet aH aM aG aPage aS).1) q47) (o198 : Ow w0 NoB u N F92 y196 q195) (o215 : Ow w0 NoB u N F130 y213 q212) (hNN : NN N0 u0 N u) (hBB : BB σ227.bx.length β0 β) : W 8 (mkL 14 [0, 2, 3, 4, 5, 11]) ac w := by
           refine o1 hW 1 ?_
           refine id (S.call1 (r := aH) (d := 93) (c_laws_toHost w aH paH (S.rd (S.arg hkaH))) (by kernel_rfl) rfl ?_)
           clear S; intro ac w N q354 F355 S up o356 d357
           have hb358 := fun b h => (⟨(up b (hNN b h).1).1, (up b (hNN b h).1).2.trans (hNN b h).2⟩ : _ ∧ _)
           refine WD.sc S hb358 hBB fun hC => ?_
           have d359 : Disj F48 F355 := fun b x y => d357 b (o46.sub b x) y
           have d360 : Disj F92 F355 := fun b x y => d357 b (o198.sub b x) y
           have d361 : Disj F130 F355 := fun b x y => d357 b (o215.sub b x) y
           replace o46 := o46.up up
           replace o198 := o198.up up
           replace o215 := o215.up up
           clear up d357
           exact S.wh hW [] hC fun _ S => hK345 _ _ q354 F355 _ _ _ S o46 o198 o215 o356 d359 d360 d361 hb358 hBB
          have hNN : NN N0 u0 N0 u0 := fun b h => ⟨h, rfl⟩
          have hBB : BB σ227.bx.length β0 β0 := fun _ _ => rfl
          refine o2 hW 1 11 ?_ (S.wq hW hNN hBB [] .nil fun _ _ _ S hB => hK353 _ _ _ _ _ S o46 o198 o215 hNN hB)
          refine id (S.call1 (r := aH) (d := 93) (c_laws_toHost w aH paH (S.rd (S.arg hkaH))) (by kernel_rfl) rfl ?_)
          clear S; intro ac w N q362 F363 S up o364 d365
          have hb366 := fun b h => (⟨(up b (hNN b h).1).1, (up b (hNN b h).1).2.trans (hNN b h).2⟩ : _ ∧ _)
          refine WD.sc S hb366 hBB fun hC => ?_
          have d367 : Disj F48 F363 := fun b x y => d365 b (o46.sub b x) y
          have d368 : Disj F92 F363 := fun b x y => d365 b (o198.sub b x) y
          have d369 : Disj F130 F363 := fun b x y => d365 b (o215.sub b x) y
          replace o46 := o46.up up
          replace o198 := o198.up up
          replace o215 := o215.up up
          clear up d365
          exact S.wh hW [] hC fun _ S => hK349 _ _ q362 F363 _ _ _ S o46 o198 o215 o364 d367 d368 d369 hb366 hBB
         clear S o46 o198 o215
         rintro ac w ⟨q287, F288, u, N, β, S, o46, o198, o215, o286, d370, d371, d372⟩
         refine id (nt (ws (ws (rg ?_))))
         refine S.qbm 5 [] [(106, .v (B (!(decide (((f_hostSet aH aM aG aPage aS).1) = ((f_hostSet aH aM aG aPage aS).1))))))] (.cons (Q_call fun w hw => c_laws_eqHost w ((f_hostSet aH aM aG aPage aS).1) q287 (rd_of o286.rn hw) ((f_hostSet aH aM aG aPage aS).1) q47 (rd_of o46.rn hw)) .nil) 5 [] ?_; clear S; intro ac w β S
         rw [h173] at S
         refine S.qe 4 [106] [(110, .v (B (!((f_hostSet aH aM aG aPage aS).2 == (f_hostSet aH aM aG aPage aS).2))))] ?_; clear S; intro ac w β S
         refine (nt (S.c (!((f_hostSet aH aM aG aPage aS).2 == (f_hostSet aH aM aG aPage aS).2)) (fun h373 => ?_) (fun h373 => ?_)))
         ·have h374 := not_t h373
          have g375 : ¬ ((f_hostSet aH aM aG aPage aS).2 = (f_hostSet aH aM aG aPage aS).2) := ne_of_beq_false h374
          refine ws (rg ?_)
          refine S.qe 1 [] [(10, .v (B false))] ?_; clear S; intro ac w β S
          exact (nt (wr (rt (S.r [B false] ⟨retB k0_laws_FnExactHostSet, S.chg⟩))))
         ·have h376 := not_f h373
          have g377 : (f_hostSet aH aM aG aPage aS).2 = (f_hostSet aH aM aG aPage aS).2 := eq_of_beq h376
          refine wk (nt (ws (rg ?_)))
          refine S.qe 1 [] [(19, .v (I 1))] ?_; clear S; intro ac w β S
          refine (nt (ws (rg ?_)))
          refine S.qgm 4 [] [(19, .v (I (hdT_Host y213 1)))] (.cons (Q_call fun w hw => c_laws_heldHost w y213 q212 (rd_of o215.rn hw) 1) .nil) 0 [] ?_; clear S; intro ac w β S
          refine (nt (ws (ws (rg ?_))))
          refine S.qe 2 [] [(115, .v (B (decide ((hdT_Host y213 1) < 0))))] ?_; clear S; intro ac w β S
          refine (nt (S.c (decide ((hdT_Host y213 1) < 0)) (fun h378 => ?_) (fun h378 => ?_)))
          ·have g379 := of_decide_eq_true h378
           refine ws (rg ?_)
           refine S.qe 1 [] [(10, .v (B false))] ?_; clear S; intro ac w β S
           exact (nt (wr (rt (S.r [B false] ⟨retB k0_laws_FnExactHostSet, S.chg⟩))))
          ·have g380 := of_decide_eq_false h378
           refine wk (nt (ws (ws (rg ?_))))
           refine S.qe 3 [] [(118, .v (B ((hdT_Host y213 1) != k214)))] ?_; clear S; intro ac w β S
           refine (nt (S.c ((hdT_Host y213 1) != k214) (fun h381 => ?_) (fun h381 => ?_)))
           ·have g382 : ¬ ((hdT_Host y213 1) = k214) := bne_iff_ne.1 h381
            refine ws (rg ?_)
            refine S.qe 1 [] [(10, .v (B false))] ?_; clear S; intro ac w β S
            exact (nt (wr (rt (S.r [B false] ⟨retB k0_laws_FnExactHostSet, S.chg⟩))))
           ·have g383 : (hdT_Host y213 1) = k214 := ne_f h381
            refine wk (nt (ws (rg ?_)))
            refine S.qe 1 [] [(10, .v (B true))] ?_; clear S; intro ac w β S
            exact (nt (wr (S.r [B true] ⟨retB k0_laws_FnExactHostSet, S.chg⟩)))

end Go.Proofs.YtkbcponpcghjpaaGreat
