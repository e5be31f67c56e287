/- The walks: what each function that the laws reach computes (part 1). -/
import Derived.Test.YtklppedmchbdmaaGreatMarks
import Derived.Test.YtklppedmchbdmaaGreatCore9
import Derived.Test.YtklppedmchbdmaaGreatEq
import Derived.Test.YtklppedmchbdmaaGreatSz
import Derived.Test.YtklppedmchbdmaaGreatOw
import Derived.Test.YtklppedmchbdmaaGreatSpec3
import Derived.Test.YtklppedmchbdmaaGreatDrawO
import Derived.Test.YtklppedmchbdmaaGreatMk
import Derived.Test.YtklppedmchbdmaaGreatSpec4
import Derived.Test.YtklppedmchbdmaaGreatSlice
import Derived.Test.YtklppedmchbdmaaGreatPt
import Derived.Test.YtklppedmchbdmaaGreatSpec5
import Derived.Test.YtklppedmchbdmaaGreatShort
import Derived.Test.YtklppedmchbdmaaGreatClo
import Derived.Test.YtklppedmchbdmaaGreatDag
import Derived.Test.YtklppedmchbdmaaGreatSpec6
import Derived.Test.YtklppedmchbdmaaGreatSpec7
import Derived.Test.YtklppedmchbdmaaGreatHp
import Derived.Test.YtklppedmchbdmaaGreatSpec10
import Derived.Test.YtklppedmchbdmaaGreatSpec11
import Derived.Test.YtklppedmchbdmaaGreatProg
import Derived.KernelRfl
namespace Go.Proofs.YtklppedmchbdmaaGreat
open Go
set_option linter.unusedVariables false
set_option linter.unusedSimpArgs false
set_option maxRecDepth 100000

theorem c_laws_szIntS (w0 : World) (a : List Int) (pa : LP Int) (ha : GT.rd KR (Lt w0.heap.size) w0 a pa) (left : Int) (pre0 : -1 ≤ left) (pre1 : left ≤ 4194304) : Calls Tryz.prog 58 [slv a.length pa.1, I left].toArray w0 (fun e w' => e = .returned (I (f_sz (SZ.sz a) left)) ∧ Chg NoB w0 w') := by
 refine Calls.walk NoB Tryz.func58 rfl rfl ?_
 intro ac β S
 have hz := szl_Int a
 have hb0 := f_sz_cs (SZ.sz a) left
 have hlea : a.length ≤ 9223372036854775807 := LRd.le ha
 refine ws (rg ?_)
 refine S.qe 1 [] [] fun ac w β S => ?_
 refine (nt (ws (rg ?_)))
 refine S.qg 5 [] [(1, .v (I (left - (a.length : Int))))] (.cons (qm left (a.length : Int)) .nil) fun ac w β S => ?_
 refine (nt (ws (ws (rg ?_))))
 refine S.qe 2 [] [(10, .v (B (decide ((left - (a.length : Int)) < 0))))] fun ac w β S => ?_
 refine (nt (S.c (decide ((left - (a.length : Int)) < 0)) (fun h1 => ?_) (fun h1 => ?_)))
 ·have g2 := of_decide_eq_true h1
  refine ws (rg ?_)
  refine S.qe 1 [] [(4, .v (I (-1)))] fun ac w β S => ?_
  exact (nt (wr (rt (S.r [I (-1)] ⟨retI (by clear S; omega), S.chg⟩))))
 have g3 := of_decide_eq_false h1
 refine wk (nt (ws (rg ?_)))
 refine S.qe 2 [] [(4, .v (I (left - (a.length : Int))))] fun ac w β S => ?_
 exact (nt (wr (S.r [I (left - (a.length : Int))] ⟨retI (by clear S; omega), S.chg⟩)))

theorem k0_laws_szIntSS {p : Prop} (h : p := by clear S; (first | omega | (have hall := szsum_all (xs := a) (k := k) (by omega); omega) | (have hs1 := szsum_take (xs := a) (k := k) (by omega); have hs2 := szsum_take_le a (k + 1); omega))) : p := h
theorem c_laws_szIntSS (w0 : World) (a : List (List Int)) (pa : LP (List Int)) (ha : GT.rd KR (Lt w0.heap.size) w0 a pa) (left : Int) (pre0 : -1 ≤ left) (pre1 : left ≤ 4194304) : Calls Tryz.prog 23 [slv a.length pa.1, I left].toArray w0 (fun e w' => e = .returned (I (f_sz (SZ.sz a) left)) ∧ Chg NoB w0 w') := by
 refine Calls.walk NoB Tryz.func23 rfl rfl ?_
 intro ac β S
 have hz := sz_list a
 have hb0 := f_sz_cs (SZ.sz a) left
 have hlea : a.length ≤ 9223372036854775807 := LRd.le ha
 refine ws (rg ?_)
 refine S.qe 1 [] [] fun ac w β S => ?_
 refine (nt (ws (rg ?_)))
 refine S.qg 5 [] [(1, .v (I (left - (a.length : Int))))] (.cons (qm left (a.length : Int)) .nil) fun ac w β S => ?_
 refine (nt (ws (ws (rg ?_))))
 refine S.qe 2 [] [(11, .v (B (decide ((left - (a.length : Int)) < 0))))] fun ac w β S => ?_
 refine (nt (S.c (decide ((left - (a.length : Int)) < 0)) (fun h1 => ?_) (fun h1 => ?_)))
 ·have g2 := of_decide_eq_true h1
  refine ws (rg ?_)
  refine S.qe 1 [] [(4, .v (I (-1)))] fun ac w β S => ?_
  exact (nt (wr (rt (S.r [I (-1)] ⟨retI k0_laws_szIntSS, S.chg⟩))))
 have g3 := of_decide_eq_false h1
 refine wk (nt (ws (ws (rg ?_))))
 refine S.qe 1 [] [(5, .v (I 0))] fun ac w β S => ?_
 refine (nt (wp_block ?_))
 refine wp_loop_down (fun mm ac w => ∃ (k : Nat) (l : Int)  (u : _) (N : _) (β : _), mm = a.length - k ∧ (k ≤ a.length) ∧ (l = left - a.length - szsum (a.take k)) ∧ (0 ≤ l) ∧ St Tryz.prog Tryz.f23.ntmps w0 NoB u N β ⟨[(0, .v (slv a.length pa.1)), (1, .v (I l)), (5, .v (I (k : Int)))], []⟩ ac w) _ ⟨0, (left - (a.length : Int)), _, _, _, rfl, o0, (by simp [szsum_nil]), o0, S.z⟩ ?_
 clear S
 rintro mm ac w ⟨k, l, u, N, β, rfl, hk, hl, hl0, S⟩
 have hle2 := szsum_take_le a k
 refine ws (ws (rg ?_))
 refine S.qe 4 [] [(15, .v (B (decide ((k : Int) < (a.length : Int)))))] fun ac w β S => ?_
 refine (nt (S.c (decide ((k : Int) < (a.length : Int))) (fun h4 => ?_) (fun h4 => ?_)))
 ·have g5 := of_decide_eq_true h4
  refine wk (nt (ws (wp_block (ws (rg ?_)))))
  have b6 := f_sz_cs (SZ.sz (el a k)) l
  refine S.qg 7 [] [(1, .v (I (f_sz (SZ.sz (el a k)) l)))] (.cons (qn (S.arg ha) k Tryz.underlying22) (.cons (qx (S.arg ha) 50 k) (.cons (Q_call fun w hw => c_laws_szIntS w (el a k) (pa.2 k) (rd_of (LRd.el (S.arg ha) k (by omega)) hw) l (by omega) (by omega)) .nil))) fun ac w β S => ?_
  refine (nt (ws (rg ?_)))
  refine S.qe 2 [] [(25, .v (B (decide ((f_sz (SZ.sz (el a k)) l) < 0))))] fun ac w β S => ?_
  refine (nt (S.c (decide ((f_sz (SZ.sz (el a k)) l) < 0)) (fun h7 => ?_) (fun h7 => ?_)))
  ·have g8 := of_decide_eq_true h7
   refine ws (rg ?_)
   refine S.qe 1 [] [(4, .v (I (-1)))] fun ac w β S => ?_
   exact (nt (wr (rb (rt (rt (rb (rt (S.r [I (-1)] ⟨retI k0_laws_szIntSS, S.chg⟩))))))))
  have g9 := of_decide_eq_false h7
  refine wk (nb (nt (rg ?_)))
  refine S.qg 3 [] [(5, .v (I ((k : Int) + 1)))] (.cons (qp (k : Int) 1) .nil) fun ac w β S => ?_
  refine (nt ?_)
  refine ⟨a.length - (k + 1), by omega, k + 1, (f_sz (SZ.sz (el a k)) l), _, _, _, rfl, ?_, ?_, ?_, S.z⟩
  ·exact oz
  ·clear S; (rw [szsum_take (by omega)]; omega)
  ·clear S; omega
 have g10 := of_decide_eq_false h4
 refine wp_exit (ex_then (ex_then (ex_hit (nt (ws (rg ?_))))))
 refine S.qe 2 [] [(4, .v (I l))] fun ac w β S => ?_
 exact (nt (wr (S.r [I l] ⟨retI k0_laws_szIntSS, S.chg⟩)))

theorem c_laws_szSlotS (w0 : World) (a : List TSlot) (pa : LP TSlot) (ha : GT.rd KR (Lt w0.heap.size) w0 a pa) (left : Int) (pre0 : -1 ≤ left) (pre1 : left ≤ 4194304) : Calls Tryz.prog 102 [slv a.length pa.1, I left].toArray w0 (fun e w' => e = .returned (I (f_sz (SZ.sz a) left)) ∧ Chg NoB w0 w') := by
 refine Calls.walk NoB Tryz.func102 rfl rfl ?_
 intro ac β S
 have hz := szl_TSlot a
 have hb0 := f_sz_cs (SZ.sz a) left
 have hlea : a.length ≤ 9223372036854775807 := LRd.le ha
 refine ws (rg ?_)
 refine S.qe 1 [] [] fun ac w β S => ?_
 refine (nt (ws (rg ?_)))
 refine S.qg 5 [] [(1, .v (I (left - (a.length : Int))))] (.cons (qm left (a.length : Int)) .nil) fun ac w β S => ?_
 refine (nt (ws (ws (rg ?_))))
 refine S.qe 2 [] [(10, .v (B (decide ((left - (a.length : Int)) < 0))))] fun ac w β S => ?_
 refine (nt (S.c (decide ((left - (a.length : Int)) < 0)) (fun h1 => ?_) (fun h1 => ?_)))
 ·have g2 := of_decide_eq_true h1
  refine ws (rg ?_)
  refine S.qe 1 [] [(4, .v (I (-1)))] fun ac w β S => ?_
  exact (nt (wr (rt (S.r [I (-1)] ⟨retI (by clear S; omega), S.chg⟩))))
 have g3 := of_decide_eq_false h1
 refine wk (nt (ws (rg ?_)))
 refine S.qe 2 [] [(4, .v (I (left - (a.length : Int))))] fun ac w β S => ?_
 exact (nt (wr (S.r [I (left - (a.length : Int))] ⟨retI (by clear S; omega), S.chg⟩)))

theorem c_laws_szBoolS (w0 : World) (a : List Bool) (pa : LP Bool) (ha : GT.rd KR (Lt w0.heap.size) w0 a pa) (left : Int) (pre0 : -1 ≤ left) (pre1 : left ≤ 4194304) : Calls Tryz.prog 103 [slv a.length pa.1, I left].toArray w0 (fun e w' => e = .returned (I (f_sz (SZ.sz a) left)) ∧ Chg NoB w0 w') := by
 refine Calls.walk NoB Tryz.func103 rfl rfl ?_
 intro ac β S
 have hz := szl_Bool a
 have hb0 := f_sz_cs (SZ.sz a) left
 have hlea : a.length ≤ 9223372036854775807 := LRd.le ha
 refine ws (rg ?_)
 refine S.qe 1 [] [] fun ac w β S => ?_
 refine (nt (ws (rg ?_)))
 refine S.qg 5 [] [(1, .v (I (left - (a.length : Int))))] (.cons (qm left (a.length : Int)) .nil) fun ac w β S => ?_
 refine (nt (ws (ws (rg ?_))))
 refine S.qe 2 [] [(10, .v (B (decide ((left - (a.length : Int)) < 0))))] fun ac w β S => ?_
 refine (nt (S.c (decide ((left - (a.length : Int)) < 0)) (fun h1 => ?_) (fun h1 => ?_)))
 ·have g2 := of_decide_eq_true h1
  refine ws (rg ?_)
  refine S.qe 1 [] [(4, .v (I (-1)))] fun ac w β S => ?_
  exact (nt (wr (rt (S.r [I (-1)] ⟨retI (by clear S; omega), S.chg⟩))))
 have g3 := of_decide_eq_false h1
 refine wk (nt (ws (rg ?_)))
 refine S.qe 2 [] [(4, .v (I (left - (a.length : Int))))] fun ac w β S => ?_
 exact (nt (wr (S.r [I (left - (a.length : Int))] ⟨retI (by clear S; omega), S.chg⟩)))

theorem c_laws_szInsS (w0 : World) (a : List TIns) (pa : LP TIns) (ha : GT.rd KR (Lt w0.heap.size) w0 a pa) (left : Int) (pre0 : -1 ≤ left) (pre1 : left ≤ 4194304) : Calls Tryz.prog 162 [slv a.length pa.1, I left].toArray w0 (fun e w' => e = .returned (I (f_sz (SZ.sz a) left)) ∧ Chg NoB w0 w') := by
 refine Calls.walk NoB Tryz.func162 rfl rfl ?_
 intro ac β S
 have hz := szl_TIns a
 have hb0 := f_sz_cs (SZ.sz a) left
 have hlea : a.length ≤ 9223372036854775807 := LRd.le ha
 refine ws (rg ?_)
 refine S.qe 1 [] [] fun ac w β S => ?_
 refine (nt (ws (rg ?_)))
 refine S.qg 5 [] [(1, .v (I (left - (a.length : Int))))] (.cons (qm left (a.length : Int)) .nil) fun ac w β S => ?_
 refine (nt (ws (ws (rg ?_))))
 refine S.qe 2 [] [(10, .v (B (decide ((left - (a.length : Int)) < 0))))] fun ac w β S => ?_
 refine (nt (S.c (decide ((left - (a.length : Int)) < 0)) (fun h1 => ?_) (fun h1 => ?_)))
 ·have g2 := of_decide_eq_true h1
  refine ws (rg ?_)
  refine S.qe 1 [] [(4, .v (I (-1)))] fun ac w β S => ?_
  exact (nt (wr (rt (S.r [I (-1)] ⟨retI (by clear S; omega), S.chg⟩))))
 have g3 := of_decide_eq_false h1
 refine wk (nt (ws (rg ?_)))
 refine S.qe 2 [] [(4, .v (I (left - (a.length : Int))))] fun ac w β S => ?_
 exact (nt (wr (S.r [I (left - (a.length : Int))] ⟨retI (by clear S; omega), S.chg⟩)))

theorem c_laws_szGuest (w0 : World) (a : TGuest) (pa : PGuest) (ha : GT.rd KR (Lt w0.heap.size) w0 a pa) (left : Int) (pre0 : -1 ≤ left) (pre1 : left ≤ 4194304) : Calls Tryz.prog 142 [GT.val a pa, I left].toArray w0 (fun e w' => e = .returned (I (f_sz (SZ.sz a) left)) ∧ Chg NoB w0 w') := by
 refine Calls.walk NoB Tryz.func142 rfl rfl ?_
 intro ac β S
 have hz := sz_Guest a
 have hb0 := f_sz_cs (SZ.sz a) left
 refine ws (rg ?_)
 refine S.qem 2 [] [(2, .p 0 0)] 1 [(0, GT.cells a pa)] fun ac w β S => ?_
 refine (nt (ws (rg ?_)))
 have b1 := f_sz_cs (SZ.sz a.prog) left
 refine S.qg 5 [] [(1, .v (I (f_sz (SZ.sz a.prog) left)))] (.cons (Q_call fun w hw => c_laws_szInsS w a.prog pa.prog (rd_of (RGuest.prog (d := a) (S.arg ha)) hw) left (by omega) (by omega)) .nil) fun ac w β S => ?_
 refine (nt (ws (ws (rg ?_))))
 refine S.qe 2 [] [(10, .v (B (decide ((f_sz (SZ.sz a.prog) left) < 0))))] fun ac w β S => ?_
 refine (nt (S.c (decide ((f_sz (SZ.sz a.prog) left) < 0)) (fun h2 => ?_) (fun h2 => ?_)))
 ·have g3 := of_decide_eq_true h2
  refine ws (rg ?_)
  refine S.qe 1 [] [(4, .v (I (-1)))] fun ac w β S => ?_
  exact (nt (wr (rt (S.r [I (-1)] ⟨retI (by clear S; omega), S.chg⟩))))
 have g4 := of_decide_eq_false h2
 refine wk (nt (ws (rg ?_)))
 have b5 := f_sz_cs (SZ.sz a.written) (f_sz (SZ.sz a.prog) left)
 refine S.qg 5 [] [(1, .v (I (f_sz (SZ.sz a.written) (f_sz (SZ.sz a.prog) left))))] (.cons (Q_call fun w hw => c_laws_szSlotS w a.written pa.written (rd_of (RGuest.written (d := a) (S.arg ha)) hw) (f_sz (SZ.sz a.prog) left) (by omega) (by omega)) .nil) fun ac w β S => ?_
 refine (nt (ws (ws (rg ?_))))
 refine S.qe 2 [] [(16, .v (B (decide ((f_sz (SZ.sz a.written) (f_sz (SZ.sz a.prog) left)) < 0))))] fun ac w β S => ?_
 refine (nt (S.c (decide ((f_sz (SZ.sz a.written) (f_sz (SZ.sz a.prog) left)) < 0)) (fun h6 => ?_) (fun h6 => ?_)))
 ·have g7 := of_decide_eq_true h6
  refine ws (rg ?_)
  refine S.qe 1 [] [(4, .v (I (-1)))] fun ac w β S => ?_
  exact (nt (wr (rt (S.r [I (-1)] ⟨retI (by clear S; omega), S.chg⟩))))
 have g8 := of_decide_eq_false h6
 refine wk (nt (ws (rg ?_)))
 have b9 := f_sz_cs (SZ.sz a.live) (f_sz (SZ.sz a.written) (f_sz (SZ.sz a.prog) left))
 refine S.qg 5 [] [(1, .v (I (f_sz (SZ.sz a.live) (f_sz (SZ.sz a.written) (f_sz (SZ.sz a.prog) left)))))] (.cons (Q_call fun w hw => c_laws_szSlotS w a.live pa.live (rd_of (RGuest.live (d := a) (S.arg ha)) hw) (f_sz (SZ.sz a.written) (f_sz (SZ.sz a.prog) left)) (by omega) (by omega)) .nil) fun ac w β S => ?_
 refine (nt (ws (ws (rg ?_))))
 refine S.qe 2 [] [(22, .v (B (decide ((f_sz (SZ.sz a.live) (f_sz (SZ.sz a.written) (f_sz (SZ.sz a.prog) left))) < 0))))] fun ac w β S => ?_
 refine (nt (S.c (decide ((f_sz (SZ.sz a.live) (f_sz (SZ.sz a.written) (f_sz (SZ.sz a.prog) left))) < 0)) (fun h10 => ?_) (fun h10 => ?_)))
 ·have g11 := of_decide_eq_true h10
  refine ws (rg ?_)
  refine S.qe 1 [] [(4, .v (I (-1)))] fun ac w β S => ?_
  exact (nt (wr (rt (S.r [I (-1)] ⟨retI (by clear S; omega), S.chg⟩))))
 have g12 := of_decide_eq_false h10
 refine wk (nt (ws (rg ?_)))
 have b13 := f_sz_cs (SZ.sz a.seen) (f_sz (SZ.sz a.live) (f_sz (SZ.sz a.written) (f_sz (SZ.sz a.prog) left)))
 refine S.qgm 5 [] [(1, .v (I (f_sz (SZ.sz a.seen) (f_sz (SZ.sz a.live) (f_sz (SZ.sz a.written) (f_sz (SZ.sz a.prog) left))))))] (.cons (Q_call fun w hw => c_laws_szIntS w a.seen pa.seen (rd_of (RGuest.seen (d := a) (S.arg ha)) hw) (f_sz (SZ.sz a.live) (f_sz (SZ.sz a.written) (f_sz (SZ.sz a.prog) left))) (by omega) (by omega)) .nil) 0 [] fun ac w β S => ?_
 refine (nt (ws (ws (rg ?_))))
 refine S.qe 2 [] [(28, .v (B (decide ((f_sz (SZ.sz a.seen) (f_sz (SZ.sz a.live) (f_sz (SZ.sz a.written) (f_sz (SZ.sz a.prog) left)))) < 0))))] fun ac w β S => ?_
 refine (nt (S.c (decide ((f_sz (SZ.sz a.seen) (f_sz (SZ.sz a.live) (f_sz (SZ.sz a.written) (f_sz (SZ.sz a.prog) left)))) < 0)) (fun h14 => ?_) (fun h14 => ?_)))
 ·have g15 := of_decide_eq_true h14
  refine ws (rg ?_)
  refine S.qe 1 [] [(4, .v (I (-1)))] fun ac w β S => ?_
  exact (nt (wr (rt (S.r [I (-1)] ⟨retI (by clear S; omega), S.chg⟩))))
 have g16 := of_decide_eq_false h14
 refine wk (nt (ws (rg ?_)))
 refine S.qe 2 [] [(4, .v (I (f_sz (SZ.sz a.seen) (f_sz (SZ.sz a.live) (f_sz (SZ.sz a.written) (f_sz (SZ.sz a.prog) left))))))] fun ac w β S => ?_
 exact (nt (wr (S.r [I (f_sz (SZ.sz a.seen) (f_sz (SZ.sz a.live) (f_sz (SZ.sz a.written) (f_sz (SZ.sz a.prog) left))))] ⟨retI (by clear S; omega), S.chg⟩)))

theorem k0_laws_szGuestS {p : Prop} (h : p := by clear S; (first | omega | (have hall := szsum_all (xs := a) (k := k) (by omega); omega) | (have hs1 := szsum_take (xs := a) (k := k) (by omega); have hs2 := szsum_take_le a (k + 1); omega))) : p := h
theorem c_laws_szGuestS (w0 : World) (a : List TGuest) (pa : LP TGuest) (ha : GT.rd KR (Lt w0.heap.size) w0 a pa) (left : Int) (pre0 : -1 ≤ left) (pre1 : left ≤ 4194304) : Calls Tryz.prog 104 [slv a.length pa.1, I left].toArray w0 (fun e w' => e = .returned (I (f_sz (SZ.sz a) left)) ∧ Chg NoB w0 w') := by
 refine Calls.walk NoB Tryz.func104 rfl rfl ?_
 intro ac β S
 have hz := sz_list a
 have hb0 := f_sz_cs (SZ.sz a) left
 have hlea : a.length ≤ 9223372036854775807 := LRd.le ha
 refine ws (rg ?_)
 refine S.qe 1 [] [] fun ac w β S => ?_
 refine (nt (ws (rg ?_)))
 refine S.qg 5 [] [(1, .v (I (left - (a.length : Int))))] (.cons (qm left (a.length : Int)) .nil) fun ac w β S => ?_
 refine (nt (ws (ws (rg ?_))))
 refine S.qe 2 [] [(11, .v (B (decide ((left - (a.length : Int)) < 0))))] fun ac w β S => ?_
 refine (nt (S.c (decide ((left - (a.length : Int)) < 0)) (fun h1 => ?_) (fun h1 => ?_)))
 ·have g2 := of_decide_eq_true h1
  refine ws (rg ?_)
  refine S.qe 1 [] [(4, .v (I (-1)))] fun ac w β S => ?_
  exact (nt (wr (rt (S.r [I (-1)] ⟨retI k0_laws_szGuestS, S.chg⟩))))
 have g3 := of_decide_eq_false h1
 refine wk (nt (ws (ws (rg ?_))))
 refine S.qe 1 [] [(5, .v (I 0))] fun ac w β S => ?_
 refine (nt (wp_block ?_))
 refine wp_loop_down (fun mm ac w => ∃ (k : Nat) (l : Int)  (u : _) (N : _) (β : _), mm = a.length - k ∧ (k ≤ a.length) ∧ (l = left - a.length - szsum (a.take k)) ∧ (0 ≤ l) ∧ St Tryz.prog Tryz.f104.ntmps w0 NoB u N β ⟨[(0, .v (slv a.length pa.1)), (1, .v (I l)), (5, .v (I (k : Int)))], []⟩ ac w) _ ⟨0, (left - (a.length : Int)), _, _, _, rfl, o0, (by simp [szsum_nil]), o0, S.z⟩ ?_
 clear S
 rintro mm ac w ⟨k, l, u, N, β, rfl, hk, hl, hl0, S⟩
 have hle2 := szsum_take_le a k
 refine ws (ws (rg ?_))
 refine S.qe 4 [] [(15, .v (B (decide ((k : Int) < (a.length : Int)))))] fun ac w β S => ?_
 refine (nt (S.c (decide ((k : Int) < (a.length : Int))) (fun h4 => ?_) (fun h4 => ?_)))
 ·have g5 := of_decide_eq_true h4
  refine wk (nt (ws (wp_block (ws (rg ?_)))))
  have b6 := f_sz_cs (SZ.sz (el a k)) l
  refine S.qg 7 [] [(1, .v (I (f_sz (SZ.sz (el a k)) l)))] (.cons (qn (S.arg ha) k Tryz.underlying84) (.cons (qs (S.arg ha) 159 k) (.cons (Q_call fun w hw => c_laws_szGuest w (el a k) (pa.2 k) (rd_of (LRd.el (S.arg ha) k (by omega)) hw) l (by omega) (by omega)) .nil))) fun ac w β S => ?_
  refine (nt (ws (rg ?_)))
  refine S.qe 2 [] [(25, .v (B (decide ((f_sz (SZ.sz (el a k)) l) < 0))))] fun ac w β S => ?_
  refine (nt (S.c (decide ((f_sz (SZ.sz (el a k)) l) < 0)) (fun h7 => ?_) (fun h7 => ?_)))
  ·have g8 := of_decide_eq_true h7
   refine ws (rg ?_)
   refine S.qe 1 [] [(4, .v (I (-1)))] fun ac w β S => ?_
   exact (nt (wr (rb (rt (rt (rb (rt (S.r [I (-1)] ⟨retI k0_laws_szGuestS, S.chg⟩))))))))
  have g9 := of_decide_eq_false h7
  refine wk (nb (nt (rg ?_)))
  refine S.qg 3 [] [(5, .v (I ((k : Int) + 1)))] (.cons (qp (k : Int) 1) .nil) fun ac w β S => ?_
  refine (nt ?_)
  refine ⟨a.length - (k + 1), by omega, k + 1, (f_sz (SZ.sz (el a k)) l), _, _, _, rfl, ?_, ?_, ?_, S.z⟩
  ·exact oz
  ·clear S; (rw [szsum_take (by omega)]; omega)
  ·clear S; omega
 have g10 := of_decide_eq_false h4
 refine wp_exit (ex_then (ex_then (ex_hit (nt (ws (rg ?_))))))
 refine S.qe 2 [] [(4, .v (I l))] fun ac w β S => ?_
 exact (nt (wr (S.r [I l] ⟨retI k0_laws_szGuestS, S.chg⟩)))

theorem c_laws_szKept (w0 : World) (a : TKept) (pa : PKept) (ha : GT.rd KR (Lt w0.heap.size) w0 a pa) (left : Int) (pre0 : -1 ≤ left) (pre1 : left ≤ 4194304) : Calls Tryz.prog 143 [GT.val a pa, I left].toArray w0 (fun e w' => e = .returned (I (f_sz (SZ.sz a) left)) ∧ Chg NoB w0 w') := by
 refine Calls.walk NoB Tryz.func143 rfl rfl ?_
 intro ac β S
 have hz := sz_Kept a
 have hb0 := f_sz_cs (SZ.sz a) left
 refine ws (rg ?_)
 refine S.qem 2 [] [(2, .p 0 0)] 1 [(0, GT.cells a pa)] fun ac w β S => ?_
 refine (nt (ws (rg ?_)))
 have b1 := f_sz_cs (SZ.sz a.known) left
 refine S.qg 5 [] [(1, .v (I (f_sz (SZ.sz a.known) left)))] (.cons (Q_call fun w hw => c_laws_szBoolS w a.known pa.known (rd_of (RKept.known (d := a) (S.arg ha)) hw) left (by omega) (by omega)) .nil) fun ac w β S => ?_
 refine (nt (ws (ws (rg ?_))))
 refine S.qe 2 [] [(10, .v (B (decide ((f_sz (SZ.sz a.known) left) < 0))))] fun ac w β S => ?_
 refine (nt (S.c (decide ((f_sz (SZ.sz a.known) left) < 0)) (fun h2 => ?_) (fun h2 => ?_)))
 ·have g3 := of_decide_eq_true h2
  refine ws (rg ?_)
  refine S.qe 1 [] [(4, .v (I (-1)))] fun ac w β S => ?_
  exact (nt (wr (rt (S.r [I (-1)] ⟨retI (by clear S; omega), S.chg⟩))))
 have g4 := of_decide_eq_false h2
 refine wk (nt (ws (rg ?_)))
 have b5 := f_sz_cs (SZ.sz a.slots) (f_sz (SZ.sz a.known) left)
 refine S.qgm 5 [] [(1, .v (I (f_sz (SZ.sz a.slots) (f_sz (SZ.sz a.known) left))))] (.cons (Q_call fun w hw => c_laws_szSlotS w a.slots pa.slots (rd_of (RKept.slots (d := a) (S.arg ha)) hw) (f_sz (SZ.sz a.known) left) (by omega) (by omega)) .nil) 0 [] fun ac w β S => ?_
 refine (nt (ws (ws (rg ?_))))
 refine S.qe 2 [] [(16, .v (B (decide ((f_sz (SZ.sz a.slots) (f_sz (SZ.sz a.known) left)) < 0))))] fun ac w β S => ?_
 refine (nt (S.c (decide ((f_sz (SZ.sz a.slots) (f_sz (SZ.sz a.known) left)) < 0)) (fun h6 => ?_) (fun h6 => ?_)))
 ·have g7 := of_decide_eq_true h6
  refine ws (rg ?_)
  refine S.qe 1 [] [(4, .v (I (-1)))] fun ac w β S => ?_
  exact (nt (wr (rt (S.r [I (-1)] ⟨retI (by clear S; omega), S.chg⟩))))
 have g8 := of_decide_eq_false h6
 refine wk (nt (ws (rg ?_)))
 refine S.qe 2 [] [(4, .v (I (f_sz (SZ.sz a.slots) (f_sz (SZ.sz a.known) left))))] fun ac w β S => ?_
 exact (nt (wr (S.r [I (f_sz (SZ.sz a.slots) (f_sz (SZ.sz a.known) left))] ⟨retI (by clear S; omega), S.chg⟩)))

theorem k0_laws_szKeptS {p : Prop} (h : p := by clear S; (first | omega | (have hall := szsum_all (xs := a) (k := k) (by omega); omega) | (have hs1 := szsum_take (xs := a) (k := k) (by omega); have hs2 := szsum_take_le a (k + 1); omega))) : p := h
theorem c_laws_szKeptS (w0 : World) (a : List TKept) (pa : LP TKept) (ha : GT.rd KR (Lt w0.heap.size) w0 a pa) (left : Int) (pre0 : -1 ≤ left) (pre1 : left ≤ 4194304) : Calls Tryz.prog 105 [slv a.length pa.1, I left].toArray w0 (fun e w' => e = .returned (I (f_sz (SZ.sz a) left)) ∧ Chg NoB w0 w') := by
 refine Calls.walk NoB Tryz.func105 rfl rfl ?_
 intro ac β S
 have hz := sz_list a
 have hb0 := f_sz_cs (SZ.sz a) left
 have hlea : a.length ≤ 9223372036854775807 := LRd.le ha
 refine ws (rg ?_)
 refine S.qe 1 [] [] fun ac w β S => ?_
 refine (nt (ws (rg ?_)))
 refine S.qg 5 [] [(1, .v (I (left - (a.length : Int))))] (.cons (qm left (a.length : Int)) .nil) fun ac w β S => ?_
 refine (nt (ws (ws (rg ?_))))
 refine S.qe 2 [] [(11, .v (B (decide ((left - (a.length : Int)) < 0))))] fun ac w β S => ?_
 refine (nt (S.c (decide ((left - (a.length : Int)) < 0)) (fun h1 => ?_) (fun h1 => ?_)))
 ·have g2 := of_decide_eq_true h1
  refine ws (rg ?_)
  refine S.qe 1 [] [(4, .v (I (-1)))] fun ac w β S => ?_
  exact (nt (wr (rt (S.r [I (-1)] ⟨retI k0_laws_szKeptS, S.chg⟩))))
 have g3 := of_decide_eq_false h1
 refine wk (nt (ws (ws (rg ?_))))
 refine S.qe 1 [] [(5, .v (I 0))] fun ac w β S => ?_
 refine (nt (wp_block ?_))
 refine wp_loop_down (fun mm ac w => ∃ (k : Nat) (l : Int)  (u : _) (N : _) (β : _), mm = a.length - k ∧ (k ≤ a.length) ∧ (l = left - a.length - szsum (a.take k)) ∧ (0 ≤ l) ∧ St Tryz.prog Tryz.f105.ntmps w0 NoB u N β ⟨[(0, .v (slv a.length pa.1)), (1, .v (I l)), (5, .v (I (k : Int)))], []⟩ ac w) _ ⟨0, (left - (a.length : Int)), _, _, _, rfl, o0, (by simp [szsum_nil]), o0, S.z⟩ ?_
 clear S
 rintro mm ac w ⟨k, l, u, N, β, rfl, hk, hl, hl0, S⟩
 have hle2 := szsum_take_le a k
 refine ws (ws (rg ?_))
 refine S.qe 4 [] [(15, .v (B (decide ((k : Int) < (a.length : Int)))))] fun ac w β S => ?_
 refine (nt (S.c (decide ((k : Int) < (a.length : Int))) (fun h4 => ?_) (fun h4 => ?_)))
 ·have g5 := of_decide_eq_true h4
  refine wk (nt (ws (wp_block (ws (rg ?_)))))
  have b6 := f_sz_cs (SZ.sz (el a k)) l
  refine S.qg 7 [] [(1, .v (I (f_sz (SZ.sz (el a k)) l)))] (.cons (qn (S.arg ha) k Tryz.underlying85) (.cons (qs (S.arg ha) 162 k) (.cons (Q_call fun w hw => c_laws_szKept w (el a k) (pa.2 k) (rd_of (LRd.el (S.arg ha) k (by omega)) hw) l (by omega) (by omega)) .nil))) fun ac w β S => ?_
  refine (nt (ws (rg ?_)))
  refine S.qe 2 [] [(25, .v (B (decide ((f_sz (SZ.sz (el a k)) l) < 0))))] fun ac w β S => ?_
  refine (nt (S.c (decide ((f_sz (SZ.sz (el a k)) l) < 0)) (fun h7 => ?_) (fun h7 => ?_)))
  ·have g8 := of_decide_eq_true h7
   refine ws (rg ?_)
   refine S.qe 1 [] [(4, .v (I (-1)))] fun ac w β S => ?_
   exact (nt (wr (rb (rt (rt (rb (rt (S.r [I (-1)] ⟨retI k0_laws_szKeptS, S.chg⟩))))))))
  have g9 := of_decide_eq_false h7
  refine wk (nb (nt (rg ?_)))
  refine S.qg 3 [] [(5, .v (I ((k : Int) + 1)))] (.cons (qp (k : Int) 1) .nil) fun ac w β S => ?_
  refine (nt ?_)
  refine ⟨a.length - (k + 1), by omega, k + 1, (f_sz (SZ.sz (el a k)) l), _, _, _, rfl, ?_, ?_, ?_, S.z⟩
  ·exact oz
  ·clear S; (rw [szsum_take (by omega)]; omega)
  ·clear S; omega
 have g10 := of_decide_eq_false h4
 refine wp_exit (ex_then (ex_then (ex_hit (nt (ws (rg ?_))))))
 refine S.qe 2 [] [(4, .v (I l))] fun ac w β S => ?_
 exact (nt (wr (S.r [I l] ⟨retI k0_laws_szKeptS, S.chg⟩)))

theorem c_laws_szMon (w0 : World) (a : TMon) (pa : PMon) (ha : GT.rd KR (Lt w0.heap.size) w0 a pa) (left : Int) (pre0 : -1 ≤ left) (pre1 : left ≤ 4194304) : Calls Tryz.prog 59 [GT.val a pa, I left].toArray w0 (fun e w' => e = .returned (I (f_sz (SZ.sz a) left)) ∧ Chg NoB w0 w') := by
 refine Calls.walk NoB Tryz.func59 rfl rfl ?_
 intro ac β S
 have hz := sz_Mon a
 have hb0 := f_sz_cs (SZ.sz a) left
 refine ws (rg ?_)
 refine S.qem 2 [] [(2, .p 0 0)] 1 [(0, GT.cells a pa)] fun ac w β S => ?_
 refine (nt (ws (rg ?_)))
 have b1 := f_sz_cs (SZ.sz a.outer) left
 refine S.qg 5 [] [(1, .v (I (f_sz (SZ.sz a.outer) left)))] (.cons (Q_call fun w hw => c_laws_szSlotS w a.outer pa.outer (rd_of (RMon.outer (d := a) (S.arg ha)) hw) left (by omega) (by omega)) .nil) fun ac w β S => ?_
 refine (nt (ws (ws (rg ?_))))
 refine S.qe 2 [] [(10, .v (B (decide ((f_sz (SZ.sz a.outer) left) < 0))))] fun ac w β S => ?_
 refine (nt (S.c (decide ((f_sz (SZ.sz a.outer) left) < 0)) (fun h2 => ?_) (fun h2 => ?_)))
 ·have g3 := of_decide_eq_true h2
  refine ws (rg ?_)
  refine S.qe 1 [] [(4, .v (I (-1)))] fun ac w β S => ?_
  exact (nt (wr (rt (S.r [I (-1)] ⟨retI (by clear S; omega), S.chg⟩))))
 have g4 := of_decide_eq_false h2
 refine wk (nt (ws (rg ?_)))
 have b5 := f_sz_cs (SZ.sz a.out) (f_sz (SZ.sz a.outer) left)
 refine S.qg 5 [] [(1, .v (I (f_sz (SZ.sz a.out) (f_sz (SZ.sz a.outer) left))))] (.cons (Q_call fun w hw => c_laws_szIntSS w a.out pa.out (rd_of (RMon.out (d := a) (S.arg ha)) hw) (f_sz (SZ.sz a.outer) left) (by omega) (by omega)) .nil) fun ac w β S => ?_
 refine (nt (ws (ws (rg ?_))))
 refine S.qe 2 [] [(16, .v (B (decide ((f_sz (SZ.sz a.out) (f_sz (SZ.sz a.outer) left)) < 0))))] fun ac w β S => ?_
 refine (nt (S.c (decide ((f_sz (SZ.sz a.out) (f_sz (SZ.sz a.outer) left)) < 0)) (fun h6 => ?_) (fun h6 => ?_)))
 ·have g7 := of_decide_eq_true h6
  refine ws (rg ?_)
  refine S.qe 1 [] [(4, .v (I (-1)))] fun ac w β S => ?_
  exact (nt (wr (rt (S.r [I (-1)] ⟨retI (by clear S; omega), S.chg⟩))))
 have g8 := of_decide_eq_false h6
 refine wk (nt (ws (rg ?_)))
 have b9 := f_sz_cs (SZ.sz a.dirty) (f_sz (SZ.sz a.out) (f_sz (SZ.sz a.outer) left))
 refine S.qg 5 [] [(1, .v (I (f_sz (SZ.sz a.dirty) (f_sz (SZ.sz a.out) (f_sz (SZ.sz a.outer) left)))))] (.cons (Q_call fun w hw => c_laws_szBoolS w a.dirty pa.dirty (rd_of (RMon.dirty (d := a) (S.arg ha)) hw) (f_sz (SZ.sz a.out) (f_sz (SZ.sz a.outer) left)) (by omega) (by omega)) .nil) fun ac w β S => ?_
 refine (nt (ws (ws (rg ?_))))
 refine S.qe 2 [] [(22, .v (B (decide ((f_sz (SZ.sz a.dirty) (f_sz (SZ.sz a.out) (f_sz (SZ.sz a.outer) left))) < 0))))] fun ac w β S => ?_
 refine (nt (S.c (decide ((f_sz (SZ.sz a.dirty) (f_sz (SZ.sz a.out) (f_sz (SZ.sz a.outer) left))) < 0)) (fun h10 => ?_) (fun h10 => ?_)))
 ·have g11 := of_decide_eq_true h10
  refine ws (rg ?_)
  refine S.qe 1 [] [(4, .v (I (-1)))] fun ac w β S => ?_
  exact (nt (wr (rt (S.r [I (-1)] ⟨retI (by clear S; omega), S.chg⟩))))
 have g12 := of_decide_eq_false h10
 refine wk (nt (ws (rg ?_)))
 have b13 := f_sz_cs (SZ.sz a.guests) (f_sz (SZ.sz a.dirty) (f_sz (SZ.sz a.out) (f_sz (SZ.sz a.outer) left)))
 refine S.qg 5 [] [(1, .v (I (f_sz (SZ.sz a.guests) (f_sz (SZ.sz a.dirty) (f_sz (SZ.sz a.out) (f_sz (SZ.sz a.outer) left))))))] (.cons (Q_call fun w hw => c_laws_szGuestS w a.guests pa.guests (rd_of (RMon.guests (d := a) (S.arg ha)) hw) (f_sz (SZ.sz a.dirty) (f_sz (SZ.sz a.out) (f_sz (SZ.sz a.outer) left))) (by omega) (by omega)) .nil) fun ac w β S => ?_
 refine (nt (ws (ws (rg ?_))))
 refine S.qe 2 [] [(28, .v (B (decide ((f_sz (SZ.sz a.guests) (f_sz (SZ.sz a.dirty) (f_sz (SZ.sz a.out) (f_sz (SZ.sz a.outer) left)))) < 0))))] fun ac w β S => ?_
 refine (nt (S.c (decide ((f_sz (SZ.sz a.guests) (f_sz (SZ.sz a.dirty) (f_sz (SZ.sz a.out) (f_sz (SZ.sz a.outer) left)))) < 0)) (fun h14 => ?_) (fun h14 => ?_)))
 ·have g15 := of_decide_eq_true h14
  refine ws (rg ?_)
  refine S.qe 1 [] [(4, .v (I (-1)))] fun ac w β S => ?_
  exact (nt (wr (rt (S.r [I (-1)] ⟨retI (by clear S; omega), S.chg⟩))))
 have g16 := of_decide_eq_false h14
 refine wk (nt (ws (rg ?_)))
 have b17 := f_sz_cs (SZ.sz a.outs) (f_sz (SZ.sz a.guests) (f_sz (SZ.sz a.dirty) (f_sz (SZ.sz a.out) (f_sz (SZ.sz a.outer) left))))
 refine S.qg 5 [] [(1, .v (I (f_sz (SZ.sz a.outs) (f_sz (SZ.sz a.guests) (f_sz (SZ.sz a.dirty) (f_sz (SZ.sz a.out) (f_sz (SZ.sz a.outer) left)))))))] (.cons (Q_call fun w hw => c_laws_szIntS w a.outs pa.outs (rd_of (RMon.outs (d := a) (S.arg ha)) hw) (f_sz (SZ.sz a.guests) (f_sz (SZ.sz a.dirty) (f_sz (SZ.sz a.out) (f_sz (SZ.sz a.outer) left)))) (by omega) (by omega)) .nil) fun ac w β S => ?_
 refine (nt (ws (ws (rg ?_))))
 refine S.qe 2 [] [(34, .v (B (decide ((f_sz (SZ.sz a.outs) (f_sz (SZ.sz a.guests) (f_sz (SZ.sz a.dirty) (f_sz (SZ.sz a.out) (f_sz (SZ.sz a.outer) left))))) < 0))))] fun ac w β S => ?_
 refine (nt (S.c (decide ((f_sz (SZ.sz a.outs) (f_sz (SZ.sz a.guests) (f_sz (SZ.sz a.dirty) (f_sz (SZ.sz a.out) (f_sz (SZ.sz a.outer) left))))) < 0)) (fun h18 => ?_) (fun h18 => ?_)))
 ·have g19 := of_decide_eq_true h18
  refine ws (rg ?_)
  refine S.qe 1 [] [(4, .v (I (-1)))] fun ac w β S => ?_
  exact (nt (wr (rt (S.r [I (-1)] ⟨retI (by clear S; omega), S.chg⟩))))
 have g20 := of_decide_eq_false h18
 refine wk (nt (ws (rg ?_)))
 have b21 := f_sz_cs (SZ.sz a.tables) (f_sz (SZ.sz a.outs) (f_sz (SZ.sz a.guests) (f_sz (SZ.sz a.dirty) (f_sz (SZ.sz a.out) (f_sz (SZ.sz a.outer) left)))))
 refine S.qgm 5 [] [(1, .v (I (f_sz (SZ.sz a.tables) (f_sz (SZ.sz a.outs) (f_sz (SZ.sz a.guests) (f_sz (SZ.sz a.dirty) (f_sz (SZ.sz a.out) (f_sz (SZ.sz a.outer) left))))))))] (.cons (Q_call fun w hw => c_laws_szKeptS w a.tables pa.tables (rd_of (RMon.tables (d := a) (S.arg ha)) hw) (f_sz (SZ.sz a.outs) (f_sz (SZ.sz a.guests) (f_sz (SZ.sz a.dirty) (f_sz (SZ.sz a.out) (f_sz (SZ.sz a.outer) left))))) (by omega) (by omega)) .nil) 0 [] fun ac w β S => ?_
 refine (nt (ws (ws (rg ?_))))
 refine S.qe 2 [] [(40, .v (B (decide ((f_sz (SZ.sz a.tables) (f_sz (SZ.sz a.outs) (f_sz (SZ.sz a.guests) (f_sz (SZ.sz a.dirty) (f_sz (SZ.sz a.out) (f_sz (SZ.sz a.outer) left)))))) < 0))))] fun ac w β S => ?_
 refine (nt (S.c (decide ((f_sz (SZ.sz a.tables) (f_sz (SZ.sz a.outs) (f_sz (SZ.sz a.guests) (f_sz (SZ.sz a.dirty) (f_sz (SZ.sz a.out) (f_sz (SZ.sz a.outer) left)))))) < 0)) (fun h22 => ?_) (fun h22 => ?_)))
 ·have g23 := of_decide_eq_true h22
  refine ws (rg ?_)
  refine S.qe 1 [] [(4, .v (I (-1)))] fun ac w β S => ?_
  exact (nt (wr (rt (S.r [I (-1)] ⟨retI (by clear S; omega), S.chg⟩))))
 have g24 := of_decide_eq_false h22
 refine wk (nt (ws (rg ?_)))
 refine S.qe 2 [] [(4, .v (I (f_sz (SZ.sz a.tables) (f_sz (SZ.sz a.outs) (f_sz (SZ.sz a.guests) (f_sz (SZ.sz a.dirty) (f_sz (SZ.sz a.out) (f_sz (SZ.sz a.outer) left))))))))] fun ac w β S => ?_
 exact (nt (wr (S.r [I (f_sz (SZ.sz a.tables) (f_sz (SZ.sz a.outs) (f_sz (SZ.sz a.guests) (f_sz (SZ.sz a.dirty) (f_sz (SZ.sz a.out) (f_sz (SZ.sz a.outer) left))))))] ⟨retI (by clear S; omega), S.chg⟩)))

theorem k0_laws_szMonS {p : Prop} (h : p := by clear S; (first | omega | (have hall := szsum_all (xs := a) (k := k) (by omega); omega) | (have hs1 := szsum_take (xs := a) (k := k) (by omega); have hs2 := szsum_take_le a (k + 1); omega))) : p := h
theorem c_laws_szMonS (w0 : World) (a : List TMon) (pa : LP TMon) (ha : GT.rd KR (Lt w0.heap.size) w0 a pa) (left : Int) (pre0 : -1 ≤ left) (pre1 : left ≤ 4194304) : Calls Tryz.prog 24 [slv a.length pa.1, I left].toArray w0 (fun e w' => e = .returned (I (f_sz (SZ.sz a) left)) ∧ Chg NoB w0 w') := by
 refine Calls.walk NoB Tryz.func24 rfl rfl ?_
 intro ac β S
 have hz := sz_list a
 have hb0 := f_sz_cs (SZ.sz a) left
 have hlea : a.length ≤ 9223372036854775807 := LRd.le ha
 refine ws (rg ?_)
 refine S.qe 1 [] [] fun ac w β S => ?_
 refine (nt (ws (rg ?_)))
 refine S.qg 5 [] [(1, .v (I (left - (a.length : Int))))] (.cons (qm left (a.length : Int)) .nil) fun ac w β S => ?_
 refine (nt (ws (ws (rg ?_))))
 refine S.qe 2 [] [(11, .v (B (decide ((left - (a.length : Int)) < 0))))] fun ac w β S => ?_
 refine (nt (S.c (decide ((left - (a.length : Int)) < 0)) (fun h1 => ?_) (fun h1 => ?_)))
 ·have g2 := of_decide_eq_true h1
  refine ws (rg ?_)
  refine S.qe 1 [] [(4, .v (I (-1)))] fun ac w β S => ?_
  exact (nt (wr (rt (S.r [I (-1)] ⟨retI k0_laws_szMonS, S.chg⟩))))
 have g3 := of_decide_eq_false h1
 refine wk (nt (ws (ws (rg ?_))))
 refine S.qe 1 [] [(5, .v (I 0))] fun ac w β S => ?_
 refine (nt (wp_block ?_))
 refine wp_loop_down (fun mm ac w => ∃ (k : Nat) (l : Int)  (u : _) (N : _) (β : _), mm = a.length - k ∧ (k ≤ a.length) ∧ (l = left - a.length - szsum (a.take k)) ∧ (0 ≤ l) ∧ St Tryz.prog Tryz.f24.ntmps w0 NoB u N β ⟨[(0, .v (slv a.length pa.1)), (1, .v (I l)), (5, .v (I (k : Int)))], []⟩ ac w) _ ⟨0, (left - (a.length : Int)), _, _, _, rfl, o0, (by simp [szsum_nil]), o0, S.z⟩ ?_
 clear S
 rintro mm ac w ⟨k, l, u, N, β, rfl, hk, hl, hl0, S⟩
 have hle2 := szsum_take_le a k
 refine ws (ws (rg ?_))
 refine S.qe 4 [] [(15, .v (B (decide ((k : Int) < (a.length : Int)))))] fun ac w β S => ?_
 refine (nt (S.c (decide ((k : Int) < (a.length : Int))) (fun h4 => ?_) (fun h4 => ?_)))
 ·have g5 := of_decide_eq_true h4
  refine wk (nt (ws (wp_block (ws (rg ?_)))))
  have b6 := f_sz_cs (SZ.sz (el a k)) l
  refine S.qg 7 [] [(1, .v (I (f_sz (SZ.sz (el a k)) l)))] (.cons (qn (S.arg ha) k Tryz.underlying23) (.cons (qs (S.arg ha) 87 k) (.cons (Q_call fun w hw => c_laws_szMon w (el a k) (pa.2 k) (rd_of (LRd.el (S.arg ha) k (by omega)) hw) l (by omega) (by omega)) .nil))) fun ac w β S => ?_
  refine (nt (ws (rg ?_)))
  refine S.qe 2 [] [(25, .v (B (decide ((f_sz (SZ.sz (el a k)) l) < 0))))] fun ac w β S => ?_
  refine (nt (S.c (decide ((f_sz (SZ.sz (el a k)) l) < 0)) (fun h7 => ?_) (fun h7 => ?_)))
  ·have g8 := of_decide_eq_true h7
   refine ws (rg ?_)
   refine S.qe 1 [] [(4, .v (I (-1)))] fun ac w β S => ?_
   exact (nt (wr (rb (rt (rt (rb (rt (S.r [I (-1)] ⟨retI k0_laws_szMonS, S.chg⟩))))))))
  have g9 := of_decide_eq_false h7
  refine wk (nb (nt (rg ?_)))
  refine S.qg 3 [] [(5, .v (I ((k : Int) + 1)))] (.cons (qp (k : Int) 1) .nil) fun ac w β S => ?_
  refine (nt ?_)
  refine ⟨a.length - (k + 1), by omega, k + 1, (f_sz (SZ.sz (el a k)) l), _, _, _, rfl, ?_, ?_, ?_, S.z⟩
  ·exact oz
  ·clear S; (rw [szsum_take (by omega)]; omega)
  ·clear S; omega
 have g10 := of_decide_eq_false h4
 refine wp_exit (ex_then (ex_then (ex_hit (nt (ws (rg ?_))))))
 refine S.qe 2 [] [(4, .v (I l))] fun ac w β S => ?_
 exact (nt (wr (S.r [I l] ⟨retI k0_laws_szMonS, S.chg⟩)))

theorem c_laws_szEntryS (w0 : World) (a : List TEntry) (pa : LP TEntry) (ha : GT.rd KR (Lt w0.heap.size) w0 a pa) (left : Int) (pre0 : -1 ≤ left) (pre1 : left ≤ 4194304) : Calls Tryz.prog 25 [slv a.length pa.1, I left].toArray w0 (fun e w' => e = .returned (I (f_sz (SZ.sz a) left)) ∧ Chg NoB w0 w') := by
 refine Calls.walk NoB Tryz.func25 rfl rfl ?_
 intro ac β S
 have hz := szl_TEntry a
 have hb0 := f_sz_cs (SZ.sz a) left
 have hlea : a.length ≤ 9223372036854775807 := LRd.le ha
 refine ws (rg ?_)
 refine S.qe 1 [] [] fun ac w β S => ?_
 refine (nt (ws (rg ?_)))
 refine S.qg 5 [] [(1, .v (I (left - (a.length : Int))))] (.cons (qm left (a.length : Int)) .nil) fun ac w β S => ?_
 refine (nt (ws (ws (rg ?_))))
 refine S.qe 2 [] [(10, .v (B (decide ((left - (a.length : Int)) < 0))))] fun ac w β S => ?_
 refine (nt (S.c (decide ((left - (a.length : Int)) < 0)) (fun h1 => ?_) (fun h1 => ?_)))
 ·have g2 := of_decide_eq_true h1
  refine ws (rg ?_)
  refine S.qe 1 [] [(4, .v (I (-1)))] fun ac w β S => ?_
  exact (nt (wr (rt (S.r [I (-1)] ⟨retI (by clear S; omega), S.chg⟩))))
 have g3 := of_decide_eq_false h1
 refine wk (nt (ws (rg ?_)))
 refine S.qe 2 [] [(4, .v (I (left - (a.length : Int))))] fun ac w β S => ?_
 exact (nt (wr (S.r [I (left - (a.length : Int))] ⟨retI (by clear S; omega), S.chg⟩)))

theorem c_laws_szHost (w0 : World) (a : THost) (pa : PHost) (ha : GT.rd KR (Lt w0.heap.size) w0 a pa) (left : Int) (pre0 : -1 ≤ left) (pre1 : left ≤ 4194304) : Calls Tryz.prog 8 [GT.val a pa, I left].toArray w0 (fun e w' => e = .returned (I (f_sz (SZ.sz a) left)) ∧ Chg NoB w0 w') := by
 refine Calls.walk NoB Tryz.func8 rfl rfl ?_
 intro ac β S
 have hz := sz_Host a
 have hb0 := f_sz_cs (SZ.sz a) left
 refine ws (rg ?_)
 refine S.qem 2 [] [(2, .p 0 0)] 1 [(0, GT.cells a pa)] fun ac w β S => ?_
 refine (nt (ws (rg ?_)))
 have b1 := f_sz_cs (SZ.sz a.mem) left
 refine S.qg 5 [] [(1, .v (I (f_sz (SZ.sz a.mem) left)))] (.cons (Q_call fun w hw => c_laws_szIntSS w a.mem pa.mem (rd_of (RHost.mem (d := a) (S.arg ha)) hw) left (by omega) (by omega)) .nil) fun ac w β S => ?_
 refine (nt (ws (ws (rg ?_))))
 refine S.qe 2 [] [(10, .v (B (decide ((f_sz (SZ.sz a.mem) left) < 0))))] fun ac w β S => ?_
 refine (nt (S.c (decide ((f_sz (SZ.sz a.mem) left) < 0)) (fun h2 => ?_) (fun h2 => ?_)))
 ·have g3 := of_decide_eq_true h2
  refine ws (rg ?_)
  refine S.qe 1 [] [(4, .v (I (-1)))] fun ac w β S => ?_
  exact (nt (wr (rt (S.r [I (-1)] ⟨retI (by clear S; omega), S.chg⟩))))
 have g4 := of_decide_eq_false h2
 refine wk (nt (ws (rg ?_)))
 have b5 := f_sz_cs (SZ.sz a.mons) (f_sz (SZ.sz a.mem) left)
 refine S.qg 5 [] [(1, .v (I (f_sz (SZ.sz a.mons) (f_sz (SZ.sz a.mem) left))))] (.cons (Q_call fun w hw => c_laws_szMonS w a.mons pa.mons (rd_of (RHost.mons (d := a) (S.arg ha)) hw) (f_sz (SZ.sz a.mem) left) (by omega) (by omega)) .nil) fun ac w β S => ?_
 refine (nt (ws (ws (rg ?_))))
 refine S.qe 2 [] [(16, .v (B (decide ((f_sz (SZ.sz a.mons) (f_sz (SZ.sz a.mem) left)) < 0))))] fun ac w β S => ?_
 refine (nt (S.c (decide ((f_sz (SZ.sz a.mons) (f_sz (SZ.sz a.mem) left)) < 0)) (fun h6 => ?_) (fun h6 => ?_)))
 ·have g7 := of_decide_eq_true h6
  refine ws (rg ?_)
  refine S.qe 1 [] [(4, .v (I (-1)))] fun ac w β S => ?_
  exact (nt (wr (rt (S.r [I (-1)] ⟨retI (by clear S; omega), S.chg⟩))))
 have g8 := of_decide_eq_false h6
 refine wk (nt (ws (rg ?_)))
 have b9 := f_sz_cs (SZ.sz a.buf) (f_sz (SZ.sz a.mons) (f_sz (SZ.sz a.mem) left))
 refine S.qg 5 [] [(1, .v (I (f_sz (SZ.sz a.buf) (f_sz (SZ.sz a.mons) (f_sz (SZ.sz a.mem) left)))))] (.cons (Q_call fun w hw => c_laws_szEntryS w a.buf pa.buf (rd_of (RHost.buf (d := a) (S.arg ha)) hw) (f_sz (SZ.sz a.mons) (f_sz (SZ.sz a.mem) left)) (by omega) (by omega)) .nil) fun ac w β S => ?_
 refine (nt (ws (ws (rg ?_))))
 refine S.qe 2 [] [(22, .v (B (decide ((f_sz (SZ.sz a.buf) (f_sz (SZ.sz a.mons) (f_sz (SZ.sz a.mem) left))) < 0))))] fun ac w β S => ?_
 refine (nt (S.c (decide ((f_sz (SZ.sz a.buf) (f_sz (SZ.sz a.mons) (f_sz (SZ.sz a.mem) left))) < 0)) (fun h10 => ?_) (fun h10 => ?_)))
 ·have g11 := of_decide_eq_true h10
  refine ws (rg ?_)
  refine S.qe 1 [] [(4, .v (I (-1)))] fun ac w β S => ?_
  exact (nt (wr (rt (S.r [I (-1)] ⟨retI (by clear S; omega), S.chg⟩))))
 have g12 := of_decide_eq_false h10
 refine wk (nt (ws (rg ?_)))
 have b13 := f_sz_cs (SZ.sz a.iobuf) (f_sz (SZ.sz a.buf) (f_sz (SZ.sz a.mons) (f_sz (SZ.sz a.mem) left)))
 refine S.qgm 5 [] [(1, .v (I (f_sz (SZ.sz a.iobuf) (f_sz (SZ.sz a.buf) (f_sz (SZ.sz a.mons) (f_sz (SZ.sz a.mem) left))))))] (.cons (Q_call fun w hw => c_laws_szEntryS w a.iobuf pa.iobuf (rd_of (RHost.iobuf (d := a) (S.arg ha)) hw) (f_sz (SZ.sz a.buf) (f_sz (SZ.sz a.mons) (f_sz (SZ.sz a.mem) left))) (by omega) (by omega)) .nil) 0 [] fun ac w β S => ?_
 refine (nt (ws (ws (rg ?_))))
 refine S.qe 2 [] [(28, .v (B (decide ((f_sz (SZ.sz a.iobuf) (f_sz (SZ.sz a.buf) (f_sz (SZ.sz a.mons) (f_sz (SZ.sz a.mem) left)))) < 0))))] fun ac w β S => ?_
 refine (nt (S.c (decide ((f_sz (SZ.sz a.iobuf) (f_sz (SZ.sz a.buf) (f_sz (SZ.sz a.mons) (f_sz (SZ.sz a.mem) left)))) < 0)) (fun h14 => ?_) (fun h14 => ?_)))
 ·have g15 := of_decide_eq_true h14
  refine ws (rg ?_)
  refine S.qe 1 [] [(4, .v (I (-1)))] fun ac w β S => ?_
  exact (nt (wr (rt (S.r [I (-1)] ⟨retI (by clear S; omega), S.chg⟩))))
 have g16 := of_decide_eq_false h14
 refine wk (nt (ws (rg ?_)))
 refine S.qe 2 [] [(4, .v (I (f_sz (SZ.sz a.iobuf) (f_sz (SZ.sz a.buf) (f_sz (SZ.sz a.mons) (f_sz (SZ.sz a.mem) left))))))] fun ac w β S => ?_
 exact (nt (wr (S.r [I (f_sz (SZ.sz a.iobuf) (f_sz (SZ.sz a.buf) (f_sz (SZ.sz a.mons) (f_sz (SZ.sz a.mem) left))))] ⟨retI (by clear S; omega), S.chg⟩)))

theorem c_laws_toIntS (w0 : World) (a : List Int) (pa : LP Int) (ha : RD w0 a pa) : Calls Tryz.prog 65 [slv a.length pa.1].toArray w0 (Ret1 NoB w0 (a : List Int)) := by
 refine Calls.walk NoB Tryz.func65 rfl rfl ?_
 intro ac β S
 have hlea : a.length ≤ 4194304 := LRd.le ha
 refine ws (rg ?_)
 refine S.qe 1 [] [] fun ac w β S => ?_
 refine (nt (ws (rg ?_)))
 refine S.qa 2 [] [(6, .v (I (a.length : Int)))] fun ac w β S => ?_
 refine RG.op rfl (S.make (α := Int) (m := a.length) (by' := 8) (d := 7) (by kernel_rfl) (by omega) (show a.length ≤ 4194304 by omega) fun ac w N q1 F2 S up o3 d4 => ?_)
 clear up d4
 refine S.qe 1 [] [(3, .v (slv a.length q1.1))] fun ac w β S => ?_
 refine (nt (ws (ws (rg ?_))))
 refine S.qe 1 [] [(4, .v (I 0))] fun ac w β S => ?_
 refine (nt (wp_block ?_))
 refine wp_loop_down (fun mm ac w => ∃ (k : Nat) (acc : List Int) (q5 : _) (F6 : _) (u : _) (N : _) (β : _), mm = a.length - k ∧ (k ≤ a.length) ∧ (acc = a.take k ++ List.replicate (a.length - k) (GT.dflt : Int)) ∧ St Tryz.prog Tryz.f65.ntmps w0 NoB u N β ⟨[(0, .v (slv a.length pa.1)), (3, .v (slv a.length q5.1)), (4, .v (I (k : Int)))], []⟩ ac w ∧ Ow w0 NoB u N F6 acc q5) _ ⟨0, (List.replicate a.length (GT.dflt : Int)), q1, F2, _, _, _, rfl, o0, (by simp), S.z, o3⟩ ?_
 clear S o3
 rintro mm ac w ⟨k, acc, q5, F6, u, N, β, rfl, hk, hacc, S, o7⟩
 have hlacc : acc.length = a.length := by rw [hacc]; simp; omega
 refine ws (ws (rg ?_))
 refine S.qe 4 [] [(11, .v (B (decide ((k : Int) < (a.length : Int)))))] fun ac w β S => ?_
 refine (nt (S.c (decide ((k : Int) < (a.length : Int))) (fun h8 => ?_) (fun h8 => ?_)))
 ·have g9 := of_decide_eq_true h8
  refine wk (nt (ws (wp_block (rg ?_))))
  refine S.qb 7 [] [(19, .v (I (el a k))), (20, .v (pt q5.1.b (q5.1.off + k * 1)))] (.cons (qn (S.arg ha) k Tryz.underlying50) (.cons (qx (S.arg ha) 3 k) (.cons (Q_idx o7.rn (l := a.length) (k := k) (i := (k : Int)) (by rw [hacc]; simp; omega) rfl (by omega) Tryz.underlying50 (by kernel_rfl)) .nil))) fun ac w β S => ?_
  refine RG.op rfl (S.sF (α := Int) o7 (t := 3) (k := k) (j := 0) (off := q5.1.off + k * 1) (v := I (el a k)) (y := (el a k)) (q := ()) (fun _ _ _ => ⟨NoB, (LRd.el (S.arg ha) k (by omega)), fun _ h => False.elim h⟩) fun w N F11 q12 S up o10 d13 s14 n15 => ?_)
  clear up d13 o7 n15
  have l16 : (acc.set k (el a k)).length = acc.length := List.length_set
  refine rd (nb (nt (rg ?_)))
  refine S.qg 3 [] [(4, .v (I ((k : Int) + 1)))] (.cons (qp (k : Int) 1) .nil) fun ac w β S => ?_
  refine (nt ?_)
  refine ⟨a.length - (k + 1), by omega, k + 1, (acc.set k (el a k)), (q5.1, q12), F11, _, _, _, rfl, ?_, ?_, S.z, o10⟩
  ·exact oz
  ·clear S; rw [hacc]; exact set_step (by omega)
 have g17 := of_decide_eq_false h8
 refine wp_exit (ex_then (ex_then (ex_hit (nt (ws (rg ?_))))))
 refine S.qe 2 [] [(2, .v (slv a.length q5.1))] fun ac w β S => ?_
 exact (nt (wr (S.r [slv a.length q5.1] (ret1_of S (show a = acc by clear S; rw [hacc, take_all (by omega), show a.length - k = 0 by omega]; simp) (by rw [show a.length = acc.length from (by rw [hacc]; simp; omega)]; rfl) o7))))

theorem c_laws_toIntSS (w0 : World) (a : List (List Int)) (pa : LP (List Int)) (ha : RD w0 a pa) : Calls Tryz.prog 30 [slv a.length pa.1].toArray w0 (Ret1 NoB w0 (a : List (List Int))) := by
 refine Calls.walk NoB Tryz.func30 rfl rfl ?_
 intro ac β S
 have hlea : a.length ≤ 4194304 := LRd.le ha
 refine ws (rg ?_)
 refine S.qe 1 [] [] fun ac w β S => ?_
 refine (nt (ws (rg ?_)))
 refine S.qa 2 [] [(6, .v (I (a.length : Int)))] fun ac w β S => ?_
 refine RG.op rfl (S.make (α := List Int) (m := a.length) (by' := 24) (d := 7) (by kernel_rfl) (by omega) (show a.length ≤ 4194304 by omega) fun ac w N q1 F2 S up o3 d4 => ?_)
 clear up d4
 refine S.qe 1 [] [(3, .v (slv a.length q1.1))] fun ac w β S => ?_
 refine (nt (ws (ws (rg ?_))))
 refine S.qe 1 [] [(4, .v (I 0))] fun ac w β S => ?_
 refine (nt (wp_block ?_))
 refine wp_loop_down (fun mm ac w => ∃ (k : Nat) (acc : List (List Int)) (q5 : _) (F6 : _) (u : _) (N : _) (β : _), mm = a.length - k ∧ (k ≤ a.length) ∧ (acc = a.take k ++ List.replicate (a.length - k) (GT.dflt : List Int)) ∧ St Tryz.prog Tryz.f30.ntmps w0 NoB u N β ⟨[(0, .v (slv a.length pa.1)), (3, .v (slv a.length q5.1)), (4, .v (I (k : Int)))], []⟩ ac w ∧ Ow w0 NoB u N F6 acc q5) _ ⟨0, (List.replicate a.length (GT.dflt : List Int)), q1, F2, _, _, _, rfl, o0, (by simp), S.z, o3⟩ ?_
 clear S o3
 rintro mm ac w ⟨k, acc, q5, F6, u, N, β, rfl, hk, hacc, S, o7⟩
 have hlacc : acc.length = a.length := by rw [hacc]; simp; omega
 refine ws (ws (rg ?_))
 refine S.qe 4 [] [(11, .v (B (decide ((k : Int) < (a.length : Int)))))] fun ac w β S => ?_
 refine (nt (S.c (decide ((k : Int) < (a.length : Int))) (fun h8 => ?_) (fun h8 => ?_)))
 ·have g9 := of_decide_eq_true h8
  refine wk (nt (ws (wp_block (rg ?_))))
  refine S.qb 6 [] [(14, .v (slv a.length q5.1)), (15, .v (I (k : Int))), (19, .v (slv (el a k).length (pa.2 k).1))] (.cons (qn (S.arg ha) k Tryz.underlying22) (.cons (qx (S.arg ha) 50 k) .nil)) fun ac w β S => ?_
  refine RG.op rfl (S.k1 20 (c_laws_toIntS w (el a k) (pa.2 k) (S.rd (LRd.el (S.arg ha) k (by omega)))) fun ac w N q10 F11 S up o12 d13 => ?_)
  have d14 := Disj.w d13 o7.sub
  replace o7 := o7.up up
  clear up d13
  refine S.qb 1 [] [(20, .v (slv (el a k).length q10.1)), (21, .v (pt q5.1.b (q5.1.off + k * 1)))] (.cons (Q_idx o7.rn (l := a.length) (k := k) (i := (k : Int)) (by rw [hacc]; simp; omega) rfl (by omega) Tryz.underlying22 (by kernel_rfl)) .nil) fun ac w β S => ?_
  refine RG.op rfl (S.sV (α := List Int) o7 (t := 50) (k := k) (off := q5.1.off + k * 1) o12 d14 fun w N F16 q17 S up o15 d18 s19 n20 => ?_)
  clear up d18 o7 n20
  have l21 : (acc.set k (el a k)).length = acc.length := List.length_set
  refine rd (nb (nt (rg ?_)))
  refine S.qg 3 [] [(4, .v (I ((k : Int) + 1)))] (.cons (qp (k : Int) 1) .nil) fun ac w β S => ?_
  refine (nt ?_)
  refine ⟨a.length - (k + 1), by omega, k + 1, (acc.set k (el a k)), (q5.1, q17), F16, _, _, _, rfl, ?_, ?_, S.z, o15⟩
  ·exact oz
  ·clear S; rw [hacc]; exact set_step (by omega)
 have g22 := of_decide_eq_false h8
 refine wp_exit (ex_then (ex_then (ex_hit (nt (ws (rg ?_))))))
 refine S.qe 2 [] [(2, .v (slv a.length q5.1))] fun ac w β S => ?_
 exact (nt (wr (S.r [slv a.length q5.1] (ret1_of S (show a = acc by clear S; rw [hacc, take_all (by omega), show a.length - k = 0 by omega]; simp) (by rw [show a.length = acc.length from (by rw [hacc]; simp; omega)]; rfl) o7))))

theorem c_laws_toSlot (w0 : World) (a : TSlot) : Calls Tryz.prog 150 [GT.val a ()].toArray w0 (fun e w' => e = .returned (GT.val a ()) ∧ Chg NoB w0 w') := by
 refine Calls.walk NoB Tryz.func150 rfl rfl ?_
 intro ac β S
 refine ws (rg ?_)
 refine S.qem 2 [] [(1, .p 0 0), (2, .p 1 0)] 2 [(0, GT.cells a ()), (1, Zc TSlot)] fun ac w β S => ?_
 refine (nt (ws (rg ?_)))
 refine S.qem 1 [] [(3, .p 2 0)] 3 [(2, Zc TSlot)] fun ac w β S => ?_
 refine (nt (ws (rg ?_)))
 refine S.qem 4 [] [] 3 [(2, [I a.page, I 0])] fun ac w β S => ?_
 refine (nt (ws (rg ?_)))
 refine S.qem 4 [] [] 3 [(2, [I a.page, I a.rights])] fun ac w β S => ?_
 refine (nt (ws (rg ?_)))
 refine S.qem 2 [] [] 2 [(1, [I a.page, I a.rights])] fun ac w β S => ?_
 exact (nt (wr (S.r [GT.val (⟨a.page, a.rights⟩ : TSlot) ()] ⟨retV (p := ()) (by clear S; first | rfl | (simp [a, *]; done) | (simp [a, *]; omega) | (simp_all [a]; done) | (simp_all [a]; omega)), S.chg⟩)))

theorem c_laws_toSlotS (w0 : World) (a : List TSlot) (pa : LP TSlot) (ha : RD w0 a pa) : Calls Tryz.prog 113 [slv a.length pa.1].toArray w0 (Ret1 NoB w0 (a : List TSlot)) := by
 refine Calls.walk NoB Tryz.func113 rfl rfl ?_
 intro ac β S
 have hlea : a.length ≤ 4194304 := LRd.le ha
 refine ws (rg ?_)
 refine S.qe 1 [] [] fun ac w β S => ?_
 refine (nt (ws (rg ?_)))
 refine S.qa 2 [] [(6, .v (I (a.length : Int)))] fun ac w β S => ?_
 refine RG.op rfl (S.make (α := TSlot) (m := a.length) (by' := 16) (d := 7) (by kernel_rfl) (by omega) (show a.length ≤ 4194304 by omega) fun ac w N q1 F2 S up o3 d4 => ?_)
 clear up d4
 refine S.qe 1 [] [(3, .v (slv a.length q1.1))] fun ac w β S => ?_
 refine (nt (ws (ws (rg ?_))))
 refine S.qe 1 [] [(4, .v (I 0))] fun ac w β S => ?_
 refine (nt (wp_block ?_))
 refine wp_loop_down (fun mm ac w => ∃ (k : Nat) (acc : List TSlot) (q5 : _) (F6 : _) (u : _) (N : _) (β : _), mm = a.length - k ∧ (k ≤ a.length) ∧ (acc = a.take k ++ List.replicate (a.length - k) (GT.dflt : TSlot)) ∧ St Tryz.prog Tryz.f113.ntmps w0 NoB u N β ⟨[(0, .v (slv a.length pa.1)), (3, .v (slv a.length q5.1)), (4, .v (I (k : Int)))], []⟩ ac w ∧ Ow w0 NoB u N F6 acc q5) _ ⟨0, (List.replicate a.length (GT.dflt : TSlot)), q1, F2, _, _, _, rfl, o0, (by simp), S.z, o3⟩ ?_
 clear S o3
 rintro mm ac w ⟨k, acc, q5, F6, u, N, β, rfl, hk, hacc, S, o7⟩
 have hlacc : acc.length = a.length := by rw [hacc]; simp; omega
 refine ws (ws (rg ?_))
 refine S.qe 4 [] [(11, .v (B (decide ((k : Int) < (a.length : Int)))))] fun ac w β S => ?_
 refine (nt (S.c (decide ((k : Int) < (a.length : Int))) (fun h8 => ?_) (fun h8 => ?_)))
 ·have g9 := of_decide_eq_true h8
  refine wk (nt (ws (wp_block (rg ?_))))
  refine S.qb 8 [] [(20, .v (GT.val (el a k) ())), (21, .v (pt q5.1.b (q5.1.off + k * 2)))] (.cons (qn (S.arg ha) k Tryz.underlying83) (.cons (qs (S.arg ha) 166 k) (.cons (Q_call fun w hw => c_laws_toSlot w (el a k)) (.cons (Q_idx o7.rn (l := a.length) (k := k) (i := (k : Int)) (by rw [hacc]; simp; omega) rfl (by omega) Tryz.underlying47 (by kernel_rfl)) .nil)))) fun ac w β S => ?_
  have e10 : RSlot (el acc k) := (LRd.el o7.rn k (by omega))
  refine RG.op rfl (S.sF (α := TSlot) o7 (t := 55) (k := k) (j := 0) (off := q5.1.off + k * 2) (v := GT.val (el a k) ()) (y := (el a k)) (q := ()) (fun _ _ _ => ⟨NoB, (LRd.el (S.arg ha) k (by omega)), fun _ h => False.elim h⟩) fun w N F12 q13 S up o11 d14 s15 n16 => ?_)
  clear up d14 o7 n16
  have l17 : (acc.set k (el a k)).length = acc.length := List.length_set
  refine rd (nb (nt (rg ?_)))
  refine S.qg 3 [] [(4, .v (I ((k : Int) + 1)))] (.cons (qp (k : Int) 1) .nil) fun ac w β S => ?_
  refine (nt ?_)
  refine ⟨a.length - (k + 1), by omega, k + 1, (acc.set k (el a k)), (q5.1, q13), F12, _, _, _, rfl, ?_, ?_, S.z, o11⟩
  ·exact oz
  ·clear S; rw [hacc]; exact set_step (by omega)
 have g18 := of_decide_eq_false h8
 refine wp_exit (ex_then (ex_then (ex_hit (nt (ws (rg ?_))))))
 refine S.qe 2 [] [(2, .v (slv a.length q5.1))] fun ac w β S => ?_
 exact (nt (wr (S.r [slv a.length q5.1] (ret1_of S (show a = acc by clear S; rw [hacc, take_all (by omega), show a.length - k = 0 by omega]; simp) (by rw [show a.length = acc.length from (by rw [hacc]; simp; omega)]; rfl) o7))))

theorem c_laws_toBoolS (w0 : World) (a : List Bool) (pa : LP Bool) (ha : RD w0 a pa) : Calls Tryz.prog 114 [slv a.length pa.1].toArray w0 (Ret1 NoB w0 (a : List Bool)) := by
 refine Calls.walk NoB Tryz.func114 rfl rfl ?_
 intro ac β S
 have hlea : a.length ≤ 4194304 := LRd.le ha
 refine ws (rg ?_)
 refine S.qe 1 [] [] fun ac w β S => ?_
 refine (nt (ws (rg ?_)))
 refine S.qa 2 [] [(6, .v (I (a.length : Int)))] fun ac w β S => ?_
 refine RG.op rfl (S.make (α := Bool) (m := a.length) (by' := 1) (d := 7) (by kernel_rfl) (by omega) (show a.length ≤ 4194304 by omega) fun ac w N q1 F2 S up o3 d4 => ?_)
 clear up d4
 refine S.qe 1 [] [(3, .v (slv a.length q1.1))] fun ac w β S => ?_
 refine (nt (ws (ws (rg ?_))))
 refine S.qe 1 [] [(4, .v (I 0))] fun ac w β S => ?_
 refine (nt (wp_block ?_))
 refine wp_loop_down (fun mm ac w => ∃ (k : Nat) (acc : List Bool) (q5 : _) (F6 : _) (u : _) (N : _) (β : _), mm = a.length - k ∧ (k ≤ a.length) ∧ (acc = a.take k ++ List.replicate (a.length - k) (GT.dflt : Bool)) ∧ St Tryz.prog Tryz.f114.ntmps w0 NoB u N β ⟨[(0, .v (slv a.length pa.1)), (3, .v (slv a.length q5.1)), (4, .v (I (k : Int)))], []⟩ ac w ∧ Ow w0 NoB u N F6 acc q5) _ ⟨0, (List.replicate a.length (GT.dflt : Bool)), q1, F2, _, _, _, rfl, o0, (by simp), S.z, o3⟩ ?_
 clear S o3
 rintro mm ac w ⟨k, acc, q5, F6, u, N, β, rfl, hk, hacc, S, o7⟩
 have hlacc : acc.length = a.length := by rw [hacc]; simp; omega
 refine ws (ws (rg ?_))
 refine S.qe 4 [] [(11, .v (B (decide ((k : Int) < (a.length : Int)))))] fun ac w β S => ?_
 refine (nt (S.c (decide ((k : Int) < (a.length : Int))) (fun h8 => ?_) (fun h8 => ?_)))
 ·have g9 := of_decide_eq_true h8
  refine wk (nt (ws (wp_block (rg ?_))))
  refine S.qb 7 [] [(19, .v (B (el a k))), (20, .v (pt q5.1.b (q5.1.off + k * 1)))] (.cons (qn (S.arg ha) k Tryz.underlying48) (.cons (qx (S.arg ha) 4 k) (.cons (Q_idx o7.rn (l := a.length) (k := k) (i := (k : Int)) (by rw [hacc]; simp; omega) rfl (by omega) Tryz.underlying48 (by kernel_rfl)) .nil))) fun ac w β S => ?_
  refine RG.op rfl (S.sF (α := Bool) o7 (t := 4) (k := k) (j := 0) (off := q5.1.off + k * 1) (v := B (el a k)) (y := (el a k)) (q := ()) (fun _ _ _ => ⟨NoB, trivial, fun _ h => False.elim h⟩) fun w N F11 q12 S up o10 d13 s14 n15 => ?_)
  clear up d13 o7 n15
  have l16 : (acc.set k (el a k)).length = acc.length := List.length_set
  refine rd (nb (nt (rg ?_)))
  refine S.qg 3 [] [(4, .v (I ((k : Int) + 1)))] (.cons (qp (k : Int) 1) .nil) fun ac w β S => ?_
  refine (nt ?_)
  refine ⟨a.length - (k + 1), by omega, k + 1, (acc.set k (el a k)), (q5.1, q12), F11, _, _, _, rfl, ?_, ?_, S.z, o10⟩
  ·exact oz
  ·clear S; rw [hacc]; exact set_step (by omega)
 have g17 := of_decide_eq_false h8
 refine wp_exit (ex_then (ex_then (ex_hit (nt (ws (rg ?_))))))
 refine S.qe 2 [] [(2, .v (slv a.length q5.1))] fun ac w β S => ?_
 exact (nt (wr (S.r [slv a.length q5.1] (ret1_of S (show a = acc by clear S; rw [hacc, take_all (by omega), show a.length - k = 0 by omega]; simp) (by rw [show a.length = acc.length from (by rw [hacc]; simp; omega)]; rfl) o7))))

theorem c_laws_toIns (w0 : World) (a : TIns) : Calls Tryz.prog 179 [GT.val a ()].toArray w0 (fun e w' => e = .returned (GT.val a ()) ∧ Chg NoB w0 w') := by
 refine Calls.walk NoB Tryz.func179 rfl rfl ?_
 intro ac β S
 refine ws (rg ?_)
 refine S.qem 2 [] [(1, .p 0 0), (2, .p 1 0)] 2 [(0, GT.cells a ()), (1, Zc TIns)] fun ac w β S => ?_
 refine (nt (ws (rg ?_)))
 refine S.qem 1 [] [(3, .p 2 0)] 3 [(2, Zc TIns)] fun ac w β S => ?_
 refine (nt (ws (rg ?_)))
 refine S.qem 4 [] [] 3 [(2, [I a.opc, I 0])] fun ac w β S => ?_
 refine (nt (ws (rg ?_)))
 refine S.qem 4 [] [] 3 [(2, [I a.opc, I a.x])] fun ac w β S => ?_
 refine (nt (ws (rg ?_)))
 refine S.qem 2 [] [] 2 [(1, [I a.opc, I a.x])] fun ac w β S => ?_
 exact (nt (wr (S.r [GT.val (⟨a.opc, a.x⟩ : TIns) ()] ⟨retV (p := ()) (by clear S; first | rfl | (simp [a, *]; done) | (simp [a, *]; omega) | (simp_all [a]; done) | (simp_all [a]; omega)), S.chg⟩)))

theorem c_laws_toInsS (w0 : World) (a : List TIns) (pa : LP TIns) (ha : RD w0 a pa) : Calls Tryz.prog 168 [slv a.length pa.1].toArray w0 (Ret1 NoB w0 (a : List TIns)) := by
 refine Calls.walk NoB Tryz.func168 rfl rfl ?_
 intro ac β S
 have hlea : a.length ≤ 4194304 := LRd.le ha
 refine ws (rg ?_)
 refine S.qe 1 [] [] fun ac w β S => ?_
 refine (nt (ws (rg ?_)))
 refine S.qa 2 [] [(6, .v (I (a.length : Int)))] fun ac w β S => ?_
 refine RG.op rfl (S.make (α := TIns) (m := a.length) (by' := 16) (d := 7) (by kernel_rfl) (by omega) (show a.length ≤ 4194304 by omega) fun ac w N q1 F2 S up o3 d4 => ?_)
 clear up d4
 refine S.qe 1 [] [(3, .v (slv a.length q1.1))] fun ac w β S => ?_
 refine (nt (ws (ws (rg ?_))))
 refine S.qe 1 [] [(4, .v (I 0))] fun ac w β S => ?_
 refine (nt (wp_block ?_))
 refine wp_loop_down (fun mm ac w => ∃ (k : Nat) (acc : List TIns) (q5 : _) (F6 : _) (u : _) (N : _) (β : _), mm = a.length - k ∧ (k ≤ a.length) ∧ (acc = a.take k ++ List.replicate (a.length - k) (GT.dflt : TIns)) ∧ St Tryz.prog Tryz.f168.ntmps w0 NoB u N β ⟨[(0, .v (slv a.length pa.1)), (3, .v (slv a.length q5.1)), (4, .v (I (k : Int)))], []⟩ ac w ∧ Ow w0 NoB u N F6 acc q5) _ ⟨0, (List.replicate a.length (GT.dflt : TIns)), q1, F2, _, _, _, rfl, o0, (by simp), S.z, o3⟩ ?_
 clear S o3
 rintro mm ac w ⟨k, acc, q5, F6, u, N, β, rfl, hk, hacc, S, o7⟩
 have hlacc : acc.length = a.length := by rw [hacc]; simp; omega
 refine ws (ws (rg ?_))
 refine S.qe 4 [] [(11, .v (B (decide ((k : Int) < (a.length : Int)))))] fun ac w β S => ?_
 refine (nt (S.c (decide ((k : Int) < (a.length : Int))) (fun h8 => ?_) (fun h8 => ?_)))
 ·have g9 := of_decide_eq_true h8
  refine wk (nt (ws (wp_block (rg ?_))))
  refine S.qb 8 [] [(20, .v (GT.val (el a k) ())), (21, .v (pt q5.1.b (q5.1.off + k * 2)))] (.cons (qn (S.arg ha) k Tryz.underlying155) (.cons (qs (S.arg ha) 190 k) (.cons (Q_call fun w hw => c_laws_toIns w (el a k)) (.cons (Q_idx o7.rn (l := a.length) (k := k) (i := (k : Int)) (by rw [hacc]; simp; omega) rfl (by omega) Tryz.underlying93 (by kernel_rfl)) .nil)))) fun ac w β S => ?_
  have e10 : RIns (el acc k) := (LRd.el o7.rn k (by omega))
  refine RG.op rfl (S.sF (α := TIns) o7 (t := 173) (k := k) (j := 0) (off := q5.1.off + k * 2) (v := GT.val (el a k) ()) (y := (el a k)) (q := ()) (fun _ _ _ => ⟨NoB, (LRd.el (S.arg ha) k (by omega)), fun _ h => False.elim h⟩) fun w N F12 q13 S up o11 d14 s15 n16 => ?_)
  clear up d14 o7 n16
  have l17 : (acc.set k (el a k)).length = acc.length := List.length_set
  refine rd (nb (nt (rg ?_)))
  refine S.qg 3 [] [(4, .v (I ((k : Int) + 1)))] (.cons (qp (k : Int) 1) .nil) fun ac w β S => ?_
  refine (nt ?_)
  refine ⟨a.length - (k + 1), by omega, k + 1, (acc.set k (el a k)), (q5.1, q13), F12, _, _, _, rfl, ?_, ?_, S.z, o11⟩
  ·exact oz
  ·clear S; rw [hacc]; exact set_step (by omega)
 have g18 := of_decide_eq_false h8
 refine wp_exit (ex_then (ex_then (ex_hit (nt (ws (rg ?_))))))
 refine S.qe 2 [] [(2, .v (slv a.length q5.1))] fun ac w β S => ?_
 exact (nt (wr (S.r [slv a.length q5.1] (ret1_of S (show a = acc by clear S; rw [hacc, take_all (by omega), show a.length - k = 0 by omega]; simp) (by rw [show a.length = acc.length from (by rw [hacc]; simp; omega)]; rfl) o7))))

theorem c_laws_toCtl (w0 : World) (a : TCtl) : Calls Tryz.prog 169 [GT.val a ()].toArray w0 (fun e w' => e = .returned (GT.val a ()) ∧ Chg NoB w0 w') := by
 refine Calls.walk NoB Tryz.func169 rfl rfl ?_
 intro ac β S
 refine ws (rg ?_)
 refine S.qem 2 [] [(1, .p 0 0), (2, .p 1 0)] 2 [(0, GT.cells a ()), (1, Zc TCtl)] fun ac w β S => ?_
 refine (nt (ws (rg ?_)))
 refine S.qem 1 [] [(3, .p 2 0)] 3 [(2, Zc TCtl)] fun ac w β S => ?_
 refine (nt (ws (rg ?_)))
 refine S.qem 4 [] [] 3 [(2, [I a.traps, I 0, B false])] fun ac w β S => ?_
 refine (nt (ws (rg ?_)))
 refine S.qem 4 [] [] 3 [(2, [I a.traps, I a.post, B false])] fun ac w β S => ?_
 refine (nt (ws (rg ?_)))
 refine S.qem 4 [] [] 3 [(2, [I a.traps, I a.post, B a.opn])] fun ac w β S => ?_
 refine (nt (ws (rg ?_)))
 refine S.qem 2 [] [] 2 [(1, [I a.traps, I a.post, B a.opn])] fun ac w β S => ?_
 exact (nt (wr (S.r [GT.val (⟨a.traps, a.post, a.opn⟩ : TCtl) ()] ⟨retV (p := ()) (by clear S; first | rfl | (simp [a, *]; done) | (simp [a, *]; omega) | (simp_all [a]; done) | (simp_all [a]; omega)), S.chg⟩)))

theorem c_laws_toExit (w0 : World) (a : TExit) : Calls Tryz.prog 170 [GT.val a ()].toArray w0 (fun e w' => e = .returned (GT.val a ()) ∧ Chg NoB w0 w') := by
 refine Calls.walk NoB Tryz.func170 rfl rfl ?_
 intro ac β S
 refine ws (rg ?_)
 refine S.qem 2 [] [(1, .p 0 0), (2, .p 1 0)] 2 [(0, GT.cells a ()), (1, Zc TExit)] fun ac w β S => ?_
 refine (nt (ws (rg ?_)))
 refine S.qem 1 [] [(3, .p 2 0)] 3 [(2, Zc TExit)] fun ac w β S => ?_
 refine (nt (ws (rg ?_)))
 refine S.qem 4 [] [] 3 [(2, [I a.kind, I 0, B false, I 0])] fun ac w β S => ?_
 refine (nt (ws (rg ?_)))
 refine S.qem 4 [] [] 3 [(2, [I a.kind, I a.page, B false, I 0])] fun ac w β S => ?_
 refine (nt (ws (rg ?_)))
 refine S.qem 4 [] [] 3 [(2, [I a.kind, I a.page, B a.wr, I 0])] fun ac w β S => ?_
 refine (nt (ws (rg ?_)))
 refine S.qem 4 [] [] 3 [(2, [I a.kind, I a.page, B a.wr, I a.n])] fun ac w β S => ?_
 refine (nt (ws (rg ?_)))
 refine S.qem 2 [] [] 2 [(1, [I a.kind, I a.page, B a.wr, I a.n])] fun ac w β S => ?_
 exact (nt (wr (S.r [GT.val (⟨a.kind, a.page, a.wr, a.n⟩ : TExit) ()] ⟨retV (p := ()) (by clear S; first | rfl | (simp [a, *]; done) | (simp [a, *]; omega) | (simp_all [a]; done) | (simp_all [a]; omega)), S.chg⟩)))

theorem c_laws_toGuest (w0 : World) (a : TGuest) (pa : PGuest) (ha : RD w0 a pa) : Calls Tryz.prog 151 [GT.val a pa].toArray w0 (Ret1 NoB w0 (a : TGuest)) := by
 refine Calls.walk NoB Tryz.func151 rfl rfl ?_
 intro ac β S
 have hlea_prog : a.prog.length ≤ 4194304 := LRd.le (RGuest.prog (d := a) ha)
 have hlea_written : a.written.length ≤ 4194304 := LRd.le (RGuest.written (d := a) ha)
 have hlea_live : a.live.length ≤ 4194304 := LRd.le (RGuest.live (d := a) ha)
 have hlea_seen : a.seen.length ≤ 4194304 := LRd.le (RGuest.seen (d := a) ha)
 refine ws (rg ?_)
 refine S.qem 2 [] [(1, .p 0 0), (2, .p 1 0)] 2 [(0, GT.cells a pa), (1, Zc TGuest)] fun ac w β S => ?_
 refine (nt (ws (rg ?_)))
 refine S.qem 1 [] [(3, .p 2 0)] 3 [(2, Zc TGuest)] fun ac w β S => ?_
 refine (nt (ws (rg ?_)))
 refine S.qa 2 [] [(5, .v (slv a.prog.length pa.prog.1))] fun ac w β S => ?_
 refine RG.op rfl (S.k1 6 (c_laws_toInsS w a.prog pa.prog (S.rd (RGuest.prog (d := a) (S.arg ha)))) fun ac w N q1 F2 S up o3 d4 => ?_)
 clear up d4
 refine S.qem 2 [] [] 3 [(2, [slv a.prog.length q1.1, I 0, I 0, slv ([] : List TSlot).length (GT.pdflt (α := List TSlot)).1, slv ([] : List TSlot).length (GT.pdflt (α := List TSlot)).1, I 0, I 0, B false, I 0, I 0, I 0, B false, I 0, B false, slv ([] : List Int).length (GT.pdflt (α := List Int)).1])] fun ac w β S => ?_
 refine (nt (ws (rg ?_)))
 refine S.qem 4 [] [] 3 [(2, [slv a.prog.length q1.1, I a.acc, I 0, slv ([] : List TSlot).length (GT.pdflt (α := List TSlot)).1, slv ([] : List TSlot).length (GT.pdflt (α := List TSlot)).1, I 0, I 0, B false, I 0, I 0, I 0, B false, I 0, B false, slv ([] : List Int).length (GT.pdflt (α := List Int)).1])] fun ac w β S => ?_
 refine (nt (ws (rg ?_)))
 refine S.qem 4 [] [] 3 [(2, [slv a.prog.length q1.1, I a.acc, I a.pc, slv ([] : List TSlot).length (GT.pdflt (α := List TSlot)).1, slv ([] : List TSlot).length (GT.pdflt (α := List TSlot)).1, I 0, I 0, B false, I 0, I 0, I 0, B false, I 0, B false, slv ([] : List Int).length (GT.pdflt (α := List Int)).1])] fun ac w β S => ?_
 refine (nt (ws (rg ?_)))
 refine S.qa 2 [] [(15, .v (slv a.written.length pa.written.1))] fun ac w β S => ?_
 refine RG.op rfl (S.k1 16 (c_laws_toSlotS w a.written pa.written (S.rd (RGuest.written (d := a) (S.arg ha)))) fun ac w N q5 F6 S up o7 d8 => ?_)
 have d9 := Disj.w d8 o3.sub
 replace o3 := o3.up up
 clear up d8
 refine S.qem 2 [] [] 3 [(2, [slv a.prog.length q1.1, I a.acc, I a.pc, slv a.written.length q5.1, slv ([] : List TSlot).length (GT.pdflt (α := List TSlot)).1, I 0, I 0, B false, I 0, I 0, I 0, B false, I 0, B false, slv ([] : List Int).length (GT.pdflt (α := List Int)).1])] fun ac w β S => ?_
 refine (nt (ws (rg ?_)))
 refine S.qa 2 [] [(19, .v (slv a.live.length pa.live.1))] fun ac w β S => ?_
 refine RG.op rfl (S.k1 20 (c_laws_toSlotS w a.live pa.live (S.rd (RGuest.live (d := a) (S.arg ha)))) fun ac w N q10 F11 S up o12 d13 => ?_)
 have d14 := Disj.w d13 o3.sub
 have d15 := Disj.w d13 o7.sub
 replace o3 := o3.up up
 replace o7 := o7.up up
 clear up d13
 refine S.qem 2 [] [] 3 [(2, [slv a.prog.length q1.1, I a.acc, I a.pc, slv a.written.length q5.1, slv a.live.length q10.1, I 0, I 0, B false, I 0, I 0, I 0, B false, I 0, B false, slv ([] : List Int).length (GT.pdflt (α := List Int)).1])] fun ac w β S => ?_
 refine (nt (ws (rg ?_)))
 refine S.qgm 5 [] [] (.cons (Q_call fun w hw => c_laws_toCtl w a.ctl) .nil) 3 [(2, [slv a.prog.length q1.1, I a.acc, I a.pc, slv a.written.length q5.1, slv a.live.length q10.1, I a.ctl.traps, I a.ctl.post, B a.ctl.opn, I 0, I 0, I 0, B false, I 0, B false, slv ([] : List Int).length (GT.pdflt (α := List Int)).1])] fun ac w β S => ?_
 refine (nt (ws (rg ?_)))
 refine S.qem 4 [] [] 3 [(2, [slv a.prog.length q1.1, I a.acc, I a.pc, slv a.written.length q5.1, slv a.live.length q10.1, I a.ctl.traps, I a.ctl.post, B a.ctl.opn, I a.pend, I 0, I 0, B false, I 0, B false, slv ([] : List Int).length (GT.pdflt (α := List Int)).1])] fun ac w β S => ?_
 refine (nt (ws (rg ?_)))
 refine S.qgm 5 [] [] (.cons (Q_call fun w hw => c_laws_toExit w a.exit) .nil) 3 [(2, [slv a.prog.length q1.1, I a.acc, I a.pc, slv a.written.length q5.1, slv a.live.length q10.1, I a.ctl.traps, I a.ctl.post, B a.ctl.opn, I a.pend, I a.exit.kind, I a.exit.page, B a.exit.wr, I a.exit.n, B false, slv ([] : List Int).length (GT.pdflt (α := List Int)).1])] fun ac w β S => ?_
 refine (nt (ws (rg ?_)))
 refine S.qem 4 [] [] 3 [(2, [slv a.prog.length q1.1, I a.acc, I a.pc, slv a.written.length q5.1, slv a.live.length q10.1, I a.ctl.traps, I a.ctl.post, B a.ctl.opn, I a.pend, I a.exit.kind, I a.exit.page, B a.exit.wr, I a.exit.n, B a.halted, slv ([] : List Int).length (GT.pdflt (α := List Int)).1])] fun ac w β S => ?_
 refine (nt (ws (rg ?_)))
 refine S.qa 2 [] [(37, .v (slv a.seen.length pa.seen.1))] fun ac w β S => ?_
 refine RG.op rfl (S.k1 38 (c_laws_toIntS w a.seen pa.seen (S.rd (RGuest.seen (d := a) (S.arg ha)))) fun ac w N q16 F17 S up o18 d19 => ?_)
 have d20 := Disj.w d19 o3.sub
 have d21 := Disj.w d19 o7.sub
 have d22 := Disj.w d19 o12.sub
 replace o3 := o3.up up
 replace o7 := o7.up up
 replace o12 := o12.up up
 clear up d19
 refine S.qem 2 [] [] 3 [(2, [slv a.prog.length q1.1, I a.acc, I a.pc, slv a.written.length q5.1, slv a.live.length q10.1, I a.ctl.traps, I a.ctl.post, B a.ctl.opn, I a.pend, I a.exit.kind, I a.exit.page, B a.exit.wr, I a.exit.n, B a.halted, slv a.seen.length q16.1])] fun ac w β S => ?_
 refine (nt (ws (rg ?_)))
 refine S.qem 2 [] [] 2 [(1, [slv a.prog.length q1.1, I a.acc, I a.pc, slv a.written.length q5.1, slv a.live.length q10.1, I a.ctl.traps, I a.ctl.post, B a.ctl.opn, I a.pend, I a.exit.kind, I a.exit.page, B a.exit.wr, I a.exit.n, B a.halted, slv a.seen.length q16.1])] fun ac w β S => ?_
 refine (nt (wr (S.r [GT.val (⟨a.prog, a.acc, a.pc, a.written, a.live, a.ctl, a.pend, a.exit, a.halted, a.seen⟩ : TGuest) (⟨q1, q5, q10, q16⟩ : PGuest)] ?_)))
 have o23 := ow_Guest (x := (⟨a.prog, a.acc, a.pc, a.written, a.live, a.ctl, a.pend, a.exit, a.halted, a.seen⟩ : TGuest)) (p := (⟨q1, q5, q10, q16⟩ : PGuest)) o3 o7 o12 o18 d9 d14 d20 d15 d21 d22 (RGuest.acc (d := a) (S.arg ha)) (RGuest.pc (d := a) (S.arg ha)) (RGuest.ctl (d := a) (S.arg ha)) (RGuest.pend (d := a) (S.arg ha)) (RGuest.exit (d := a) (S.arg ha))
 exact ret1_of S (show a = (⟨a.prog, a.acc, a.pc, a.written, a.live, a.ctl, a.pend, a.exit, a.halted, a.seen⟩ : TGuest) by clear S; first | rfl | simp) rfl o23

theorem c_laws_toGuestS (w0 : World) (a : List TGuest) (pa : LP TGuest) (ha : RD w0 a pa) : Calls Tryz.prog 115 [slv a.length pa.1].toArray w0 (Ret1 NoB w0 (a : List TGuest)) := by
 refine Calls.walk NoB Tryz.func115 rfl rfl ?_
 intro ac β S
 have hlea : a.length ≤ 4194304 := LRd.le ha
 refine ws (rg ?_)
 refine S.qe 1 [] [] fun ac w β S => ?_
 refine (nt (ws (rg ?_)))
 refine S.qa 2 [] [(6, .v (I (a.length : Int)))] fun ac w β S => ?_
 refine RG.op rfl (S.make (α := TGuest) (m := a.length) (by' := 184) (d := 7) (by kernel_rfl) (by omega) (show a.length ≤ 4194304 by omega) fun ac w N q1 F2 S up o3 d4 => ?_)
 clear up d4
 refine S.qe 1 [] [(3, .v (slv a.length q1.1))] fun ac w β S => ?_
 refine (nt (ws (ws (rg ?_))))
 refine S.qe 1 [] [(4, .v (I 0))] fun ac w β S => ?_
 refine (nt (wp_block ?_))
 refine wp_loop_down (fun mm ac w => ∃ (k : Nat) (acc : List TGuest) (q5 : _) (F6 : _) (u : _) (N : _) (β : _), mm = a.length - k ∧ (k ≤ a.length) ∧ (acc = a.take k ++ List.replicate (a.length - k) (GT.dflt : TGuest)) ∧ St Tryz.prog Tryz.f115.ntmps w0 NoB u N β ⟨[(0, .v (slv a.length pa.1)), (3, .v (slv a.length q5.1)), (4, .v (I (k : Int)))], []⟩ ac w ∧ Ow w0 NoB u N F6 acc q5) _ ⟨0, (List.replicate a.length (GT.dflt : TGuest)), q1, F2, _, _, _, rfl, o0, (by simp), S.z, o3⟩ ?_
 clear S o3
 rintro mm ac w ⟨k, acc, q5, F6, u, N, β, rfl, hk, hacc, S, o7⟩
 have hlacc : acc.length = a.length := by rw [hacc]; simp; omega
 refine ws (ws (rg ?_))
 refine S.qe 4 [] [(11, .v (B (decide ((k : Int) < (a.length : Int)))))] fun ac w β S => ?_
 refine (nt (S.c (decide ((k : Int) < (a.length : Int))) (fun h8 => ?_) (fun h8 => ?_)))
 ·have g9 := of_decide_eq_true h8
  refine wk (nt (ws (wp_block (rg ?_))))
  refine S.qb 6 [] [(14, .v (slv a.length q5.1)), (15, .v (I (k : Int))), (19, .v (GT.val (el a k) (pa.2 k)))] (.cons (qn (S.arg ha) k Tryz.underlying84) (.cons (qs (S.arg ha) 159 k) .nil)) fun ac w β S => ?_
  refine RG.op rfl (S.k1 20 (c_laws_toGuest w (el a k) (pa.2 k) (S.rd (LRd.el (S.arg ha) k (by omega)))) fun ac w N q10 F11 S up o12 d13 => ?_)
  have d14 := Disj.w d13 o7.sub
  replace o7 := o7.up up
  clear up d13
  have i18 : In64 (el a k).acc := RGuest.acc (d := (el a k)) o12.rn
  have i19 : In64 (el a k).pc := RGuest.pc (d := (el a k)) o12.rn
  have i26 : RCtl (el a k).ctl := RGuest.ctl (d := (el a k)) o12.rn
  have i27 : In64 (el a k).pend := RGuest.pend (d := (el a k)) o12.rn
  have i28 : RExit (el a k).exit := RGuest.exit (d := (el a k)) o12.rn
  obtain ⟨F15, F20, F23, F29, o16, o21, o24, o30, s17, s22, s25, s31, d32, d33, d34, d35, d36, d37⟩ := sp_Guest o12
  refine S.qb 1 [] [(20, .v (GT.val (el a k) q10)), (21, .v (pt q5.1.b (q5.1.off + k * 15)))] (.cons (Q_idx o7.rn (l := a.length) (k := k) (i := (k : Int)) (by rw [hacc]; simp; omega) rfl (by omega) Tryz.underlying49 (by kernel_rfl)) .nil) fun ac w β S => ?_
  have o42 := ow_Guest (x := (el a k)) (p := q10) o16 o21 o24 o30 d32 d33 d34 d35 d36 d37 i18 i19 i26 i27 i28
  refine RG.op rfl (S.sV (α := TGuest) o7 (t := 99) (k := k) (off := q5.1.off + k * 15) o42 (Disj.symm (Disj.or (Disj.part (Disj.symm d14) s17) (Disj.or (Disj.part (Disj.symm d14) s22) (Disj.or (Disj.part (Disj.symm d14) s25) (Disj.or (Disj.part (Disj.symm d14) s31) Disj.nob))))) fun w N F39 q40 S up o38 d41 s43 n44 => ?_)
  clear up d41 o7 n44
  have l45 : (acc.set k (el a k)).length = acc.length := List.length_set
  refine rd (nb (nt (rg ?_)))
  refine S.qg 3 [] [(4, .v (I ((k : Int) + 1)))] (.cons (qp (k : Int) 1) .nil) fun ac w β S => ?_
  refine (nt ?_)
  refine ⟨a.length - (k + 1), by omega, k + 1, (acc.set k (el a k)), (q5.1, q40), F39, _, _, _, rfl, ?_, ?_, S.z, o38⟩
  ·exact oz
  ·clear S; rw [hacc]; exact set_step (by omega)
 have g46 := of_decide_eq_false h8
 refine wp_exit (ex_then (ex_then (ex_hit (nt (ws (rg ?_))))))
 refine S.qe 2 [] [(2, .v (slv a.length q5.1))] fun ac w β S => ?_
 exact (nt (wr (S.r [slv a.length q5.1] (ret1_of S (show a = acc by clear S; rw [hacc, take_all (by omega), show a.length - k = 0 by omega]; simp) (by rw [show a.length = acc.length from (by rw [hacc]; simp; omega)]; rfl) o7))))

theorem c_laws_toKept (w0 : World) (a : TKept) (pa : PKept) (ha : RD w0 a pa) : Calls Tryz.prog 152 [GT.val a pa].toArray w0 (Ret1 NoB w0 (a : TKept)) := by
 refine Calls.walk NoB Tryz.func152 rfl rfl ?_
 intro ac β S
 have hlea_known : a.known.length ≤ 4194304 := LRd.le (RKept.known (d := a) ha)
 have hlea_slots : a.slots.length ≤ 4194304 := LRd.le (RKept.slots (d := a) ha)
 refine ws (rg ?_)
 refine S.qem 2 [] [(1, .p 0 0), (2, .p 1 0)] 2 [(0, GT.cells a pa), (1, Zc TKept)] fun ac w β S => ?_
 refine (nt (ws (rg ?_)))
 refine S.qem 1 [] [(3, .p 2 0)] 3 [(2, Zc TKept)] fun ac w β S => ?_
 refine (nt (ws (rg ?_)))
 refine S.qa 2 [] [(5, .v (slv a.known.length pa.known.1))] fun ac w β S => ?_
 refine RG.op rfl (S.k1 6 (c_laws_toBoolS w a.known pa.known (S.rd (RKept.known (d := a) (S.arg ha)))) fun ac w N q1 F2 S up o3 d4 => ?_)
 clear up d4
 refine S.qem 2 [] [] 3 [(2, [slv a.known.length q1.1, slv ([] : List TSlot).length (GT.pdflt (α := List TSlot)).1])] fun ac w β S => ?_
 refine (nt (ws (rg ?_)))
 refine S.qa 2 [] [(9, .v (slv a.slots.length pa.slots.1))] fun ac w β S => ?_
 refine RG.op rfl (S.k1 10 (c_laws_toSlotS w a.slots pa.slots (S.rd (RKept.slots (d := a) (S.arg ha)))) fun ac w N q5 F6 S up o7 d8 => ?_)
 have d9 := Disj.w d8 o3.sub
 replace o3 := o3.up up
 clear up d8
 refine S.qem 2 [] [] 3 [(2, [slv a.known.length q1.1, slv a.slots.length q5.1])] fun ac w β S => ?_
 refine (nt (ws (rg ?_)))
 refine S.qem 2 [] [] 2 [(1, [slv a.known.length q1.1, slv a.slots.length q5.1])] fun ac w β S => ?_
 refine (nt (wr (S.r [GT.val (⟨a.known, a.slots⟩ : TKept) (⟨q1, q5⟩ : PKept)] ?_)))
 have o10 := ow_Kept (x := (⟨a.known, a.slots⟩ : TKept)) (p := (⟨q1, q5⟩ : PKept)) o3 o7 d9 
 exact ret1_of S (show a = (⟨a.known, a.slots⟩ : TKept) by clear S; first | rfl | simp) rfl o10

theorem c_laws_toKeptS (w0 : World) (a : List TKept) (pa : LP TKept) (ha : RD w0 a pa) : Calls Tryz.prog 116 [slv a.length pa.1].toArray w0 (Ret1 NoB w0 (a : List TKept)) := by
 refine Calls.walk NoB Tryz.func116 rfl rfl ?_
 intro ac β S
 have hlea : a.length ≤ 4194304 := LRd.le ha
 refine ws (rg ?_)
 refine S.qe 1 [] [] fun ac w β S => ?_
 refine (nt (ws (rg ?_)))
 refine S.qa 2 [] [(6, .v (I (a.length : Int)))] fun ac w β S => ?_
 refine RG.op rfl (S.make (α := TKept) (m := a.length) (by' := 48) (d := 7) (by kernel_rfl) (by omega) (show a.length ≤ 4194304 by omega) fun ac w N q1 F2 S up o3 d4 => ?_)
 clear up d4
 refine S.qe 1 [] [(3, .v (slv a.length q1.1))] fun ac w β S => ?_
 refine (nt (ws (ws (rg ?_))))
 refine S.qe 1 [] [(4, .v (I 0))] fun ac w β S => ?_
 refine (nt (wp_block ?_))
 refine wp_loop_down (fun mm ac w => ∃ (k : Nat) (acc : List TKept) (q5 : _) (F6 : _) (u : _) (N : _) (β : _), mm = a.length - k ∧ (k ≤ a.length) ∧ (acc = a.take k ++ List.replicate (a.length - k) (GT.dflt : TKept)) ∧ St Tryz.prog Tryz.f116.ntmps w0 NoB u N β ⟨[(0, .v (slv a.length pa.1)), (3, .v (slv a.length q5.1)), (4, .v (I (k : Int)))], []⟩ ac w ∧ Ow w0 NoB u N F6 acc q5) _ ⟨0, (List.replicate a.length (GT.dflt : TKept)), q1, F2, _, _, _, rfl, o0, (by simp), S.z, o3⟩ ?_
 clear S o3
 rintro mm ac w ⟨k, acc, q5, F6, u, N, β, rfl, hk, hacc, S, o7⟩
 have hlacc : acc.length = a.length := by rw [hacc]; simp; omega
 refine ws (ws (rg ?_))
 refine S.qe 4 [] [(11, .v (B (decide ((k : Int) < (a.length : Int)))))] fun ac w β S => ?_
 refine (nt (S.c (decide ((k : Int) < (a.length : Int))) (fun h8 => ?_) (fun h8 => ?_)))
 ·have g9 := of_decide_eq_true h8
  refine wk (nt (ws (wp_block (rg ?_))))
  refine S.qb 6 [] [(14, .v (slv a.length q5.1)), (15, .v (I (k : Int))), (19, .v (GT.val (el a k) (pa.2 k)))] (.cons (qn (S.arg ha) k Tryz.underlying85) (.cons (qs (S.arg ha) 162 k) .nil)) fun ac w β S => ?_
  refine RG.op rfl (S.k1 20 (c_laws_toKept w (el a k) (pa.2 k) (S.rd (LRd.el (S.arg ha) k (by omega)))) fun ac w N q10 F11 S up o12 d13 => ?_)
  have d14 := Disj.w d13 o7.sub
  replace o7 := o7.up up
  clear up d13
  obtain ⟨F15, F18, o16, o19, s17, s20, d21⟩ := sp_Kept o12
  refine S.qb 1 [] [(20, .v (GT.val (el a k) q10)), (21, .v (pt q5.1.b (q5.1.off + k * 2)))] (.cons (Q_idx o7.rn (l := a.length) (k := k) (i := (k : Int)) (by rw [hacc]; simp; omega) rfl (by omega) Tryz.underlying51 (by kernel_rfl)) .nil) fun ac w β S => ?_
  have o26 := ow_Kept (x := (el a k)) (p := q10) o16 o19 d21 
  refine RG.op rfl (S.sV (α := TKept) o7 (t := 91) (k := k) (off := q5.1.off + k * 2) o26 (Disj.symm (Disj.or (Disj.part (Disj.symm d14) s17) (Disj.or (Disj.part (Disj.symm d14) s20) Disj.nob))) fun w N F23 q24 S up o22 d25 s27 n28 => ?_)
  clear up d25 o7 n28
  have l29 : (acc.set k (el a k)).length = acc.length := List.length_set
  refine rd (nb (nt (rg ?_)))
  refine S.qg 3 [] [(4, .v (I ((k : Int) + 1)))] (.cons (qp (k : Int) 1) .nil) fun ac w β S => ?_
  refine (nt ?_)
  refine ⟨a.length - (k + 1), by omega, k + 1, (acc.set k (el a k)), (q5.1, q24), F23, _, _, _, rfl, ?_, ?_, S.z, o22⟩
  ·exact oz
  ·clear S; rw [hacc]; exact set_step (by omega)
 have g30 := of_decide_eq_false h8
 refine wp_exit (ex_then (ex_then (ex_hit (nt (ws (rg ?_))))))
 refine S.qe 2 [] [(2, .v (slv a.length q5.1))] fun ac w β S => ?_
 exact (nt (wr (S.r [slv a.length q5.1] (ret1_of S (show a = acc by clear S; rw [hacc, take_all (by omega), show a.length - k = 0 by omega]; simp) (by rw [show a.length = acc.length from (by rw [hacc]; simp; omega)]; rfl) o7))))

theorem c_laws_toMon (w0 : World) (a : TMon) (pa : PMon) (ha : RD w0 a pa) : Calls Tryz.prog 66 [GT.val a pa].toArray w0 (Ret1 NoB w0 (a : TMon)) := by
 refine Calls.walk NoB Tryz.func66 rfl rfl ?_
 intro ac β S
 have hlea_outer : a.outer.length ≤ 4194304 := LRd.le (RMon.outer (d := a) ha)
 have hlea_out : a.out.length ≤ 4194304 := LRd.le (RMon.out (d := a) ha)
 have hlea_dirty : a.dirty.length ≤ 4194304 := LRd.le (RMon.dirty (d := a) ha)
 have hlea_guests : a.guests.length ≤ 4194304 := LRd.le (RMon.guests (d := a) ha)
 have hlea_outs : a.outs.length ≤ 4194304 := LRd.le (RMon.outs (d := a) ha)
 have hlea_tables : a.tables.length ≤ 4194304 := LRd.le (RMon.tables (d := a) ha)
 refine ws (rg ?_)
 refine S.qem 2 [] [(1, .p 0 0), (2, .p 1 0)] 2 [(0, GT.cells a pa), (1, Zc TMon)] fun ac w β S => ?_
 refine (nt (ws (rg ?_)))
 refine S.qem 1 [] [(3, .p 2 0)] 3 [(2, Zc TMon)] fun ac w β S => ?_
 refine (nt (ws (rg ?_)))
 refine S.qa 2 [] [(5, .v (slv a.outer.length pa.outer.1))] fun ac w β S => ?_
 refine RG.op rfl (S.k1 6 (c_laws_toSlotS w a.outer pa.outer (S.rd (RMon.outer (d := a) (S.arg ha)))) fun ac w N q1 F2 S up o3 d4 => ?_)
 clear up d4
 refine S.qem 2 [] [] 3 [(2, [slv a.outer.length q1.1, slv ([] : List (List Int)).length (GT.pdflt (α := List (List Int))).1, slv ([] : List Bool).length (GT.pdflt (α := List Bool)).1, slv ([] : List TGuest).length (GT.pdflt (α := List TGuest)).1, slv ([] : List Int).length (GT.pdflt (α := List Int)).1, I 0, I 0, slv ([] : List TKept).length (GT.pdflt (α := List TKept)).1, I 0])] fun ac w β S => ?_
 refine (nt (ws (rg ?_)))
 refine S.qa 2 [] [(9, .v (slv a.out.length pa.out.1))] fun ac w β S => ?_
 refine RG.op rfl (S.k1 10 (c_laws_toIntSS w a.out pa.out (S.rd (RMon.out (d := a) (S.arg ha)))) fun ac w N q5 F6 S up o7 d8 => ?_)
 have d9 := Disj.w d8 o3.sub
 replace o3 := o3.up up
 clear up d8
 refine S.qem 2 [] [] 3 [(2, [slv a.outer.length q1.1, slv a.out.length q5.1, slv ([] : List Bool).length (GT.pdflt (α := List Bool)).1, slv ([] : List TGuest).length (GT.pdflt (α := List TGuest)).1, slv ([] : List Int).length (GT.pdflt (α := List Int)).1, I 0, I 0, slv ([] : List TKept).length (GT.pdflt (α := List TKept)).1, I 0])] fun ac w β S => ?_
 refine (nt (ws (rg ?_)))
 refine S.qa 2 [] [(13, .v (slv a.dirty.length pa.dirty.1))] fun ac w β S => ?_
 refine RG.op rfl (S.k1 14 (c_laws_toBoolS w a.dirty pa.dirty (S.rd (RMon.dirty (d := a) (S.arg ha)))) fun ac w N q10 F11 S up o12 d13 => ?_)
 have d14 := Disj.w d13 o3.sub
 have d15 := Disj.w d13 o7.sub
 replace o3 := o3.up up
 replace o7 := o7.up up
 clear up d13
 refine S.qem 2 [] [] 3 [(2, [slv a.outer.length q1.1, slv a.out.length q5.1, slv a.dirty.length q10.1, slv ([] : List TGuest).length (GT.pdflt (α := List TGuest)).1, slv ([] : List Int).length (GT.pdflt (α := List Int)).1, I 0, I 0, slv ([] : List TKept).length (GT.pdflt (α := List TKept)).1, I 0])] fun ac w β S => ?_
 refine (nt (ws (rg ?_)))
 refine S.qa 2 [] [(17, .v (slv a.guests.length pa.guests.1))] fun ac w β S => ?_
 refine RG.op rfl (S.k1 18 (c_laws_toGuestS w a.guests pa.guests (S.rd (RMon.guests (d := a) (S.arg ha)))) fun ac w N q16 F17 S up o18 d19 => ?_)
 have d20 := Disj.w d19 o3.sub
 have d21 := Disj.w d19 o7.sub
 have d22 := Disj.w d19 o12.sub
 replace o3 := o3.up up
 replace o7 := o7.up up
 replace o12 := o12.up up
 clear up d19
 refine S.qem 2 [] [] 3 [(2, [slv a.outer.length q1.1, slv a.out.length q5.1, slv a.dirty.length q10.1, slv a.guests.length q16.1, slv ([] : List Int).length (GT.pdflt (α := List Int)).1, I 0, I 0, slv ([] : List TKept).length (GT.pdflt (α := List TKept)).1, I 0])] fun ac w β S => ?_
 refine (nt (ws (rg ?_)))
 refine S.qa 2 [] [(21, .v (slv a.outs.length pa.outs.1))] fun ac w β S => ?_
 refine RG.op rfl (S.k1 22 (c_laws_toIntS w a.outs pa.outs (S.rd (RMon.outs (d := a) (S.arg ha)))) fun ac w N q23 F24 S up o25 d26 => ?_)
 have d27 := Disj.w d26 o3.sub
 have d28 := Disj.w d26 o7.sub
 have d29 := Disj.w d26 o12.sub
 have d30 := Disj.w d26 o18.sub
 replace o3 := o3.up up
 replace o7 := o7.up up
 replace o12 := o12.up up
 replace o18 := o18.up up
 clear up d26
 refine S.qem 2 [] [] 3 [(2, [slv a.outer.length q1.1, slv a.out.length q5.1, slv a.dirty.length q10.1, slv a.guests.length q16.1, slv a.outs.length q23.1, I 0, I 0, slv ([] : List TKept).length (GT.pdflt (α := List TKept)).1, I 0])] fun ac w β S => ?_
 refine (nt (ws (rg ?_)))
 refine S.qem 4 [] [] 3 [(2, [slv a.outer.length q1.1, slv a.out.length q5.1, slv a.dirty.length q10.1, slv a.guests.length q16.1, slv a.outs.length q23.1, I a.pend, I 0, slv ([] : List TKept).length (GT.pdflt (α := List TKept)).1, I 0])] fun ac w β S => ?_
 refine (nt (ws (rg ?_)))
 refine S.qem 4 [] [] 3 [(2, [slv a.outer.length q1.1, slv a.out.length q5.1, slv a.dirty.length q10.1, slv a.guests.length q16.1, slv a.outs.length q23.1, I a.pend, I a.traps, slv ([] : List TKept).length (GT.pdflt (α := List TKept)).1, I 0])] fun ac w β S => ?_
 refine (nt (ws (rg ?_)))
 refine S.qa 2 [] [(31, .v (slv a.tables.length pa.tables.1))] fun ac w β S => ?_
 refine RG.op rfl (S.k1 32 (c_laws_toKeptS w a.tables pa.tables (S.rd (RMon.tables (d := a) (S.arg ha)))) fun ac w N q31 F32 S up o33 d34 => ?_)
 have d35 := Disj.w d34 o3.sub
 have d36 := Disj.w d34 o7.sub
 have d37 := Disj.w d34 o12.sub
 have d38 := Disj.w d34 o18.sub
 have d39 := Disj.w d34 o25.sub
 replace o3 := o3.up up
 replace o7 := o7.up up
 replace o12 := o12.up up
 replace o18 := o18.up up
 replace o25 := o25.up up
 clear up d34
 refine S.qem 2 [] [] 3 [(2, [slv a.outer.length q1.1, slv a.out.length q5.1, slv a.dirty.length q10.1, slv a.guests.length q16.1, slv a.outs.length q23.1, I a.pend, I a.traps, slv a.tables.length q31.1, I 0])] fun ac w β S => ?_
 refine (nt (ws (rg ?_)))
 refine S.qem 4 [] [] 3 [(2, [slv a.outer.length q1.1, slv a.out.length q5.1, slv a.dirty.length q10.1, slv a.guests.length q16.1, slv a.outs.length q23.1, I a.pend, I a.traps, slv a.tables.length q31.1, I a.owned])] fun ac w β S => ?_
 refine (nt (ws (rg ?_)))
 refine S.qem 2 [] [] 2 [(1, [slv a.outer.length q1.1, slv a.out.length q5.1, slv a.dirty.length q10.1, slv a.guests.length q16.1, slv a.outs.length q23.1, I a.pend, I a.traps, slv a.tables.length q31.1, I a.owned])] fun ac w β S => ?_
 refine (nt (wr (S.r [GT.val (⟨a.outer, a.out, a.dirty, a.guests, a.outs, a.pend, a.traps, a.tables, a.owned⟩ : TMon) (⟨q1, q5, q10, q16, q23, q31⟩ : PMon)] ?_)))
 have o40 := ow_Mon (x := (⟨a.outer, a.out, a.dirty, a.guests, a.outs, a.pend, a.traps, a.tables, a.owned⟩ : TMon)) (p := (⟨q1, q5, q10, q16, q23, q31⟩ : PMon)) o3 o7 o12 o18 o25 o33 d9 d14 d20 d27 d35 d15 d21 d28 d36 d22 d29 d37 d30 d38 d39 (RMon.pend (d := a) (S.arg ha)) (RMon.traps (d := a) (S.arg ha)) (RMon.owned (d := a) (S.arg ha))
 exact ret1_of S (show a = (⟨a.outer, a.out, a.dirty, a.guests, a.outs, a.pend, a.traps, a.tables, a.owned⟩ : TMon) by clear S; first | rfl | simp) rfl o40

theorem c_laws_toMonS (w0 : World) (a : List TMon) (pa : LP TMon) (ha : RD w0 a pa) : Calls Tryz.prog 31 [slv a.length pa.1].toArray w0 (Ret1 NoB w0 (a : List TMon)) := by
 refine Calls.walk NoB Tryz.func31 rfl rfl ?_
 intro ac β S
 have hlea : a.length ≤ 4194304 := LRd.le ha
 refine ws (rg ?_)
 refine S.qe 1 [] [] fun ac w β S => ?_
 refine (nt (ws (rg ?_)))
 refine S.qa 2 [] [(6, .v (I (a.length : Int)))] fun ac w β S => ?_
 refine RG.op rfl (S.make (α := TMon) (m := a.length) (by' := 168) (d := 7) (by kernel_rfl) (by omega) (show a.length ≤ 4194304 by omega) fun ac w N q1 F2 S up o3 d4 => ?_)
 clear up d4
 refine S.qe 1 [] [(3, .v (slv a.length q1.1))] fun ac w β S => ?_
 refine (nt (ws (ws (rg ?_))))
 refine S.qe 1 [] [(4, .v (I 0))] fun ac w β S => ?_
 refine (nt (wp_block ?_))
 refine wp_loop_down (fun mm ac w => ∃ (k : Nat) (acc : List TMon) (q5 : _) (F6 : _) (u : _) (N : _) (β : _), mm = a.length - k ∧ (k ≤ a.length) ∧ (acc = a.take k ++ List.replicate (a.length - k) (GT.dflt : TMon)) ∧ St Tryz.prog Tryz.f31.ntmps w0 NoB u N β ⟨[(0, .v (slv a.length pa.1)), (3, .v (slv a.length q5.1)), (4, .v (I (k : Int)))], []⟩ ac w ∧ Ow w0 NoB u N F6 acc q5) _ ⟨0, (List.replicate a.length (GT.dflt : TMon)), q1, F2, _, _, _, rfl, o0, (by simp), S.z, o3⟩ ?_
 clear S o3
 rintro mm ac w ⟨k, acc, q5, F6, u, N, β, rfl, hk, hacc, S, o7⟩
 have hlacc : acc.length = a.length := by rw [hacc]; simp; omega
 refine ws (ws (rg ?_))
 refine S.qe 4 [] [(11, .v (B (decide ((k : Int) < (a.length : Int)))))] fun ac w β S => ?_
 refine (nt (S.c (decide ((k : Int) < (a.length : Int))) (fun h8 => ?_) (fun h8 => ?_)))
 ·have g9 := of_decide_eq_true h8
  refine wk (nt (ws (wp_block (rg ?_))))
  refine S.qb 6 [] [(14, .v (slv a.length q5.1)), (15, .v (I (k : Int))), (19, .v (GT.val (el a k) (pa.2 k)))] (.cons (qn (S.arg ha) k Tryz.underlying23) (.cons (qs (S.arg ha) 87 k) .nil)) fun ac w β S => ?_
  refine RG.op rfl (S.k1 20 (c_laws_toMon w (el a k) (pa.2 k) (S.rd (LRd.el (S.arg ha) k (by omega)))) fun ac w N q10 F11 S up o12 d13 => ?_)
  have d14 := Disj.w d13 o7.sub
  replace o7 := o7.up up
  clear up d13
  have i30 : In64 (el a k).pend := RMon.pend (d := (el a k)) o12.rn
  have i31 : In64 (el a k).traps := RMon.traps (d := (el a k)) o12.rn
  have i35 : In64 (el a k).owned := RMon.owned (d := (el a k)) o12.rn
  obtain ⟨F15, F18, F21, F24, F27, F32, o16, o19, o22, o25, o28, o33, s17, s20, s23, s26, s29, s34, d36, d37, d38, d39, d40, d41, d42, d43, d44, d45, d46, d47, d48, d49, d50⟩ := sp_Mon o12
  refine S.qb 1 [] [(20, .v (GT.val (el a k) q10)), (21, .v (pt q5.1.b (q5.1.off + k * 9)))] (.cons (Q_idx o7.rn (l := a.length) (k := k) (i := (k : Int)) (by rw [hacc]; simp; omega) rfl (by omega) Tryz.underlying28 (by kernel_rfl)) .nil) fun ac w β S => ?_
  have o55 := ow_Mon (x := (el a k)) (p := q10) o16 o19 o22 o25 o28 o33 d36 d37 d38 d39 d40 d41 d42 d43 d44 d45 d46 d47 d48 d49 d50 i30 i31 i35
  refine RG.op rfl (S.sV (α := TMon) o7 (t := 53) (k := k) (off := q5.1.off + k * 9) o55 (Disj.symm (Disj.or (Disj.part (Disj.symm d14) s17) (Disj.or (Disj.part (Disj.symm d14) s20) (Disj.or (Disj.part (Disj.symm d14) s23) (Disj.or (Disj.part (Disj.symm d14) s26) (Disj.or (Disj.part (Disj.symm d14) s29) (Disj.or (Disj.part (Disj.symm d14) s34) Disj.nob))))))) fun w N F52 q53 S up o51 d54 s56 n57 => ?_)
  clear up d54 o7 n57
  have l58 : (acc.set k (el a k)).length = acc.length := List.length_set
  refine rd (nb (nt (rg ?_)))
  refine S.qg 3 [] [(4, .v (I ((k : Int) + 1)))] (.cons (qp (k : Int) 1) .nil) fun ac w β S => ?_
  refine (nt ?_)
  refine ⟨a.length - (k + 1), by omega, k + 1, (acc.set k (el a k)), (q5.1, q53), F52, _, _, _, rfl, ?_, ?_, S.z, o51⟩
  ·exact oz
  ·clear S; rw [hacc]; exact set_step (by omega)
 have g59 := of_decide_eq_false h8
 refine wp_exit (ex_then (ex_then (ex_hit (nt (ws (rg ?_))))))
 refine S.qe 2 [] [(2, .v (slv a.length q5.1))] fun ac w β S => ?_
 exact (nt (wr (S.r [slv a.length q5.1] (ret1_of S (show a = acc by clear S; rw [hacc, take_all (by omega), show a.length - k = 0 by omega]; simp) (by rw [show a.length = acc.length from (by rw [hacc]; simp; omega)]; rfl) o7))))

theorem c_laws_toEntry (w0 : World) (a : TEntry) : Calls Tryz.prog 67 [GT.val a ()].toArray w0 (fun e w' => e = .returned (GT.val a ()) ∧ Chg NoB w0 w') := by
 refine Calls.walk NoB Tryz.func67 rfl rfl ?_
 intro ac β S
 refine ws (rg ?_)
 refine S.qem 2 [] [(1, .p 0 0), (2, .p 1 0)] 2 [(0, GT.cells a ()), (1, Zc TEntry)] fun ac w β S => ?_
 refine (nt (ws (rg ?_)))
 refine S.qem 1 [] [(3, .p 2 0)] 3 [(2, Zc TEntry)] fun ac w β S => ?_
 refine (nt (ws (rg ?_)))
 refine S.qem 4 [] [] 3 [(2, [I a.tag, I 0, I 0, I 0])] fun ac w β S => ?_
 refine (nt (ws (rg ?_)))
 refine S.qem 4 [] [] 3 [(2, [I a.tag, I a.page, I 0, I 0])] fun ac w β S => ?_
 refine (nt (ws (rg ?_)))
 refine S.qem 4 [] [] 3 [(2, [I a.tag, I a.page, I a.host, I 0])] fun ac w β S => ?_
 refine (nt (ws (rg ?_)))
 refine S.qem 4 [] [] 3 [(2, [I a.tag, I a.page, I a.host, I a.rights])] fun ac w β S => ?_
 refine (nt (ws (rg ?_)))
 refine S.qem 2 [] [] 2 [(1, [I a.tag, I a.page, I a.host, I a.rights])] fun ac w β S => ?_
 exact (nt (wr (S.r [GT.val (⟨a.tag, a.page, a.host, a.rights⟩ : TEntry) ()] ⟨retV (p := ()) (by clear S; first | rfl | (simp [a, *]; done) | (simp [a, *]; omega) | (simp_all [a]; done) | (simp_all [a]; omega)), S.chg⟩)))

theorem c_laws_toEntryS (w0 : World) (a : List TEntry) (pa : LP TEntry) (ha : RD w0 a pa) : Calls Tryz.prog 32 [slv a.length pa.1].toArray w0 (Ret1 NoB w0 (a : List TEntry)) := by
 refine Calls.walk NoB Tryz.func32 rfl rfl ?_
 intro ac β S
 have hlea : a.length ≤ 4194304 := LRd.le ha
 refine ws (rg ?_)
 refine S.qe 1 [] [] fun ac w β S => ?_
 refine (nt (ws (rg ?_)))
 refine S.qa 2 [] [(6, .v (I (a.length : Int)))] fun ac w β S => ?_
 refine RG.op rfl (S.make (α := TEntry) (m := a.length) (by' := 32) (d := 7) (by kernel_rfl) (by omega) (show a.length ≤ 4194304 by omega) fun ac w N q1 F2 S up o3 d4 => ?_)
 clear up d4
 refine S.qe 1 [] [(3, .v (slv a.length q1.1))] fun ac w β S => ?_
 refine (nt (ws (ws (rg ?_))))
 refine S.qe 1 [] [(4, .v (I 0))] fun ac w β S => ?_
 refine (nt (wp_block ?_))
 refine wp_loop_down (fun mm ac w => ∃ (k : Nat) (acc : List TEntry) (q5 : _) (F6 : _) (u : _) (N : _) (β : _), mm = a.length - k ∧ (k ≤ a.length) ∧ (acc = a.take k ++ List.replicate (a.length - k) (GT.dflt : TEntry)) ∧ St Tryz.prog Tryz.f32.ntmps w0 NoB u N β ⟨[(0, .v (slv a.length pa.1)), (3, .v (slv a.length q5.1)), (4, .v (I (k : Int)))], []⟩ ac w ∧ Ow w0 NoB u N F6 acc q5) _ ⟨0, (List.replicate a.length (GT.dflt : TEntry)), q1, F2, _, _, _, rfl, o0, (by simp), S.z, o3⟩ ?_
 clear S o3
 rintro mm ac w ⟨k, acc, q5, F6, u, N, β, rfl, hk, hacc, S, o7⟩
 have hlacc : acc.length = a.length := by rw [hacc]; simp; omega
 refine ws (ws (rg ?_))
 refine S.qe 4 [] [(11, .v (B (decide ((k : Int) < (a.length : Int)))))] fun ac w β S => ?_
 refine (nt (S.c (decide ((k : Int) < (a.length : Int))) (fun h8 => ?_) (fun h8 => ?_)))
 ·have g9 := of_decide_eq_true h8
  refine wk (nt (ws (wp_block (rg ?_))))
  refine S.qb 8 [] [(20, .v (GT.val (el a k) ())), (21, .v (pt q5.1.b (q5.1.off + k * 4)))] (.cons (qn (S.arg ha) k Tryz.underlying24) (.cons (qs (S.arg ha) 106 k) (.cons (Q_call fun w hw => c_laws_toEntry w (el a k)) (.cons (Q_idx o7.rn (l := a.length) (k := k) (i := (k : Int)) (by rw [hacc]; simp; omega) rfl (by omega) Tryz.underlying29 (by kernel_rfl)) .nil)))) fun ac w β S => ?_
  have e10 : REntry (el acc k) := (LRd.el o7.rn k (by omega))
  refine RG.op rfl (S.sF (α := TEntry) o7 (t := 104) (k := k) (j := 0) (off := q5.1.off + k * 4) (v := GT.val (el a k) ()) (y := (el a k)) (q := ()) (fun _ _ _ => ⟨NoB, (LRd.el (S.arg ha) k (by omega)), fun _ h => False.elim h⟩) fun w N F12 q13 S up o11 d14 s15 n16 => ?_)
  clear up d14 o7 n16
  have l17 : (acc.set k (el a k)).length = acc.length := List.length_set
  refine rd (nb (nt (rg ?_)))
  refine S.qg 3 [] [(4, .v (I ((k : Int) + 1)))] (.cons (qp (k : Int) 1) .nil) fun ac w β S => ?_
  refine (nt ?_)
  refine ⟨a.length - (k + 1), by omega, k + 1, (acc.set k (el a k)), (q5.1, q13), F12, _, _, _, rfl, ?_, ?_, S.z, o11⟩
  ·exact oz
  ·clear S; rw [hacc]; exact set_step (by omega)
 have g18 := of_decide_eq_false h8
 refine wp_exit (ex_then (ex_then (ex_hit (nt (ws (rg ?_))))))
 refine S.qe 2 [] [(2, .v (slv a.length q5.1))] fun ac w β S => ?_
 exact (nt (wr (S.r [slv a.length q5.1] (ret1_of S (show a = acc by clear S; rw [hacc, take_all (by omega), show a.length - k = 0 by omega]; simp) (by rw [show a.length = acc.length from (by rw [hacc]; simp; omega)]; rfl) o7))))

theorem c_laws_toHost (w0 : World) (a : THost) (pa : PHost) (ha : RD w0 a pa) : Calls Tryz.prog 10 [GT.val a pa].toArray w0 (Ret1 NoB w0 (a : THost)) := by
 refine Calls.walk NoB Tryz.func10 rfl rfl ?_
 intro ac β S
 have hlea_mem : a.mem.length ≤ 4194304 := LRd.le (RHost.mem (d := a) ha)
 have hlea_mons : a.mons.length ≤ 4194304 := LRd.le (RHost.mons (d := a) ha)
 have hlea_buf : a.buf.length ≤ 4194304 := LRd.le (RHost.buf (d := a) ha)
 have hlea_iobuf : a.iobuf.length ≤ 4194304 := LRd.le (RHost.iobuf (d := a) ha)
 refine ws (rg ?_)
 refine S.qem 2 [] [(1, .p 0 0), (2, .p 1 0)] 2 [(0, GT.cells a pa), (1, Zc THost)] fun ac w β S => ?_
 refine (nt (ws (rg ?_)))
 refine S.qem 1 [] [(3, .p 2 0)] 3 [(2, Zc THost)] fun ac w β S => ?_
 refine (nt (ws (rg ?_)))
 refine S.qa 2 [] [(5, .v (slv a.mem.length pa.mem.1))] fun ac w β S => ?_
 refine RG.op rfl (S.k1 6 (c_laws_toIntSS w a.mem pa.mem (S.rd (RHost.mem (d := a) (S.arg ha)))) fun ac w N q1 F2 S up o3 d4 => ?_)
 clear up d4
 refine S.qem 2 [] [] 3 [(2, [slv a.mem.length q1.1, slv ([] : List TMon).length (GT.pdflt (α := List TMon)).1, slv ([] : List TEntry).length (GT.pdflt (α := List TEntry)).1, slv ([] : List TEntry).length (GT.pdflt (α := List TEntry)).1])] fun ac w β S => ?_
 refine (nt (ws (rg ?_)))
 refine S.qa 2 [] [(9, .v (slv a.mons.length pa.mons.1))] fun ac w β S => ?_
 refine RG.op rfl (S.k1 10 (c_laws_toMonS w a.mons pa.mons (S.rd (RHost.mons (d := a) (S.arg ha)))) fun ac w N q5 F6 S up o7 d8 => ?_)
 have d9 := Disj.w d8 o3.sub
 replace o3 := o3.up up
 clear up d8
 refine S.qem 2 [] [] 3 [(2, [slv a.mem.length q1.1, slv a.mons.length q5.1, slv ([] : List TEntry).length (GT.pdflt (α := List TEntry)).1, slv ([] : List TEntry).length (GT.pdflt (α := List TEntry)).1])] fun ac w β S => ?_
 refine (nt (ws (rg ?_)))
 refine S.qa 2 [] [(13, .v (slv a.buf.length pa.buf.1))] fun ac w β S => ?_
 refine RG.op rfl (S.k1 14 (c_laws_toEntryS w a.buf pa.buf (S.rd (RHost.buf (d := a) (S.arg ha)))) fun ac w N q10 F11 S up o12 d13 => ?_)
 have d14 := Disj.w d13 o3.sub
 have d15 := Disj.w d13 o7.sub
 replace o3 := o3.up up
 replace o7 := o7.up up
 clear up d13
 refine S.qem 2 [] [] 3 [(2, [slv a.mem.length q1.1, slv a.mons.length q5.1, slv a.buf.length q10.1, slv ([] : List TEntry).length (GT.pdflt (α := List TEntry)).1])] fun ac w β S => ?_
 refine (nt (ws (rg ?_)))
 refine S.qa 2 [] [(17, .v (slv a.iobuf.length pa.iobuf.1))] fun ac w β S => ?_
 refine RG.op rfl (S.k1 18 (c_laws_toEntryS w a.iobuf pa.iobuf (S.rd (RHost.iobuf (d := a) (S.arg ha)))) fun ac w N q16 F17 S up o18 d19 => ?_)
 have d20 := Disj.w d19 o3.sub
 have d21 := Disj.w d19 o7.sub
 have d22 := Disj.w d19 o12.sub
 replace o3 := o3.up up
 replace o7 := o7.up up
 replace o12 := o12.up up
 clear up d19
 refine S.qem 2 [] [] 3 [(2, [slv a.mem.length q1.1, slv a.mons.length q5.1, slv a.buf.length q10.1, slv a.iobuf.length q16.1])] fun ac w β S => ?_
 refine (nt (ws (rg ?_)))
 refine S.qem 2 [] [] 2 [(1, [slv a.mem.length q1.1, slv a.mons.length q5.1, slv a.buf.length q10.1, slv a.iobuf.length q16.1])] fun ac w β S => ?_
 refine (nt (wr (S.r [GT.val (⟨a.mem, a.mons, a.buf, a.iobuf⟩ : THost) (⟨q1, q5, q10, q16⟩ : PHost)] ?_)))
 have o23 := ow_Host (x := (⟨a.mem, a.mons, a.buf, a.iobuf⟩ : THost)) (p := (⟨q1, q5, q10, q16⟩ : PHost)) o3 o7 o12 o18 d9 d14 d20 d15 d21 d22 
 exact ret1_of S (show a = (⟨a.mem, a.mons, a.buf, a.iobuf⟩ : THost) by clear S; first | rfl | simp) rfl o23

theorem c_spec_l04Copy (w0 : World) (l : List (List Int)) (pl : LP (List Int)) (hl : RD w0 l pl) : Calls Tryz.prog 60 [slv l.length pl.1].toArray w0 (Ret1 NoB w0 (l : List (List Int))) := by
 refine Calls.walk NoB Tryz.func60 rfl rfl ?_
 intro ac β S
 have hlel : l.length ≤ 4194304 := LRd.le hl
 refine ws (rg ?_)
 refine S.qe 1 [] [] fun ac w β S => ?_
 refine (nt (ws (rg ?_)))
 refine RG.op rfl (S.bs0 (α := List Int) (d := 5) (by kernel_rfl) fun ac w N q1 F2 S up o3 d4 => ?_)
 clear up d4
 refine S.qe 1 [] [(3, .v (slv 0 q1.1))] fun ac w β S => ?_
 refine (nt (ws (ws (rg ?_))))
 refine S.qe 1 [] [(4, .v (I 0))] fun ac w β S => ?_
 refine (nt (wp_block ?_))
 refine wp_loop_down (fun mm ac w => ∃ (k : Nat) (acc : List (List Int)) (q5 : _) (F6 : _) (u : _) (N : _) (β : _), mm = l.length - k ∧ (k ≤ l.length) ∧ (acc = l.take k) ∧ St Tryz.prog Tryz.f60.ntmps w0 NoB u N β ⟨[(0, .v (slv l.length pl.1)), (3, .v (slv acc.length q5.1)), (4, .v (I (k : Int)))], []⟩ ac w ∧ Ow w0 NoB u N F6 acc q5) _ ⟨0, ([] : List (List Int)), q1, F2, _, _, _, rfl, o0, (by simp), S.z, o3⟩ ?_
 clear S o3
 rintro mm ac w ⟨k, acc, q5, F6, u, N, β, rfl, hk, hacc, S, o7⟩
 have hlacc : acc.length = k := by rw [hacc]; simp; omega
 refine ws (ws (rg ?_))
 refine S.qe 4 [] [(9, .v (B (decide ((k : Int) < (l.length : Int)))))] fun ac w β S => ?_
 refine (nt (S.c (decide ((k : Int) < (l.length : Int))) (fun h8 => ?_) (fun h8 => ?_)))
 ·have g9 := of_decide_eq_true h8
  refine wk (nt (ws (wp_block (rg ?_))))
  refine S.qa 1 [] [(12, .v (slv acc.length q5.1))] fun ac w β S => ?_
  refine RG.op rfl (S.bs0 (α := Int) (d := 13) (by kernel_rfl) fun ac w N q10 F11 S up o12 d13 => ?_)
  have d14 := Disj.w d13 o7.sub
  replace o7 := o7.up up
  clear up d13
  refine S.qb 4 [] [(13, .v (slv 0 q10.1)), (17, .v (slv (el l k).length (pl.2 k).1))] (.cons (qn (S.arg hl) k Tryz.underlying22) (.cons (qx (S.arg hl) 50 k) .nil)) fun ac w β S => ?_
  have b19 : (el l k).length ≤ 4194304 := LRd.le (LRd.el (S.arg hl) k (by omega))
  refine RG.op rfl (S.appFlat0 (α := Int) o12 (LRd.el (S.arg hl) k (by omega)) (fun _ _ h => h) (by' := 8) (d := 18) (lx := 0) (ly := (el l k).length) rfl fun ac w N q15 F16 S up o17 d18 => ?_)
  have d20 := d18 _ d14 o7.sub
  replace o7 := o7.upF d14 up
  clear up d18
  refine RG.op rfl (S.bs1 (α := List Int) (x := (el l k)) (p := q15) o17.own o17.sub o17.young (d := 19) (by kernel_rfl) fun ac w N q21 F22 S up o23 d24 => ?_)
  have d25 := d24 _ d20 o7.sub
  replace o7 := o7.up up
  clear up d24
  refine RG.op rfl (S.appOwn (α := List Int) o7 o23 d25 (by' := 24) (d := 20) (lx := acc.length) (ly := 1) rfl rfl (by kernel_rfl) (show _ ≤ 4194304 by simp only [List.length_append, List.length_cons, List.length_nil]; omega) fun ac w N q26 F27 S up o28 d29 => ?_)
  clear up d29
  refine S.qe 1 [] [(3, .v (slv (acc ++ [(el l k)]).length q26.1))] fun ac w β S => ?_
  refine (nb (nt (rg ?_)))
  refine S.qg 3 [] [(4, .v (I ((k : Int) + 1)))] (.cons (qp (k : Int) 1) .nil) fun ac w β S => ?_
  refine (nt ?_)
  refine ⟨l.length - (k + 1), by omega, k + 1, (acc ++ [(el l k)]), q26, F27, _, _, _, rfl, ?_, ?_, S.z, o28⟩
  ·exact oz
  ·clear S; (first | (rw [take_el (by omega), hacc]; done) | (rw [take_el (by omega), hacc]; simp; done))
 have g30 := of_decide_eq_false h8
 refine wp_exit (ex_then (ex_then (ex_hit (nt (ws (rg ?_))))))
 refine S.qe 2 [] [(2, .v (slv acc.length q5.1))] fun ac w β S => ?_
 exact (nt (wr (S.r [slv acc.length q5.1] (ret1_of S (show l = acc by clear S; (rw [hacc, take_all (by omega)])) rfl o7))))

theorem c_spec_l15Copy (w0 : World) (g : TGuest) (pg : PGuest) (hg : RD w0 g pg) : Calls Tryz.prog 144 [GT.val g pg].toArray w0 (Ret1 NoB w0 (g : TGuest)) := by
 refine Calls.walk NoB Tryz.func144 rfl rfl ?_
 intro ac β S
 have hleg_prog : g.prog.length ≤ 4194304 := LRd.le (RGuest.prog (d := g) hg)
 have hleg_written : g.written.length ≤ 4194304 := LRd.le (RGuest.written (d := g) hg)
 have hleg_live : g.live.length ≤ 4194304 := LRd.le (RGuest.live (d := g) hg)
 have hleg_seen : g.seen.length ≤ 4194304 := LRd.le (RGuest.seen (d := g) hg)
 refine ws (rg ?_)
 refine S.qem 2 [] [(1, .p 0 0), (2, .p 1 0)] 2 [(0, GT.cells g pg), (1, Zc TGuest)] fun ac w β S => ?_
 refine (nt (ws (rg ?_)))
 refine RG.op rfl (S.bs0 (α := TIns) (d := 3) (by kernel_rfl) fun ac w N q1 F2 S up o3 d4 => ?_)
 clear up d4
 refine S.qa 2 [] [(3, .v (slv 0 q1.1)), (5, .v (slv g.prog.length pg.prog.1))] fun ac w β S => ?_
 have b9 : g.prog.length ≤ 4194304 := LRd.le (RGuest.prog (d := g) (S.arg hg))
 refine RG.op rfl (S.appFlat0 (α := TIns) o3 (RGuest.prog (d := g) (S.arg hg)) (fun _ _ h => h) (by' := 16) (d := 6) (lx := 0) (ly := g.prog.length) rfl fun ac w N q5 F6 S up o7 d8 => ?_)
 clear up d8
 refine S.qem 2 [] [] 2 [(0, [slv g.prog.length q5.1, I g.acc, I g.pc, slv g.written.length pg.written.1, slv g.live.length pg.live.1, I g.ctl.traps, I g.ctl.post, B g.ctl.opn, I g.pend, I g.exit.kind, I g.exit.page, B g.exit.wr, I g.exit.n, B g.halted, slv g.seen.length pg.seen.1])] fun ac w β S => ?_
 refine (nt (ws (rg ?_)))
 refine RG.op rfl (S.bs0 (α := TSlot) (d := 8) (by kernel_rfl) fun ac w N q10 F11 S up o12 d13 => ?_)
 have d14 := Disj.w d13 o7.sub
 replace o7 := o7.up up
 clear up d13
 refine S.qa 2 [] [(8, .v (slv 0 q10.1)), (10, .v (slv g.written.length pg.written.1))] fun ac w β S => ?_
 have b19 : g.written.length ≤ 4194304 := LRd.le (RGuest.written (d := g) (S.arg hg))
 refine RG.op rfl (S.appFlat0 (α := TSlot) o12 (RGuest.written (d := g) (S.arg hg)) (fun _ _ h => h) (by' := 16) (d := 11) (lx := 0) (ly := g.written.length) rfl fun ac w N q15 F16 S up o17 d18 => ?_)
 have d20 := d18 _ d14 o7.sub
 replace o7 := o7.upF d14 up
 clear up d18
 refine S.qem 2 [] [] 2 [(0, [slv g.prog.length q5.1, I g.acc, I g.pc, slv g.written.length q15.1, slv g.live.length pg.live.1, I g.ctl.traps, I g.ctl.post, B g.ctl.opn, I g.pend, I g.exit.kind, I g.exit.page, B g.exit.wr, I g.exit.n, B g.halted, slv g.seen.length pg.seen.1])] fun ac w β S => ?_
 refine (nt (ws (rg ?_)))
 refine RG.op rfl (S.bs0 (α := TSlot) (d := 13) (by kernel_rfl) fun ac w N q21 F22 S up o23 d24 => ?_)
 have d25 := Disj.w d24 o7.sub
 have d26 := Disj.w d24 o17.sub
 replace o7 := o7.up up
 replace o17 := o17.up up
 clear up d24
 refine S.qa 2 [] [(13, .v (slv 0 q21.1)), (15, .v (slv g.live.length pg.live.1))] fun ac w β S => ?_
 have b31 : g.live.length ≤ 4194304 := LRd.le (RGuest.live (d := g) (S.arg hg))
 refine RG.op rfl (S.appFlat0 (α := TSlot) o23 (RGuest.live (d := g) (S.arg hg)) (fun _ _ h => h) (by' := 16) (d := 16) (lx := 0) (ly := g.live.length) rfl fun ac w N q27 F28 S up o29 d30 => ?_)
 have d32 := d30 _ d25 o7.sub
 have d33 := d30 _ d26 o17.sub
 replace o7 := o7.upF d25 up
 replace o17 := o17.upF d26 up
 clear up d30
 refine S.qem 2 [] [] 2 [(0, [slv g.prog.length q5.1, I g.acc, I g.pc, slv g.written.length q15.1, slv g.live.length q27.1, I g.ctl.traps, I g.ctl.post, B g.ctl.opn, I g.pend, I g.exit.kind, I g.exit.page, B g.exit.wr, I g.exit.n, B g.halted, slv g.seen.length pg.seen.1])] fun ac w β S => ?_
 refine (nt (ws (rg ?_)))
 refine RG.op rfl (S.bs0 (α := Int) (d := 18) (by kernel_rfl) fun ac w N q34 F35 S up o36 d37 => ?_)
 have d38 := Disj.w d37 o7.sub
 have d39 := Disj.w d37 o17.sub
 have d40 := Disj.w d37 o29.sub
 replace o7 := o7.up up
 replace o17 := o17.up up
 replace o29 := o29.up up
 clear up d37
 refine S.qa 2 [] [(18, .v (slv 0 q34.1)), (20, .v (slv g.seen.length pg.seen.1))] fun ac w β S => ?_
 have b45 : g.seen.length ≤ 4194304 := LRd.le (RGuest.seen (d := g) (S.arg hg))
 refine RG.op rfl (S.appFlat0 (α := Int) o36 (RGuest.seen (d := g) (S.arg hg)) (fun _ _ h => h) (by' := 8) (d := 21) (lx := 0) (ly := g.seen.length) rfl fun ac w N q41 F42 S up o43 d44 => ?_)
 have d46 := d44 _ d38 o7.sub
 have d47 := d44 _ d39 o17.sub
 have d48 := d44 _ d40 o29.sub
 replace o7 := o7.upF d38 up
 replace o17 := o17.upF d39 up
 replace o29 := o29.upF d40 up
 clear up d44
 refine S.qem 2 [] [] 2 [(0, [slv g.prog.length q5.1, I g.acc, I g.pc, slv g.written.length q15.1, slv g.live.length q27.1, I g.ctl.traps, I g.ctl.post, B g.ctl.opn, I g.pend, I g.exit.kind, I g.exit.page, B g.exit.wr, I g.exit.n, B g.halted, slv g.seen.length q41.1])] fun ac w β S => ?_
 refine (nt (ws (rg ?_)))
 refine S.qem 2 [] [] 2 [(1, [slv g.prog.length q5.1, I g.acc, I g.pc, slv g.written.length q15.1, slv g.live.length q27.1, I g.ctl.traps, I g.ctl.post, B g.ctl.opn, I g.pend, I g.exit.kind, I g.exit.page, B g.exit.wr, I g.exit.n, B g.halted, slv g.seen.length q41.1])] fun ac w β S => ?_
 refine (nt (wr (S.r [GT.val (⟨g.prog, g.acc, g.pc, g.written, g.live, g.ctl, g.pend, g.exit, g.halted, g.seen⟩ : TGuest) (⟨q5, q15, q27, q41⟩ : PGuest)] ?_)))
 have o49 := ow_Guest (x := (⟨g.prog, g.acc, g.pc, g.written, g.live, g.ctl, g.pend, g.exit, g.halted, g.seen⟩ : TGuest)) (p := (⟨q5, q15, q27, q41⟩ : PGuest)) o7 o17 o29 o43 d20 d32 d46 d33 d47 d48 (RGuest.acc (d := g) (S.arg hg)) (RGuest.pc (d := g) (S.arg hg)) (RGuest.ctl (d := g) (S.arg hg)) (RGuest.pend (d := g) (S.arg hg)) (RGuest.exit (d := g) (S.arg hg))
 exact ret1_of S (show g = (⟨g.prog, g.acc, g.pc, g.written, g.live, g.ctl, g.pend, g.exit, g.halted, g.seen⟩ : TGuest) by clear S; (first | rfl | simp)) rfl o49

theorem c_spec_l17Guests (w0 : World) (l : List TGuest) (pl : LP TGuest) (hl : RD w0 l pl) : Calls Tryz.prog 106 [slv l.length pl.1].toArray w0 (Ret1 NoB w0 (l : List TGuest)) := by
 refine Calls.walk NoB Tryz.func106 rfl rfl ?_
 intro ac β S
 have hlel : l.length ≤ 4194304 := LRd.le hl
 refine ws (rg ?_)
 refine S.qe 1 [] [] fun ac w β S => ?_
 refine (nt (ws (rg ?_)))
 refine RG.op rfl (S.bs0 (α := TGuest) (d := 5) (by kernel_rfl) fun ac w N q1 F2 S up o3 d4 => ?_)
 clear up d4
 refine S.qe 1 [] [(3, .v (slv 0 q1.1))] fun ac w β S => ?_
 refine (nt (ws (ws (rg ?_))))
 refine S.qe 1 [] [(4, .v (I 0))] fun ac w β S => ?_
 refine (nt (wp_block ?_))
 refine wp_loop_down (fun mm ac w => ∃ (k : Nat) (acc : List TGuest) (q5 : _) (F6 : _) (u : _) (N : _) (β : _), mm = l.length - k ∧ (k ≤ l.length) ∧ (acc = l.take k) ∧ St Tryz.prog Tryz.f106.ntmps w0 NoB u N β ⟨[(0, .v (slv l.length pl.1)), (3, .v (slv acc.length q5.1)), (4, .v (I (k : Int)))], []⟩ ac w ∧ Ow w0 NoB u N F6 acc q5) _ ⟨0, ([] : List TGuest), q1, F2, _, _, _, rfl, o0, (by simp), S.z, o3⟩ ?_
 clear S o3
 rintro mm ac w ⟨k, acc, q5, F6, u, N, β, rfl, hk, hacc, S, o7⟩
 have hlacc : acc.length = k := by rw [hacc]; simp; omega
 refine ws (ws (rg ?_))
 refine S.qe 4 [] [(9, .v (B (decide ((k : Int) < (l.length : Int)))))] fun ac w β S => ?_
 refine (nt (S.c (decide ((k : Int) < (l.length : Int))) (fun h8 => ?_) (fun h8 => ?_)))
 ·have g9 := of_decide_eq_true h8
  refine wk (nt (ws (wp_block (rg ?_))))
  refine S.qb 5 [] [(12, .v (slv acc.length q5.1)), (16, .v (GT.val (el l k) (pl.2 k)))] (.cons (qn (S.arg hl) k Tryz.underlying49) (.cons (qs (S.arg hl) 99 k) .nil)) fun ac w β S => ?_
  refine RG.op rfl (S.k1 17 (c_spec_l15Copy w (el l k) (pl.2 k) (S.rd (LRd.el (S.arg hl) k (by omega)))) fun ac w N q10 F11 S up o12 d13 => ?_)
  have d14 := Disj.w d13 o7.sub
  replace o7 := o7.up up
  clear up d13
  have i18 : In64 (el l k).acc := RGuest.acc (d := (el l k)) o12.rn
  have i19 : In64 (el l k).pc := RGuest.pc (d := (el l k)) o12.rn
  have i26 : RCtl (el l k).ctl := RGuest.ctl (d := (el l k)) o12.rn
  have i27 : In64 (el l k).pend := RGuest.pend (d := (el l k)) o12.rn
  have i28 : RExit (el l k).exit := RGuest.exit (d := (el l k)) o12.rn
  obtain ⟨F15, F20, F23, F29, o16, o21, o24, o30, s17, s22, s25, s31, d32, d33, d34, d35, d36, d37⟩ := sp_Guest o12
  have o42 := ow_Guest (x := (el l k)) (p := q10) o16 o21 o24 o30 d32 d33 d34 d35 d36 d37 i18 i19 i26 i27 i28
  refine RG.op rfl (S.bs1 (α := TGuest) (x := (el l k)) (p := q10) o42.own o42.sub o42.young (d := 18) (by kernel_rfl) fun ac w N q38 F39 S up o40 d41 => ?_)
  have d43 := d41 _ (Disj.symm (Disj.or (Disj.part (Disj.symm d14) s17) (Disj.or (Disj.part (Disj.symm d14) s22) (Disj.or (Disj.part (Disj.symm d14) s25) (Disj.or (Disj.part (Disj.symm d14) s31) Disj.nob))))) o7.sub
  replace o7 := o7.up up
  clear up d41
  refine RG.op rfl (S.appOwn (α := TGuest) o7 o40 d43 (by' := 184) (d := 19) (lx := acc.length) (ly := 1) rfl rfl (by kernel_rfl) (show _ ≤ 4194304 by simp only [List.length_append, List.length_cons, List.length_nil]; omega) fun ac w N q44 F45 S up o46 d47 => ?_)
  clear up d47
  refine S.qe 1 [] [(3, .v (slv (acc ++ [(el l k)]).length q44.1))] fun ac w β S => ?_
  refine (nb (nt (rg ?_)))
  refine S.qg 3 [] [(4, .v (I ((k : Int) + 1)))] (.cons (qp (k : Int) 1) .nil) fun ac w β S => ?_
  refine (nt ?_)
  refine ⟨l.length - (k + 1), by omega, k + 1, (acc ++ [(el l k)]), q44, F45, _, _, _, rfl, ?_, ?_, S.z, o46⟩
  ·exact oz
  ·clear S; (first | (rw [take_el (by omega), hacc]; done) | (rw [take_el (by omega), hacc]; simp; done))
 have g48 := of_decide_eq_false h8
 refine wp_exit (ex_then (ex_then (ex_hit (nt (ws (rg ?_))))))
 refine S.qe 2 [] [(2, .v (slv acc.length q5.1))] fun ac w β S => ?_
 exact (nt (wr (S.r [slv acc.length q5.1] (ret1_of S (show l = acc by clear S; (rw [hacc, take_all (by omega)])) rfl o7))))

theorem c_spec_l07Copy (w0 : World) (k : TKept) (pk : PKept) (hk : RD w0 k pk) : Calls Tryz.prog 107 [GT.val k pk].toArray w0 (Ret1 NoB w0 (k : TKept)) := by
 refine Calls.walk NoB Tryz.func107 rfl rfl ?_
 intro ac β S
 have hlek_known : k.known.length ≤ 4194304 := LRd.le (RKept.known (d := k) hk)
 have hlek_slots : k.slots.length ≤ 4194304 := LRd.le (RKept.slots (d := k) hk)
 refine ws (rg ?_)
 refine S.qem 2 [] [(1, .p 0 0), (2, .p 1 0)] 2 [(0, GT.cells k pk), (1, Zc TKept)] fun ac w β S => ?_
 refine (nt (ws ?_))
 let σ1 : Sy := ⟨[(1, .p 0 0), (2, .p 1 0)], [GT.cells k pk, Zc TKept]⟩
 obtain ⟨u0, N0, β0, S⟩ : ∃ u0 N0 β0, St Tryz.prog Tryz.f107.ntmps w0 NoB u0 N0 β0 σ1 ac w := ⟨_, _, _, S.z⟩
 refine wp_region_cut (fun ac w => ∃ q69 F70 q72 F73 u N β, St Tryz.prog Tryz.f107.ntmps w0 NoB u N β (σ1.dl [1] [] 2 [(1, [slv k.known.length q69.1, slv k.slots.length q72.1])]) ac w ∧ Ow w0 NoB u N F70 k.known q69 ∧ Ow w0 NoB u N F73 k.slots q72 ∧ Disj F70 F73) ?_ ?_
 ·refine S.draw0 (f := 10) 9 rfl rfl fun w S => ?_
  refine S.hq 1 [1] [] [(4, .p 0 0)] .nil fun ac S => ?_
  refine S.hq 2 [2] [] [(5, .v (slv k.known.length pk.known.1))] .nil fun ac S => ?_
  refine S.hq 5 [5] [] [(8, .p 0 1)] .nil fun ac S => ?_
  refine S.hq 6 [6] [] [(9, .v (slv k.slots.length pk.slots.1))] .nil fun ac S => ?_
  refine WD.nameW fun W hW => ?_
  refine WD.castW (l' := mkL 10 [1, 2, 5, 6]) (by kernel_rfl) ?_
  have hK74 ac w q69 F70 q72 F73 u N β (S : St Tryz.prog Tryz.f107.ntmps w0 NoB u N β (σ1.dl [1] [] 2 [(1, [slv k.known.length q69.1, slv k.slots.length q72.1])]) ac w) (o68 : Ow w0 NoB u N F70 k.known q69) (o71 : Ow w0 NoB u N F73 k.slots q72) (d75 : Disj F70 F73) : W 0 (mkL 10 [0, 1, 2, 3, 4, 5, 6, 7, 8, 9]) ac w := by
   exact od hW ⟨rfl, q69, F70, q72, F73, _, _, _, S.z, o68, o71, d75⟩
  have hK76 ac w q63 F64 q66 F67 u N β (S : St Tryz.prog Tryz.f107.ntmps w0 NoB u N β (σ1.dl [1] [(11, .v (GT.val (⟨k.known, k.slots⟩ : TKept) (⟨q63, q66⟩ : PKept)))] 2 []) ac w) (o62 : Ow w0 NoB u N F64 k.known q63) (o65 : Ow w0 NoB u N F67 k.slots q66) (d77 : Disj F64 F67) (hNN : NN N0 u0 N u) (hBB : BB σ1.bx.length β0 β) : W 1 (mkL 10 [0, 1, 2, 3, 4, 5, 6, 7, 8]) ac w := by
   exact o1 hW 9 (S.wl hW [] .nil fun _ _ _ S => hK74 _ _ q63 F64 q66 F67 _ _ _ S o62 o65 d77)
  have hK78 ac w q60 F61 q25 F26 u N β (S : St Tryz.prog Tryz.f107.ntmps w0 NoB u N β (σ1.dl [1] [(6, .v (slv k.known.length q25.1)), (10, .v (slv k.slots.length q60.1))] 2 []) ac w) (o59 : Ow w0 NoB u N F61 k.slots q60) (o24 : Ow w0 NoB u N F26 k.known q25) (d79 : Disj F61 F26) (hNN : NN N0 u0 N u) (hBB : BB σ1.bx.length β0 β) : W 2 (mkL 10 [0, 1, 2, 3, 4, 5, 6, 7]) ac w := by
   exact o1 hW 8 (S.wq hW hNN hBB [] (.cons (Q_sem (s := Instr.build 91 [(0, slv k.known.length q25.1), (1, slv k.slots.length q60.1)].toArray) (v := .agg [slv k.known.length q25.1, slv k.slots.length q60.1].toArray) (fun w => by kernel_rfl)) .nil) fun _ _ _ S hB => hK76 _ _ q25 F26 q60 F61 _ _ _ S o24 o59 (Disj.symm d79) hNN hB)
  have hK80 ac w q25 F26 q16 F17 u N β (S : St Tryz.prog Tryz.f107.ntmps w0 NoB u N β (σ1.dl [1] [(6, .v (slv k.known.length q25.1)), (7, .v (slv 0 q16.1)), (9, .v (slv k.slots.length pk.slots.1))] 2 []) ac w) (o24 : Ow w0 NoB u N F26 k.known q25) (o15 : Ow w0 NoB u N F17 ([] : List TSlot) q16) (d81 : Disj F26 F17) (hNN : ∀ b, N0 b → N b ∧ u.heap[b]? = u0.heap[b]? ∧ ¬ F17 b) (hBB : BB σ1.bx.length β0 β) : W 3 (mkL 10 [0, 1, 2, 3, 4, 5, 6]) ac w := by
   refine o1 hW 7 ?_
   have b86 : k.slots.length ≤ 4194304 := LRd.le (RKept.slots (d := k) (S.arg hk))
   refine id (S.appFlat0 (α := TSlot) o15 (RKept.slots (d := k) (S.arg hk)) (fun _ _ h => h) (by' := 16) (d := 10) (lx := 0) (ly := k.slots.length) rfl fun ac w N q82 F83 S up o84 d85 => ?_)
   have hb87 := fun b h => (⟨(up b (hNN b h).1 (hNN b h).2.2).1, (up b (hNN b h).1 (hNN b h).2.2).2.trans (hNN b h).2.1⟩ : _ ∧ _)
   refine WD.sc S hb87 hBB fun hC => ?_
   have d88 := d85 _ d81 o24.sub
   replace o24 := o24.upF d81 up
   clear up d85
   exact S.wh hW [] hC fun _ S => hK78 _ _ q82 F83 q25 F26 _ _ _ S o84 o24 (Disj.symm d88) hb87 hBB
  have hK89 ac w q25 F26 u N β (S : St Tryz.prog Tryz.f107.ntmps w0 NoB u N β (σ1.dl [1] [(6, .v (slv k.known.length q25.1)), (9, .v (slv k.slots.length pk.slots.1))] 2 []) ac w) (o24 : Ow w0 NoB u N F26 k.known q25) (hNN : NN N0 u0 N u) (hBB : BB σ1.bx.length β0 β) : W 4 (mkL 10 [0, 1, 2, 3, 5, 6]) ac w := by
   refine o1 hW 4 ?_
   refine id (S.bs0 (α := TSlot) (d := 7) (by kernel_rfl) fun ac w N q90 F91 S up o92 d93 => ?_)
   have hb94 := fun b h => (⟨(up b (hNN b h).1).1, (up b (hNN b h).1).2.trans (hNN b h).2, d93 b (hNN b h).1⟩ : _ ∧ _ ∧ _)
   refine WD.sc S (fun b h => ⟨(hb94 b h).1, (hb94 b h).2.1⟩) hBB fun hC => ?_
   have d95 := Disj.w d93 o24.sub
   replace o24 := o24.up up
   clear up d93
   exact S.wh hW [] hC fun _ S => hK80 _ _ q25 F26 q90 F91 _ _ _ S o24 o92 d95 hb94 hBB
  have hK96 ac w q8 F9 q16 F17 u N β (S : St Tryz.prog Tryz.f107.ntmps w0 NoB u N β (σ1.dl [1] [(3, .v (slv 0 q8.1)), (5, .v (slv k.known.length pk.known.1)), (7, .v (slv 0 q16.1)), (9, .v (slv k.slots.length pk.slots.1))] 2 []) ac w) (o7 : Ow w0 NoB u N F9 ([] : List Bool) q8) (o15 : Ow w0 NoB u N F17 ([] : List TSlot) q16) (d97 : Disj F9 F17) (hNN : ∀ b, N0 b → N b ∧ u.heap[b]? = u0.heap[b]? ∧ ¬ F9 b ∧ ¬ F17 b) (hBB : BB σ1.bx.length β0 β) : W 4 (mkL 10 [0, 1, 2, 4, 5, 6]) ac w := by
   refine o1 hW 3 ?_
   have b102 : k.known.length ≤ 4194304 := LRd.le (RKept.known (d := k) (S.arg hk))
   refine id (S.appFlat0 (α := Bool) o7 (RKept.known (d := k) (S.arg hk)) (fun _ _ h => h) (by' := 1) (d := 6) (lx := 0) (ly := k.known.length) rfl fun ac w N q98 F99 S up o100 d101 => ?_)
   have hb103 := fun b h => (⟨(up b (hNN b h).1 (hNN b h).2.2.1).1, (up b (hNN b h).1 (hNN b h).2.2.1).2.trans (hNN b h).2.1, (hNN b h).2.2.2⟩ : _ ∧ _ ∧ _)
   refine WD.sc S (fun b h => ⟨(hb103 b h).1, (hb103 b h).2.1⟩) hBB fun hC => ?_
   have d104 := d101 _ (Disj.symm d97) o15.sub
   replace o15 := o15.upF (Disj.symm d97) up
   clear up d101
   exact S.wh hW [] hC fun _ S => hK80 _ _ q98 F99 q16 F17 _ _ _ S o100 o15 (Disj.symm d104) hb103 hBB
  have hK105 ac w q8 F9 u N β (S : St Tryz.prog Tryz.f107.ntmps w0 NoB u N β (σ1.dl [1] [(3, .v (slv 0 q8.1)), (5, .v (slv k.known.length pk.known.1)), (9, .v (slv k.slots.length pk.slots.1))] 2 []) ac w) (o7 : Ow w0 NoB u N F9 ([] : List Bool) q8) (hNN : ∀ b, N0 b → N b ∧ u.heap[b]? = u0.heap[b]? ∧ ¬ F9 b) (hBB : BB σ1.bx.length β0 β) : W 5 (mkL 10 [0, 1, 2, 5, 6]) ac w := by
   refine o2 hW 3 4 ?_ ?_
   ·have b110 : k.known.length ≤ 4194304 := LRd.le (RKept.known (d := k) (S.arg hk))
    refine id (S.appFlat0 (α := Bool) o7 (RKept.known (d := k) (S.arg hk)) (fun _ _ h => h) (by' := 1) (d := 6) (lx := 0) (ly := k.known.length) rfl fun ac w N q106 F107 S up o108 d109 => ?_)
    have hb111 := fun b h => (⟨(up b (hNN b h).1 (hNN b h).2.2).1, (up b (hNN b h).1 (hNN b h).2.2).2.trans (hNN b h).2.1⟩ : _ ∧ _)
    refine WD.sc S hb111 hBB fun hC => ?_
    clear up d109
    exact S.wh hW [] hC fun _ S => hK89 _ _ q106 F107 _ _ _ S o108 hb111 hBB
   ·refine id (S.bs0 (α := TSlot) (d := 7) (by kernel_rfl) fun ac w N q112 F113 S up o114 d115 => ?_)
    have hb116 := fun b h => (⟨(up b (hNN b h).1).1, (up b (hNN b h).1).2.trans (hNN b h).2.1, (hNN b h).2.2, d115 b (hNN b h).1⟩ : _ ∧ _ ∧ _ ∧ _)
    refine WD.sc S (fun b h => ⟨(hb116 b h).1, (hb116 b h).2.1⟩) hBB fun hC => ?_
    have d117 := Disj.w d115 o7.sub
    replace o7 := o7.up up
    clear up d115
    exact S.wh hW [] hC fun _ S => hK96 _ _ q8 F9 q112 F113 _ _ _ S o7 o114 d117 hb116 hBB
  have hK118 ac w q16 F17 u N β (S : St Tryz.prog Tryz.f107.ntmps w0 NoB u N β (σ1.dl [1] [(5, .v (slv k.known.length pk.known.1)), (7, .v (slv 0 q16.1)), (9, .v (slv k.slots.length pk.slots.1))] 2 []) ac w) (o15 : Ow w0 NoB u N F17 ([] : List TSlot) q16) (hNN : ∀ b, N0 b → N b ∧ u.heap[b]? = u0.heap[b]? ∧ ¬ F17 b) (hBB : BB σ1.bx.length β0 β) : W 5 (mkL 10 [1, 2, 4, 5, 6]) ac w := by
   refine o1 hW 0 ?_
   refine id (S.bs0 (α := Bool) (d := 3) (by kernel_rfl) fun ac w N q119 F120 S up o121 d122 => ?_)
   have hb123 := fun b h => (⟨(up b (hNN b h).1).1, (up b (hNN b h).1).2.trans (hNN b h).2.1, d122 b (hNN b h).1, (hNN b h).2.2⟩ : _ ∧ _ ∧ _ ∧ _)
   refine WD.sc S (fun b h => ⟨(hb123 b h).1, (hb123 b h).2.1⟩) hBB fun hC => ?_
   have d124 := Disj.w d122 o15.sub
   replace o15 := o15.up up
   clear up d122
   exact S.wh hW [] hC fun _ S => hK96 _ _ q119 F120 q16 F17 _ _ _ S o121 o15 (Disj.symm d124) hb123 hBB
  have hNN : NN N0 u0 N0 u0 := fun b h => ⟨h, rfl⟩
  have hBB : BB σ1.bx.length β0 β0 := fun _ _ => rfl
  refine o2 hW 0 4 ?_ ?_
  ·refine id (S.bs0 (α := Bool) (d := 3) (by kernel_rfl) fun ac w N q125 F126 S up o127 d128 => ?_)
   have hb129 := fun b h => (⟨(up b (hNN b h).1).1, (up b (hNN b h).1).2.trans (hNN b h).2, d128 b (hNN b h).1⟩ : _ ∧ _ ∧ _)
   refine WD.sc S (fun b h => ⟨(hb129 b h).1, (hb129 b h).2.1⟩) hBB fun hC => ?_
   clear up d128
   exact S.wh hW [] hC fun _ S => hK105 _ _ q125 F126 _ _ _ S o127 hb129 hBB
  ·refine id (S.bs0 (α := TSlot) (d := 7) (by kernel_rfl) fun ac w N q130 F131 S up o132 d133 => ?_)
   have hb134 := fun b h => (⟨(up b (hNN b h).1).1, (up b (hNN b h).1).2.trans (hNN b h).2, d133 b (hNN b h).1⟩ : _ ∧ _ ∧ _)
   refine WD.sc S (fun b h => ⟨(hb134 b h).1, (hb134 b h).2.1⟩) hBB fun hC => ?_
   clear up d133
   exact S.wh hW [] hC fun _ S => hK118 _ _ q130 F131 _ _ _ S o132 hb134 hBB
 clear S
 rintro ac w ⟨q69, F70, q72, F73, u, N, β, S, o68, o71, d135⟩
 refine id (nt (wr (S.r [GT.val (⟨k.known, k.slots⟩ : TKept) (⟨q69, q72⟩ : PKept)] ?_)))
 have o136 := ow_Kept (x := (⟨k.known, k.slots⟩ : TKept)) (p := (⟨q69, q72⟩ : PKept)) o68 o71 d135 
 exact ret1_of S (show k = (⟨k.known, k.slots⟩ : TKept) by clear S; (first | rfl | simp)) rfl o136

theorem c_spec_l21Mon (w0 : World) (m : TMon) (pm : PMon) (hm : RD w0 m pm) : Calls Tryz.prog 61 [GT.val m pm].toArray w0 (Ret1 NoB w0 (m : TMon)) := by
 refine Calls.walk NoB Tryz.func61 rfl rfl ?_
 intro ac β S
 have hlem_outer : m.outer.length ≤ 4194304 := LRd.le (RMon.outer (d := m) hm)
 have hlem_out : m.out.length ≤ 4194304 := LRd.le (RMon.out (d := m) hm)
 have hlem_dirty : m.dirty.length ≤ 4194304 := LRd.le (RMon.dirty (d := m) hm)
 have hlem_guests : m.guests.length ≤ 4194304 := LRd.le (RMon.guests (d := m) hm)
 have hlem_outs : m.outs.length ≤ 4194304 := LRd.le (RMon.outs (d := m) hm)
 have hlem_tables : m.tables.length ≤ 4194304 := LRd.le (RMon.tables (d := m) hm)
 refine ws (rg ?_)
 refine S.qem 2 [] [(1, .p 0 0), (2, .p 1 0)] 2 [(0, GT.cells m pm), (1, Zc TMon)] fun ac w β S => ?_
 refine (nt (ws (rg ?_)))
 refine RG.op rfl (S.bs0 (α := TSlot) (d := 5) (by kernel_rfl) fun ac w N q1 F2 S up o3 d4 => ?_)
 clear up d4
 refine S.qa 2 [] [(5, .v (slv 0 q1.1)), (7, .v (slv m.outer.length pm.outer.1))] fun ac w β S => ?_
 have b9 : m.outer.length ≤ 4194304 := LRd.le (RMon.outer (d := m) (S.arg hm))
 refine RG.op rfl (S.appFlat0 (α := TSlot) o3 (RMon.outer (d := m) (S.arg hm)) (fun _ _ h => h) (by' := 16) (d := 8) (lx := 0) (ly := m.outer.length) rfl fun ac w N q5 F6 S up o7 d8 => ?_)
 clear up d8
 refine S.qem 2 [] [] 2 [(0, [slv m.outer.length q5.1, slv m.out.length pm.out.1, slv m.dirty.length pm.dirty.1, slv m.guests.length pm.guests.1, slv m.outs.length pm.outs.1, I m.pend, I m.traps, slv m.tables.length pm.tables.1, I m.owned])] fun ac w β S => ?_
 refine (nt (ws (rg ?_)))
 refine S.qa 2 [] [(11, .v (slv m.out.length pm.out.1))] fun ac w β S => ?_
 refine RG.op rfl (S.k1 12 (c_spec_l04Copy w m.out pm.out (S.rd (RMon.out (d := m) (S.arg hm)))) fun ac w N q10 F11 S up o12 d13 => ?_)
 have d14 := Disj.w d13 o7.sub
 replace o7 := o7.up up
 clear up d13
 refine S.qem 2 [] [] 2 [(0, [slv m.outer.length q5.1, slv m.out.length q10.1, slv m.dirty.length pm.dirty.1, slv m.guests.length pm.guests.1, slv m.outs.length pm.outs.1, I m.pend, I m.traps, slv m.tables.length pm.tables.1, I m.owned])] fun ac w β S => ?_
 refine (nt (ws (rg ?_)))
 refine RG.op rfl (S.bs0 (α := Bool) (d := 14) (by kernel_rfl) fun ac w N q15 F16 S up o17 d18 => ?_)
 have d19 := Disj.w d18 o7.sub
 have d20 := Disj.w d18 o12.sub
 replace o7 := o7.up up
 replace o12 := o12.up up
 clear up d18
 refine S.qa 2 [] [(14, .v (slv 0 q15.1)), (16, .v (slv m.dirty.length pm.dirty.1))] fun ac w β S => ?_
 have b25 : m.dirty.length ≤ 4194304 := LRd.le (RMon.dirty (d := m) (S.arg hm))
 refine RG.op rfl (S.appFlat0 (α := Bool) o17 (RMon.dirty (d := m) (S.arg hm)) (fun _ _ h => h) (by' := 1) (d := 17) (lx := 0) (ly := m.dirty.length) rfl fun ac w N q21 F22 S up o23 d24 => ?_)
 have d26 := d24 _ d19 o7.sub
 have d27 := d24 _ d20 o12.sub
 replace o7 := o7.upF d19 up
 replace o12 := o12.upF d20 up
 clear up d24
 refine S.qem 2 [] [] 2 [(0, [slv m.outer.length q5.1, slv m.out.length q10.1, slv m.dirty.length q21.1, slv m.guests.length pm.guests.1, slv m.outs.length pm.outs.1, I m.pend, I m.traps, slv m.tables.length pm.tables.1, I m.owned])] fun ac w β S => ?_
 refine (nt (ws (rg ?_)))
 refine S.qa 2 [] [(20, .v (slv m.guests.length pm.guests.1))] fun ac w β S => ?_
 refine RG.op rfl (S.k1 21 (c_spec_l17Guests w m.guests pm.guests (S.rd (RMon.guests (d := m) (S.arg hm)))) fun ac w N q28 F29 S up o30 d31 => ?_)
 have d32 := Disj.w d31 o7.sub
 have d33 := Disj.w d31 o12.sub
 have d34 := Disj.w d31 o23.sub
 replace o7 := o7.up up
 replace o12 := o12.up up
 replace o23 := o23.up up
 clear up d31
 refine S.qem 2 [] [] 2 [(0, [slv m.outer.length q5.1, slv m.out.length q10.1, slv m.dirty.length q21.1, slv m.guests.length q28.1, slv m.outs.length pm.outs.1, I m.pend, I m.traps, slv m.tables.length pm.tables.1, I m.owned])] fun ac w β S => ?_
 refine (nt (ws (rg ?_)))
 refine RG.op rfl (S.bs0 (α := Int) (d := 23) (by kernel_rfl) fun ac w N q35 F36 S up o37 d38 => ?_)
 have d39 := Disj.w d38 o7.sub
 have d40 := Disj.w d38 o12.sub
 have d41 := Disj.w d38 o23.sub
 have d42 := Disj.w d38 o30.sub
 replace o7 := o7.up up
 replace o12 := o12.up up
 replace o23 := o23.up up
 replace o30 := o30.up up
 clear up d38
 refine S.qa 2 [] [(23, .v (slv 0 q35.1)), (25, .v (slv m.outs.length pm.outs.1))] fun ac w β S => ?_
 have b47 : m.outs.length ≤ 4194304 := LRd.le (RMon.outs (d := m) (S.arg hm))
 refine RG.op rfl (S.appFlat0 (α := Int) o37 (RMon.outs (d := m) (S.arg hm)) (fun _ _ h => h) (by' := 8) (d := 26) (lx := 0) (ly := m.outs.length) rfl fun ac w N q43 F44 S up o45 d46 => ?_)
 have d48 := d46 _ d39 o7.sub
 have d49 := d46 _ d40 o12.sub
 have d50 := d46 _ d41 o23.sub
 have d51 := d46 _ d42 o30.sub
 replace o7 := o7.upF d39 up
 replace o12 := o12.upF d40 up
 replace o23 := o23.upF d41 up
 replace o30 := o30.upF d42 up
 clear up d46
 refine S.qem 2 [] [] 2 [(0, [slv m.outer.length q5.1, slv m.out.length q10.1, slv m.dirty.length q21.1, slv m.guests.length q28.1, slv m.outs.length q43.1, I m.pend, I m.traps, slv m.tables.length pm.tables.1, I m.owned])] fun ac w β S => ?_
 refine (nt (ws (rg ?_)))
 refine RG.op rfl (S.bs0 (α := TKept) (d := 28) (by kernel_rfl) fun ac w N q52 F53 S up o54 d55 => ?_)
 have d56 := Disj.w d55 o7.sub
 have d57 := Disj.w d55 o12.sub
 have d58 := Disj.w d55 o23.sub
 have d59 := Disj.w d55 o30.sub
 have d60 := Disj.w d55 o45.sub
 replace o7 := o7.up up
 replace o12 := o12.up up
 replace o23 := o23.up up
 replace o30 := o30.up up
 replace o45 := o45.up up
 clear up d55
 refine S.qe 1 [] [(3, .v (slv 0 q52.1))] fun ac w β S => ?_
 refine (nt (ws (ws (rg ?_))))
 refine S.qe 1 [] [(4, .v (I 0))] fun ac w β S => ?_
 refine (nt (wp_block ?_))
 refine wp_loop_down (fun mm ac w => ∃ (k : Nat) (acc : List TKept) (q61 : _) (F62 : _) (u : _) (N : _) (β : _), mm = m.tables.length - k ∧ (k ≤ m.tables.length) ∧ (acc = m.tables.take k) ∧ St Tryz.prog Tryz.f61.ntmps w0 NoB u N β ⟨[(1, .p 0 0), (2, .p 1 0), (3, .v (slv acc.length q61.1)), (4, .v (I (k : Int)))], [[slv m.outer.length q5.1, slv m.out.length q10.1, slv m.dirty.length q21.1, slv m.guests.length q28.1, slv m.outs.length q43.1, I m.pend, I m.traps, slv m.tables.length pm.tables.1, I m.owned], Zc TMon]⟩ ac w ∧ Ow w0 NoB u N F62 acc q61 ∧ Ow w0 NoB u N F6 m.outer q5 ∧ Ow w0 NoB u N F11 m.out q10 ∧ Ow w0 NoB u N F22 m.dirty q21 ∧ Ow w0 NoB u N F29 m.guests q28 ∧ Ow w0 NoB u N F44 m.outs q43 ∧ Disj F62 F6 ∧ Disj F62 F11 ∧ Disj F62 F22 ∧ Disj F62 F29 ∧ Disj F62 F44) _ ⟨0, ([] : List TKept), q52, F53, _, _, _, rfl, o0, (by simp), S.z, o54, o7, o12, o23, o30, o45, (Disj.symm d56), (Disj.symm d57), (Disj.symm d58), (Disj.symm d59), (Disj.symm d60)⟩ ?_
 clear S o12 o23 o30 o45 o54 o7
 rintro mm ac w ⟨k, acc, q61, F62, u, N, β, rfl, hk, hacc, S, o63, o7, o12, o23, o30, o45, d64, d65, d66, d67, d68⟩
 have hlacc : acc.length = k := by rw [hacc]; simp; omega
 refine ws (ws (rg ?_))
 refine S.qe 5 [] [(33, .v (B (decide ((k : Int) < (m.tables.length : Int)))))] fun ac w β S => ?_
 refine (nt (S.c (decide ((k : Int) < (m.tables.length : Int))) (fun h69 => ?_) (fun h69 => ?_)))
 ·have g70 := of_decide_eq_true h69
  refine wk (nt (ws (wp_block (rg ?_))))
  refine S.qb 6 [] [(36, .v (slv acc.length q61.1)), (41, .v (GT.val (el m.tables k) (pm.tables.2 k)))] (.cons (qn (RMon.tables (d := m) (S.arg hm)) k Tryz.underlying51) (.cons (qs (RMon.tables (d := m) (S.arg hm)) 91 k) .nil)) fun ac w β S => ?_
  refine RG.op rfl (S.k1 42 (c_spec_l07Copy w (el m.tables k) (pm.tables.2 k) (S.rd (LRd.el (RMon.tables (d := m) (S.arg hm)) k (by omega)))) fun ac w N q71 F72 S up o73 d74 => ?_)
  have d75 := Disj.w d74 o63.sub
  have d76 := Disj.w d74 o7.sub
  have d77 := Disj.w d74 o12.sub
  have d78 := Disj.w d74 o23.sub
  have d79 := Disj.w d74 o30.sub
  have d80 := Disj.w d74 o45.sub
  replace o63 := o63.up up
  replace o7 := o7.up up
  replace o12 := o12.up up
  replace o23 := o23.up up
  replace o30 := o30.up up
  replace o45 := o45.up up
  clear up d74
  obtain ⟨F81, F84, o82, o85, s83, s86, d87⟩ := sp_Kept o73
  have o92 := ow_Kept (x := (el m.tables k)) (p := q71) o82 o85 d87 
  refine RG.op rfl (S.bs1 (α := TKept) (x := (el m.tables k)) (p := q71) o92.own o92.sub o92.young (d := 43) (by kernel_rfl) fun ac w N q88 F89 S up o90 d91 => ?_)
  have d93 := d91 _ (Disj.symm (Disj.or (Disj.part (Disj.symm d75) s83) (Disj.or (Disj.part (Disj.symm d75) s86) Disj.nob))) o63.sub
  have d94 := d91 _ (Disj.symm (Disj.or (Disj.part (Disj.symm d76) s83) (Disj.or (Disj.part (Disj.symm d76) s86) Disj.nob))) o7.sub
  have d95 := d91 _ (Disj.symm (Disj.or (Disj.part (Disj.symm d77) s83) (Disj.or (Disj.part (Disj.symm d77) s86) Disj.nob))) o12.sub
  have d96 := d91 _ (Disj.symm (Disj.or (Disj.part (Disj.symm d78) s83) (Disj.or (Disj.part (Disj.symm d78) s86) Disj.nob))) o23.sub
  have d97 := d91 _ (Disj.symm (Disj.or (Disj.part (Disj.symm d79) s83) (Disj.or (Disj.part (Disj.symm d79) s86) Disj.nob))) o30.sub
  have d98 := d91 _ (Disj.symm (Disj.or (Disj.part (Disj.symm d80) s83) (Disj.or (Disj.part (Disj.symm d80) s86) Disj.nob))) o45.sub
  replace o63 := o63.up up
  replace o7 := o7.up up
  replace o12 := o12.up up
  replace o23 := o23.up up
  replace o30 := o30.up up
  replace o45 := o45.up up
  clear up d91
  refine RG.op rfl (S.appOwn (α := TKept) o63 o90 d93 (by' := 48) (d := 44) (lx := acc.length) (ly := 1) rfl rfl (by kernel_rfl) (show _ ≤ 4194304 by simp only [List.length_append, List.length_cons, List.length_nil]; omega) fun ac w N q99 F100 S up o101 d102 => ?_)
  have d103 := d102 _ (Disj.symm d64) d94 o7.sub
  have d104 := d102 _ (Disj.symm d65) d95 o12.sub
  have d105 := d102 _ (Disj.symm d66) d96 o23.sub
  have d106 := d102 _ (Disj.symm d67) d97 o30.sub
  have d107 := d102 _ (Disj.symm d68) d98 o45.sub
  replace o7 := o7.upF (Disj.symm d64) up
  replace o12 := o12.upF (Disj.symm d65) up
  replace o23 := o23.upF (Disj.symm d66) up
  replace o30 := o30.upF (Disj.symm d67) up
  replace o45 := o45.upF (Disj.symm d68) up
  clear up d102
  refine S.qe 1 [] [(3, .v (slv (acc ++ [(el m.tables k)]).length q99.1))] fun ac w β S => ?_
  refine (nb (nt (rg ?_)))
  refine S.qg 3 [] [(4, .v (I ((k : Int) + 1)))] (.cons (qp (k : Int) 1) .nil) fun ac w β S => ?_
  refine (nt ?_)
  refine ⟨m.tables.length - (k + 1), by omega, k + 1, (acc ++ [(el m.tables k)]), q99, F100, _, _, _, rfl, ?_, ?_, S.z, o101, o7, o12, o23, o30, o45, (Disj.symm d103), (Disj.symm d104), (Disj.symm d105), (Disj.symm d106), (Disj.symm d107)⟩
  ·exact oz
  ·clear S; (first | (rw [take_el (by omega), hacc]; done) | (rw [take_el (by omega), hacc]; simp; done))
 have g108 := of_decide_eq_false h69
 refine wp_exit (ex_then (ex_then (ex_hit (nt (ws (rg ?_))))))
 refine S.qem 3 [] [] 2 [(0, [slv m.outer.length q5.1, slv m.out.length q10.1, slv m.dirty.length q21.1, slv m.guests.length q28.1, slv m.outs.length q43.1, I m.pend, I m.traps, slv acc.length q61.1, I m.owned])] fun ac w β S => ?_
 refine (nt (ws (rg ?_)))
 refine S.qem 2 [] [] 2 [(1, [slv m.outer.length q5.1, slv m.out.length q10.1, slv m.dirty.length q21.1, slv m.guests.length q28.1, slv m.outs.length q43.1, I m.pend, I m.traps, slv acc.length q61.1, I m.owned])] fun ac w β S => ?_
 refine (nt (wr (S.r [GT.val (⟨m.outer, m.out, m.dirty, m.guests, m.outs, m.pend, m.traps, acc, m.owned⟩ : TMon) (⟨q5, q10, q21, q28, q43, q61⟩ : PMon)] ?_)))
 have o109 := ow_Mon (x := (⟨m.outer, m.out, m.dirty, m.guests, m.outs, m.pend, m.traps, acc, m.owned⟩ : TMon)) (p := (⟨q5, q10, q21, q28, q43, q61⟩ : PMon)) o7 o12 o23 o30 o45 o63 d14 d26 d32 d48 (Disj.symm d64) d27 d33 d49 (Disj.symm d65) d34 d50 (Disj.symm d66) d51 (Disj.symm d67) (Disj.symm d68) (RMon.pend (d := m) (S.arg hm)) (RMon.traps (d := m) (S.arg hm)) (RMon.owned (d := m) (S.arg hm))
 exact ret1_of S (show m = (⟨m.outer, m.out, m.dirty, m.guests, m.outs, m.pend, m.traps, acc, m.owned⟩ : TMon) by clear S; (first | rfl | (rw [hacc, take_all (by omega)]; done) | (rw [hacc, take_all (by omega)]; simp; done) | simp)) rfl o109

theorem c_spec_l21Copy (w0 : World) (h : THost) (ph : PHost) (hh : RD w0 h ph) : Calls Tryz.prog 26 [GT.val h ph].toArray w0 (Ret1 NoB w0 (h : THost)) := by
 refine Calls.walk NoB Tryz.func26 rfl rfl ?_
 intro ac β S
 have hleh_mem : h.mem.length ≤ 4194304 := LRd.le (RHost.mem (d := h) hh)
 have hleh_mons : h.mons.length ≤ 4194304 := LRd.le (RHost.mons (d := h) hh)
 have hleh_buf : h.buf.length ≤ 4194304 := LRd.le (RHost.buf (d := h) hh)
 have hleh_iobuf : h.iobuf.length ≤ 4194304 := LRd.le (RHost.iobuf (d := h) hh)
 refine ws (rg ?_)
 refine S.qem 2 [] [(1, .p 0 0), (2, .p 1 0)] 2 [(0, GT.cells h ph), (1, Zc THost)] fun ac w β S => ?_
 refine (nt (ws ?_))
 let σ1 : Sy := ⟨[(1, .p 0 0), (2, .p 1 0)], [GT.cells h ph, Zc THost]⟩
 obtain ⟨u0, N0, β0, S⟩ : ∃ u0 N0 β0, St Tryz.prog Tryz.f26.ntmps w0 NoB u0 N0 β0 σ1 ac w := ⟨_, _, _, S.z⟩
 refine wp_region_cut (fun ac w => ∃ q234 F235 q237 F238 q231 F232 u N β, St Tryz.prog Tryz.f26.ntmps w0 NoB u N β (σ1.dl [] [(3, .p 2 0)] 3 [(2, [slv h.mem.length q231.1, slv ([] : List TMon).length (GT.pdflt (α := List TMon)).1, slv h.buf.length q234.1, slv h.iobuf.length q237.1])]) ac w ∧ Ow w0 NoB u N F235 h.buf q234 ∧ Ow w0 NoB u N F238 h.iobuf q237 ∧ Ow w0 NoB u N F232 h.mem q231 ∧ Disj F235 F238 ∧ Disj F235 F232 ∧ Disj F238 F232) ?_ ?_
 ·refine S.draw0 (f := 14) 13 rfl rfl fun w S => ?_
  refine S.hq 0 [0] [] [(5, .p 0 0)] .nil fun ac S => ?_
  refine S.hq 1 [1] [] [(6, .v (slv h.mem.length ph.mem.1))] .nil fun ac S => ?_
  refine S.hq 4 [4] [] [(9, .p 0 2)] .nil fun ac S => ?_
  refine S.hq 5 [5] [] [(10, .v (slv h.buf.length ph.buf.1))] .nil fun ac S => ?_
  refine S.hq 8 [8] [] [(13, .p 0 3)] .nil fun ac S => ?_
  refine S.hq 9 [9] [] [(14, .v (slv h.iobuf.length ph.iobuf.1))] .nil fun ac S => ?_
  refine WD.nameW fun W hW => ?_
  refine WD.castW (l' := mkL 14 [0, 1, 4, 5, 8, 9]) (by kernel_rfl) ?_
  have hK239 ac w q234 F235 q237 F238 q231 F232 u N β (S : St Tryz.prog Tryz.f26.ntmps w0 NoB u N β (σ1.dl [] [(3, .p 2 0)] 3 [(2, [slv h.mem.length q231.1, slv ([] : List TMon).length (GT.pdflt (α := List TMon)).1, slv h.buf.length q234.1, slv h.iobuf.length q237.1])]) ac w) (o233 : Ow w0 NoB u N F235 h.buf q234) (o236 : Ow w0 NoB u N F238 h.iobuf q237) (o230 : Ow w0 NoB u N F232 h.mem q231) (d240 : Disj F235 F238) (d241 : Disj F235 F232) (d242 : Disj F238 F232) : W 0 (mkL 14 [0, 1, 2, 3, 4, 5, 6, 7, 8, 9, 10, 11, 12, 13]) ac w := by
   exact od hW ⟨rfl, q234, F235, q237, F238, q231, F232, _, _, _, S.z, o233, o236, o230, d240, d241, d242⟩
  have hK243 ac w q217 F218 q220 F221 q214 F215 u N β (S : St Tryz.prog Tryz.f26.ntmps w0 NoB u N β (σ1.dl [] [(3, .p 2 0), (16, .v (GT.val (⟨h.mem, ([] : List TMon), h.buf, h.iobuf⟩ : THost) (⟨q214, (GT.pdflt (α := List TMon)), q217, q220⟩ : PHost)))] 3 [(2, Zc THost)]) ac w) (o216 : Ow w0 NoB u N F218 h.buf q217) (o219 : Ow w0 NoB u N F221 h.iobuf q220) (o213 : Ow w0 NoB u N F215 h.mem q214) (d244 : Disj F218 F221) (d245 : Disj F218 F215) (d246 : Disj F221 F215) (hNN : NN N0 u0 N u) (hBB : BB σ1.bx.length β0 β) : W 1 (mkL 14 [0, 1, 2, 3, 4, 5, 6, 7, 8, 9, 10, 11, 12]) ac w := by
   exact o1 hW 13 (S.wl hW [] .nil fun _ _ _ S => hK239 _ _ q217 F218 q220 F221 q214 F215 _ _ _ S o216 o219 o213 d244 d245 d246)
  have hK247 ac w q217 F218 q220 F221 q214 F215 u N β (S : St Tryz.prog Tryz.f26.ntmps w0 NoB u N β (σ1.dl [] [(16, .v (GT.val (⟨h.mem, ([] : List TMon), h.buf, h.iobuf⟩ : THost) (⟨q214, (GT.pdflt (α := List TMon)), q217, q220⟩ : PHost)))] 2 []) ac w) (o216 : Ow w0 NoB u N F218 h.buf q217) (o219 : Ow w0 NoB u N F221 h.iobuf q220) (o213 : Ow w0 NoB u N F215 h.mem q214) (d248 : Disj F218 F221) (d249 : Disj F218 F215) (d250 : Disj F221 F215) (hNN : NN N0 u0 N u) (hBB : BB σ1.bx.length β0 β) : W 2 (mkL 14 [0, 1, 2, 3, 4, 5, 6, 7, 8, 9, 10, 11]) ac w := by
   exact o1 hW 12 (S.wq hW hNN hBB [] .nil fun _ _ _ S hB => hK243 _ _ q217 F218 q220 F221 q214 F215 _ _ _ S o216 o219 o213 d248 d249 d250 hNN hB)
  have hK251 ac w q85 F86 q196 F197 q8 F9 u N β (S : St Tryz.prog Tryz.f26.ntmps w0 NoB u N β (σ1.dl [] [(3, .p 2 0), (7, .v (slv h.mem.length q8.1)), (11, .v (slv h.buf.length q85.1)), (15, .v (slv h.iobuf.length q196.1))] 3 [(2, Zc THost)]) ac w) (o84 : Ow w0 NoB u N F86 h.buf q85) (o195 : Ow w0 NoB u N F197 h.iobuf q196) (o7 : Ow w0 NoB u N F9 h.mem q8) (d252 : Disj F86 F197) (d253 : Disj F86 F9) (d254 : Disj F197 F9) (hNN : NN N0 u0 N u) (hBB : BB σ1.bx.length β0 β) : W 2 (mkL 14 [0, 1, 2, 3, 4, 5, 6, 7, 8, 9, 10, 12]) ac w := by
   exact o1 hW 11 (S.wq hW hNN hBB [] (.cons (Q_sem (s := Instr.build 31 [(0, slv h.mem.length q8.1), (2, slv h.buf.length q85.1), (3, slv h.iobuf.length q196.1)].toArray) (v := .agg [slv h.mem.length q8.1, slv ([] : List TMon).length (GT.pdflt (α := List TMon)).1, slv h.buf.length q85.1, slv h.iobuf.length q196.1].toArray) (fun w => by kernel_rfl)) .nil) fun _ _ _ S hB => hK243 _ _ q85 F86 q196 F197 q8 F9 _ _ _ S o84 o195 o7 d252 d253 d254 hNN hB)
  have hK255 ac w q85 F86 q196 F197 q8 F9 u N β (S : St Tryz.prog Tryz.f26.ntmps w0 NoB u N β (σ1.dl [] [(7, .v (slv h.mem.length q8.1)), (11, .v (slv h.buf.length q85.1)), (15, .v (slv h.iobuf.length q196.1))] 2 []) ac w) (o84 : Ow w0 NoB u N F86 h.buf q85) (o195 : Ow w0 NoB u N F197 h.iobuf q196) (o7 : Ow w0 NoB u N F9 h.mem q8) (d256 : Disj F86 F197) (d257 : Disj F86 F9) (d258 : Disj F197 F9) (hNN : NN N0 u0 N u) (hBB : BB σ1.bx.length β0 β) : W 3 (mkL 14 [0, 1, 2, 3, 4, 5, 6, 7, 8, 9, 10]) ac w := by
   exact o2 hW 11 12 (S.wq hW hNN hBB [] (.cons (Q_sem (s := Instr.build 31 [(0, slv h.mem.length q8.1), (2, slv h.buf.length q85.1), (3, slv h.iobuf.length q196.1)].toArray) (v := .agg [slv h.mem.length q8.1, slv ([] : List TMon).length (GT.pdflt (α := List TMon)).1, slv h.buf.length q85.1, slv h.iobuf.length q196.1].toArray) (fun w => by kernel_rfl)) .nil) fun _ _ _ S hB => hK247 _ _ q85 F86 q196 F197 q8 F9 _ _ _ S o84 o195 o7 d256 d257 d258 hNN hB) (S.wq hW hNN hBB [] .nil fun _ _ _ S hB => hK251 _ _ q85 F86 q196 F197 q8 F9 _ _ _ S o84 o195 o7 d256 d257 d258 hNN hB)
  have hK259 ac w q85 F86 q24 F25 q8 F9 u N β (S : St Tryz.prog Tryz.f26.ntmps w0 NoB u N β (σ1.dl [] [(3, .p 2 0), (7, .v (slv h.mem.length q8.1)), (11, .v (slv h.buf.length q85.1)), (12, .v (slv 0 q24.1)), (14, .v (slv h.iobuf.length ph.iobuf.1))] 3 [(2, Zc THost)]) ac w) (o84 : Ow w0 NoB u N F86 h.buf q85) (o23 : Ow w0 NoB u N F25 ([] : List TEntry) q24) (o7 : Ow w0 NoB u N F9 h.mem q8) (d260 : Disj F86 F25) (d261 : Disj F86 F9) (d262 : Disj F25 F9) (hNN : ∀ b, N0 b → N b ∧ u.heap[b]? = u0.heap[b]? ∧ ¬ F25 b) (hBB : BB σ1.bx.length β0 β) : W 3 (mkL 14 [0, 1, 2, 3, 4, 5, 6, 7, 8, 9, 12]) ac w := by
   refine o1 hW 10 ?_
   have b267 : h.iobuf.length ≤ 4194304 := LRd.le (RHost.iobuf (d := h) (S.arg hh))
   refine id (S.appFlat0 (α := TEntry) o23 (RHost.iobuf (d := h) (S.arg hh)) (fun _ _ h => h) (by' := 32) (d := 15) (lx := 0) (ly := h.iobuf.length) rfl fun ac w N q263 F264 S up o265 d266 => ?_)
   have hb268 := fun b h => (⟨(up b (hNN b h).1 (hNN b h).2.2).1, (up b (hNN b h).1 (hNN b h).2.2).2.trans (hNN b h).2.1⟩ : _ ∧ _)
   refine WD.sc S hb268 hBB fun hC => ?_
   have d269 := d266 _ (Disj.symm d262) o7.sub
   have d270 := d266 _ d260 o84.sub
   replace o7 := o7.upF (Disj.symm d262) up
   replace o84 := o84.upF d260 up
   clear up d266
   exact S.wh hW [] hC fun _ S => hK251 _ _ q85 F86 q263 F264 q8 F9 _ _ _ S o84 o265 o7 d270 d261 (Disj.symm d269) hb268 hBB
  have hK271 ac w q85 F86 q24 F25 q8 F9 u N β (S : St Tryz.prog Tryz.f26.ntmps w0 NoB u N β (σ1.dl [] [(7, .v (slv h.mem.length q8.1)), (11, .v (slv h.buf.length q85.1)), (12, .v (slv 0 q24.1)), (14, .v (slv h.iobuf.length ph.iobuf.1))] 2 []) ac w) (o84 : Ow w0 NoB u N F86 h.buf q85) (o23 : Ow w0 NoB u N F25 ([] : List TEntry) q24) (o7 : Ow w0 NoB u N F9 h.mem q8) (d272 : Disj F86 F25) (d273 : Disj F86 F9) (d274 : Disj F25 F9) (hNN : ∀ b, N0 b → N b ∧ u.heap[b]? = u0.heap[b]? ∧ ¬ F25 b) (hBB : BB σ1.bx.length β0 β) : W 4 (mkL 14 [0, 1, 2, 3, 4, 5, 6, 7, 8, 9]) ac w := by
   refine o2 hW 10 12 ?_ (S.wq hW (fun b h => ⟨(hNN b h).1, (hNN b h).2.1⟩) hBB [] .nil fun _ _ _ S hB => hK259 _ _ q85 F86 q24 F25 q8 F9 _ _ _ S o84 o23 o7 d272 d273 d274 hNN hB)
   have b279 : h.iobuf.length ≤ 4194304 := LRd.le (RHost.iobuf (d := h) (S.arg hh))
   refine id (S.appFlat0 (α := TEntry) o23 (RHost.iobuf (d := h) (S.arg hh)) (fun _ _ h => h) (by' := 32) (d := 15) (lx := 0) (ly := h.iobuf.length) rfl fun ac w N q275 F276 S up o277 d278 => ?_)
   have hb280 := fun b h => (⟨(up b (hNN b h).1 (hNN b h).2.2).1, (up b (hNN b h).1 (hNN b h).2.2).2.trans (hNN b h).2.1⟩ : _ ∧ _)
   refine WD.sc S hb280 hBB fun hC => ?_
   have d281 := d278 _ (Disj.symm d274) o7.sub
   have d282 := d278 _ d272 o84.sub
   replace o7 := o7.upF (Disj.symm d274) up
   replace o84 := o84.upF d272 up
   clear up d278
   exact S.wh hW [] hC fun _ S => hK255 _ _ q85 F86 q275 F276 q8 F9 _ _ _ S o84 o277 o7 d282 d273 (Disj.symm d281) hb280 hBB
  have hK283 ac w q85 F86 q8 F9 u N β (S : St Tryz.prog Tryz.f26.ntmps w0 NoB u N β (σ1.dl [] [(3, .p 2 0), (7, .v (slv h.mem.length q8.1)), (11, .v (slv h.buf.length q85.1)), (14, .v (slv h.iobuf.length ph.iobuf.1))] 3 [(2, Zc THost)]) ac w) (o84 : Ow w0 NoB u N F86 h.buf q85) (o7 : Ow w0 NoB u N F9 h.mem q8) (d284 : Disj F86 F9) (hNN : NN N0 u0 N u) (hBB : BB σ1.bx.length β0 β) : W 4 (mkL 14 [0, 1, 2, 3, 4, 5, 6, 8, 9, 12]) ac w := by
   refine o1 hW 7 ?_
   refine id (S.bs0 (α := TEntry) (d := 12) (by kernel_rfl) fun ac w N q285 F286 S up o287 d288 => ?_)
   have hb289 := fun b h => (⟨(up b (hNN b h).1).1, (up b (hNN b h).1).2.trans (hNN b h).2, d288 b (hNN b h).1⟩ : _ ∧ _ ∧ _)
   refine WD.sc S (fun b h => ⟨(hb289 b h).1, (hb289 b h).2.1⟩) hBB fun hC => ?_
   have d290 := Disj.w d288 o7.sub
   have d291 := Disj.w d288 o84.sub
   replace o7 := o7.up up
   replace o84 := o84.up up
   clear up d288
   exact S.wh hW [] hC fun _ S => hK259 _ _ q85 F86 q285 F286 q8 F9 _ _ _ S o84 o287 o7 d291 d284 (Disj.symm d290) hb289 hBB
  have hK292 ac w q24 F25 q8 F9 q16 F17 u N β (S : St Tryz.prog Tryz.f26.ntmps w0 NoB u N β (σ1.dl [] [(3, .p 2 0), (7, .v (slv h.mem.length q8.1)), (8, .v (slv 0 q16.1)), (10, .v (slv h.buf.length ph.buf.1)), (12, .v (slv 0 q24.1)), (14, .v (slv h.iobuf.length ph.iobuf.1))] 3 [(2, Zc THost)]) ac w) (o23 : Ow w0 NoB u N F25 ([] : List TEntry) q24) (o7 : Ow w0 NoB u N F9 h.mem q8) (o15 : Ow w0 NoB u N F17 ([] : List TEntry) q16) (d293 : Disj F25 F9) (d294 : Disj F25 F17) (d295 : Disj F9 F17) (hNN : ∀ b, N0 b → N b ∧ u.heap[b]? = u0.heap[b]? ∧ ¬ F17 b ∧ ¬ F25 b) (hBB : BB σ1.bx.length β0 β) : W 4 (mkL 14 [0, 1, 2, 3, 4, 5, 7, 8, 9, 12]) ac w := by
   refine o1 hW 6 ?_
   have b300 : h.buf.length ≤ 4194304 := LRd.le (RHost.buf (d := h) (S.arg hh))
   refine id (S.appFlat0 (α := TEntry) o15 (RHost.buf (d := h) (S.arg hh)) (fun _ _ h => h) (by' := 32) (d := 11) (lx := 0) (ly := h.buf.length) rfl fun ac w N q296 F297 S up o298 d299 => ?_)
   have hb301 := fun b h => (⟨(up b (hNN b h).1 (hNN b h).2.2.1).1, (up b (hNN b h).1 (hNN b h).2.2.1).2.trans (hNN b h).2.1, (hNN b h).2.2.2⟩ : _ ∧ _ ∧ _)
   refine WD.sc S (fun b h => ⟨(hb301 b h).1, (hb301 b h).2.1⟩) hBB fun hC => ?_
   have d302 := d299 _ d295 o7.sub
   have d303 := d299 _ d294 o23.sub
   replace o7 := o7.upF d295 up
   replace o23 := o23.upF d294 up
   clear up d299
   exact S.wh hW [] hC fun _ S => hK259 _ _ q296 F297 q24 F25 q8 F9 _ _ _ S o298 o23 o7 (Disj.symm d303) (Disj.symm d302) d293 hb301 hBB
  have hK304 ac w q85 F86 q8 F9 u N β (S : St Tryz.prog Tryz.f26.ntmps w0 NoB u N β (σ1.dl [] [(7, .v (slv h.mem.length q8.1)), (11, .v (slv h.buf.length q85.1)), (14, .v (slv h.iobuf.length ph.iobuf.1))] 2 []) ac w) (o84 : Ow w0 NoB u N F86 h.buf q85) (o7 : Ow w0 NoB u N F9 h.mem q8) (d305 : Disj F86 F9) (hNN : NN N0 u0 N u) (hBB : BB σ1.bx.length β0 β) : W 5 (mkL 14 [0, 1, 2, 3, 4, 5, 6, 8, 9]) ac w := by
   refine o2 hW 7 12 ?_ (S.wq hW hNN hBB [] .nil fun _ _ _ S hB => hK283 _ _ q85 F86 q8 F9 _ _ _ S o84 o7 d305 hNN hB)
   refine id (S.bs0 (α := TEntry) (d := 12) (by kernel_rfl) fun ac w N q306 F307 S up o308 d309 => ?_)
   have hb310 := fun b h => (⟨(up b (hNN b h).1).1, (up b (hNN b h).1).2.trans (hNN b h).2, d309 b (hNN b h).1⟩ : _ ∧ _ ∧ _)
   refine WD.sc S (fun b h => ⟨(hb310 b h).1, (hb310 b h).2.1⟩) hBB fun hC => ?_
   have d311 := Disj.w d309 o7.sub
   have d312 := Disj.w d309 o84.sub
   replace o7 := o7.up up
   replace o84 := o84.up up
   clear up d309
   exact S.wh hW [] hC fun _ S => hK271 _ _ q85 F86 q306 F307 q8 F9 _ _ _ S o84 o308 o7 d312 d305 (Disj.symm d311) hb310 hBB
  have hK313 ac w q24 F25 q8 F9 q16 F17 u N β (S : St Tryz.prog Tryz.f26.ntmps w0 NoB u N β (σ1.dl [] [(7, .v (slv h.mem.length q8.1)), (8, .v (slv 0 q16.1)), (10, .v (slv h.buf.length ph.buf.1)), (12, .v (slv 0 q24.1)), (14, .v (slv h.iobuf.length ph.iobuf.1))] 2 []) ac w) (o23 : Ow w0 NoB u N F25 ([] : List TEntry) q24) (o7 : Ow w0 NoB u N F9 h.mem q8) (o15 : Ow w0 NoB u N F17 ([] : List TEntry) q16) (d314 : Disj F25 F9) (d315 : Disj F25 F17) (d316 : Disj F9 F17) (hNN : ∀ b, N0 b → N b ∧ u.heap[b]? = u0.heap[b]? ∧ ¬ F17 b ∧ ¬ F25 b) (hBB : BB σ1.bx.length β0 β) : W 5 (mkL 14 [0, 1, 2, 3, 4, 5, 7, 8, 9]) ac w := by
   refine o2 hW 6 12 ?_ (S.wq hW (fun b h => ⟨(hNN b h).1, (hNN b h).2.1⟩) hBB [] .nil fun _ _ _ S hB => hK292 _ _ q24 F25 q8 F9 q16 F17 _ _ _ S o23 o7 o15 d314 d315 d316 hNN hB)
   have b321 : h.buf.length ≤ 4194304 := LRd.le (RHost.buf (d := h) (S.arg hh))
   refine id (S.appFlat0 (α := TEntry) o15 (RHost.buf (d := h) (S.arg hh)) (fun _ _ h => h) (by' := 32) (d := 11) (lx := 0) (ly := h.buf.length) rfl fun ac w N q317 F318 S up o319 d320 => ?_)
   have hb322 := fun b h => (⟨(up b (hNN b h).1 (hNN b h).2.2.1).1, (up b (hNN b h).1 (hNN b h).2.2.1).2.trans (hNN b h).2.1, (hNN b h).2.2.2⟩ : _ ∧ _ ∧ _)
   refine WD.sc S (fun b h => ⟨(hb322 b h).1, (hb322 b h).2.1⟩) hBB fun hC => ?_
   have d323 := d320 _ d316 o7.sub
   have d324 := d320 _ d315 o23.sub
   replace o7 := o7.upF d316 up
   replace o23 := o23.upF d315 up
   clear up d320
   exact S.wh hW [] hC fun _ S => hK271 _ _ q317 F318 q24 F25 q8 F9 _ _ _ S o319 o23 o7 (Disj.symm d324) (Disj.symm d323) d314 hb322 hBB
  have hK325 ac w q8 F9 q16 F17 u N β (S : St Tryz.prog Tryz.f26.ntmps w0 NoB u N β (σ1.dl [] [(3, .p 2 0), (7, .v (slv h.mem.length q8.1)), (8, .v (slv 0 q16.1)), (10, .v (slv h.buf.length ph.buf.1)), (14, .v (slv h.iobuf.length ph.iobuf.1))] 3 [(2, Zc THost)]) ac w) (o7 : Ow w0 NoB u N F9 h.mem q8) (o15 : Ow w0 NoB u N F17 ([] : List TEntry) q16) (d326 : Disj F9 F17) (hNN : ∀ b, N0 b → N b ∧ u.heap[b]? = u0.heap[b]? ∧ ¬ F17 b) (hBB : BB σ1.bx.length β0 β) : W 5 (mkL 14 [0, 1, 2, 3, 4, 5, 8, 9, 12]) ac w := by
   refine o2 hW 6 7 ?_ ?_
   ·have b331 : h.buf.length ≤ 4194304 := LRd.le (RHost.buf (d := h) (S.arg hh))
    refine id (S.appFlat0 (α := TEntry) o15 (RHost.buf (d := h) (S.arg hh)) (fun _ _ h => h) (by' := 32) (d := 11) (lx := 0) (ly := h.buf.length) rfl fun ac w N q327 F328 S up o329 d330 => ?_)
    have hb332 := fun b h => (⟨(up b (hNN b h).1 (hNN b h).2.2).1, (up b (hNN b h).1 (hNN b h).2.2).2.trans (hNN b h).2.1⟩ : _ ∧ _)
    refine WD.sc S hb332 hBB fun hC => ?_
    have d333 := d330 _ d326 o7.sub
    replace o7 := o7.upF d326 up
    clear up d330
    exact S.wh hW [] hC fun _ S => hK283 _ _ q327 F328 q8 F9 _ _ _ S o329 o7 (Disj.symm d333) hb332 hBB
   ·refine id (S.bs0 (α := TEntry) (d := 12) (by kernel_rfl) fun ac w N q334 F335 S up o336 d337 => ?_)
    have hb338 := fun b h => (⟨(up b (hNN b h).1).1, (up b (hNN b h).1).2.trans (hNN b h).2.1, (hNN b h).2.2, d337 b (hNN b h).1⟩ : _ ∧ _ ∧ _ ∧ _)
    refine WD.sc S (fun b h => ⟨(hb338 b h).1, (hb338 b h).2.1⟩) hBB fun hC => ?_
    have d339 := Disj.w d337 o7.sub
    have d340 := Disj.w d337 o15.sub
    replace o7 := o7.up up
    replace o15 := o15.up up
    clear up d337
    exact S.wh hW [] hC fun _ S => hK292 _ _ q334 F335 q8 F9 q16 F17 _ _ _ S o336 o7 o15 (Disj.symm d339) (Disj.symm d340) d326 hb338 hBB
  have hK341 ac w q24 F25 q8 F9 u N β (S : St Tryz.prog Tryz.f26.ntmps w0 NoB u N β (σ1.dl [] [(3, .p 2 0), (7, .v (slv h.mem.length q8.1)), (10, .v (slv h.buf.length ph.buf.1)), (12, .v (slv 0 q24.1)), (14, .v (slv h.iobuf.length ph.iobuf.1))] 3 [(2, Zc THost)]) ac w) (o23 : Ow w0 NoB u N F25 ([] : List TEntry) q24) (o7 : Ow w0 NoB u N F9 h.mem q8) (d342 : Disj F25 F9) (hNN : ∀ b, N0 b → N b ∧ u.heap[b]? = u0.heap[b]? ∧ ¬ F25 b) (hBB : BB σ1.bx.length β0 β) : W 5 (mkL 14 [0, 1, 2, 4, 5, 7, 8, 9, 12]) ac w := by
   refine o1 hW 3 ?_
   refine id (S.bs0 (α := TEntry) (d := 8) (by kernel_rfl) fun ac w N q343 F344 S up o345 d346 => ?_)
   have hb347 := fun b h => (⟨(up b (hNN b h).1).1, (up b (hNN b h).1).2.trans (hNN b h).2.1, d346 b (hNN b h).1, (hNN b h).2.2⟩ : _ ∧ _ ∧ _ ∧ _)
   refine WD.sc S (fun b h => ⟨(hb347 b h).1, (hb347 b h).2.1⟩) hBB fun hC => ?_
   have d348 := Disj.w d346 o7.sub
   have d349 := Disj.w d346 o23.sub
   replace o7 := o7.up up
   replace o23 := o23.up up
   clear up d346
   exact S.wh hW [] hC fun _ S => hK292 _ _ q24 F25 q8 F9 q343 F344 _ _ _ S o23 o7 o345 d342 d349 d348 hb347 hBB
  have hK350 ac w q24 F25 q16 F17 u N β (S : St Tryz.prog Tryz.f26.ntmps w0 NoB u N β (σ1.dl [] [(3, .p 2 0), (6, .v (slv h.mem.length ph.mem.1)), (8, .v (slv 0 q16.1)), (10, .v (slv h.buf.length ph.buf.1)), (12, .v (slv 0 q24.1)), (14, .v (slv h.iobuf.length ph.iobuf.1))] 3 [(2, Zc THost)]) ac w) (o23 : Ow w0 NoB u N F25 ([] : List TEntry) q24) (o15 : Ow w0 NoB u N F17 ([] : List TEntry) q16) (d351 : Disj F25 F17) (hNN : ∀ b, N0 b → N b ∧ u.heap[b]? = u0.heap[b]? ∧ ¬ F17 b ∧ ¬ F25 b) (hBB : BB σ1.bx.length β0 β) : W 5 (mkL 14 [0, 1, 3, 4, 5, 7, 8, 9, 12]) ac w := by
   refine o1 hW 2 ?_
   refine id (S.k1 7 (c_spec_l04Copy w h.mem ph.mem (S.rd (RHost.mem (d := h) (S.arg hh)))) fun ac w N q352 F353 S up o354 d355 => ?_)
   have hb356 := fun b h => (⟨(up b (hNN b h).1).1, (up b (hNN b h).1).2.trans (hNN b h).2.1, (hNN b h).2.2.1, (hNN b h).2.2.2⟩ : _ ∧ _ ∧ _ ∧ _)
   refine WD.sc S (fun b h => ⟨(hb356 b h).1, (hb356 b h).2.1⟩) hBB fun hC => ?_
   have d357 := Disj.w d355 o15.sub
   have d358 := Disj.w d355 o23.sub
   replace o15 := o15.up up
   replace o23 := o23.up up
   clear up d355
   exact S.wh hW [] hC fun _ S => hK292 _ _ q24 F25 q352 F353 q16 F17 _ _ _ S o23 o354 o15 d358 d351 (Disj.symm d357) hb356 hBB
  have hK359 ac w q8 F9 q16 F17 u N β (S : St Tryz.prog Tryz.f26.ntmps w0 NoB u N β (σ1.dl [] [(7, .v (slv h.mem.length q8.1)), (8, .v (slv 0 q16.1)), (10, .v (slv h.buf.length ph.buf.1)), (14, .v (slv h.iobuf.length ph.iobuf.1))] 2 []) ac w) (o7 : Ow w0 NoB u N F9 h.mem q8) (o15 : Ow w0 NoB u N F17 ([] : List TEntry) q16) (d360 : Disj F9 F17) (hNN : ∀ b, N0 b → N b ∧ u.heap[b]? = u0.heap[b]? ∧ ¬ F17 b) (hBB : BB σ1.bx.length β0 β) : W 6 (mkL 14 [0, 1, 2, 3, 4, 5, 8, 9]) ac w := by
   refine o3 hW 6 7 12 ?_ ?_ (S.wq hW (fun b h => ⟨(hNN b h).1, (hNN b h).2.1⟩) hBB [] .nil fun _ _ _ S hB => hK325 _ _ q8 F9 q16 F17 _ _ _ S o7 o15 d360 hNN hB)
   ·have b365 : h.buf.length ≤ 4194304 := LRd.le (RHost.buf (d := h) (S.arg hh))
    refine id (S.appFlat0 (α := TEntry) o15 (RHost.buf (d := h) (S.arg hh)) (fun _ _ h => h) (by' := 32) (d := 11) (lx := 0) (ly := h.buf.length) rfl fun ac w N q361 F362 S up o363 d364 => ?_)
    have hb366 := fun b h => (⟨(up b (hNN b h).1 (hNN b h).2.2).1, (up b (hNN b h).1 (hNN b h).2.2).2.trans (hNN b h).2.1⟩ : _ ∧ _)
    refine WD.sc S hb366 hBB fun hC => ?_
    have d367 := d364 _ d360 o7.sub
    replace o7 := o7.upF d360 up
    clear up d364
    exact S.wh hW [] hC fun _ S => hK304 _ _ q361 F362 q8 F9 _ _ _ S o363 o7 (Disj.symm d367) hb366 hBB
   ·refine id (S.bs0 (α := TEntry) (d := 12) (by kernel_rfl) fun ac w N q368 F369 S up o370 d371 => ?_)
    have hb372 := fun b h => (⟨(up b (hNN b h).1).1, (up b (hNN b h).1).2.trans (hNN b h).2.1, (hNN b h).2.2, d371 b (hNN b h).1⟩ : _ ∧ _ ∧ _ ∧ _)
    refine WD.sc S (fun b h => ⟨(hb372 b h).1, (hb372 b h).2.1⟩) hBB fun hC => ?_
    have d373 := Disj.w d371 o7.sub
    have d374 := Disj.w d371 o15.sub
    replace o7 := o7.up up
    replace o15 := o15.up up
    clear up d371
    exact S.wh hW [] hC fun _ S => hK313 _ _ q368 F369 q8 F9 q16 F17 _ _ _ S o370 o7 o15 (Disj.symm d373) (Disj.symm d374) d360 hb372 hBB
  have hK375 ac w q24 F25 q8 F9 u N β (S : St Tryz.prog Tryz.f26.ntmps w0 NoB u N β (σ1.dl [] [(7, .v (slv h.mem.length q8.1)), (10, .v (slv h.buf.length ph.buf.1)), (12, .v (slv 0 q24.1)), (14, .v (slv h.iobuf.length ph.iobuf.1))] 2 []) ac w) (o23 : Ow w0 NoB u N F25 ([] : List TEntry) q24) (o7 : Ow w0 NoB u N F9 h.mem q8) (d376 : Disj F25 F9) (hNN : ∀ b, N0 b → N b ∧ u.heap[b]? = u0.heap[b]? ∧ ¬ F25 b) (hBB : BB σ1.bx.length β0 β) : W 6 (mkL 14 [0, 1, 2, 4, 5, 7, 8, 9]) ac w := by
   refine o2 hW 3 12 ?_ (S.wq hW (fun b h => ⟨(hNN b h).1, (hNN b h).2.1⟩) hBB [] .nil fun _ _ _ S hB => hK341 _ _ q24 F25 q8 F9 _ _ _ S o23 o7 d376 hNN hB)
   refine id (S.bs0 (α := TEntry) (d := 8) (by kernel_rfl) fun ac w N q377 F378 S up o379 d380 => ?_)
   have hb381 := fun b h => (⟨(up b (hNN b h).1).1, (up b (hNN b h).1).2.trans (hNN b h).2.1, d380 b (hNN b h).1, (hNN b h).2.2⟩ : _ ∧ _ ∧ _ ∧ _)
   refine WD.sc S (fun b h => ⟨(hb381 b h).1, (hb381 b h).2.1⟩) hBB fun hC => ?_
   have d382 := Disj.w d380 o7.sub
   have d383 := Disj.w d380 o23.sub
   replace o7 := o7.up up
   replace o23 := o23.up up
   clear up d380
   exact S.wh hW [] hC fun _ S => hK313 _ _ q24 F25 q8 F9 q377 F378 _ _ _ S o23 o7 o379 d376 d383 d382 hb381 hBB
  have hK384 ac w q8 F9 u N β (S : St Tryz.prog Tryz.f26.ntmps w0 NoB u N β (σ1.dl [] [(3, .p 2 0), (7, .v (slv h.mem.length q8.1)), (10, .v (slv h.buf.length ph.buf.1)), (14, .v (slv h.iobuf.length ph.iobuf.1))] 3 [(2, Zc THost)]) ac w) (o7 : Ow w0 NoB u N F9 h.mem q8) (hNN : NN N0 u0 N u) (hBB : BB σ1.bx.length β0 β) : W 6 (mkL 14 [0, 1, 2, 4, 5, 8, 9, 12]) ac w := by
   refine o2 hW 3 7 ?_ ?_
   ·refine id (S.bs0 (α := TEntry) (d := 8) (by kernel_rfl) fun ac w N q385 F386 S up o387 d388 => ?_)
    have hb389 := fun b h => (⟨(up b (hNN b h).1).1, (up b (hNN b h).1).2.trans (hNN b h).2, d388 b (hNN b h).1⟩ : _ ∧ _ ∧ _)
    refine WD.sc S (fun b h => ⟨(hb389 b h).1, (hb389 b h).2.1⟩) hBB fun hC => ?_
    have d390 := Disj.w d388 o7.sub
    replace o7 := o7.up up
    clear up d388
    exact S.wh hW [] hC fun _ S => hK325 _ _ q8 F9 q385 F386 _ _ _ S o7 o387 d390 hb389 hBB
   ·refine id (S.bs0 (α := TEntry) (d := 12) (by kernel_rfl) fun ac w N q391 F392 S up o393 d394 => ?_)
    have hb395 := fun b h => (⟨(up b (hNN b h).1).1, (up b (hNN b h).1).2.trans (hNN b h).2, d394 b (hNN b h).1⟩ : _ ∧ _ ∧ _)
    refine WD.sc S (fun b h => ⟨(hb395 b h).1, (hb395 b h).2.1⟩) hBB fun hC => ?_
    have d396 := Disj.w d394 o7.sub
    replace o7 := o7.up up
    clear up d394
    exact S.wh hW [] hC fun _ S => hK341 _ _ q391 F392 q8 F9 _ _ _ S o393 o7 (Disj.symm d396) hb395 hBB
  have hK397 ac w q24 F25 q16 F17 u N β (S : St Tryz.prog Tryz.f26.ntmps w0 NoB u N β (σ1.dl [] [(6, .v (slv h.mem.length ph.mem.1)), (8, .v (slv 0 q16.1)), (10, .v (slv h.buf.length ph.buf.1)), (12, .v (slv 0 q24.1)), (14, .v (slv h.iobuf.length ph.iobuf.1))] 2 []) ac w) (o23 : Ow w0 NoB u N F25 ([] : List TEntry) q24) (o15 : Ow w0 NoB u N F17 ([] : List TEntry) q16) (d398 : Disj F25 F17) (hNN : ∀ b, N0 b → N b ∧ u.heap[b]? = u0.heap[b]? ∧ ¬ F17 b ∧ ¬ F25 b) (hBB : BB σ1.bx.length β0 β) : W 6 (mkL 14 [0, 1, 3, 4, 5, 7, 8, 9]) ac w := by
   refine o2 hW 2 12 ?_ (S.wq hW (fun b h => ⟨(hNN b h).1, (hNN b h).2.1⟩) hBB [] .nil fun _ _ _ S hB => hK350 _ _ q24 F25 q16 F17 _ _ _ S o23 o15 d398 hNN hB)
   refine id (S.k1 7 (c_spec_l04Copy w h.mem ph.mem (S.rd (RHost.mem (d := h) (S.arg hh)))) fun ac w N q399 F400 S up o401 d402 => ?_)
   have hb403 := fun b h => (⟨(up b (hNN b h).1).1, (up b (hNN b h).1).2.trans (hNN b h).2.1, (hNN b h).2.2.1, (hNN b h).2.2.2⟩ : _ ∧ _ ∧ _ ∧ _)
   refine WD.sc S (fun b h => ⟨(hb403 b h).1, (hb403 b h).2.1⟩) hBB fun hC => ?_
   have d404 := Disj.w d402 o15.sub
   have d405 := Disj.w d402 o23.sub
   replace o15 := o15.up up
   replace o23 := o23.up up
   clear up d402
   exact S.wh hW [] hC fun _ S => hK313 _ _ q24 F25 q399 F400 q16 F17 _ _ _ S o23 o401 o15 d405 d398 (Disj.symm d404) hb403 hBB
  have hK406 ac w q16 F17 u N β (S : St Tryz.prog Tryz.f26.ntmps w0 NoB u N β (σ1.dl [] [(3, .p 2 0), (6, .v (slv h.mem.length ph.mem.1)), (8, .v (slv 0 q16.1)), (10, .v (slv h.buf.length ph.buf.1)), (14, .v (slv h.iobuf.length ph.iobuf.1))] 3 [(2, Zc THost)]) ac w) (o15 : Ow w0 NoB u N F17 ([] : List TEntry) q16) (hNN : ∀ b, N0 b → N b ∧ u.heap[b]? = u0.heap[b]? ∧ ¬ F17 b) (hBB : BB σ1.bx.length β0 β) : W 6 (mkL 14 [0, 1, 3, 4, 5, 8, 9, 12]) ac w := by
   refine o2 hW 2 7 ?_ ?_
   ·refine id (S.k1 7 (c_spec_l04Copy w h.mem ph.mem (S.rd (RHost.mem (d := h) (S.arg hh)))) fun ac w N q407 F408 S up o409 d410 => ?_)
    have hb411 := fun b h => (⟨(up b (hNN b h).1).1, (up b (hNN b h).1).2.trans (hNN b h).2.1, (hNN b h).2.2⟩ : _ ∧ _ ∧ _)
    refine WD.sc S (fun b h => ⟨(hb411 b h).1, (hb411 b h).2.1⟩) hBB fun hC => ?_
    have d412 := Disj.w d410 o15.sub
    replace o15 := o15.up up
    clear up d410
    exact S.wh hW [] hC fun _ S => hK325 _ _ q407 F408 q16 F17 _ _ _ S o409 o15 (Disj.symm d412) hb411 hBB
   ·refine id (S.bs0 (α := TEntry) (d := 12) (by kernel_rfl) fun ac w N q413 F414 S up o415 d416 => ?_)
    have hb417 := fun b h => (⟨(up b (hNN b h).1).1, (up b (hNN b h).1).2.trans (hNN b h).2.1, (hNN b h).2.2, d416 b (hNN b h).1⟩ : _ ∧ _ ∧ _ ∧ _)
    refine WD.sc S (fun b h => ⟨(hb417 b h).1, (hb417 b h).2.1⟩) hBB fun hC => ?_
    have d418 := Disj.w d416 o15.sub
    replace o15 := o15.up up
    clear up d416
    exact S.wh hW [] hC fun _ S => hK350 _ _ q413 F414 q16 F17 _ _ _ S o415 o15 (Disj.symm d418) hb417 hBB
  have hK419 ac w q24 F25 u N β (S : St Tryz.prog Tryz.f26.ntmps w0 NoB u N β (σ1.dl [] [(3, .p 2 0), (6, .v (slv h.mem.length ph.mem.1)), (10, .v (slv h.buf.length ph.buf.1)), (12, .v (slv 0 q24.1)), (14, .v (slv h.iobuf.length ph.iobuf.1))] 3 [(2, Zc THost)]) ac w) (o23 : Ow w0 NoB u N F25 ([] : List TEntry) q24) (hNN : ∀ b, N0 b → N b ∧ u.heap[b]? = u0.heap[b]? ∧ ¬ F25 b) (hBB : BB σ1.bx.length β0 β) : W 6 (mkL 14 [0, 1, 4, 5, 7, 8, 9, 12]) ac w := by
   refine o2 hW 2 3 ?_ ?_
   ·refine id (S.k1 7 (c_spec_l04Copy w h.mem ph.mem (S.rd (RHost.mem (d := h) (S.arg hh)))) fun ac w N q420 F421 S up o422 d423 => ?_)
    have hb424 := fun b h => (⟨(up b (hNN b h).1).1, (up b (hNN b h).1).2.trans (hNN b h).2.1, (hNN b h).2.2⟩ : _ ∧ _ ∧ _)
    refine WD.sc S (fun b h => ⟨(hb424 b h).1, (hb424 b h).2.1⟩) hBB fun hC => ?_
    have d425 := Disj.w d423 o23.sub
    replace o23 := o23.up up
    clear up d423
    exact S.wh hW [] hC fun _ S => hK341 _ _ q24 F25 q420 F421 _ _ _ S o23 o422 d425 hb424 hBB
   ·refine id (S.bs0 (α := TEntry) (d := 8) (by kernel_rfl) fun ac w N q426 F427 S up o428 d429 => ?_)
    have hb430 := fun b h => (⟨(up b (hNN b h).1).1, (up b (hNN b h).1).2.trans (hNN b h).2.1, d429 b (hNN b h).1, (hNN b h).2.2⟩ : _ ∧ _ ∧ _ ∧ _)
    refine WD.sc S (fun b h => ⟨(hb430 b h).1, (hb430 b h).2.1⟩) hBB fun hC => ?_
    have d431 := Disj.w d429 o23.sub
    replace o23 := o23.up up
    clear up d429
    exact S.wh hW [] hC fun _ S => hK350 _ _ q24 F25 q426 F427 _ _ _ S o23 o428 d431 hb430 hBB
  have hK432 ac w q8 F9 u N β (S : St Tryz.prog Tryz.f26.ntmps w0 NoB u N β (σ1.dl [] [(7, .v (slv h.mem.length q8.1)), (10, .v (slv h.buf.length ph.buf.1)), (14, .v (slv h.iobuf.length ph.iobuf.1))] 2 []) ac w) (o7 : Ow w0 NoB u N F9 h.mem q8) (hNN : NN N0 u0 N u) (hBB : BB σ1.bx.length β0 β) : W 7 (mkL 14 [0, 1, 2, 4, 5, 8, 9]) ac w := by
   refine o3 hW 3 7 12 ?_ ?_ (S.wq hW hNN hBB [] .nil fun _ _ _ S hB => hK384 _ _ q8 F9 _ _ _ S o7 hNN hB)
   ·refine id (S.bs0 (α := TEntry) (d := 8) (by kernel_rfl) fun ac w N q433 F434 S up o435 d436 => ?_)
    have hb437 := fun b h => (⟨(up b (hNN b h).1).1, (up b (hNN b h).1).2.trans (hNN b h).2, d436 b (hNN b h).1⟩ : _ ∧ _ ∧ _)
    refine WD.sc S (fun b h => ⟨(hb437 b h).1, (hb437 b h).2.1⟩) hBB fun hC => ?_
    have d438 := Disj.w d436 o7.sub
    replace o7 := o7.up up
    clear up d436
    exact S.wh hW [] hC fun _ S => hK359 _ _ q8 F9 q433 F434 _ _ _ S o7 o435 d438 hb437 hBB
   ·refine id (S.bs0 (α := TEntry) (d := 12) (by kernel_rfl) fun ac w N q439 F440 S up o441 d442 => ?_)
    have hb443 := fun b h => (⟨(up b (hNN b h).1).1, (up b (hNN b h).1).2.trans (hNN b h).2, d442 b (hNN b h).1⟩ : _ ∧ _ ∧ _)
    refine WD.sc S (fun b h => ⟨(hb443 b h).1, (hb443 b h).2.1⟩) hBB fun hC => ?_
    have d444 := Disj.w d442 o7.sub
    replace o7 := o7.up up
    clear up d442
    exact S.wh hW [] hC fun _ S => hK375 _ _ q439 F440 q8 F9 _ _ _ S o441 o7 (Disj.symm d444) hb443 hBB
  have hK445 ac w q16 F17 u N β (S : St Tryz.prog Tryz.f26.ntmps w0 NoB u N β (σ1.dl [] [(6, .v (slv h.mem.length ph.mem.1)), (8, .v (slv 0 q16.1)), (10, .v (slv h.buf.length ph.buf.1)), (14, .v (slv h.iobuf.length ph.iobuf.1))] 2 []) ac w) (o15 : Ow w0 NoB u N F17 ([] : List TEntry) q16) (hNN : ∀ b, N0 b → N b ∧ u.heap[b]? = u0.heap[b]? ∧ ¬ F17 b) (hBB : BB σ1.bx.length β0 β) : W 7 (mkL 14 [0, 1, 3, 4, 5, 8, 9]) ac w := by
   refine o3 hW 2 7 12 ?_ ?_ (S.wq hW (fun b h => ⟨(hNN b h).1, (hNN b h).2.1⟩) hBB [] .nil fun _ _ _ S hB => hK406 _ _ q16 F17 _ _ _ S o15 hNN hB)
   ·refine id (S.k1 7 (c_spec_l04Copy w h.mem ph.mem (S.rd (RHost.mem (d := h) (S.arg hh)))) fun ac w N q446 F447 S up o448 d449 => ?_)
    have hb450 := fun b h => (⟨(up b (hNN b h).1).1, (up b (hNN b h).1).2.trans (hNN b h).2.1, (hNN b h).2.2⟩ : _ ∧ _ ∧ _)
    refine WD.sc S (fun b h => ⟨(hb450 b h).1, (hb450 b h).2.1⟩) hBB fun hC => ?_
    have d451 := Disj.w d449 o15.sub
    replace o15 := o15.up up
    clear up d449
    exact S.wh hW [] hC fun _ S => hK359 _ _ q446 F447 q16 F17 _ _ _ S o448 o15 (Disj.symm d451) hb450 hBB
   ·refine id (S.bs0 (α := TEntry) (d := 12) (by kernel_rfl) fun ac w N q452 F453 S up o454 d455 => ?_)
    have hb456 := fun b h => (⟨(up b (hNN b h).1).1, (up b (hNN b h).1).2.trans (hNN b h).2.1, (hNN b h).2.2, d455 b (hNN b h).1⟩ : _ ∧ _ ∧ _ ∧ _)
    refine WD.sc S (fun b h => ⟨(hb456 b h).1, (hb456 b h).2.1⟩) hBB fun hC => ?_
    have d457 := Disj.w d455 o15.sub
    replace o15 := o15.up up
    clear up d455
    exact S.wh hW [] hC fun _ S => hK397 _ _ q452 F453 q16 F17 _ _ _ S o454 o15 (Disj.symm d457) hb456 hBB
  have hK458 ac w q24 F25 u N β (S : St Tryz.prog Tryz.f26.ntmps w0 NoB u N β (σ1.dl [] [(6, .v (slv h.mem.length ph.mem.1)), (10, .v (slv h.buf.length ph.buf.1)), (12, .v (slv 0 q24.1)), (14, .v (slv h.iobuf.length ph.iobuf.1))] 2 []) ac w) (o23 : Ow w0 NoB u N F25 ([] : List TEntry) q24) (hNN : ∀ b, N0 b → N b ∧ u.heap[b]? = u0.heap[b]? ∧ ¬ F25 b) (hBB : BB σ1.bx.length β0 β) : W 7 (mkL 14 [0, 1, 4, 5, 7, 8, 9]) ac w := by
   refine o3 hW 2 3 12 ?_ ?_ (S.wq hW (fun b h => ⟨(hNN b h).1, (hNN b h).2.1⟩) hBB [] .nil fun _ _ _ S hB => hK419 _ _ q24 F25 _ _ _ S o23 hNN hB)
   ·refine id (S.k1 7 (c_spec_l04Copy w h.mem ph.mem (S.rd (RHost.mem (d := h) (S.arg hh)))) fun ac w N q459 F460 S up o461 d462 => ?_)
    have hb463 := fun b h => (⟨(up b (hNN b h).1).1, (up b (hNN b h).1).2.trans (hNN b h).2.1, (hNN b h).2.2⟩ : _ ∧ _ ∧ _)
    refine WD.sc S (fun b h => ⟨(hb463 b h).1, (hb463 b h).2.1⟩) hBB fun hC => ?_
    have d464 := Disj.w d462 o23.sub
    replace o23 := o23.up up
    clear up d462
    exact S.wh hW [] hC fun _ S => hK375 _ _ q24 F25 q459 F460 _ _ _ S o23 o461 d464 hb463 hBB
   ·refine id (S.bs0 (α := TEntry) (d := 8) (by kernel_rfl) fun ac w N q465 F466 S up o467 d468 => ?_)
    have hb469 := fun b h => (⟨(up b (hNN b h).1).1, (up b (hNN b h).1).2.trans (hNN b h).2.1, d468 b (hNN b h).1, (hNN b h).2.2⟩ : _ ∧ _ ∧ _ ∧ _)
    refine WD.sc S (fun b h => ⟨(hb469 b h).1, (hb469 b h).2.1⟩) hBB fun hC => ?_
    have d470 := Disj.w d468 o23.sub
    replace o23 := o23.up up
    clear up d468
    exact S.wh hW [] hC fun _ S => hK397 _ _ q24 F25 q465 F466 _ _ _ S o23 o467 d470 hb469 hBB
  have hK471 ac w u N β (S : St Tryz.prog Tryz.f26.ntmps w0 NoB u N β (σ1.dl [] [(3, .p 2 0), (6, .v (slv h.mem.length ph.mem.1)), (10, .v (slv h.buf.length ph.buf.1)), (14, .v (slv h.iobuf.length ph.iobuf.1))] 3 [(2, Zc THost)]) ac w) (hNN : NN N0 u0 N u) (hBB : BB σ1.bx.length β0 β) : W 7 (mkL 14 [0, 1, 4, 5, 8, 9, 12]) ac w := by
   refine o3 hW 2 3 7 ?_ ?_ ?_
   ·refine id (S.k1 7 (c_spec_l04Copy w h.mem ph.mem (S.rd (RHost.mem (d := h) (S.arg hh)))) fun ac w N q472 F473 S up o474 d475 => ?_)
    have hb476 := fun b h => (⟨(up b (hNN b h).1).1, (up b (hNN b h).1).2.trans (hNN b h).2⟩ : _ ∧ _)
    refine WD.sc S hb476 hBB fun hC => ?_
    clear up d475
    exact S.wh hW [] hC fun _ S => hK384 _ _ q472 F473 _ _ _ S o474 hb476 hBB
   ·refine id (S.bs0 (α := TEntry) (d := 8) (by kernel_rfl) fun ac w N q477 F478 S up o479 d480 => ?_)
    have hb481 := fun b h => (⟨(up b (hNN b h).1).1, (up b (hNN b h).1).2.trans (hNN b h).2, d480 b (hNN b h).1⟩ : _ ∧ _ ∧ _)
    refine WD.sc S (fun b h => ⟨(hb481 b h).1, (hb481 b h).2.1⟩) hBB fun hC => ?_
    clear up d480
    exact S.wh hW [] hC fun _ S => hK406 _ _ q477 F478 _ _ _ S o479 hb481 hBB
   ·refine id (S.bs0 (α := TEntry) (d := 12) (by kernel_rfl) fun ac w N q482 F483 S up o484 d485 => ?_)
    have hb486 := fun b h => (⟨(up b (hNN b h).1).1, (up b (hNN b h).1).2.trans (hNN b h).2, d485 b (hNN b h).1⟩ : _ ∧ _ ∧ _)
    refine WD.sc S (fun b h => ⟨(hb486 b h).1, (hb486 b h).2.1⟩) hBB fun hC => ?_
    clear up d485
    exact S.wh hW [] hC fun _ S => hK419 _ _ q482 F483 _ _ _ S o484 hb486 hBB
  have hNN : NN N0 u0 N0 u0 := fun b h => ⟨h, rfl⟩
  have hBB : BB σ1.bx.length β0 β0 := fun _ _ => rfl
  refine o4 hW 2 3 7 12 ?_ ?_ ?_ (S.wq hW hNN hBB [] .nil fun _ _ _ S hB => hK471 _ _ _ _ _ S hNN hB)
  ·refine id (S.k1 7 (c_spec_l04Copy w h.mem ph.mem (S.rd (RHost.mem (d := h) (S.arg hh)))) fun ac w N q487 F488 S up o489 d490 => ?_)
   have hb491 := fun b h => (⟨(up b (hNN b h).1).1, (up b (hNN b h).1).2.trans (hNN b h).2⟩ : _ ∧ _)
   refine WD.sc S hb491 hBB fun hC => ?_
   clear up d490
   exact S.wh hW [] hC fun _ S => hK432 _ _ q487 F488 _ _ _ S o489 hb491 hBB
  ·refine id (S.bs0 (α := TEntry) (d := 8) (by kernel_rfl) fun ac w N q492 F493 S up o494 d495 => ?_)
   have hb496 := fun b h => (⟨(up b (hNN b h).1).1, (up b (hNN b h).1).2.trans (hNN b h).2, d495 b (hNN b h).1⟩ : _ ∧ _ ∧ _)
   refine WD.sc S (fun b h => ⟨(hb496 b h).1, (hb496 b h).2.1⟩) hBB fun hC => ?_
   clear up d495
   exact S.wh hW [] hC fun _ S => hK445 _ _ q492 F493 _ _ _ S o494 hb496 hBB
  ·refine id (S.bs0 (α := TEntry) (d := 12) (by kernel_rfl) fun ac w N q497 F498 S up o499 d500 => ?_)
   have hb501 := fun b h => (⟨(up b (hNN b h).1).1, (up b (hNN b h).1).2.trans (hNN b h).2, d500 b (hNN b h).1⟩ : _ ∧ _ ∧ _)
   refine WD.sc S (fun b h => ⟨(hb501 b h).1, (hb501 b h).2.1⟩) hBB fun hC => ?_
   clear up d500
   exact S.wh hW [] hC fun _ S => hK458 _ _ q497 F498 _ _ _ S o499 hb501 hBB
 clear S
 rintro ac w ⟨q234, F235, q237, F238, q231, F232, u, N, β, S, o233, o236, o230, d502, d503, d504⟩
 refine id (nt (ws (ws (rg ?_))))
 refine S.qe 1 [] [(4, .v (I 0))] fun ac w β S => ?_
 refine (nt (wp_block ?_))
 have o508 := S.nilOw (α := TMon)
 refine wp_loop_down (fun mm ac w => ∃ (i : Nat) (acc : List TMon) (q505 : _) (F506 : _) (u : _) (N : _) (β : _), mm = h.mons.length - i ∧ (i ≤ h.mons.length) ∧ (acc = h.mons.take i) ∧ St Tryz.prog Tryz.f26.ntmps w0 NoB u N β ⟨[(1, .p 0 0), (2, .p 1 0), (3, .p 2 0), (4, .v (I (i : Int)))], [GT.cells h ph, Zc THost, [slv h.mem.length q231.1, slv acc.length q505.1, slv h.buf.length q234.1, slv h.iobuf.length q237.1]]⟩ ac w ∧ Ow w0 NoB u N F506 acc q505 ∧ Ow w0 NoB u N F232 h.mem q231 ∧ Ow w0 NoB u N F235 h.buf q234 ∧ Ow w0 NoB u N F238 h.iobuf q237 ∧ Disj F506 F232 ∧ Disj F506 F235 ∧ Disj F506 F238) _ ⟨0, ([] : List TMon), (GT.pdflt (α := List TMon)), NoB, _, _, _, rfl, o0, (by rfl), S.z, o508, o230, o233, o236, (Disj.symm (fun b _ h => False.elim h)), (Disj.symm (fun b _ h => False.elim h)), (Disj.symm (fun b _ h => False.elim h))⟩ ?_
 clear S o230 o233 o236 o508
 rintro mm ac w ⟨i, acc, q505, F506, u, N, β, rfl, hi, hacc, S, o507, o230, o233, o236, d509, d510, d511⟩
 have hlacc : acc.length = i := by rw [hacc]; simp; omega
 refine ws (ws (rg ?_))
 refine S.qe 5 [] [(21, .v (B (decide ((i : Int) < (h.mons.length : Int)))))] fun ac w β S => ?_
 refine (nt (S.c (decide ((i : Int) < (h.mons.length : Int))) (fun h512 => ?_) (fun h512 => ?_)))
 ·have g513 := of_decide_eq_true h512
  refine wk (nt (ws (wp_block ?_)))
  refine S.draw0 (f := 12) 9 rfl rfl fun w S => ?_
  refine S.hq 0 [1, 0] [] [(24, .p 2 1)] .nil fun ac S => ?_
  refine S.hq 1 [1] [] [(25, .v (slv acc.length q505.1))] .nil fun ac S => ?_
  refine S.hq 2 [7, 6, 5, 3, 2] [] [(26, .p 0 1)] .nil fun ac S => ?_
  refine S.hq 3 [7, 6, 5, 3] [] [(27, .v (slv h.mons.length ph.mons.1))] .nil fun ac S => ?_
  refine S.hq 4 [7, 6, 5, 4] [] [(28, .v (I (i : Int)))] .nil fun ac S => ?_
  refine S.hq 5 [7, 6, 5] [] [(29, .v (pt ph.mons.1.b (ph.mons.1.off + i * 9)))] (.cons (qn (RHost.mons (d := h) (S.arg hh)) i Tryz.underlying28) .nil) fun ac S => ?_
  refine S.hq 6 [7, 6] [] [(30, .v (GT.val (el h.mons i) (ph.mons.2 i)))] (.cons (qs (RHost.mons (d := h) (S.arg hh)) 53 i) .nil) fun ac S => ?_
  refine WD.one (i := 7) (by kernel_rfl) ?_
  refine id (S.k1 31 (c_spec_l21Mon w (el h.mons i) (ph.mons.2 i) (S.rd (LRd.el (RHost.mons (d := h) (S.arg hh)) i (by omega)))) fun ac w N q514 F515 S up o516 d517 => ?_)
  refine WD.next S up (by kernel_rfl) ?_
  have d518 := Disj.w d517 o507.sub
  have d519 := Disj.w d517 o230.sub
  have d520 := Disj.w d517 o233.sub
  have d521 := Disj.w d517 o236.sub
  replace o507 := o507.up up
  replace o230 := o230.up up
  replace o233 := o233.up up
  replace o236 := o236.up up
  clear up d517
  have i537 : In64 (el h.mons i).pend := RMon.pend (d := (el h.mons i)) o516.rn
  have i538 : In64 (el h.mons i).traps := RMon.traps (d := (el h.mons i)) o516.rn
  have i542 : In64 (el h.mons i).owned := RMon.owned (d := (el h.mons i)) o516.rn
  obtain ⟨F522, F525, F528, F531, F534, F539, o523, o526, o529, o532, o535, o540, s524, s527, s530, s533, s536, s541, d543, d544, d545, d546, d547, d548, d549, d550, d551, d552, d553, d554, d555, d556, d557⟩ := sp_Mon o516
  refine WD.one (i := 8) (by kernel_rfl) ?_
  have o562 := ow_Mon (x := (el h.mons i)) (p := q514) o523 o526 o529 o532 o535 o540 d543 d544 d545 d546 d547 d548 d549 d550 d551 d552 d553 d554 d555 d556 d557 i537 i538 i542
  refine id (S.bs1 (α := TMon) (x := (el h.mons i)) (p := q514) o562.own o562.sub o562.young (d := 32) (by kernel_rfl) fun ac w N q558 F559 S up o560 d561 => ?_)
  refine WD.next S up (by kernel_rfl) ?_
  have d563 := d561 _ (Disj.symm (Disj.or (Disj.part (Disj.symm d518) s524) (Disj.or (Disj.part (Disj.symm d518) s527) (Disj.or (Disj.part (Disj.symm d518) s530) (Disj.or (Disj.part (Disj.symm d518) s533) (Disj.or (Disj.part (Disj.symm d518) s536) (Disj.or (Disj.part (Disj.symm d518) s541) Disj.nob))))))) o507.sub
  have d564 := d561 _ (Disj.symm (Disj.or (Disj.part (Disj.symm d519) s524) (Disj.or (Disj.part (Disj.symm d519) s527) (Disj.or (Disj.part (Disj.symm d519) s530) (Disj.or (Disj.part (Disj.symm d519) s533) (Disj.or (Disj.part (Disj.symm d519) s536) (Disj.or (Disj.part (Disj.symm d519) s541) Disj.nob))))))) o230.sub
  have d565 := d561 _ (Disj.symm (Disj.or (Disj.part (Disj.symm d520) s524) (Disj.or (Disj.part (Disj.symm d520) s527) (Disj.or (Disj.part (Disj.symm d520) s530) (Disj.or (Disj.part (Disj.symm d520) s533) (Disj.or (Disj.part (Disj.symm d520) s536) (Disj.or (Disj.part (Disj.symm d520) s541) Disj.nob))))))) o233.sub
  have d566 := d561 _ (Disj.symm (Disj.or (Disj.part (Disj.symm d521) s524) (Disj.or (Disj.part (Disj.symm d521) s527) (Disj.or (Disj.part (Disj.symm d521) s530) (Disj.or (Disj.part (Disj.symm d521) s533) (Disj.or (Disj.part (Disj.symm d521) s536) (Disj.or (Disj.part (Disj.symm d521) s541) Disj.nob))))))) o236.sub
  replace o507 := o507.up up
  replace o230 := o230.up up
  replace o233 := o233.up up
  replace o236 := o236.up up
  clear up d561
  refine WD.one (i := 9) (by kernel_rfl) ?_
  refine id (S.appOwn (α := TMon) o507 o560 d563 (by' := 168) (d := 33) (lx := acc.length) (ly := 1) rfl rfl (by kernel_rfl) (show _ ≤ 4194304 by simp only [List.length_append, List.length_cons, List.length_nil]; omega) fun ac w N q567 F568 S up o569 d570 => ?_)
  refine WD.last (by kernel_rfl) ?_
  have d571 := d570 _ (Disj.symm d509) d564 o230.sub
  have d572 := d570 _ (Disj.symm d510) d565 o233.sub
  have d573 := d570 _ (Disj.symm d511) d566 o236.sub
  replace o230 := o230.upF (Disj.symm d509) up
  replace o233 := o233.upF (Disj.symm d510) up
  replace o236 := o236.upF (Disj.symm d511) up
  clear up d570
  refine WD.one (i := 10) (by kernel_rfl) ?_
  refine S.stepq (i := 10) (keep := [1, 2, 3, 4, 33, 34]) (m := 3) (σ' := ⟨[(1, .p 0 0), (2, .p 1 0), (3, .p 2 0), (4, .v (I (i : Int))), (33, .v (slv (acc ++ [(el h.mons i)]).length q567.1)), (34, .p 2 1)], [GT.cells h ph, Zc THost, [slv h.mem.length q231.1, slv acc.length q505.1, slv h.buf.length q234.1, slv h.iobuf.length q237.1]]⟩) .nil (by kernel_rfl) fun ac w β S hβ => ?_
  refine WD.last (by kernel_rfl) ?_
  clear hβ
  refine WD.one (i := 11) (by kernel_rfl) ?_
  refine S.stepq (i := 11) (keep := [1, 2, 3, 4]) (m := 3) (σ' := ⟨[(1, .p 0 0), (2, .p 1 0), (3, .p 2 0), (4, .v (I (i : Int)))], [GT.cells h ph, Zc THost, [slv h.mem.length q231.1, slv (acc ++ [(el h.mons i)]).length q567.1, slv h.buf.length q234.1, slv h.iobuf.length q237.1]]⟩) .nil (by kernel_rfl) fun ac w β S hβ => ?_
  refine WD.last (by kernel_rfl) ?_
  clear hβ
  refine WD.done (by kernel_rfl) ?_ _
  refine id (nb (nt (rg ?_)))
  refine S.qg 3 [] [(4, .v (I ((i : Int) + 1)))] (.cons (qp (i : Int) 1) .nil) fun ac w β S => ?_
  refine (nt ?_)
  refine ⟨h.mons.length - (i + 1), by omega, i + 1, (acc ++ [(el h.mons i)]), q567, F568, _, _, _, rfl, ?_, ?_, S.z, o569, o230, o233, o236, (Disj.symm d571), (Disj.symm d572), (Disj.symm d573)⟩
  ·exact oz
  ·clear S; (first | (rw [take_el (by omega), hacc]; done) | (rw [take_el (by omega), hacc]; simp; done))
 have g574 := of_decide_eq_false h512
 refine wp_exit (ex_then (ex_then (ex_hit (nt (ws (rg ?_))))))
 refine S.qem 2 [] [] 2 [(1, [slv h.mem.length q231.1, slv acc.length q505.1, slv h.buf.length q234.1, slv h.iobuf.length q237.1])] fun ac w β S => ?_
 refine (nt (wr (S.r [GT.val (⟨h.mem, acc, h.buf, h.iobuf⟩ : THost) (⟨q231, q505, q234, q237⟩ : PHost)] ?_)))
 have o575 := ow_Host (x := (⟨h.mem, acc, h.buf, h.iobuf⟩ : THost)) (p := (⟨q231, q505, q234, q237⟩ : PHost)) o230 o507 o233 o236 (Disj.symm d509) (Disj.symm d503) (Disj.symm d504) d510 d511 d502 
 exact ret1_of S (show h = (⟨h.mem, acc, h.buf, h.iobuf⟩ : THost) by clear S; (rw [hacc, take_all (by omega)]; first | done | rfl | (simp; done))) rfl o575

theorem k0_spec_l01In {p : Prop} (h : p := by clear S; first | rfl | (simp [f_within, *]; done) | (simp [f_within, *]; omega) | (simp_all [f_within]; done) | (simp_all [f_within]; omega)) : p := h
theorem c_spec_l01In (w0 : World) (x : Int) (a : Int) (b : Int) : Calls Tryz.prog 49 [I x, I a, I b].toArray w0 (fun e w' => e = .returned (B (f_within x a b)) ∧ Chg NoB w0 w') := by
 refine Calls.walk NoB Tryz.func49 rfl rfl ?_
 intro ac β S
 refine ws (rg ?_)
 refine S.qe 1 [] [] fun ac w β S => ?_
 refine (nt (ws (rg ?_)))
 refine S.qa 4 [] [(10, .v (B (decide (x ≥ a))))] fun ac w β S => ?_
 rcases Bool.eq_false_or_eq_true (decide (x ≥ a)) with h1 | h1 <;> rw [h1] at S
 ·have g2 := of_decide_eq_true h1
  refine S.qe 5 [10] [(6, .v (B (decide (x ≤ b))))] fun ac w β S => ?_
  exact (nt (wr (S.r [B (decide (x ≤ b))] ⟨retB k0_spec_l01In, S.chg⟩)))
 ·have g3 := of_decide_eq_false h1
  refine S.qe 5 [10] [(6, .v (B false))] fun ac w β S => ?_
  exact (nt (wr (S.r [B false] ⟨retB k0_spec_l01In, S.chg⟩)))

theorem c_spec_PageOk (w0 : World) (cells : List Int) (pcells : LP Int) (hcells : RD w0 cells pcells) : Calls Tryz.prog 133 [slv cells.length pcells.1].toArray w0 (fun e w' => e = .returned (B (f_pageOk cells)) ∧ Chg NoB w0 w') := by
 refine Calls.walk NoB Tryz.func133 rfl rfl ?_
 intro ac β S
 have hlecells : cells.length ≤ 4194304 := LRd.le hcells
 refine ws (rg ?_)
 refine S.qe 1 [] [] fun ac w β S => ?_
 refine (nt (ws (ws (rg ?_))))
 refine S.qe 1 [] [(3, .v (I 0))] fun ac w β S => ?_
 refine (nt (wp_block ?_))
 refine wp_loop_down (fun mm ac w => ∃ (k : Nat)  (u : _) (N : _) (β : _), mm = cells.length - k ∧ (k ≤ cells.length) ∧ ((cells.take k).all (fun v => f_within v 0 99) = true) ∧ St Tryz.prog Tryz.f133.ntmps w0 NoB u N β ⟨[(0, .v (slv cells.length pcells.1)), (3, .v (I (k : Int)))], []⟩ ac w) _ ⟨0, _, _, _, rfl, o0, (by simp), S.z⟩ ?_
 clear S
 rintro mm ac w ⟨k, u, N, β, rfl, hk, he, S⟩
 refine ws (ws (rg ?_))
 refine S.qe 4 [] [(7, .v (B (decide ((k : Int) < (cells.length : Int)))))] fun ac w β S => ?_
 refine (nt (S.c (decide ((k : Int) < (cells.length : Int))) (fun h1 => ?_) (fun h1 => ?_)))
 ·have g2 := of_decide_eq_true h1
  refine wk (nt (ws (wp_block (ws (rg ?_)))))
  refine S.qg 6 [] [(15, .v (B (!(f_within (el cells k) 0 99))))] (.cons (qn (S.arg hcells) k Tryz.underlying50) (.cons (qx (S.arg hcells) 3 k) (.cons (Q_call fun w hw => c_spec_l01In w (el cells k) 0 99) .nil))) fun ac w β S => ?_
  refine (nt (S.c (!(f_within (el cells k) 0 99)) (fun h3 => ?_) (fun h3 => ?_)))
  ·have h4 := not_t h3
   have g5 := within_f h4
   refine ws (rg ?_)
   refine S.qe 1 [] [(2, .v (B false))] fun ac w β S => ?_
   exact (nt (wr (rb (rt (rt (rb (rt (S.r [B false] ⟨retB (by clear S; (first | (unfold f_pageOk; rw [all_bad (k := k) (by omega) (by first | assumption | simp_all)]; simp; done) | (unfold f_pageOk; rw [all_end (by omega) he]; simp; done) | (unfold f_pageOk; rw [all_end (by omega) he]; simp [*]; done) | (unfold f_pageOk; rw [all_end (by omega) he]; simp; omega))), S.chg⟩))))))))
  have h6 := not_f h3
  have g7 := within_t h6
  refine wk (nb (nt (rg ?_)))
  refine S.qg 3 [] [(3, .v (I ((k : Int) + 1)))] (.cons (qp (k : Int) 1) .nil) fun ac w β S => ?_
  refine (nt ?_)
  refine ⟨cells.length - (k + 1), by omega, k + 1, _, _, _, rfl, ?_, ?_, S.z⟩
  ·exact oz
  ·clear S; exact all_step (by omega) he (by first | assumption | (simp only [f_slotOk, f_within] at *; simp_all; done) | (simp_all; done) | (simp_all; omega))
 have g8 := of_decide_eq_false h1
 refine wp_exit (ex_then (ex_then (ex_hit (nt (ws (rg ?_))))))
 refine S.qe 4 [] [(2, .v (B ((cells.length : Int) == 4)))] fun ac w β S => ?_
 exact (nt (wr (S.r [B ((cells.length : Int) == 4)] ⟨retB (by clear S; (first | (unfold f_pageOk; rw [all_end (by omega) he]; simp; done) | (unfold f_pageOk; rw [all_end (by omega) he]; simp [*]; done) | (unfold f_pageOk; rw [all_end (by omega) he]; simp; omega) | (unfold f_pageOk; rw [all_bad (k := k) (by omega) (by first | assumption | simp_all)]; simp; done))), S.chg⟩)))

theorem c_spec_MemOk (w0 : World) (m : List (List Int)) (pm : LP (List Int)) (hm : RD w0 m pm) (pages : Int) : Calls Tryz.prog 108 [slv m.length pm.1, I pages].toArray w0 (fun e w' => e = .returned (B (f_memOk m pages)) ∧ Chg NoB w0 w') := by
 refine Calls.walk NoB Tryz.func108 rfl rfl ?_
 intro ac β S
 have hlem : m.length ≤ 4194304 := LRd.le hm
 refine ws (rg ?_)
 refine S.qe 1 [] [] fun ac w β S => ?_
 refine (nt (ws (ws (rg ?_))))
 refine S.qe 1 [] [(5, .v (I 0))] fun ac w β S => ?_
 refine (nt (wp_block ?_))
 refine wp_loop_down (fun mm ac w => ∃ (k : Nat)  (u : _) (N : _) (β : _), mm = m.length - k ∧ (k ≤ m.length) ∧ ((m.take k).all f_pageOk = true) ∧ St Tryz.prog Tryz.f108.ntmps w0 NoB u N β ⟨[(0, .v (slv m.length pm.1)), (1, .v (I pages)), (5, .v (I (k : Int)))], []⟩ ac w) _ ⟨0, _, _, _, rfl, o0, (by simp), S.z⟩ ?_
 clear S
 rintro mm ac w ⟨k, u, N, β, rfl, hk, he, S⟩
 refine ws (ws (rg ?_))
 refine S.qe 4 [] [(9, .v (B (decide ((k : Int) < (m.length : Int)))))] fun ac w β S => ?_
 refine (nt (S.c (decide ((k : Int) < (m.length : Int))) (fun h1 => ?_) (fun h1 => ?_)))
 ·have g2 := of_decide_eq_true h1
  refine wk (nt (ws (wp_block (ws (rg ?_)))))
  refine S.qg 6 [] [(17, .v (B (!(f_pageOk (el m k)))))] (.cons (qn (S.arg hm) k Tryz.underlying22) (.cons (qx (S.arg hm) 50 k) (.cons (Q_call fun w hw => c_spec_PageOk w (el m k) (pm.2 k) (rd_of (LRd.el (S.arg hm) k (by omega)) hw)) .nil))) fun ac w β S => ?_
  refine (nt (S.c (!(f_pageOk (el m k))) (fun h3 => ?_) (fun h3 => ?_)))
  ·have h4 := not_t h3
   refine ws (rg ?_)
   refine S.qe 1 [] [(4, .v (B false))] fun ac w β S => ?_
   exact (nt (wr (rb (rt (rt (rb (rt (S.r [B false] ⟨retB (by clear S; (first | (unfold f_memOk; rw [all_bad (k := k) (by omega) (by first | assumption | simp_all)]; simp; done) | (unfold f_memOk; rw [all_end (by omega) he]; simp; done) | (unfold f_memOk; rw [all_end (by omega) he]; simp [*]; done) | (unfold f_memOk; rw [all_end (by omega) he]; simp; omega))), S.chg⟩))))))))
  have h5 := not_f h3
  refine wk (nb (nt (rg ?_)))
  refine S.qg 3 [] [(5, .v (I ((k : Int) + 1)))] (.cons (qp (k : Int) 1) .nil) fun ac w β S => ?_
  refine (nt ?_)
  refine ⟨m.length - (k + 1), by omega, k + 1, _, _, _, rfl, ?_, ?_, S.z⟩
  ·exact oz
  ·clear S; exact all_step (by omega) he (by first | assumption | (simp only [f_slotOk, f_within] at *; simp_all; done) | (simp_all; done) | (simp_all; omega))
 have g6 := of_decide_eq_false h1
 refine wp_exit (ex_then (ex_then (ex_hit (nt (ws (rg ?_))))))
 refine S.qe 5 [] [(4, .v (B ((m.length : Int) == pages)))] fun ac w β S => ?_
 exact (nt (wr (S.r [B ((m.length : Int) == pages)] ⟨retB (by clear S; (first | (unfold f_memOk; rw [all_end (by omega) he]; simp; done) | (unfold f_memOk; rw [all_end (by omega) he]; simp [*]; done) | (unfold f_memOk; rw [all_end (by omega) he]; simp; omega) | (unfold f_memOk; rw [all_bad (k := k) (by omega) (by first | assumption | simp_all)]; simp; done))), S.chg⟩)))

theorem k0_spec_BufferOk {p : Prop} (h : p := by clear S; (first | (unfold f_bufferOk; rw [show b.length = i by omega, he]; first | rfl | (simp [*]; done) | (simp; omega) | (rw [Bool.eq_iff_iff]; simp; omega)) | (unfold f_bufferOk; rw [rng_bad (k := i) (by omega) (rng_bad (k := k) (by omega) (by simp_all <;> fail))]; rfl))) : p := h
theorem c_spec_BufferOk (w0 : World) (b : List TEntry) (pb : LP TEntry) (hb : RD w0 b pb) : Calls Tryz.prog 109 [slv b.length pb.1].toArray w0 (fun e w' => e = .returned (B (f_bufferOk b)) ∧ Chg NoB w0 w') := by
 refine Calls.walk NoB Tryz.func109 rfl rfl ?_
 intro ac β S
 have hleb : b.length ≤ 4194304 := LRd.le hb
 refine ws (rg ?_)
 refine S.qe 1 [] [] fun ac w β S => ?_
 refine (nt (ws (ws (rg ?_))))
 refine S.qe 1 [] [(3, .v (I 0))] fun ac w β S => ?_
 refine (nt (wp_block ?_))
 refine wp_loop_down (fun mm ac w => ∃ (i : Nat)  (u : _) (N : _) (β : _), mm = b.length - i ∧ (i ≤ b.length) ∧ ((List.range i).all (fun i => (List.range i).all fun k => !(decide ((el b i).tag = (el b k).tag) && decide ((el b i).page = (el b k).page))) = true) ∧ St Tryz.prog Tryz.f109.ntmps w0 NoB u N β ⟨[(0, .v (slv b.length pb.1)), (3, .v (I (i : Int)))], []⟩ ac w) _ ⟨0, _, _, _, rfl, o0, (by rfl), S.z⟩ ?_
 clear S
 rintro mm ac w ⟨i, u, N, β, rfl, hi, he, S⟩
 refine ws (ws (rg ?_))
 refine S.qe 4 [] [(8, .v (B (decide ((i : Int) < (b.length : Int)))))] fun ac w β S => ?_
 refine (nt (S.c (decide ((i : Int) < (b.length : Int))) (fun h1 => ?_) (fun h1 => ?_)))
 ·have g2 := of_decide_eq_true h1
  refine wk (nt (ws (wp_block (ws (rg ?_)))))
  refine S.qe 1 [] [(4, .v (I 0))] fun ac w β S => ?_
  refine (nt (wp_block ?_))
  refine wp_loop_down (fun mm ac w => ∃ (k : Nat)  (u : _) (N : _) (β : _), mm = i - k ∧ (k ≤ i) ∧ ((List.range k).all (fun k => !(decide ((el b i).tag = (el b k).tag) && decide ((el b i).page = (el b k).page))) = true) ∧ St Tryz.prog Tryz.f109.ntmps w0 NoB u N β ⟨[(0, .v (slv b.length pb.1)), (3, .v (I (i : Int))), (4, .v (I (k : Int)))], []⟩ ac w) _ ⟨0, _, _, _, rfl, o0, (by rfl), S.z⟩ ?_
  clear S
  rintro mm ac w ⟨k, u, N, β, rfl, hk, he2, S⟩
  have eltk : k < i → el (b.take i) k = el b k := fun h => el_take h
  refine ws (ws (rg ?_))
  refine S.qe 3 [] [(13, .v (B (decide ((k : Int) < (i : Int)))))] fun ac w β S => ?_
  refine (nt (S.c (decide ((k : Int) < (i : Int))) (fun h3 => ?_) (fun h3 => ?_)))
  ·have g4 := of_decide_eq_true h3
   refine wk (nt (ws (wp_block (ws ?_))))
   rcases Bool.eq_false_or_eq_true ((el b i).tag == (el b k).tag) with h5 | h5
   ·have g6 : (el b i).tag = (el b k).tag := eq_of_beq h5
    refine S.drawnO [(11, true)] (keep := [0, 3, 4, 39]) (m := 0) (σ' := ⟨[(0, .v (slv b.length pb.1)), (3, .v (I (i : Int))), (4, .v (I (k : Int))), (39, .v (B ((el b i).page == (el b k).page)))], []⟩) (.cons (qn (S.arg hb) i Tryz.underlying29) (.cons (qc (S.arg hb) 3 i 0 (I (el b i).tag)) (.cons (qn (S.arg hb) k Tryz.underlying29) (.cons (qc (S.arg hb) 3 k 0 (I (el b k).tag)) (.cons (qn (S.arg hb) i Tryz.underlying29) (.cons (qc (S.arg hb) 3 i 1 (I (el b i).page)) (.cons (qn (S.arg hb) k Tryz.underlying29) (.cons (qc (S.arg hb) 3 k 1 (I (el b k).page)) .nil)))))))) rfl (by kernel_rfl) (by kernel_rfl) (.cons h5 .nil) fun ac w S => ?_
    refine id (nt (S.c ((el b i).page == (el b k).page) (fun h7 => ?_) (fun h7 => ?_)))
    ·have g8 : (el b i).page = (el b k).page := eq_of_beq h7
     refine ws (rg ?_)
     refine S.qe 1 [] [(2, .v (B false))] fun ac w β S => ?_
     exact (nt (wr (rb (rt (rt (rb (rb (rt (rt (rb (rt (S.r [B false] ⟨retB k0_spec_BufferOk, S.chg⟩))))))))))))
    have g9 : ¬ ((el b i).page = (el b k).page) := ne_of_beq_false h7
    refine wk (nb (nt (rg ?_)))
    refine S.qg 3 [] [(4, .v (I ((k : Int) + 1)))] (.cons (qp (k : Int) 1) .nil) fun ac w β S => ?_
    refine (nt ?_)
    refine ⟨i - (k + 1), by omega, k + 1, _, _, _, rfl, ?_, ?_, S.z⟩
    ·exact oz
    ·clear S; (refine rng_step he2 ?_; simp_all)
   ·have g10 : ¬ ((el b i).tag = (el b k).tag) := ne_of_beq_false h5
    refine S.drawnO [(11, false)] (keep := [0, 3, 4, 39]) (m := 0) (σ' := ⟨[(0, .v (slv b.length pb.1)), (3, .v (I (i : Int))), (4, .v (I (k : Int))), (39, .v (B false))], []⟩) (.cons (qn (S.arg hb) i Tryz.underlying29) (.cons (qc (S.arg hb) 3 i 0 (I (el b i).tag)) (.cons (qn (S.arg hb) k Tryz.underlying29) (.cons (qc (S.arg hb) 3 k 0 (I (el b k).tag)) .nil)))) rfl (by kernel_rfl) (by kernel_rfl) (.cons h5 .nil) fun ac w S => ?_
    refine id (nt (S.c false (fun hx => by cases hx) (fun _ => ?_)))
    refine wk (nb (nt (rg ?_)))
    refine S.qg 3 [] [(4, .v (I ((k : Int) + 1)))] (.cons (qp (k : Int) 1) .nil) fun ac w β S => ?_
    refine (nt ?_)
    refine ⟨i - (k + 1), by omega, k + 1, _, _, _, rfl, ?_, ?_, S.z⟩
    ·exact oz
    ·clear S; (refine rng_step he2 ?_; simp_all)
  have g11 := of_decide_eq_false h3
  refine wp_exit (ex_then (ex_then (ex_hit (nb (nt (rg ?_))))))
  refine S.qg 3 [] [(3, .v (I ((i : Int) + 1)))] (.cons (qp (i : Int) 1) .nil) fun ac w β S => ?_
  refine (nt ?_)
  refine ⟨b.length - (i + 1), by omega, i + 1, _, _, _, rfl, ?_, ?_, S.z⟩
  ·exact oz
  ·clear S; (refine rng_step he ?_); (have e : k = i := (by omega)); rw [e] at he2; exact he2
 have g12 := of_decide_eq_false h1
 refine wp_exit (ex_then (ex_then (ex_hit (nt (ws (rg ?_))))))
 refine S.qe 4 [] [(2, .v (B (decide ((b.length : Int) ≤ 6))))] fun ac w β S => ?_
 exact (nt (wr (S.r [B (decide ((b.length : Int) ≤ 6))] ⟨retB k0_spec_BufferOk, S.chg⟩)))

theorem c_spec_NoSlot (w0 : World)  : Calls Tryz.prog 28 [].toArray w0 (fun e w' => e = .returned (GT.val (⟨-1, 0⟩ : TSlot) ()) ∧ Chg NoB w0 w') := by
 refine Calls.walk NoB Tryz.func28 rfl rfl ?_
 intro ac β S
 refine ws (rg ?_)
 refine S.qem 1 [] [(0, .p 0 0)] 1 [(0, Zc TSlot)] fun ac w β S => ?_
 refine (nt (ws (rg ?_)))
 refine S.qgm 2 [] [] (.cons (Q_sem (s := Instr.build 55 [(0, I (-1))].toArray) (v := .agg [I (-1), I 0].toArray) (fun w => by kernel_rfl)) .nil) 1 [(0, [I (-1), I 0])] fun ac w β S => ?_
 exact (nt (wr (S.r [GT.val (⟨(-1), 0⟩ : TSlot) ()] ⟨retV (p := ()) (by clear S; first | rfl | (simp [id, *]; done) | (simp [id, *]; omega) | (simp_all [id]; done) | (simp_all [id]; omega)), S.chg⟩)))

theorem k0_spec_SlotOk {p : Prop} (h : p := by clear S; first | rfl | (simp [f_slotOk, *]; done) | (simp [f_slotOk, *]; omega) | (simp_all [f_slotOk]; done) | (simp_all [f_slotOk]; omega)) : p := h
theorem c_spec_SlotOk (w0 : World) (s : TSlot) (pages : Int) (pre0 : 0 ≤ pages) (pre1 : pages ≤ 1000) : Calls Tryz.prog 163 [GT.val s (), I pages].toArray w0 (fun e w' => e = .returned (B (f_slotOk s pages)) ∧ Chg NoB w0 w') := by
 refine Calls.walk NoB Tryz.func163 rfl rfl ?_
 intro ac β S
 refine ws (rg ?_)
 refine S.qem 2 [] [(2, .p 0 0)] 1 [(0, GT.cells s ())] fun ac w β S => ?_
 refine (nt (ws ?_))
 rcases Bool.eq_false_or_eq_true (decide (s = (⟨-1, 0⟩ : TSlot))) with h1 | h1
 ·refine S.drawnO [(3, true)] (keep := [4]) (m := 0) (σ' := ⟨[(4, .v (B true))], []⟩) (.cons (Q_call fun w hw => c_spec_NoSlot w ) (.cons (Eq_eq_Slot (t := 55) s (⟨-1, 0⟩ : TSlot) (by kernel_rfl)) .nil)) rfl (by kernel_rfl) (by kernel_rfl) (.cons h1 .nil) fun ac w S => ?_
  exact id (nt (wr (S.r [B true] ⟨retB k0_spec_SlotOk, S.chg⟩)))
 ·rcases Bool.eq_false_or_eq_true (f_within s.page 0 (pages - 1)) with h2 | h2
  ·have g3 := within_t h2
   rcases Bool.eq_false_or_eq_true (decide (pages > 0)) with h4 | h4
   ·have g5 := of_decide_eq_true h4
    refine S.drawnO [(3, false), (9, true), (13, true)] (keep := [4]) (m := 0) (σ' := ⟨[(4, .v (B (f_within s.rights 1 3)))], []⟩) (.cons (Q_call fun w hw => c_spec_NoSlot w ) (.cons (Eq_eq_Slot (t := 55) s (⟨-1, 0⟩ : TSlot) (by kernel_rfl)) (.cons (qm pages 1) (.cons (Q_call fun w hw => c_spec_l01In w s.page 0 (pages - 1)) (.cons (Q_call fun w hw => c_spec_l01In w s.rights 1 3) .nil))))) rfl (by kernel_rfl) (by kernel_rfl) (.cons h1 (.cons h2 (.cons h4 .nil))) fun ac w S => ?_
    exact id (nt (wr (S.r [B (f_within s.rights 1 3)] ⟨retB k0_spec_SlotOk, S.chg⟩)))
   ·have g6 := of_decide_eq_false h4
    refine S.drawnO [(3, false), (9, true), (13, false)] (keep := [4]) (m := 0) (σ' := ⟨[(4, .v (B false))], []⟩) (.cons (Q_call fun w hw => c_spec_NoSlot w ) (.cons (Eq_eq_Slot (t := 55) s (⟨-1, 0⟩ : TSlot) (by kernel_rfl)) (.cons (qm pages 1) (.cons (Q_call fun w hw => c_spec_l01In w s.page 0 (pages - 1)) .nil)))) rfl (by kernel_rfl) (by kernel_rfl) (.cons h1 (.cons h2 (.cons h4 .nil))) fun ac w S => ?_
    exact id (nt (wr (S.r [B false] ⟨retB k0_spec_SlotOk, S.chg⟩)))
  ·have g7 := within_f h2
   refine S.drawnO [(3, false), (9, false)] (keep := [4]) (m := 0) (σ' := ⟨[(4, .v (B false))], []⟩) (.cons (Q_call fun w hw => c_spec_NoSlot w ) (.cons (Eq_eq_Slot (t := 55) s (⟨-1, 0⟩ : TSlot) (by kernel_rfl)) (.cons (qm pages 1) (.cons (Q_call fun w hw => c_spec_l01In w s.page 0 (pages - 1)) .nil)))) rfl (by kernel_rfl) (by kernel_rfl) (.cons h1 (.cons h2 .nil)) fun ac w S => ?_
   exact id (nt (wr (S.r [B false] ⟨retB k0_spec_SlotOk, S.chg⟩)))

theorem c_spec_TableOk (w0 : World) (t : List TSlot) (pt : LP TSlot) (ht : RD w0 t pt) (size : Int) (pages : Int) (pre0 : 0 ≤ pages) (pre1 : pages ≤ 1000) : Calls Tryz.prog 145 [slv t.length pt.1, I size, I pages].toArray w0 (fun e w' => e = .returned (B (f_tableOk t size pages)) ∧ Chg NoB w0 w') := by
 refine Calls.walk NoB Tryz.func145 rfl rfl ?_
 intro ac β S
 have hlet : t.length ≤ 4194304 := LRd.le ht
 refine ws (rg ?_)
 refine S.qe 1 [] [] fun ac w β S => ?_
 refine (nt (ws (ws (rg ?_))))
 refine S.qe 1 [] [(7, .v (I 0))] fun ac w β S => ?_
 refine (nt (wp_block ?_))
 refine wp_loop_down (fun mm ac w => ∃ (k : Nat)  (u : _) (N : _) (β : _), mm = t.length - k ∧ (k ≤ t.length) ∧ ((t.take k).all (fun s => f_slotOk s pages) = true) ∧ St Tryz.prog Tryz.f145.ntmps w0 NoB u N β ⟨[(0, .v (slv t.length pt.1)), (1, .v (I size)), (2, .v (I pages)), (7, .v (I (k : Int)))], []⟩ ac w) _ ⟨0, _, _, _, rfl, o0, (by simp), S.z⟩ ?_
 clear S
 rintro mm ac w ⟨k, u, N, β, rfl, hk, he, S⟩
 refine ws (ws (rg ?_))
 refine S.qe 4 [] [(11, .v (B (decide ((k : Int) < (t.length : Int)))))] fun ac w β S => ?_
 refine (nt (S.c (decide ((k : Int) < (t.length : Int))) (fun h1 => ?_) (fun h1 => ?_)))
 ·have g2 := of_decide_eq_true h1
  refine wk (nt (ws (wp_block (ws (rg ?_)))))
  refine S.qg 7 [] [(20, .v (B (!(f_slotOk (el t k) pages))))] (.cons (qn (S.arg ht) k Tryz.underlying47) (.cons (qs (S.arg ht) 55 k) (.cons (Q_call fun w hw => c_spec_SlotOk w (el t k) pages (by omega) (by omega)) .nil))) fun ac w β S => ?_
  refine (nt (S.c (!(f_slotOk (el t k) pages)) (fun h3 => ?_) (fun h3 => ?_)))
  ·have h4 := not_t h3
   refine ws (rg ?_)
   refine S.qe 1 [] [(6, .v (B false))] fun ac w β S => ?_
   exact (nt (wr (rb (rt (rt (rb (rt (S.r [B false] ⟨retB (by clear S; (first | (unfold f_tableOk; rw [all_bad (k := k) (by omega) (by first | assumption | simp_all)]; simp; done) | (unfold f_tableOk; rw [all_end (by omega) he]; simp; done) | (unfold f_tableOk; rw [all_end (by omega) he]; simp [*]; done) | (unfold f_tableOk; rw [all_end (by omega) he]; simp; omega))), S.chg⟩))))))))
  have h5 := not_f h3
  refine wk (nb (nt (rg ?_)))
  refine S.qg 3 [] [(7, .v (I ((k : Int) + 1)))] (.cons (qp (k : Int) 1) .nil) fun ac w β S => ?_
  refine (nt ?_)
  refine ⟨t.length - (k + 1), by omega, k + 1, _, _, _, rfl, ?_, ?_, S.z⟩
  ·exact oz
  ·clear S; exact all_step (by omega) he (by first | assumption | (simp only [f_slotOk, f_within] at *; simp_all; done) | (simp_all; done) | (simp_all; omega))
 have g6 := of_decide_eq_false h1
 refine wp_exit (ex_then (ex_then (ex_hit (nt (ws (rg ?_))))))
 refine S.qe 5 [] [(6, .v (B ((t.length : Int) == size)))] fun ac w β S => ?_
 exact (nt (wr (S.r [B ((t.length : Int) == size)] ⟨retB (by clear S; (first | (unfold f_tableOk; rw [all_end (by omega) he]; simp; done) | (unfold f_tableOk; rw [all_end (by omega) he]; simp [*]; done) | (unfold f_tableOk; rw [all_end (by omega) he]; simp; omega) | (unfold f_tableOk; rw [all_bad (k := k) (by omega) (by first | assumption | simp_all)]; simp; done))), S.chg⟩)))

theorem k0_spec_InsOk {p : Prop} (h : p := by clear S; first | rfl | (simp [f_insOk, *]; done) | (simp [f_insOk, *]; omega) | (simp_all [f_insOk]; done) | (simp_all [f_insOk]; omega)) : p := h
theorem c_spec_InsOk (w0 : World) (i : TIns) : Calls Tryz.prog 177 [GT.val i ()].toArray w0 (fun e w' => e = .returned (B (f_insOk i)) ∧ Chg NoB w0 w') := by
 refine Calls.walk NoB Tryz.func177 rfl rfl ?_
 intro ac β S
 refine ws (rg ?_)
 refine S.qem 2 [] [(1, .p 0 0)] 1 [(0, GT.cells i ())] fun ac w β S => ?_
 refine (nt (ws (ws (rg ?_))))
 refine S.qe 2 [] [(4, .v (I i.opc))] fun ac w β S => ?_
 refine (nt (wp_block (ws (ws (rg ?_)))))
 refine S.qe 2 [] [(5, .v (B (i.opc == 1)))] fun ac w β S => ?_
 refine (nt (S.c (i.opc == 1) (fun h1 => ?_) (fun h1 => ?_)))
 ·rw [h1] at S
  have g2 : i.opc = 1 := eq_of_beq h1
  refine wk (nt (S.c true (fun _ => ?_) (fun hx => by cases hx)))
  refine ws (rg ?_)
  refine S.qg 4 [5] [(2, .v (B (f_within i.x 0 99)))] (.cons (Q_call fun w hw => c_spec_l01In w i.x 0 99) .nil) fun ac w β S => ?_
  exact (nt (wr (rb (rt (S.r [B (f_within i.x 0 99)] ⟨retB k0_spec_InsOk, S.chg⟩)))))
 have g3 : ¬ (i.opc = 1) := ne_of_beq_false h1
 refine ws (rg ?_)
 refine S.qe 2 [] [(5, .v (B (i.opc == 2)))] fun ac w β S => ?_
 refine (nt (S.c (i.opc == 2) (fun h4 => ?_) (fun h4 => ?_)))
 ·rw [h4] at S
  have g5 : i.opc = 2 := eq_of_beq h4
  refine wk (nt (S.c true (fun _ => ?_) (fun hx => by cases hx)))
  refine ws (rg ?_)
  refine S.qg 4 [5] [(2, .v (B (f_within i.x 0 99)))] (.cons (Q_call fun w hw => c_spec_l01In w i.x 0 99) .nil) fun ac w β S => ?_
  exact (nt (wr (rb (rt (S.r [B (f_within i.x 0 99)] ⟨retB k0_spec_InsOk, S.chg⟩)))))
 have g6 : ¬ (i.opc = 2) := ne_of_beq_false h4
 refine ws (rg ?_)
 refine S.qe 2 [] [(5, .v (B (i.opc == 5)))] fun ac w β S => ?_
 refine (nt (S.c (i.opc == 5) (fun h7 => ?_) (fun h7 => ?_)))
 ·rw [h7] at S
  have g8 : i.opc = 5 := eq_of_beq h7
  refine wk (nt (S.c true (fun _ => ?_) (fun hx => by cases hx)))
  refine ws (rg ?_)
  refine S.qg 4 [5] [(2, .v (B (f_within i.x 0 99)))] (.cons (Q_call fun w hw => c_spec_l01In w i.x 0 99) .nil) fun ac w β S => ?_
  exact (nt (wr (rb (rt (S.r [B (f_within i.x 0 99)] ⟨retB k0_spec_InsOk, S.chg⟩)))))
 have g9 : ¬ (i.opc = 5) := ne_of_beq_false h7
 refine rg ?_
 refine S.qe 2 [] [(5, .v (B (i.opc == 6)))] fun ac w β S => ?_
 refine (nt (S.c (i.opc == 6) (fun h10 => ?_) (fun h10 => ?_)))
 ·have g11 : i.opc = 6 := eq_of_beq h10
  refine ws (rg ?_)
  refine S.qg 4 [] [(2, .v (B (f_within i.x 0 99)))] (.cons (Q_call fun w hw => c_spec_l01In w i.x 0 99) .nil) fun ac w β S => ?_
  exact (nt (wr (rb (rt (S.r [B (f_within i.x 0 99)] ⟨retB k0_spec_InsOk, S.chg⟩)))))
 have g12 : ¬ (i.opc = 6) := ne_of_beq_false h10
 refine ws (ws (rg ?_))
 refine S.qe 2 [] [(13, .v (B (i.opc == 3)))] fun ac w β S => ?_
 refine (nt (S.c (i.opc == 3) (fun h13 => ?_) (fun h13 => ?_)))
 ·rw [h13] at S
  have g14 : i.opc = 3 := eq_of_beq h13
  refine wk (nt (S.c true (fun _ => ?_) (fun hx => by cases hx)))
  refine ws (rg ?_)
  refine S.qg 4 [13] [(2, .v (B (f_within i.x 0 15)))] (.cons (Q_call fun w hw => c_spec_l01In w i.x 0 15) .nil) fun ac w β S => ?_
  exact (nt (wr (rb (rt (S.r [B (f_within i.x 0 15)] ⟨retB k0_spec_InsOk, S.chg⟩)))))
 have g15 : ¬ (i.opc = 3) := ne_of_beq_false h13
 refine rg ?_
 refine S.qe 2 [] [(13, .v (B (i.opc == 4)))] fun ac w β S => ?_
 refine (nt (S.c (i.opc == 4) (fun h16 => ?_) (fun h16 => ?_)))
 ·have g17 : i.opc = 4 := eq_of_beq h16
  refine ws (rg ?_)
  refine S.qg 4 [] [(2, .v (B (f_within i.x 0 15)))] (.cons (Q_call fun w hw => c_spec_l01In w i.x 0 15) .nil) fun ac w β S => ?_
  exact (nt (wr (rb (rt (S.r [B (f_within i.x 0 15)] ⟨retB k0_spec_InsOk, S.chg⟩)))))
 have g18 : ¬ (i.opc = 4) := ne_of_beq_false h16
 refine ws (rg ?_)
 refine S.qe 2 [] [(19, .v (B (i.opc == 7)))] fun ac w β S => ?_
 refine (nt (S.c (i.opc == 7) (fun h19 => ?_) (fun h19 => ?_)))
 ·have g20 : i.opc = 7 := eq_of_beq h19
  refine ws (rg ?_)
  refine S.qe 4 [] [(2, .v (B (i.x == 0)))] fun ac w β S => ?_
  exact (nt (wr (rb (rt (S.r [B (i.x == 0)] ⟨retB k0_spec_InsOk, S.chg⟩)))))
 have g21 : ¬ (i.opc = 7) := ne_of_beq_false h19
 refine ws (rg ?_)
 refine S.qe 2 [] [(24, .v (B (i.opc == 8)))] fun ac w β S => ?_
 refine (nt (S.c (i.opc == 8) (fun h22 => ?_) (fun h22 => ?_)))
 ·have g23 : i.opc = 8 := eq_of_beq h22
  refine ws (rg ?_)
  refine S.qg 4 [] [(2, .v (B (f_within i.x 0 11)))] (.cons (Q_call fun w hw => c_spec_l01In w i.x 0 11) .nil) fun ac w β S => ?_
  exact (nt (wr (rb (rt (S.r [B (f_within i.x 0 11)] ⟨retB k0_spec_InsOk, S.chg⟩)))))
 have g24 : ¬ (i.opc = 8) := ne_of_beq_false h22
 refine wk (nb (nt (ws (rg ?_))))
 refine S.qe 1 [] [(2, .v (B false))] fun ac w β S => ?_
 exact (nt (wr (S.r [B false] ⟨retB k0_spec_InsOk, S.chg⟩)))

theorem c_spec_ProgOk (w0 : World) (p : List TIns) (pp : LP TIns) (hp : RD w0 p pp) : Calls Tryz.prog 164 [slv p.length pp.1].toArray w0 (fun e w' => e = .returned (B (f_progOk p)) ∧ Chg NoB w0 w') := by
 refine Calls.walk NoB Tryz.func164 rfl rfl ?_
 intro ac β S
 have hlep : p.length ≤ 4194304 := LRd.le hp
 refine ws (rg ?_)
 refine S.qe 1 [] [] fun ac w β S => ?_
 refine (nt (ws (ws (rg ?_))))
 refine S.qe 1 [] [(3, .v (I 0))] fun ac w β S => ?_
 refine (nt (wp_block ?_))
 refine wp_loop_down (fun mm ac w => ∃ (k : Nat)  (u : _) (N : _) (β : _), mm = p.length - k ∧ (k ≤ p.length) ∧ ((p.take k).all f_insOk = true) ∧ St Tryz.prog Tryz.f164.ntmps w0 NoB u N β ⟨[(0, .v (slv p.length pp.1)), (3, .v (I (k : Int)))], []⟩ ac w) _ ⟨0, _, _, _, rfl, o0, (by simp), S.z⟩ ?_
 clear S
 rintro mm ac w ⟨k, u, N, β, rfl, hk, he, S⟩
 refine ws (ws (rg ?_))
 refine S.qe 4 [] [(7, .v (B (decide ((k : Int) < (p.length : Int)))))] fun ac w β S => ?_
 refine (nt (S.c (decide ((k : Int) < (p.length : Int))) (fun h1 => ?_) (fun h1 => ?_)))
 ·have g2 := of_decide_eq_true h1
  refine wk (nt (ws (wp_block (ws (rg ?_)))))
  refine S.qg 6 [] [(15, .v (B (!(f_insOk (el p k)))))] (.cons (qn (S.arg hp) k Tryz.underlying93) (.cons (qs (S.arg hp) 173 k) (.cons (Q_call fun w hw => c_spec_InsOk w (el p k)) .nil))) fun ac w β S => ?_
  refine (nt (S.c (!(f_insOk (el p k))) (fun h3 => ?_) (fun h3 => ?_)))
  ·have h4 := not_t h3
   refine ws (rg ?_)
   refine S.qe 1 [] [(2, .v (B false))] fun ac w β S => ?_
   exact (nt (wr (rb (rt (rt (rb (rt (S.r [B false] ⟨retB (by clear S; (first | (unfold f_progOk; rw [all_bad (k := k) (by omega) (by first | assumption | simp_all)]; simp; done) | (unfold f_progOk; rw [all_end (by omega) he]; simp; done) | (unfold f_progOk; rw [all_end (by omega) he]; simp [*]; done) | (unfold f_progOk; rw [all_end (by omega) he]; simp; omega))), S.chg⟩))))))))
  have h5 := not_f h3
  refine wk (nb (nt (rg ?_)))
  refine S.qg 3 [] [(3, .v (I ((k : Int) + 1)))] (.cons (qp (k : Int) 1) .nil) fun ac w β S => ?_
  refine (nt ?_)
  refine ⟨p.length - (k + 1), by omega, k + 1, _, _, _, rfl, ?_, ?_, S.z⟩
  ·exact oz
  ·clear S; exact all_step (by omega) he (by first | assumption | (simp only [f_slotOk, f_within] at *; simp_all; done) | (simp_all; done) | (simp_all; omega))
 have g6 := of_decide_eq_false h1
 refine wp_exit (ex_then (ex_then (ex_hit (nt (ws (rg ?_))))))
 refine S.qg 4 [] [(2, .v (B (f_within (p.length : Int) 1 12)))] (.cons (Q_call fun w hw => c_spec_l01In w (p.length : Int) 1 12) .nil) fun ac w β S => ?_
 exact (nt (wr (S.r [B (f_within (p.length : Int) 1 12)] ⟨retB (by clear S; (first | (unfold f_progOk; rw [all_end (by omega) he]; simp; done) | (unfold f_progOk; rw [all_end (by omega) he]; simp [*]; done) | (unfold f_progOk; rw [all_end (by omega) he]; simp; omega) | (unfold f_progOk; rw [all_bad (k := k) (by omega) (by first | assumption | simp_all)]; simp; done))), S.chg⟩)))

theorem c_spec_CtlFaults (w0 : World) (c : TCtl) : Calls Tryz.prog 178 [GT.val c ()].toArray w0 (Ret1 NoB w0 (f_ctlFaults c : List Int)) := by
 refine Calls.walk NoB Tryz.func178 rfl rfl ?_
 intro ac β S
 refine ws (rg ?_)
 refine S.qem 2 [] [(1, .p 0 0)] 1 [(0, GT.cells c ())] fun ac w β S => ?_
 refine (nt (ws (rg ?_)))
 refine RG.op rfl (S.bs0 (α := Int) (d := 4) (by kernel_rfl) fun ac w N q1 F2 S up o3 d4 => ?_)
 clear up d4
 refine S.qe 1 [] [(3, .v (slv 0 q1.1))] fun ac w β S => ?_
 refine (nt (ws (ws (rg ?_))))
 refine S.qg 4 [] [(8, .v (B (!(f_within c.traps 0 3))))] (.cons (Q_call fun w hw => c_spec_l01In w c.traps 0 3) .nil) fun ac w β S => ?_
 refine (nt ?_)
 refine wp_region_cut (fun ac w => ∃ (acc1 : List Int) (q5 : _) (F6 : _) (u : _) (N : _) (β : _), (acc1 = (if f_within c.traps 0 3 then [] else [1])) ∧ St Tryz.prog Tryz.f178.ntmps w0 NoB u N β ⟨[(1, .p 0 0), (3, .v (slv acc1.length q5.1))], [GT.cells c ()]⟩ ac w ∧ Ow w0 NoB u N F6 acc1 q5) ?_ ?_
 ·refine S.c (!(f_within c.traps 0 3)) (fun h8 => ?_) (fun h8 => ?_)
  ·have h9 := not_t h8
   have g10 := within_f h9
   refine rg ?_
   refine S.qa 1 [] [(9, .v (slv 0 q1.1))] fun ac w β S => ?_
   refine RG.op rfl (S.bs1 (α := Int) (x := 1) (p := ()) (F := NoB) (show In64 1 from ⟨by decide, by decide⟩) (fun b h => False.elim h) (fun b h => False.elim h) (d := 10) (by kernel_rfl) fun ac w N q11 F12 S up o13 d14 => ?_)
   have d15 := d14 _ (fun b _ h => False.elim h) o3.sub
   replace o3 := o3.up up
   clear up d14
   refine RG.op rfl (S.appFlat0 (α := Int) o3 o13.rn (fun _ _ h => h) (by' := 8) (d := 11) (lx := 0) (ly := 1) rfl fun ac w N q16 F17 S up o18 d19 => ?_)
   have d20 := d19 _ (Disj.symm d15) o13.sub
   replace o13 := o13.upF (Disj.symm d15) up
   clear up d19
   refine S.qe 1 [] [(3, .v (slv ([1]).length q16.1))] fun ac w β S => ?_
   exact ⟨rfl, ([1]), q16, F17, _, _, _, (by clear S; (first | (rw [if_pos (by assumption)]; simp [*]; done) | (rw [if_neg (by simp [*])]; simp [*]; done) | ((repeat' split) <;> first | rfl | (simp; done) | (exfalso; simp_all; done) | (simp_all; done)))), S.z, o18⟩
  have h21 := not_f h8
  have g22 := within_t h21
  refine wk ?_
  exact ⟨rfl, ([] : List Int), q1, F2, _, _, _, (by clear S; (first | (rw [if_pos (by assumption)]; simp [*]; done) | (rw [if_neg (by simp [*])]; simp [*]; done) | ((repeat' split) <;> first | rfl | (simp; done) | (exfalso; simp_all; done) | (simp_all; done)))), S.z, o3⟩
 clear S o3
 rintro ac w ⟨acc1, q5, F6, u, N, β, ha1, S, o7⟩
 have hl1 : acc1.length ≤ 1 := by rw [ha1]; (repeat' split) <;> simp
 refine id (nt (ws (ws (rg ?_))))
 refine S.qg 4 [] [(15, .v (B (!(f_within c.post 0 255))))] (.cons (Q_call fun w hw => c_spec_l01In w c.post 0 255) .nil) fun ac w β S => ?_
 refine (nt ?_)
 refine wp_region_cut (fun ac w => ∃ (acc2 : List Int) (q23 : _) (F24 : _) (u : _) (N : _) (β : _), (acc2 = (if f_within c.traps 0 3 then [] else [1]) ++ (if f_within c.post 0 255 then [] else [2])) ∧ St Tryz.prog Tryz.f178.ntmps w0 NoB u N β ⟨[(1, .p 0 0), (3, .v (slv acc2.length q23.1))], [GT.cells c ()]⟩ ac w ∧ Ow w0 NoB u N F24 acc2 q23) ?_ ?_
 ·refine S.c (!(f_within c.post 0 255)) (fun h26 => ?_) (fun h26 => ?_)
  ·have h27 := not_t h26
   have g28 := within_f h27
   refine rg ?_
   refine S.qa 1 [] [(16, .v (slv acc1.length q5.1))] fun ac w β S => ?_
   refine RG.op rfl (S.bs1 (α := Int) (x := 2) (p := ()) (F := NoB) (show In64 2 from ⟨by decide, by decide⟩) (fun b h => False.elim h) (fun b h => False.elim h) (d := 17) (by kernel_rfl) fun ac w N q29 F30 S up o31 d32 => ?_)
   have d33 := d32 _ (fun b _ h => False.elim h) o7.sub
   replace o7 := o7.up up
   clear up d32
   refine RG.op rfl (S.appFlat (α := Int) o7 o31.rn (fun _ _ h => h) (by' := 8) (d := 18) (lx := acc1.length) (ly := 1) rfl rfl (by kernel_rfl) (show _ ≤ 4194304 by simp only [List.length_append, List.length_cons, List.length_nil]; omega) fun ac w N q34 F35 S up o36 d37 => ?_)
   have d38 := d37 _ (Disj.symm d33) o31.sub
   replace o31 := o31.upF (Disj.symm d33) up
   clear up d37
   refine S.qe 1 [] [(3, .v (slv (acc1 ++ [2]).length q34.1))] fun ac w β S => ?_
   exact ⟨rfl, (acc1 ++ [2]), q34, F35, _, _, _, (by clear S; (first | (rw [if_pos (by assumption)]; simp [*]; done) | (rw [if_neg (by simp [*])]; simp [*]; done) | (rw [ha1]; (repeat' split) <;> first | rfl | (simp; done) | (exfalso; simp_all; done) | (simp_all; done)))), S.z, o36⟩
  have h39 := not_f h26
  have g40 := within_t h39
  refine wk ?_
  exact ⟨rfl, acc1, q5, F6, _, _, _, (by clear S; (first | (rw [if_pos (by assumption)]; simp [*]; done) | (rw [if_neg (by simp [*])]; simp [*]; done) | (rw [ha1]; (repeat' split) <;> first | rfl | (simp; done) | (exfalso; simp_all; done) | (simp_all; done)))), S.z, o7⟩
 clear S o7
 rintro ac w ⟨acc2, q23, F24, u, N, β, ha2, S, o25⟩
 have hl2 : acc2.length ≤ 2 := by rw [ha2]; (repeat' split) <;> simp
 refine id (nt (ws (ws (rg ?_))))
 refine S.qa 4 [] [(22, .v (B (c.post != 0)))] fun ac w β S => ?_
 rcases Bool.eq_false_or_eq_true (c.post != 0) with h41 | h41 <;> rw [h41] at S
 ·have g42 : ¬ (c.post = 0) := bne_iff_ne.1 h41
  refine S.qe 4 [22] [(26, .v (B (!c.opn)))] fun ac w β S => ?_
  refine (nt ?_)
  refine wp_region_cut (fun ac w => ∃ (acc3 : List Int) (q43 : _) (F44 : _) (u : _) (N : _) (β : _), (acc3 = (if f_within c.traps 0 3 then [] else [1]) ++ (if f_within c.post 0 255 then [] else [2]) ++ (if c.post ≠ 0 ∧ c.opn = false then [3] else [])) ∧ St Tryz.prog Tryz.f178.ntmps w0 NoB u N β ⟨[(1, .p 0 0), (3, .v (slv acc3.length q43.1))], [GT.cells c ()]⟩ ac w ∧ Ow w0 NoB u N F44 acc3 q43) ?_ ?_
  ·refine S.c (!c.opn) (fun h46 => ?_) (fun h46 => ?_)
   ·have h47 := not_t h46
    refine rg ?_
    refine S.qa 1 [] [(27, .v (slv acc2.length q23.1))] fun ac w β S => ?_
    refine RG.op rfl (S.bs1 (α := Int) (x := 3) (p := ()) (F := NoB) (show In64 3 from ⟨by decide, by decide⟩) (fun b h => False.elim h) (fun b h => False.elim h) (d := 28) (by kernel_rfl) fun ac w N q48 F49 S up o50 d51 => ?_)
    have d52 := d51 _ (fun b _ h => False.elim h) o25.sub
    replace o25 := o25.up up
    clear up d51
    refine RG.op rfl (S.appFlat (α := Int) o25 o50.rn (fun _ _ h => h) (by' := 8) (d := 29) (lx := acc2.length) (ly := 1) rfl rfl (by kernel_rfl) (show _ ≤ 4194304 by simp only [List.length_append, List.length_cons, List.length_nil]; omega) fun ac w N q53 F54 S up o55 d56 => ?_)
    have d57 := d56 _ (Disj.symm d52) o50.sub
    replace o50 := o50.upF (Disj.symm d52) up
    clear up d56
    refine S.qe 1 [] [(3, .v (slv (acc2 ++ [3]).length q53.1))] fun ac w β S => ?_
    exact ⟨rfl, (acc2 ++ [3]), q53, F54, _, _, _, (by clear S; (first | (rw [if_pos (by assumption)]; simp [*]; done) | (rw [if_neg (by simp [*])]; simp [*]; done) | (rw [ha2]; (repeat' split) <;> first | rfl | (simp; done) | (exfalso; simp_all; done) | (simp_all; done)))), S.z, o55⟩
   have h58 := not_f h46
   refine wk ?_
   exact ⟨rfl, acc2, q23, F24, _, _, _, (by clear S; (first | (rw [if_pos (by assumption)]; simp [*]; done) | (rw [if_neg (by simp [*])]; simp [*]; done) | (rw [ha2]; (repeat' split) <;> first | rfl | (simp; done) | (exfalso; simp_all; done) | (simp_all; done)))), S.z, o25⟩
  clear S o25
  rintro ac w ⟨acc3, q43, F44, u, N, β, ha3, S, o45⟩
  have hl3 : acc3.length ≤ 3 := by rw [ha3]; (repeat' split) <;> simp
  refine id (nt (ws (ws (rg ?_))))
  refine S.qa 4 [] [(33, .v (B (c.traps == 2)))] fun ac w β S => ?_
  rcases Bool.eq_false_or_eq_true (c.traps == 2) with h59 | h59 <;> rw [h59] at S
  ·have g60 : c.traps = 2 := eq_of_beq h59
   refine S.qem 4 [33] [(37, .v (B (c.post != 0)))] 0 [] fun ac w β S => ?_
   refine (nt ?_)
   refine wp_region_cut (fun ac w => ∃ (acc4 : List Int) (q61 : _) (F62 : _) (u : _) (N : _) (β : _), (acc4 = (if f_within c.traps 0 3 then [] else [1]) ++ (if f_within c.post 0 255 then [] else [2]) ++ (if c.post ≠ 0 ∧ c.opn = false then [3] else []) ++ (if c.traps = 2 ∧ c.post ≠ 0 then [4] else [])) ∧ St Tryz.prog Tryz.f178.ntmps w0 NoB u N β ⟨[(3, .v (slv acc4.length q61.1))], []⟩ ac w ∧ Ow w0 NoB u N F62 acc4 q61) ?_ ?_
   ·refine S.c (c.post != 0) (fun h64 => ?_) (fun h64 => ?_)
    ·have g65 : ¬ (c.post = 0) := bne_iff_ne.1 h64
     refine rg ?_
     refine S.qa 1 [] [(38, .v (slv acc3.length q43.1))] fun ac w β S => ?_
     refine RG.op rfl (S.bs1 (α := Int) (x := 4) (p := ()) (F := NoB) (show In64 4 from ⟨by decide, by decide⟩) (fun b h => False.elim h) (fun b h => False.elim h) (d := 39) (by kernel_rfl) fun ac w N q66 F67 S up o68 d69 => ?_)
     have d70 := d69 _ (fun b _ h => False.elim h) o45.sub
     replace o45 := o45.up up
     clear up d69
     refine RG.op rfl (S.appFlat (α := Int) o45 o68.rn (fun _ _ h => h) (by' := 8) (d := 40) (lx := acc3.length) (ly := 1) rfl rfl (by kernel_rfl) (show _ ≤ 4194304 by simp only [List.length_append, List.length_cons, List.length_nil]; omega) fun ac w N q71 F72 S up o73 d74 => ?_)
     have d75 := d74 _ (Disj.symm d70) o68.sub
     replace o68 := o68.upF (Disj.symm d70) up
     clear up d74
     refine S.qe 1 [] [(3, .v (slv (acc3 ++ [4]).length q71.1))] fun ac w β S => ?_
     exact ⟨rfl, (acc3 ++ [4]), q71, F72, _, _, _, (by clear S; (first | (rw [if_pos (by assumption)]; simp [*]; done) | (rw [if_neg (by simp [*])]; simp [*]; done) | (rw [ha3]; (repeat' split) <;> first | rfl | (simp; done) | (exfalso; simp_all; done) | (simp_all; done)))), S.z, o73⟩
    have g76 : c.post = 0 := ne_f h64
    refine wk ?_
    exact ⟨rfl, acc3, q43, F44, _, _, _, (by clear S; (first | (rw [if_pos (by assumption)]; simp [*]; done) | (rw [if_neg (by simp [*])]; simp [*]; done) | (rw [ha3]; (repeat' split) <;> first | rfl | (simp; done) | (exfalso; simp_all; done) | (simp_all; done)))), S.z, o45⟩
   clear S o45
   rintro ac w ⟨acc4, q61, F62, u, N, β, ha4, S, o63⟩
   have hl4 : acc4.length ≤ 4 := by rw [ha4]; (repeat' split) <;> simp
   refine id (nt (ws (rg ?_)))
   refine S.qe 2 [] [(2, .v (slv acc4.length q61.1))] fun ac w β S => ?_
   exact (nt (wr (S.r [slv acc4.length q61.1] (ret1_of S (show f_ctlFaults c = acc4 by clear S; (rw [ha4]; rfl)) rfl o63))))
  ·have g77 : ¬ (c.traps = 2) := ne_of_beq_false h59
   refine S.qem 4 [33] [(37, .v (B false))] 0 [] fun ac w β S => ?_
   refine (nt ?_)
   refine wp_region_cut (fun ac w => ∃ (acc4 : List Int) (q78 : _) (F79 : _) (u : _) (N : _) (β : _), (acc4 = (if f_within c.traps 0 3 then [] else [1]) ++ (if f_within c.post 0 255 then [] else [2]) ++ (if c.post ≠ 0 ∧ c.opn = false then [3] else []) ++ (if c.traps = 2 ∧ c.post ≠ 0 then [4] else [])) ∧ St Tryz.prog Tryz.f178.ntmps w0 NoB u N β ⟨[(3, .v (slv acc4.length q78.1))], []⟩ ac w ∧ Ow w0 NoB u N F79 acc4 q78) ?_ ?_
   ·refine S.c false (fun hx => by cases hx) (fun _ => ?_)
    refine wk ?_
    exact ⟨rfl, acc3, q43, F44, _, _, _, (by clear S; (first | (rw [if_pos (by assumption)]; simp [*]; done) | (rw [if_neg (by simp [*])]; simp [*]; done) | (rw [ha3]; (repeat' split) <;> first | rfl | (simp; done) | (exfalso; simp_all; done) | (simp_all; done)))), S.z, o45⟩
   clear S o45
   rintro ac w ⟨acc4, q78, F79, u, N, β, ha4, S, o80⟩
   have hl4 : acc4.length ≤ 4 := by rw [ha4]; (repeat' split) <;> simp
   refine id (nt (ws (rg ?_)))
   refine S.qe 2 [] [(2, .v (slv acc4.length q78.1))] fun ac w β S => ?_
   exact (nt (wr (S.r [slv acc4.length q78.1] (ret1_of S (show f_ctlFaults c = acc4 by clear S; (rw [ha4]; rfl)) rfl o80))))
 ·have g81 : c.post = 0 := ne_f h41
  refine S.qe 4 [22] [(26, .v (B false))] fun ac w β S => ?_
  refine (nt ?_)
  refine wp_region_cut (fun ac w => ∃ (acc3 : List Int) (q82 : _) (F83 : _) (u : _) (N : _) (β : _), (acc3 = (if f_within c.traps 0 3 then [] else [1]) ++ (if f_within c.post 0 255 then [] else [2]) ++ (if c.post ≠ 0 ∧ c.opn = false then [3] else [])) ∧ St Tryz.prog Tryz.f178.ntmps w0 NoB u N β ⟨[(1, .p 0 0), (3, .v (slv acc3.length q82.1))], [GT.cells c ()]⟩ ac w ∧ Ow w0 NoB u N F83 acc3 q82) ?_ ?_
  ·refine S.c false (fun hx => by cases hx) (fun _ => ?_)
   refine wk ?_
   exact ⟨rfl, acc2, q23, F24, _, _, _, (by clear S; (first | (rw [if_pos (by assumption)]; simp [*]; done) | (rw [if_neg (by simp [*])]; simp [*]; done) | (rw [ha2]; (repeat' split) <;> first | rfl | (simp; done) | (exfalso; simp_all; done) | (simp_all; done)))), S.z, o25⟩
  clear S o25
  rintro ac w ⟨acc3, q82, F83, u, N, β, ha3, S, o84⟩
  have hl3 : acc3.length ≤ 3 := by rw [ha3]; (repeat' split) <;> simp
  refine id (nt (ws (ws (rg ?_))))
  refine S.qa 4 [] [(33, .v (B (c.traps == 2)))] fun ac w β S => ?_
  rcases Bool.eq_false_or_eq_true (c.traps == 2) with h85 | h85 <;> rw [h85] at S
  ·have g86 : c.traps = 2 := eq_of_beq h85
   refine S.qem 4 [33] [(37, .v (B (c.post != 0)))] 0 [] fun ac w β S => ?_
   refine (nt ?_)
   refine wp_region_cut (fun ac w => ∃ (acc4 : List Int) (q87 : _) (F88 : _) (u : _) (N : _) (β : _), (acc4 = (if f_within c.traps 0 3 then [] else [1]) ++ (if f_within c.post 0 255 then [] else [2]) ++ (if c.post ≠ 0 ∧ c.opn = false then [3] else []) ++ (if c.traps = 2 ∧ c.post ≠ 0 then [4] else [])) ∧ St Tryz.prog Tryz.f178.ntmps w0 NoB u N β ⟨[(3, .v (slv acc4.length q87.1))], []⟩ ac w ∧ Ow w0 NoB u N F88 acc4 q87) ?_ ?_
   ·refine S.c (c.post != 0) (fun h90 => ?_) (fun h90 => ?_)
    ·have g91 : ¬ (c.post = 0) := bne_iff_ne.1 h90
     refine rg ?_
     refine S.qa 1 [] [(38, .v (slv acc3.length q82.1))] fun ac w β S => ?_
     refine RG.op rfl (S.bs1 (α := Int) (x := 4) (p := ()) (F := NoB) (show In64 4 from ⟨by decide, by decide⟩) (fun b h => False.elim h) (fun b h => False.elim h) (d := 39) (by kernel_rfl) fun ac w N q92 F93 S up o94 d95 => ?_)
     have d96 := d95 _ (fun b _ h => False.elim h) o84.sub
     replace o84 := o84.up up
     clear up d95
     refine RG.op rfl (S.appFlat (α := Int) o84 o94.rn (fun _ _ h => h) (by' := 8) (d := 40) (lx := acc3.length) (ly := 1) rfl rfl (by kernel_rfl) (show _ ≤ 4194304 by simp only [List.length_append, List.length_cons, List.length_nil]; omega) fun ac w N q97 F98 S up o99 d100 => ?_)
     have d101 := d100 _ (Disj.symm d96) o94.sub
     replace o94 := o94.upF (Disj.symm d96) up
     clear up d100
     refine S.qe 1 [] [(3, .v (slv (acc3 ++ [4]).length q97.1))] fun ac w β S => ?_
     exact ⟨rfl, (acc3 ++ [4]), q97, F98, _, _, _, (by clear S; (first | (rw [if_pos (by assumption)]; simp [*]; done) | (rw [if_neg (by simp [*])]; simp [*]; done) | (rw [ha3]; (repeat' split) <;> first | rfl | (simp; done) | (exfalso; simp_all; done) | (simp_all; done)))), S.z, o99⟩
    have g102 : c.post = 0 := ne_f h90
    refine wk ?_
    exact ⟨rfl, acc3, q82, F83, _, _, _, (by clear S; (first | (rw [if_pos (by assumption)]; simp [*]; done) | (rw [if_neg (by simp [*])]; simp [*]; done) | (rw [ha3]; (repeat' split) <;> first | rfl | (simp; done) | (exfalso; simp_all; done) | (simp_all; done)))), S.z, o84⟩
   clear S o84
   rintro ac w ⟨acc4, q87, F88, u, N, β, ha4, S, o89⟩
   have hl4 : acc4.length ≤ 4 := by rw [ha4]; (repeat' split) <;> simp
   refine id (nt (ws (rg ?_)))
   refine S.qe 2 [] [(2, .v (slv acc4.length q87.1))] fun ac w β S => ?_
   exact (nt (wr (S.r [slv acc4.length q87.1] (ret1_of S (show f_ctlFaults c = acc4 by clear S; (rw [ha4]; rfl)) rfl o89))))
  ·have g103 : ¬ (c.traps = 2) := ne_of_beq_false h85
   refine S.qem 4 [33] [(37, .v (B false))] 0 [] fun ac w β S => ?_
   refine (nt ?_)
   refine wp_region_cut (fun ac w => ∃ (acc4 : List Int) (q104 : _) (F105 : _) (u : _) (N : _) (β : _), (acc4 = (if f_within c.traps 0 3 then [] else [1]) ++ (if f_within c.post 0 255 then [] else [2]) ++ (if c.post ≠ 0 ∧ c.opn = false then [3] else []) ++ (if c.traps = 2 ∧ c.post ≠ 0 then [4] else [])) ∧ St Tryz.prog Tryz.f178.ntmps w0 NoB u N β ⟨[(3, .v (slv acc4.length q104.1))], []⟩ ac w ∧ Ow w0 NoB u N F105 acc4 q104) ?_ ?_
   ·refine S.c false (fun hx => by cases hx) (fun _ => ?_)
    refine wk ?_
    exact ⟨rfl, acc3, q82, F83, _, _, _, (by clear S; (first | (rw [if_pos (by assumption)]; simp [*]; done) | (rw [if_neg (by simp [*])]; simp [*]; done) | (rw [ha3]; (repeat' split) <;> first | rfl | (simp; done) | (exfalso; simp_all; done) | (simp_all; done)))), S.z, o84⟩
   clear S o84
   rintro ac w ⟨acc4, q104, F105, u, N, β, ha4, S, o106⟩
   have hl4 : acc4.length ≤ 4 := by rw [ha4]; (repeat' split) <;> simp
   refine id (nt (ws (rg ?_)))
   refine S.qe 2 [] [(2, .v (slv acc4.length q104.1))] fun ac w β S => ?_
   exact (nt (wr (S.r [slv acc4.length q104.1] (ret1_of S (show f_ctlFaults c = acc4 by clear S; (rw [ha4]; rfl)) rfl o106))))

theorem c_spec_CtlOk (w0 : World) (c : TCtl) : Calls Tryz.prog 165 [GT.val c ()].toArray w0 (fun e w' => e = .returned (B (f_ctlOk c)) ∧ Chg NoB w0 w') := by
 refine Calls.walk NoB Tryz.func165 rfl rfl ?_
 intro ac β S
 refine ws (rg ?_)
 refine S.qem 2 [] [(1, .p 0 0)] 1 [(0, GT.cells c ())] fun ac w β S => ?_
 refine (nt (ws (rg ?_)))
 refine S.qam 1 [] [(3, .v (GT.val c ()))] 0 [] fun ac w β S => ?_
 refine RG.op rfl (S.k1 4 (c_spec_CtlFaults w c) fun ac w N q1 F2 S up o3 d4 => ?_)
 clear up d4
 refine S.qe 3 [] [(2, .v (B (((f_ctlFaults c).length : Int) == 0)))] fun ac w β S => ?_
 exact (nt (wr (S.r [B (((f_ctlFaults c).length : Int) == 0)] ⟨retB (by clear S; first | rfl | (simp [f_ctlOk, *]; done) | (simp [f_ctlOk, *]; omega) | (simp_all [f_ctlOk]; done) | (simp_all [f_ctlOk]; omega)), S.chg⟩)))

theorem c_spec_PendOk (w0 : World) (p : Int) : Calls Tryz.prog 148 [I p].toArray w0 (fun e w' => e = .returned (B (f_within p 0 255)) ∧ Chg NoB w0 w') := by
 refine Calls.walk NoB Tryz.func148 rfl rfl ?_
 intro ac β S
 refine ws (rg ?_)
 refine S.qe 1 [] [] fun ac w β S => ?_
 refine (nt (ws (rg ?_)))
 refine S.qg 3 [] [(2, .v (B (f_within p 0 255)))] (.cons (Q_call fun w hw => c_spec_l01In w p 0 255) .nil) fun ac w β S => ?_
 exact (nt (wr (S.r [B (f_within p 0 255)] ⟨retB (by clear S; first | rfl | (simp [f_within, *]; done) | (simp [f_within, *]; omega) | (simp_all [f_within]; done) | (simp_all [f_within]; omega)), S.chg⟩)))

theorem k0_spec_ExitOk {p : Prop} (h : p := by clear S; (unfold f_exitOk; (repeat' split) <;> first | rfl | (exfalso; simp_all; done) | (exfalso; omega) | (rw [Bool.eq_iff_iff]; simp [TExit.ext_iff, *]; done) | (rw [Bool.eq_iff_iff]; simp_all [TExit.ext_iff, and_assoc]; done) | (rw [Bool.eq_iff_iff]; simp_all [TExit.ext_iff, and_assoc]; omega))) : p := h
theorem c_spec_ExitOk (w0 : World) (x : TExit) : Calls Tryz.prog 166 [GT.val x ()].toArray w0 (fun e w' => e = .returned (B (f_exitOk x)) ∧ Chg NoB w0 w') := by
 refine Calls.walk NoB Tryz.func166 rfl rfl ?_
 intro ac β S
 refine ws (rg ?_)
 refine S.qem 2 [] [(1, .p 0 0)] 1 [(0, GT.cells x ())] fun ac w β S => ?_
 refine (nt (ws (ws (rg ?_))))
 refine S.qe 2 [] [(4, .v (I x.kind))] fun ac w β S => ?_
 refine (nt (wp_block (ws (ws (rg ?_)))))
 refine S.qe 2 [] [(5, .v (B (x.kind == 0)))] fun ac w β S => ?_
 refine (nt (S.c (x.kind == 0) (fun h1 => ?_) (fun h1 => ?_)))
 ·rw [h1] at S
  have g2 : x.kind = 0 := eq_of_beq h1
  refine wk (nt (S.c true (fun _ => ?_) (fun hx => by cases hx)))
  refine ws (rg ?_)
  refine S.qg 6 [5] [(2, .v (B (decide (x = (⟨x.kind, 0, false, 0⟩ : TExit)))))] (.cons (Q_sem (s := Instr.build 97 [(0, I x.kind)].toArray) (v := .agg [I x.kind, I 0, B false, I 0].toArray) (fun w => by kernel_rfl)) (.cons (Eq_eq_Exit (t := 97) x (⟨x.kind, 0, false, 0⟩ : TExit) (by kernel_rfl)) .nil)) fun ac w β S => ?_
  exact (nt (wr (rb (rt (S.r [B (decide (x = (⟨x.kind, 0, false, 0⟩ : TExit)))] ⟨retB k0_spec_ExitOk, S.chg⟩)))))
 have g3 : ¬ (x.kind = 0) := ne_of_beq_false h1
 refine rg ?_
 refine S.qe 2 [] [(5, .v (B (x.kind == 4)))] fun ac w β S => ?_
 refine (nt (S.c (x.kind == 4) (fun h4 => ?_) (fun h4 => ?_)))
 ·have g5 : x.kind = 4 := eq_of_beq h4
  refine ws (rg ?_)
  refine S.qg 6 [] [(2, .v (B (decide (x = (⟨x.kind, 0, false, 0⟩ : TExit)))))] (.cons (Q_sem (s := Instr.build 97 [(0, I x.kind)].toArray) (v := .agg [I x.kind, I 0, B false, I 0].toArray) (fun w => by kernel_rfl)) (.cons (Eq_eq_Exit (t := 97) x (⟨x.kind, 0, false, 0⟩ : TExit) (by kernel_rfl)) .nil)) fun ac w β S => ?_
  exact (nt (wr (rb (rt (S.r [B (decide (x = (⟨x.kind, 0, false, 0⟩ : TExit)))] ⟨retB k0_spec_ExitOk, S.chg⟩)))))
 have g6 : ¬ (x.kind = 4) := ne_of_beq_false h4
 refine ws (rg ?_)
 refine S.qe 2 [] [(13, .v (B (x.kind == 1)))] fun ac w β S => ?_
 refine (nt (S.c (x.kind == 1) (fun h7 => ?_) (fun h7 => ?_)))
 ·have g8 : x.kind = 1 := eq_of_beq h7
  refine ws (rg ?_)
  refine S.qb 4 [] [(18, .v (B (f_within x.page 0 3)))] (.cons (Q_call fun w hw => c_spec_l01In w x.page 0 3) .nil) fun ac w β S => ?_
  rcases Bool.eq_false_or_eq_true (f_within x.page 0 3) with h9 | h9 <;> rw [h9] at S
  ·have g10 := within_t h9
   refine S.qe 5 [18] [(2, .v (B (x.n == 0)))] fun ac w β S => ?_
   exact (nt (wr (rb (rt (S.r [B (x.n == 0)] ⟨retB k0_spec_ExitOk, S.chg⟩)))))
  ·have g11 := within_f h9
   refine S.qe 5 [18] [(2, .v (B false))] fun ac w β S => ?_
   exact (nt (wr (rb (rt (S.r [B false] ⟨retB k0_spec_ExitOk, S.chg⟩)))))
 have g12 : ¬ (x.kind = 1) := ne_of_beq_false h7
 refine ws (ws (rg ?_))
 refine S.qe 2 [] [(23, .v (B (x.kind == 2)))] fun ac w β S => ?_
 refine (nt (S.c (x.kind == 2) (fun h13 => ?_) (fun h13 => ?_)))
 ·rw [h13] at S
  have g14 : x.kind = 2 := eq_of_beq h13
  refine wk (nt (S.c true (fun _ => ?_) (fun hx => by cases hx)))
  refine ws (rg ?_)
  refine S.qb 4 [23] [(29, .v (B (f_within x.n 0 99)))] (.cons (Q_call fun w hw => c_spec_l01In w x.n 0 99) .nil) fun ac w β S => ?_
  rcases Bool.eq_false_or_eq_true (f_within x.n 0 99) with h15 | h15 <;> rw [h15] at S
  ·have g16 := within_t h15
   refine S.qa 5 [29] [(34, .v (B (x.page == 0)))] fun ac w β S => ?_
   rcases Bool.eq_false_or_eq_true (x.page == 0) with h17 | h17 <;> rw [h17] at S
   ·have g18 : x.page = 0 := eq_of_beq h17
    refine S.qe 5 [34] [(2, .v (B (!x.wr)))] fun ac w β S => ?_
    exact (nt (wr (rb (rt (S.r [B (!x.wr)] ⟨retB k0_spec_ExitOk, S.chg⟩)))))
   ·have g19 : ¬ (x.page = 0) := ne_of_beq_false h17
    refine S.qe 5 [34] [(2, .v (B false))] fun ac w β S => ?_
    exact (nt (wr (rb (rt (S.r [B false] ⟨retB k0_spec_ExitOk, S.chg⟩)))))
  ·have g20 := within_f h15
   refine S.qe 10 [29] [(2, .v (B false))] fun ac w β S => ?_
   exact (nt (wr (rb (rt (S.r [B false] ⟨retB k0_spec_ExitOk, S.chg⟩)))))
 have g21 : ¬ (x.kind = 2) := ne_of_beq_false h13
 refine rg ?_
 refine S.qe 2 [] [(23, .v (B (x.kind == 3)))] fun ac w β S => ?_
 refine (nt (S.c (x.kind == 3) (fun h22 => ?_) (fun h22 => ?_)))
 ·have g23 : x.kind = 3 := eq_of_beq h22
  refine ws (rg ?_)
  refine S.qb 4 [] [(29, .v (B (f_within x.n 0 99)))] (.cons (Q_call fun w hw => c_spec_l01In w x.n 0 99) .nil) fun ac w β S => ?_
  rcases Bool.eq_false_or_eq_true (f_within x.n 0 99) with h24 | h24 <;> rw [h24] at S
  ·have g25 := within_t h24
   refine S.qa 5 [29] [(34, .v (B (x.page == 0)))] fun ac w β S => ?_
   rcases Bool.eq_false_or_eq_true (x.page == 0) with h26 | h26 <;> rw [h26] at S
   ·have g27 : x.page = 0 := eq_of_beq h26
    refine S.qe 5 [34] [(2, .v (B (!x.wr)))] fun ac w β S => ?_
    exact (nt (wr (rb (rt (S.r [B (!x.wr)] ⟨retB k0_spec_ExitOk, S.chg⟩)))))
   ·have g28 : ¬ (x.page = 0) := ne_of_beq_false h26
    refine S.qe 5 [34] [(2, .v (B false))] fun ac w β S => ?_
    exact (nt (wr (rb (rt (S.r [B false] ⟨retB k0_spec_ExitOk, S.chg⟩)))))
  ·have g29 := within_f h24
   refine S.qe 10 [29] [(2, .v (B false))] fun ac w β S => ?_
   exact (nt (wr (rb (rt (S.r [B false] ⟨retB k0_spec_ExitOk, S.chg⟩)))))
 have g30 : ¬ (x.kind = 3) := ne_of_beq_false h22
 refine wk (nb (nt (ws (rg ?_))))
 refine S.qe 1 [] [(2, .v (B false))] fun ac w β S => ?_
 exact (nt (wr (S.r [B false] ⟨retB k0_spec_ExitOk, S.chg⟩)))

theorem k0_spec_GuestOk {p : Prop} (h : p := by clear S; first | rfl | (simp [f_guestOk, *]; done) | (simp [f_guestOk, *]; omega) | (simp_all [f_guestOk]; done) | (simp_all [f_guestOk]; omega)) : p := h
theorem c_spec_GuestOk (w0 : World) (g : TGuest) (pg : PGuest) (hg : RD w0 g pg) : Calls Tryz.prog 146 [GT.val g pg].toArray w0 (fun e w' => e = .returned (B (f_guestOk g)) ∧ Chg NoB w0 w') := by
 refine Calls.walk NoB Tryz.func146 rfl rfl ?_
 intro ac β S
 have hleg_prog : g.prog.length ≤ 4194304 := LRd.le (RGuest.prog (d := g) hg)
 have hleg_written : g.written.length ≤ 4194304 := LRd.le (RGuest.written (d := g) hg)
 have hleg_live : g.live.length ≤ 4194304 := LRd.le (RGuest.live (d := g) hg)
 have hleg_seen : g.seen.length ≤ 4194304 := LRd.le (RGuest.seen (d := g) hg)
 refine ws (rg ?_)
 refine S.qem 2 [] [(1, .p 0 0)] 1 [(0, GT.cells g pg)] fun ac w β S => ?_
 refine (nt (ws (rg ?_)))
 refine S.qb 4 [] [(6, .v (B (f_progOk g.prog)))] (.cons (Q_call fun w hw => c_spec_ProgOk w g.prog pg.prog (rd_of (RGuest.prog (d := g) (S.arg hg)) hw)) .nil) fun ac w β S => ?_
 rcases Bool.eq_false_or_eq_true (f_progOk g.prog) with h1 | h1 <;> rw [h1] at S
 ·refine S.qb 5 [6] [(11, .v (B (f_within g.acc 0 99)))] (.cons (Q_call fun w hw => c_spec_l01In w g.acc 0 99) .nil) fun ac w β S => ?_
  rcases Bool.eq_false_or_eq_true (f_within g.acc 0 99) with h2 | h2 <;> rw [h2] at S
  ·have g3 := within_t h2
   refine S.qb 5 [11] [(16, .v (B (f_within g.pc 0 12)))] (.cons (Q_call fun w hw => c_spec_l01In w g.pc 0 12) .nil) fun ac w β S => ?_
   rcases Bool.eq_false_or_eq_true (f_within g.pc 0 12) with h4 | h4 <;> rw [h4] at S
   ·have g5 := within_t h4
    refine S.qb 5 [16] [(21, .v (B (f_tableOk g.written 4 8)))] (.cons (Q_call fun w hw => c_spec_TableOk w g.written pg.written (rd_of (RGuest.written (d := g) (S.arg hg)) hw) 4 8 (by omega) (by omega)) .nil) fun ac w β S => ?_
    rcases Bool.eq_false_or_eq_true (f_tableOk g.written 4 8) with h6 | h6 <;> rw [h6] at S
    ·have g7 := tableOk_t h6
     refine S.qb 5 [21] [(26, .v (B (f_tableOk g.live 4 8)))] (.cons (Q_call fun w hw => c_spec_TableOk w g.live pg.live (rd_of (RGuest.live (d := g) (S.arg hg)) hw) 4 8 (by omega) (by omega)) .nil) fun ac w β S => ?_
     rcases Bool.eq_false_or_eq_true (f_tableOk g.live 4 8) with h8 | h8 <;> rw [h8] at S
     ·have g9 := tableOk_t h8
      refine S.qb 5 [26] [(31, .v (B (f_ctlOk g.ctl)))] (.cons (Q_call fun w hw => c_spec_CtlOk w g.ctl) .nil) fun ac w β S => ?_
      rcases Bool.eq_false_or_eq_true (f_ctlOk g.ctl) with h10 | h10 <;> rw [h10] at S
      ·refine S.qb 5 [31] [(36, .v (B (f_within g.pend 0 255)))] (.cons (Q_call fun w hw => c_spec_PendOk w g.pend) .nil) fun ac w β S => ?_
       rcases Bool.eq_false_or_eq_true (f_within g.pend 0 255) with h11 | h11 <;> rw [h11] at S
       ·have g12 := within_t h11
        refine S.qb 5 [36] [(41, .v (B (f_exitOk g.exit)))] (.cons (Q_call fun w hw => c_spec_ExitOk w g.exit) .nil) fun ac w β S => ?_
        rcases Bool.eq_false_or_eq_true (f_exitOk g.exit) with h13 | h13 <;> rw [h13] at S
        ·refine S.qe 6 [41] [(2, .v (B (decide ((g.seen.length : Int) ≤ 40))))] fun ac w β S => ?_
         exact (nt (wr (S.r [B (decide ((g.seen.length : Int) ≤ 40))] ⟨retB k0_spec_GuestOk, S.chg⟩)))
        ·refine S.qe 6 [41] [(2, .v (B false))] fun ac w β S => ?_
         exact (nt (wr (S.r [B false] ⟨retB k0_spec_GuestOk, S.chg⟩)))
       ·have g14 := within_f h11
        refine S.qe 11 [36] [(2, .v (B false))] fun ac w β S => ?_
        exact (nt (wr (S.r [B false] ⟨retB k0_spec_GuestOk, S.chg⟩)))
      ·refine S.qe 16 [31] [(2, .v (B false))] fun ac w β S => ?_
       exact (nt (wr (S.r [B false] ⟨retB k0_spec_GuestOk, S.chg⟩)))
     ·refine S.qe 21 [26] [(2, .v (B false))] fun ac w β S => ?_
      exact (nt (wr (S.r [B false] ⟨retB k0_spec_GuestOk, S.chg⟩)))
    ·refine S.qe 26 [21] [(2, .v (B false))] fun ac w β S => ?_
     exact (nt (wr (S.r [B false] ⟨retB k0_spec_GuestOk, S.chg⟩)))
   ·have g15 := within_f h4
    refine S.qe 31 [16] [(2, .v (B false))] fun ac w β S => ?_
    exact (nt (wr (S.r [B false] ⟨retB k0_spec_GuestOk, S.chg⟩)))
  ·have g16 := within_f h2
   refine S.qe 36 [11] [(2, .v (B false))] fun ac w β S => ?_
   exact (nt (wr (S.r [B false] ⟨retB k0_spec_GuestOk, S.chg⟩)))
 ·refine S.qe 41 [6] [(2, .v (B false))] fun ac w β S => ?_
  exact (nt (wr (S.r [B false] ⟨retB k0_spec_GuestOk, S.chg⟩)))

theorem c_spec_RightsOk (w0 : World) (r : Int) : Calls Tryz.prog 167 [I r].toArray w0 (fun e w' => e = .returned (B (f_within r 0 3)) ∧ Chg NoB w0 w') := by
 refine Calls.walk NoB Tryz.func167 rfl rfl ?_
 intro ac β S
 refine ws (rg ?_)
 refine S.qe 1 [] [] fun ac w β S => ?_
 refine (nt (ws (rg ?_)))
 refine S.qg 3 [] [(2, .v (B (f_within r 0 3)))] (.cons (Q_call fun w hw => c_spec_l01In w r 0 3) .nil) fun ac w β S => ?_
 exact (nt (wr (S.r [B (f_within r 0 3)] ⟨retB (by clear S; first | rfl | (simp [f_within, *]; done) | (simp [f_within, *]; omega) | (simp_all [f_within]; done) | (simp_all [f_within]; omega)), S.chg⟩)))

theorem k0_spec_Enough {p : Prop} (h : p := by clear S; first | rfl | (simp [f_enough, *]; done) | (simp [f_enough, *]; omega) | (simp_all [f_enough]; done) | (simp_all [f_enough]; omega)) : p := h
theorem c_spec_Enough (w0 : World) (rights : Int) (need : Int) : Calls Tryz.prog 147 [I rights, I need].toArray w0 (fun e w' => e = .returned (B (f_enough rights need)) ∧ Chg NoB w0 w') := by
 refine Calls.walk NoB Tryz.func147 rfl rfl ?_
 intro ac β S
 refine ws (rg ?_)
 refine S.qe 1 [] [] fun ac w β S => ?_
 refine (nt (ws (rg ?_)))
 refine S.qb 3 [] [(7, .v (B (f_within rights 0 3)))] (.cons (Q_call fun w hw => c_spec_RightsOk w rights) .nil) fun ac w β S => ?_
 rcases Bool.eq_false_or_eq_true (f_within rights 0 3) with h1 | h1 <;> rw [h1] at S
 ·have g2 := within_t h1
  refine S.qb 4 [7] [(11, .v (B (f_within need 0 3)))] (.cons (Q_call fun w hw => c_spec_RightsOk w need) .nil) fun ac w β S => ?_
  rcases Bool.eq_false_or_eq_true (f_within need 0 3) with h3 | h3 <;> rw [h3] at S
  ·have g4 := within_t h3
   refine S.qg 7 [11] [(4, .v (B ((land64 rights need) == need)))] (.cons (Q_land64 (x := rights) (y := need)) .nil) fun ac w β S => ?_
   exact (nt (wr (S.r [B ((land64 rights need) == need)] ⟨retB k0_spec_Enough, S.chg⟩)))
  ·have g5 := within_f h3
   refine S.qe 7 [11] [(4, .v (B false))] fun ac w β S => ?_
   exact (nt (wr (S.r [B false] ⟨retB k0_spec_Enough, S.chg⟩)))
 ·have g6 := within_f h1
  refine S.qe 11 [7] [(4, .v (B false))] fun ac w β S => ?_
  exact (nt (wr (S.r [B false] ⟨retB k0_spec_Enough, S.chg⟩)))

end Go.Proofs.YtklppedmchbdmaaGreat
