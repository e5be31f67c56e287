/- The walks: what each function that the laws reach computes (part 1). -/
import Derived.Test.YtacgkoohinlhjaaMarks
import Derived.Test.YtacgkoohinlhjaaCore9
import Derived.Test.YtacgkoohinlhjaaEq
import Derived.Test.YtacgkoohinlhjaaSz
import Derived.Test.YtacgkoohinlhjaaOw
import Derived.Test.YtacgkoohinlhjaaSpec3
import Derived.Test.YtacgkoohinlhjaaDrawO
import Derived.Test.YtacgkoohinlhjaaMk
import Derived.Test.YtacgkoohinlhjaaSpec4
import Derived.Test.YtacgkoohinlhjaaSlice
import Derived.Test.YtacgkoohinlhjaaPt
import Derived.Test.YtacgkoohinlhjaaSpec5
import Derived.Test.YtacgkoohinlhjaaShort
import Derived.Test.YtacgkoohinlhjaaProg
import Derived.KernelRfl
namespace Go.Proofs.Ytacgkoohinlhjaa
open Go
set_option linter.unusedVariables false
set_option linter.unusedSimpArgs false

set_option maxRecDepth 100000 in
theorem c_laws_szIntS (w0 : World) (a : List Int) (pa : LP Int) (ha : GT.rd KR (Lt w0.heap.size) w0 a pa) (left : Int) (pre0 : -1 ≤ left) (pre1 : left ≤ 4194304) : Calls Try.prog 36 [slv (a).length pa.1, I left].toArray w0 (fun e w' => e = .returned (I (f_sz (SZ.sz a) left)) ∧ Chg NoB w0 w') := by
  refine Calls.walk (args := [slv (a).length pa.1, I left]) NoB Try.func36 rfl rfl ?_
  intro ac β S
  have hz := szl_Int a
  have hb0 := f_sz_cs (SZ.sz a) left
  have hlea : a.length ≤ 9223372036854775807 := LRd.le ha
  refine wp_seq (RG.start ?_)
  refine S.q 1 [0, 1] 0 ⟨[(0, .v (slv (a).length pa.1)), (1, .v (I left))], []⟩ .nil ?_; clear S; intro ac w β S
  refine RG.done rfl (nx_then (wp_seq (RG.start ?_)))
  refine S.q 5 [1] 0 ⟨[(1, .v (I (left - ((a).length : Int))))], []⟩ (.cons (Q_sub (x := left) (y := ((a).length : Int)) ⟨by omega, by omega⟩) .nil) ?_; clear S; intro ac w β S
  refine RG.done rfl (nx_then (wp_seq (wp_seq (RG.start ?_))))
  refine S.q 2 [1, 10] 0 ⟨[(1, .v (I (left - ((a).length : Int)))), (10, .v (B (decide ((left - ((a).length : Int)) < 0))))], []⟩ .nil ?_; clear S; intro ac w β S
  refine RG.done rfl (nx_then ?_)
  refine S.c (decide ((left - ((a).length : Int)) < 0)) (fun h1 => ?_) (fun h1 => ?_)
  · have g2 : (left - ((a).length : Int)) < 0 := of_decide_eq_true h1
    refine wp_seq (RG.start ?_)
    refine S.q 1 [4] 0 ⟨[(4, .v (I (-1)))], []⟩ .nil ?_; clear S; intro ac w β S
    refine RG.done rfl (nx_then (wp_ret (rt_then ?_)))
    refine S.r [I (-1)] ?_
    exact ⟨retI (by clear S; omega), S.chg⟩
  · have g3 : ¬ ((left - ((a).length : Int)) < 0) := of_decide_eq_false h1
    refine wp_skip (nx_then (wp_seq (RG.start ?_)))
    refine S.q 2 [4] 0 ⟨[(4, .v (I (left - ((a).length : Int))))], []⟩ .nil ?_; clear S; intro ac w β S
    refine RG.done rfl (nx_then (wp_ret ?_))
    refine S.r [I (left - ((a).length : Int))] ?_
    exact ⟨retI (by clear S; omega), S.chg⟩

set_option maxRecDepth 100000 in
theorem c_laws_szIntSS (w0 : World) (a : List (List Int)) (pa : LP (List Int)) (ha : GT.rd KR (Lt w0.heap.size) w0 a pa) (left : Int) (pre0 : -1 ≤ left) (pre1 : left ≤ 4194304) : Calls Try.prog 30 [slv (a).length pa.1, I left].toArray w0 (fun e w' => e = .returned (I (f_sz (SZ.sz a) left)) ∧ Chg NoB w0 w') := by
  refine Calls.walk (args := [slv (a).length pa.1, I left]) NoB Try.func30 rfl rfl ?_
  intro ac β S
  have hz := sz_list a
  have hb0 := f_sz_cs (SZ.sz a) left
  have hlea : a.length ≤ 9223372036854775807 := LRd.le ha
  refine wp_seq (RG.start ?_)
  refine S.q 1 [0, 1] 0 ⟨[(0, .v (slv (a).length pa.1)), (1, .v (I left))], []⟩ .nil ?_; clear S; intro ac w β S
  refine RG.done rfl (nx_then (wp_seq (RG.start ?_)))
  refine S.q 5 [0, 1] 0 ⟨[(0, .v (slv (a).length pa.1)), (1, .v (I (left - ((a).length : Int))))], []⟩ (.cons (Q_sub (x := left) (y := ((a).length : Int)) ⟨by omega, by omega⟩) .nil) ?_; clear S; intro ac w β S
  refine RG.done rfl (nx_then (wp_seq (wp_seq (RG.start ?_))))
  refine S.q 2 [0, 1, 11] 0 ⟨[(0, .v (slv (a).length pa.1)), (1, .v (I (left - ((a).length : Int)))), (11, .v (B (decide ((left - ((a).length : Int)) < 0))))], []⟩ .nil ?_; clear S; intro ac w β S
  refine RG.done rfl (nx_then ?_)
  refine S.c (decide ((left - ((a).length : Int)) < 0)) (fun h1 => ?_) (fun h1 => ?_)
  · have g2 : (left - ((a).length : Int)) < 0 := of_decide_eq_true h1
    refine wp_seq (RG.start ?_)
    refine S.q 1 [4] 0 ⟨[(4, .v (I (-1)))], []⟩ .nil ?_; clear S; intro ac w β S
    refine RG.done rfl (nx_then (wp_ret (rt_then ?_)))
    refine S.r [I (-1)] ?_
    exact ⟨retI (by clear S; (first | omega | (have hall := szsum_all (xs := a) (k := k) (by omega); omega) | (have hs1 := szsum_take (xs := a) (k := k) (by omega); have hs2 := szsum_take_le a (k + 1); omega))), S.chg⟩
  · have g3 : ¬ ((left - ((a).length : Int)) < 0) := of_decide_eq_false h1
    refine wp_skip (nx_then (wp_seq (wp_seq (RG.start ?_))))
    refine S.q 1 [0, 1, 5] 0 ⟨[(0, .v (slv (a).length pa.1)), (1, .v (I (left - ((a).length : Int)))), (5, .v (I 0))], []⟩ .nil ?_; clear S; intro ac w β S
    refine RG.done rfl (nx_then (wp_block ?_))
    replace S := S.p [0, 1, 5] 0 ⟨[(0, .v (slv (a).length pa.1)), (1, .v (I (left - ((a).length : Int)))), (5, .v (I 0))], []⟩
    refine wp_loop_down (fun mm ac w => ∃ (k : Nat) (l : Int)  (u : World) (N : Bl) (β : Nat → Nat), mm = a.length - k ∧ (k ≤ a.length) ∧ (l = left - a.length - szsum (a.take k)) ∧ (0 ≤ l) ∧ St Try.prog Try.f30.ntmps w0 NoB u N β ⟨[(0, .v (slv (a).length pa.1)), (1, .v (I l)), (5, .v (I (k : Int)))], []⟩ ac w) _ ⟨0, (left - ((a).length : Int)), _, _, _, rfl, (by first | omega | (simp; done) | (simp; omega)), (by simp [szsum_nil]), (by first | omega | (simp; done) | (simp; omega)), S.cast (by kernel_rfl)⟩ ?_
    clear S
    rintro mm ac w ⟨k, l, u, N, β, rfl, hk, hl, hl0, S⟩
    have hle2 := szsum_take_le a k
    refine wp_seq (wp_seq (RG.start ?_))
    refine S.q 4 [0, 1, 5, 15] 0 ⟨[(0, .v (slv (a).length pa.1)), (1, .v (I l)), (5, .v (I (k : Int))), (15, .v (B (decide ((k : Int) < ((a).length : Int)))))], []⟩ .nil ?_; clear S; intro ac w β S
    refine RG.done rfl (nx_then ?_)
    refine S.c (decide ((k : Int) < ((a).length : Int))) (fun h4 => ?_) (fun h4 => ?_)
    · have g5 : (k : Int) < ((a).length : Int) := of_decide_eq_true h4
      refine wp_skip (nx_then (wp_seq (wp_block (wp_seq (RG.start ?_)))))
      have b6 := f_sz_cs (SZ.sz (el a k)) l
      refine S.q 7 [0, 1, 5] 0 ⟨[(0, .v (slv (a).length pa.1)), (1, .v (I (f_sz (SZ.sz (el a k)) l))), (5, .v (I (k : Int)))], []⟩ (.cons (Q_idx (S.arg ha) (l := (a).length) (k := k) (i := (k : Int)) rfl rfl (by omega) Try.underlying22 (by kernel_rfl)) (.cons (Q_el1 (S.arg ha) (t := 30) (k := k) (by omega) rfl (by kernel_rfl)) (.cons (Q_call fun w hw => c_laws_szIntS w (el a k) (pa.2 k) (rd_of (LRd.el (S.arg ha) k (by omega)) hw) l (by omega) (by omega)) .nil))) ?_; clear S; intro ac w β S
      refine RG.done rfl (nx_then (wp_seq (RG.start ?_)))
      refine S.q 2 [0, 1, 5, 25] 0 ⟨[(0, .v (slv (a).length pa.1)), (1, .v (I (f_sz (SZ.sz (el a k)) l))), (5, .v (I (k : Int))), (25, .v (B (decide ((f_sz (SZ.sz (el a k)) l) < 0))))], []⟩ .nil ?_; clear S; intro ac w β S
      refine RG.done rfl (nx_then ?_)
      refine S.c (decide ((f_sz (SZ.sz (el a k)) l) < 0)) (fun h7 => ?_) (fun h7 => ?_)
      · have g8 : (f_sz (SZ.sz (el a k)) l) < 0 := of_decide_eq_true h7
        refine wp_seq (RG.start ?_)
        refine S.q 1 [4] 0 ⟨[(4, .v (I (-1)))], []⟩ .nil ?_; clear S; intro ac w β S
        refine RG.done rfl (nx_then (wp_ret (rt_block (rt_then (rt_then (rt_block (rt_then ?_)))))))
        refine S.r [I (-1)] ?_
        exact ⟨retI (by clear S; (first | omega | (have hall := szsum_all (xs := a) (k := k) (by omega); omega) | (have hs1 := szsum_take (xs := a) (k := k) (by omega); have hs2 := szsum_take_le a (k + 1); omega))), S.chg⟩
      · have g9 : ¬ ((f_sz (SZ.sz (el a k)) l) < 0) := of_decide_eq_false h7
        refine wp_skip (nx_block (nx_then (RG.start ?_)))
        refine S.q 3 [0, 1, 5] 0 ⟨[(0, .v (slv (a).length pa.1)), (1, .v (I (f_sz (SZ.sz (el a k)) l))), (5, .v (I ((k : Int) + 1)))], []⟩ (.cons (Q_add (x := (k : Int)) (y := 1) ⟨by omega, by omega⟩) .nil) ?_; clear S; intro ac w β S
        refine RG.done rfl (nx_then ?_)
        replace S := S.p [0, 1, 5] 0 ⟨[(0, .v (slv (a).length pa.1)), (1, .v (I (f_sz (SZ.sz (el a k)) l))), (5, .v (I ((k : Int) + 1)))], []⟩
        refine ⟨a.length - (k + 1), by omega, k + 1, (f_sz (SZ.sz (el a k)) l), _, _, _, rfl, ?_, ?_, ?_, S.cast (by kernel_rfl)⟩
        · clear S; first | omega | (simp [*]; done) | (simp [*]; omega)
        · clear S; (rw [szsum_take (by omega)]; omega)
        · clear S; omega
    · have g10 : ¬ ((k : Int) < ((a).length : Int)) := of_decide_eq_false h4
      refine wp_exit (ex_then (ex_then (ex_hit (nx_then (wp_seq (RG.start ?_))))))
      refine S.q 2 [4] 0 ⟨[(4, .v (I l))], []⟩ .nil ?_; clear S; intro ac w β S
      refine RG.done rfl (nx_then (wp_ret ?_))
      refine S.r [I l] ?_
      exact ⟨retI (by clear S; (first | omega | (have hall := szsum_all (xs := a) (k := k) (by omega); omega) | (have hs1 := szsum_take (xs := a) (k := k) (by omega); have hs2 := szsum_take_le a (k + 1); omega))), S.chg⟩

set_option maxRecDepth 100000 in
theorem c_laws_szSlotS (w0 : World) (a : List TSlot) (pa : LP TSlot) (ha : GT.rd KR (Lt w0.heap.size) w0 a pa) (left : Int) (pre0 : -1 ≤ left) (pre1 : left ≤ 4194304) : Calls Try.prog 33 [slv (a).length pa.1, I left].toArray w0 (fun e w' => e = .returned (I (f_sz (SZ.sz a) left)) ∧ Chg NoB w0 w') := by
  refine Calls.walk (args := [slv (a).length pa.1, I left]) NoB Try.func33 rfl rfl ?_
  intro ac β S
  have hz := szl_TSlot a
  have hb0 := f_sz_cs (SZ.sz a) left
  have hlea : a.length ≤ 9223372036854775807 := LRd.le ha
  refine wp_seq (RG.start ?_)
  refine S.q 1 [0, 1] 0 ⟨[(0, .v (slv (a).length pa.1)), (1, .v (I left))], []⟩ .nil ?_; clear S; intro ac w β S
  refine RG.done rfl (nx_then (wp_seq (RG.start ?_)))
  refine S.q 5 [1] 0 ⟨[(1, .v (I (left - ((a).length : Int))))], []⟩ (.cons (Q_sub (x := left) (y := ((a).length : Int)) ⟨by omega, by omega⟩) .nil) ?_; clear S; intro ac w β S
  refine RG.done rfl (nx_then (wp_seq (wp_seq (RG.start ?_))))
  refine S.q 2 [1, 10] 0 ⟨[(1, .v (I (left - ((a).length : Int)))), (10, .v (B (decide ((left - ((a).length : Int)) < 0))))], []⟩ .nil ?_; clear S; intro ac w β S
  refine RG.done rfl (nx_then ?_)
  refine S.c (decide ((left - ((a).length : Int)) < 0)) (fun h1 => ?_) (fun h1 => ?_)
  · have g2 : (left - ((a).length : Int)) < 0 := of_decide_eq_true h1
    refine wp_seq (RG.start ?_)
    refine S.q 1 [4] 0 ⟨[(4, .v (I (-1)))], []⟩ .nil ?_; clear S; intro ac w β S
    refine RG.done rfl (nx_then (wp_ret (rt_then ?_)))
    refine S.r [I (-1)] ?_
    exact ⟨retI (by clear S; omega), S.chg⟩
  · have g3 : ¬ ((left - ((a).length : Int)) < 0) := of_decide_eq_false h1
    refine wp_skip (nx_then (wp_seq (RG.start ?_)))
    refine S.q 2 [4] 0 ⟨[(4, .v (I (left - ((a).length : Int))))], []⟩ .nil ?_; clear S; intro ac w β S
    refine RG.done rfl (nx_then (wp_ret ?_))
    refine S.r [I (left - ((a).length : Int))] ?_
    exact ⟨retI (by clear S; omega), S.chg⟩

set_option maxRecDepth 100000 in
theorem c_laws_szBoolS (w0 : World) (a : List Bool) (pa : LP Bool) (ha : GT.rd KR (Lt w0.heap.size) w0 a pa) (left : Int) (pre0 : -1 ≤ left) (pre1 : left ≤ 4194304) : Calls Try.prog 34 [slv (a).length pa.1, I left].toArray w0 (fun e w' => e = .returned (I (f_sz (SZ.sz a) left)) ∧ Chg NoB w0 w') := by
  refine Calls.walk (args := [slv (a).length pa.1, I left]) NoB Try.func34 rfl rfl ?_
  intro ac β S
  have hz := szl_Bool a
  have hb0 := f_sz_cs (SZ.sz a) left
  have hlea : a.length ≤ 9223372036854775807 := LRd.le ha
  refine wp_seq (RG.start ?_)
  refine S.q 1 [0, 1] 0 ⟨[(0, .v (slv (a).length pa.1)), (1, .v (I left))], []⟩ .nil ?_; clear S; intro ac w β S
  refine RG.done rfl (nx_then (wp_seq (RG.start ?_)))
  refine S.q 5 [1] 0 ⟨[(1, .v (I (left - ((a).length : Int))))], []⟩ (.cons (Q_sub (x := left) (y := ((a).length : Int)) ⟨by omega, by omega⟩) .nil) ?_; clear S; intro ac w β S
  refine RG.done rfl (nx_then (wp_seq (wp_seq (RG.start ?_))))
  refine S.q 2 [1, 10] 0 ⟨[(1, .v (I (left - ((a).length : Int)))), (10, .v (B (decide ((left - ((a).length : Int)) < 0))))], []⟩ .nil ?_; clear S; intro ac w β S
  refine RG.done rfl (nx_then ?_)
  refine S.c (decide ((left - ((a).length : Int)) < 0)) (fun h1 => ?_) (fun h1 => ?_)
  · have g2 : (left - ((a).length : Int)) < 0 := of_decide_eq_true h1
    refine wp_seq (RG.start ?_)
    refine S.q 1 [4] 0 ⟨[(4, .v (I (-1)))], []⟩ .nil ?_; clear S; intro ac w β S
    refine RG.done rfl (nx_then (wp_ret (rt_then ?_)))
    refine S.r [I (-1)] ?_
    exact ⟨retI (by clear S; omega), S.chg⟩
  · have g3 : ¬ ((left - ((a).length : Int)) < 0) := of_decide_eq_false h1
    refine wp_skip (nx_then (wp_seq (RG.start ?_)))
    refine S.q 2 [4] 0 ⟨[(4, .v (I (left - ((a).length : Int))))], []⟩ .nil ?_; clear S; intro ac w β S
    refine RG.done rfl (nx_then (wp_ret ?_))
    refine S.r [I (left - ((a).length : Int))] ?_
    exact ⟨retI (by clear S; omega), S.chg⟩

set_option maxRecDepth 100000 in
theorem c_laws_szInsS (w0 : World) (a : List TIns) (pa : LP TIns) (ha : GT.rd KR (Lt w0.heap.size) w0 a pa) (left : Int) (pre0 : -1 ≤ left) (pre1 : left ≤ 4194304) : Calls Try.prog 108 [slv (a).length pa.1, I left].toArray w0 (fun e w' => e = .returned (I (f_sz (SZ.sz a) left)) ∧ Chg NoB w0 w') := by
  refine Calls.walk (args := [slv (a).length pa.1, I left]) NoB Try.func108 rfl rfl ?_
  intro ac β S
  have hz := szl_TIns a
  have hb0 := f_sz_cs (SZ.sz a) left
  have hlea : a.length ≤ 9223372036854775807 := LRd.le ha
  refine wp_seq (RG.start ?_)
  refine S.q 1 [0, 1] 0 ⟨[(0, .v (slv (a).length pa.1)), (1, .v (I left))], []⟩ .nil ?_; clear S; intro ac w β S
  refine RG.done rfl (nx_then (wp_seq (RG.start ?_)))
  refine S.q 5 [1] 0 ⟨[(1, .v (I (left - ((a).length : Int))))], []⟩ (.cons (Q_sub (x := left) (y := ((a).length : Int)) ⟨by omega, by omega⟩) .nil) ?_; clear S; intro ac w β S
  refine RG.done rfl (nx_then (wp_seq (wp_seq (RG.start ?_))))
  refine S.q 2 [1, 10] 0 ⟨[(1, .v (I (left - ((a).length : Int)))), (10, .v (B (decide ((left - ((a).length : Int)) < 0))))], []⟩ .nil ?_; clear S; intro ac w β S
  refine RG.done rfl (nx_then ?_)
  refine S.c (decide ((left - ((a).length : Int)) < 0)) (fun h1 => ?_) (fun h1 => ?_)
  · have g2 : (left - ((a).length : Int)) < 0 := of_decide_eq_true h1
    refine wp_seq (RG.start ?_)
    refine S.q 1 [4] 0 ⟨[(4, .v (I (-1)))], []⟩ .nil ?_; clear S; intro ac w β S
    refine RG.done rfl (nx_then (wp_ret (rt_then ?_)))
    refine S.r [I (-1)] ?_
    exact ⟨retI (by clear S; omega), S.chg⟩
  · have g3 : ¬ ((left - ((a).length : Int)) < 0) := of_decide_eq_false h1
    refine wp_skip (nx_then (wp_seq (RG.start ?_)))
    refine S.q 2 [4] 0 ⟨[(4, .v (I (left - ((a).length : Int))))], []⟩ .nil ?_; clear S; intro ac w β S
    refine RG.done rfl (nx_then (wp_ret ?_))
    refine S.r [I (left - ((a).length : Int))] ?_
    exact ⟨retI (by clear S; omega), S.chg⟩

set_option maxRecDepth 100000 in
theorem c_laws_szGuest (w0 : World) (a : TGuest) (pa : PGuest) (ha : GT.rd KR (Lt w0.heap.size) w0 a pa) (left : Int) (pre0 : -1 ≤ left) (pre1 : left ≤ 4194304) : Calls Try.prog 79 [GT.val a pa, I left].toArray w0 (fun e w' => e = .returned (I (f_sz (SZ.sz a) left)) ∧ Chg NoB w0 w') := by
  refine Calls.walk (args := [GT.val a pa, I left]) NoB Try.func79 rfl rfl ?_
  intro ac β S
  have hz := sz_Guest a
  have hb0 := f_sz_cs (SZ.sz a) left
  refine wp_seq (RG.start ?_)
  refine S.q 2 [1, 2] 1 ⟨[(1, .v (I left)), (2, .p 0 0)], [GT.cells a pa]⟩ .nil ?_; clear S; intro ac w β S
  refine RG.done rfl (nx_then (wp_seq (RG.start ?_)))
  have b1 := f_sz_cs (SZ.sz a.prog) left
  refine S.q 5 [1, 2] 1 ⟨[(1, .v (I (f_sz (SZ.sz a.prog) left))), (2, .p 0 0)], [GT.cells a pa]⟩ (.cons (Q_call fun w hw => c_laws_szInsS w a.prog pa.prog (rd_of (RGuest.prog (d := a) (S.arg ha)) hw) left (by omega) (by omega)) .nil) ?_; clear S; intro ac w β S
  refine RG.done rfl (nx_then (wp_seq (wp_seq (RG.start ?_))))
  refine S.q 2 [1, 2, 10] 1 ⟨[(1, .v (I (f_sz (SZ.sz a.prog) left))), (2, .p 0 0), (10, .v (B (decide ((f_sz (SZ.sz a.prog) left) < 0))))], [GT.cells a pa]⟩ .nil ?_; clear S; intro ac w β S
  refine RG.done rfl (nx_then ?_)
  refine S.c (decide ((f_sz (SZ.sz a.prog) left) < 0)) (fun h2 => ?_) (fun h2 => ?_)
  · have g3 : (f_sz (SZ.sz a.prog) left) < 0 := of_decide_eq_true h2
    refine wp_seq (RG.start ?_)
    refine S.q 1 [4] 0 ⟨[(4, .v (I (-1)))], []⟩ .nil ?_; clear S; intro ac w β S
    refine RG.done rfl (nx_then (wp_ret (rt_then ?_)))
    refine S.r [I (-1)] ?_
    exact ⟨retI (by clear S; omega), S.chg⟩
  · have g4 : ¬ ((f_sz (SZ.sz a.prog) left) < 0) := of_decide_eq_false h2
    refine wp_skip (nx_then (wp_seq (RG.start ?_)))
    have b5 := f_sz_cs (SZ.sz a.written) (f_sz (SZ.sz a.prog) left)
    refine S.q 5 [1, 2] 1 ⟨[(1, .v (I (f_sz (SZ.sz a.written) (f_sz (SZ.sz a.prog) left)))), (2, .p 0 0)], [GT.cells a pa]⟩ (.cons (Q_call fun w hw => c_laws_szSlotS w a.written pa.written (rd_of (RGuest.written (d := a) (S.arg ha)) hw) (f_sz (SZ.sz a.prog) left) (by omega) (by omega)) .nil) ?_; clear S; intro ac w β S
    refine RG.done rfl (nx_then (wp_seq (wp_seq (RG.start ?_))))
    refine S.q 2 [1, 2, 16] 1 ⟨[(1, .v (I (f_sz (SZ.sz a.written) (f_sz (SZ.sz a.prog) left)))), (2, .p 0 0), (16, .v (B (decide ((f_sz (SZ.sz a.written) (f_sz (SZ.sz a.prog) left)) < 0))))], [GT.cells a pa]⟩ .nil ?_; clear S; intro ac w β S
    refine RG.done rfl (nx_then ?_)
    refine S.c (decide ((f_sz (SZ.sz a.written) (f_sz (SZ.sz a.prog) left)) < 0)) (fun h6 => ?_) (fun h6 => ?_)
    · have g7 : (f_sz (SZ.sz a.written) (f_sz (SZ.sz a.prog) left)) < 0 := of_decide_eq_true h6
      refine wp_seq (RG.start ?_)
      refine S.q 1 [4] 0 ⟨[(4, .v (I (-1)))], []⟩ .nil ?_; clear S; intro ac w β S
      refine RG.done rfl (nx_then (wp_ret (rt_then ?_)))
      refine S.r [I (-1)] ?_
      exact ⟨retI (by clear S; omega), S.chg⟩
    · have g8 : ¬ ((f_sz (SZ.sz a.written) (f_sz (SZ.sz a.prog) left)) < 0) := of_decide_eq_false h6
      refine wp_skip (nx_then (wp_seq (RG.start ?_)))
      have b9 := f_sz_cs (SZ.sz a.live) (f_sz (SZ.sz a.written) (f_sz (SZ.sz a.prog) left))
      refine S.q 5 [1, 2] 1 ⟨[(1, .v (I (f_sz (SZ.sz a.live) (f_sz (SZ.sz a.written) (f_sz (SZ.sz a.prog) left))))), (2, .p 0 0)], [GT.cells a pa]⟩ (.cons (Q_call fun w hw => c_laws_szSlotS w a.live pa.live (rd_of (RGuest.live (d := a) (S.arg ha)) hw) (f_sz (SZ.sz a.written) (f_sz (SZ.sz a.prog) left)) (by omega) (by omega)) .nil) ?_; clear S; intro ac w β S
      refine RG.done rfl (nx_then (wp_seq (wp_seq (RG.start ?_))))
      refine S.q 2 [1, 2, 22] 1 ⟨[(1, .v (I (f_sz (SZ.sz a.live) (f_sz (SZ.sz a.written) (f_sz (SZ.sz a.prog) left))))), (2, .p 0 0), (22, .v (B (decide ((f_sz (SZ.sz a.live) (f_sz (SZ.sz a.written) (f_sz (SZ.sz a.prog) left))) < 0))))], [GT.cells a pa]⟩ .nil ?_; clear S; intro ac w β S
      refine RG.done rfl (nx_then ?_)
      refine S.c (decide ((f_sz (SZ.sz a.live) (f_sz (SZ.sz a.written) (f_sz (SZ.sz a.prog) left))) < 0)) (fun h10 => ?_) (fun h10 => ?_)
      · have g11 : (f_sz (SZ.sz a.live) (f_sz (SZ.sz a.written) (f_sz (SZ.sz a.prog) left))) < 0 := of_decide_eq_true h10
        refine wp_seq (RG.start ?_)
        refine S.q 1 [4] 0 ⟨[(4, .v (I (-1)))], []⟩ .nil ?_; clear S; intro ac w β S
        refine RG.done rfl (nx_then (wp_ret (rt_then ?_)))
        refine S.r [I (-1)] ?_
        exact ⟨retI (by clear S; omega), S.chg⟩
      · have g12 : ¬ ((f_sz (SZ.sz a.live) (f_sz (SZ.sz a.written) (f_sz (SZ.sz a.prog) left))) < 0) := of_decide_eq_false h10
        refine wp_skip (nx_then (wp_seq (RG.start ?_)))
        have b13 := f_sz_cs (SZ.sz a.seen) (f_sz (SZ.sz a.live) (f_sz (SZ.sz a.written) (f_sz (SZ.sz a.prog) left)))
        refine S.q 5 [1] 0 ⟨[(1, .v (I (f_sz (SZ.sz a.seen) (f_sz (SZ.sz a.live) (f_sz (SZ.sz a.written) (f_sz (SZ.sz a.prog) left))))))], []⟩ (.cons (Q_call fun w hw => c_laws_szIntS w a.seen pa.seen (rd_of (RGuest.seen (d := a) (S.arg ha)) hw) (f_sz (SZ.sz a.live) (f_sz (SZ.sz a.written) (f_sz (SZ.sz a.prog) left))) (by omega) (by omega)) .nil) ?_; clear S; intro ac w β S
        refine RG.done rfl (nx_then (wp_seq (wp_seq (RG.start ?_))))
        refine S.q 2 [1, 28] 0 ⟨[(1, .v (I (f_sz (SZ.sz a.seen) (f_sz (SZ.sz a.live) (f_sz (SZ.sz a.written) (f_sz (SZ.sz a.prog) left)))))), (28, .v (B (decide ((f_sz (SZ.sz a.seen) (f_sz (SZ.sz a.live) (f_sz (SZ.sz a.written) (f_sz (SZ.sz a.prog) left)))) < 0))))], []⟩ .nil ?_; clear S; intro ac w β S
        refine RG.done rfl (nx_then ?_)
        refine S.c (decide ((f_sz (SZ.sz a.seen) (f_sz (SZ.sz a.live) (f_sz (SZ.sz a.written) (f_sz (SZ.sz a.prog) left)))) < 0)) (fun h14 => ?_) (fun h14 => ?_)
        · have g15 : (f_sz (SZ.sz a.seen) (f_sz (SZ.sz a.live) (f_sz (SZ.sz a.written) (f_sz (SZ.sz a.prog) left)))) < 0 := of_decide_eq_true h14
          refine wp_seq (RG.start ?_)
          refine S.q 1 [4] 0 ⟨[(4, .v (I (-1)))], []⟩ .nil ?_; clear S; intro ac w β S
          refine RG.done rfl (nx_then (wp_ret (rt_then ?_)))
          refine S.r [I (-1)] ?_
          exact ⟨retI (by clear S; omega), S.chg⟩
        · have g16 : ¬ ((f_sz (SZ.sz a.seen) (f_sz (SZ.sz a.live) (f_sz (SZ.sz a.written) (f_sz (SZ.sz a.prog) left)))) < 0) := of_decide_eq_false h14
          refine wp_skip (nx_then (wp_seq (RG.start ?_)))
          refine S.q 2 [4] 0 ⟨[(4, .v (I (f_sz (SZ.sz a.seen) (f_sz (SZ.sz a.live) (f_sz (SZ.sz a.written) (f_sz (SZ.sz a.prog) left))))))], []⟩ .nil ?_; clear S; intro ac w β S
          refine RG.done rfl (nx_then (wp_ret ?_))
          refine S.r [I (f_sz (SZ.sz a.seen) (f_sz (SZ.sz a.live) (f_sz (SZ.sz a.written) (f_sz (SZ.sz a.prog) left))))] ?_
          exact ⟨retI (by clear S; omega), S.chg⟩

set_option maxRecDepth 100000 in
theorem c_laws_szGuestS (w0 : World) (a : List TGuest) (pa : LP TGuest) (ha : GT.rd KR (Lt w0.heap.size) w0 a pa) (left : Int) (pre0 : -1 ≤ left) (pre1 : left ≤ 4194304) : Calls Try.prog 35 [slv (a).length pa.1, I left].toArray w0 (fun e w' => e = .returned (I (f_sz (SZ.sz a) left)) ∧ Chg NoB w0 w') := by
  refine Calls.walk (args := [slv (a).length pa.1, I left]) NoB Try.func35 rfl rfl ?_
  intro ac β S
  have hz := sz_list a
  have hb0 := f_sz_cs (SZ.sz a) left
  have hlea : a.length ≤ 9223372036854775807 := LRd.le ha
  refine wp_seq (RG.start ?_)
  refine S.q 1 [0, 1] 0 ⟨[(0, .v (slv (a).length pa.1)), (1, .v (I left))], []⟩ .nil ?_; clear S; intro ac w β S
  refine RG.done rfl (nx_then (wp_seq (RG.start ?_)))
  refine S.q 5 [0, 1] 0 ⟨[(0, .v (slv (a).length pa.1)), (1, .v (I (left - ((a).length : Int))))], []⟩ (.cons (Q_sub (x := left) (y := ((a).length : Int)) ⟨by omega, by omega⟩) .nil) ?_; clear S; intro ac w β S
  refine RG.done rfl (nx_then (wp_seq (wp_seq (RG.start ?_))))
  refine S.q 2 [0, 1, 11] 0 ⟨[(0, .v (slv (a).length pa.1)), (1, .v (I (left - ((a).length : Int)))), (11, .v (B (decide ((left - ((a).length : Int)) < 0))))], []⟩ .nil ?_; clear S; intro ac w β S
  refine RG.done rfl (nx_then ?_)
  refine S.c (decide ((left - ((a).length : Int)) < 0)) (fun h1 => ?_) (fun h1 => ?_)
  · have g2 : (left - ((a).length : Int)) < 0 := of_decide_eq_true h1
    refine wp_seq (RG.start ?_)
    refine S.q 1 [4] 0 ⟨[(4, .v (I (-1)))], []⟩ .nil ?_; clear S; intro ac w β S
    refine RG.done rfl (nx_then (wp_ret (rt_then ?_)))
    refine S.r [I (-1)] ?_
    exact ⟨retI (by clear S; (first | omega | (have hall := szsum_all (xs := a) (k := k) (by omega); omega) | (have hs1 := szsum_take (xs := a) (k := k) (by omega); have hs2 := szsum_take_le a (k + 1); omega))), S.chg⟩
  · have g3 : ¬ ((left - ((a).length : Int)) < 0) := of_decide_eq_false h1
    refine wp_skip (nx_then (wp_seq (wp_seq (RG.start ?_))))
    refine S.q 1 [0, 1, 5] 0 ⟨[(0, .v (slv (a).length pa.1)), (1, .v (I (left - ((a).length : Int)))), (5, .v (I 0))], []⟩ .nil ?_; clear S; intro ac w β S
    refine RG.done rfl (nx_then (wp_block ?_))
    replace S := S.p [0, 1, 5] 0 ⟨[(0, .v (slv (a).length pa.1)), (1, .v (I (left - ((a).length : Int)))), (5, .v (I 0))], []⟩
    refine wp_loop_down (fun mm ac w => ∃ (k : Nat) (l : Int)  (u : World) (N : Bl) (β : Nat → Nat), mm = a.length - k ∧ (k ≤ a.length) ∧ (l = left - a.length - szsum (a.take k)) ∧ (0 ≤ l) ∧ St Try.prog Try.f35.ntmps w0 NoB u N β ⟨[(0, .v (slv (a).length pa.1)), (1, .v (I l)), (5, .v (I (k : Int)))], []⟩ ac w) _ ⟨0, (left - ((a).length : Int)), _, _, _, rfl, (by first | omega | (simp; done) | (simp; omega)), (by simp [szsum_nil]), (by first | omega | (simp; done) | (simp; omega)), S.cast (by kernel_rfl)⟩ ?_
    clear S
    rintro mm ac w ⟨k, l, u, N, β, rfl, hk, hl, hl0, S⟩
    have hle2 := szsum_take_le a k
    refine wp_seq (wp_seq (RG.start ?_))
    refine S.q 4 [0, 1, 5, 15] 0 ⟨[(0, .v (slv (a).length pa.1)), (1, .v (I l)), (5, .v (I (k : Int))), (15, .v (B (decide ((k : Int) < ((a).length : Int)))))], []⟩ .nil ?_; clear S; intro ac w β S
    refine RG.done rfl (nx_then ?_)
    refine S.c (decide ((k : Int) < ((a).length : Int))) (fun h4 => ?_) (fun h4 => ?_)
    · have g5 : (k : Int) < ((a).length : Int) := of_decide_eq_true h4
      refine wp_skip (nx_then (wp_seq (wp_block (wp_seq (RG.start ?_)))))
      have b6 := f_sz_cs (SZ.sz (el a k)) l
      refine S.q 7 [0, 1, 5] 0 ⟨[(0, .v (slv (a).length pa.1)), (1, .v (I (f_sz (SZ.sz (el a k)) l))), (5, .v (I (k : Int)))], []⟩ (.cons (Q_idx (S.arg ha) (l := (a).length) (k := k) (i := (k : Int)) rfl rfl (by omega) Try.underlying29 (by kernel_rfl)) (.cons (Q_el (S.arg ha) (t := 110) (k := k) (by omega) rfl (by kernel_rfl) (by kernel_rfl)) (.cons (Q_call fun w hw => c_laws_szGuest w (el a k) (pa.2 k) (rd_of (LRd.el (S.arg ha) k (by omega)) hw) l (by omega) (by omega)) .nil))) ?_; clear S; intro ac w β S
      refine RG.done rfl (nx_then (wp_seq (RG.start ?_)))
      refine S.q 2 [0, 1, 5, 25] 0 ⟨[(0, .v (slv (a).length pa.1)), (1, .v (I (f_sz (SZ.sz (el a k)) l))), (5, .v (I (k : Int))), (25, .v (B (decide ((f_sz (SZ.sz (el a k)) l) < 0))))], []⟩ .nil ?_; clear S; intro ac w β S
      refine RG.done rfl (nx_then ?_)
      refine S.c (decide ((f_sz (SZ.sz (el a k)) l) < 0)) (fun h7 => ?_) (fun h7 => ?_)
      · have g8 : (f_sz (SZ.sz (el a k)) l) < 0 := of_decide_eq_true h7
        refine wp_seq (RG.start ?_)
        refine S.q 1 [4] 0 ⟨[(4, .v (I (-1)))], []⟩ .nil ?_; clear S; intro ac w β S
        refine RG.done rfl (nx_then (wp_ret (rt_block (rt_then (rt_then (rt_block (rt_then ?_)))))))
        refine S.r [I (-1)] ?_
        exact ⟨retI (by clear S; (first | omega | (have hall := szsum_all (xs := a) (k := k) (by omega); omega) | (have hs1 := szsum_take (xs := a) (k := k) (by omega); have hs2 := szsum_take_le a (k + 1); omega))), S.chg⟩
      · have g9 : ¬ ((f_sz (SZ.sz (el a k)) l) < 0) := of_decide_eq_false h7
        refine wp_skip (nx_block (nx_then (RG.start ?_)))
        refine S.q 3 [0, 1, 5] 0 ⟨[(0, .v (slv (a).length pa.1)), (1, .v (I (f_sz (SZ.sz (el a k)) l))), (5, .v (I ((k : Int) + 1)))], []⟩ (.cons (Q_add (x := (k : Int)) (y := 1) ⟨by omega, by omega⟩) .nil) ?_; clear S; intro ac w β S
        refine RG.done rfl (nx_then ?_)
        replace S := S.p [0, 1, 5] 0 ⟨[(0, .v (slv (a).length pa.1)), (1, .v (I (f_sz (SZ.sz (el a k)) l))), (5, .v (I ((k : Int) + 1)))], []⟩
        refine ⟨a.length - (k + 1), by omega, k + 1, (f_sz (SZ.sz (el a k)) l), _, _, _, rfl, ?_, ?_, ?_, S.cast (by kernel_rfl)⟩
        · clear S; first | omega | (simp [*]; done) | (simp [*]; omega)
        · clear S; (rw [szsum_take (by omega)]; omega)
        · clear S; omega
    · have g10 : ¬ ((k : Int) < ((a).length : Int)) := of_decide_eq_false h4
      refine wp_exit (ex_then (ex_then (ex_hit (nx_then (wp_seq (RG.start ?_))))))
      refine S.q 2 [4] 0 ⟨[(4, .v (I l))], []⟩ .nil ?_; clear S; intro ac w β S
      refine RG.done rfl (nx_then (wp_ret ?_))
      refine S.r [I l] ?_
      exact ⟨retI (by clear S; (first | omega | (have hall := szsum_all (xs := a) (k := k) (by omega); omega) | (have hs1 := szsum_take (xs := a) (k := k) (by omega); have hs2 := szsum_take_le a (k + 1); omega))), S.chg⟩

set_option maxRecDepth 100000 in
theorem c_laws_szKept (w0 : World) (a : TKept) (pa : PKept) (ha : GT.rd KR (Lt w0.heap.size) w0 a pa) (left : Int) (pre0 : -1 ≤ left) (pre1 : left ≤ 4194304) : Calls Try.prog 80 [GT.val a pa, I left].toArray w0 (fun e w' => e = .returned (I (f_sz (SZ.sz a) left)) ∧ Chg NoB w0 w') := by
  refine Calls.walk (args := [GT.val a pa, I left]) NoB Try.func80 rfl rfl ?_
  intro ac β S
  have hz := sz_Kept a
  have hb0 := f_sz_cs (SZ.sz a) left
  refine wp_seq (RG.start ?_)
  refine S.q 2 [1, 2] 1 ⟨[(1, .v (I left)), (2, .p 0 0)], [GT.cells a pa]⟩ .nil ?_; clear S; intro ac w β S
  refine RG.done rfl (nx_then (wp_seq (RG.start ?_)))
  have b1 := f_sz_cs (SZ.sz a.known) left
  refine S.q 5 [1, 2] 1 ⟨[(1, .v (I (f_sz (SZ.sz a.known) left))), (2, .p 0 0)], [GT.cells a pa]⟩ (.cons (Q_call fun w hw => c_laws_szBoolS w a.known pa.known (rd_of (RKept.known (d := a) (S.arg ha)) hw) left (by omega) (by omega)) .nil) ?_; clear S; intro ac w β S
  refine RG.done rfl (nx_then (wp_seq (wp_seq (RG.start ?_))))
  refine S.q 2 [1, 2, 10] 1 ⟨[(1, .v (I (f_sz (SZ.sz a.known) left))), (2, .p 0 0), (10, .v (B (decide ((f_sz (SZ.sz a.known) left) < 0))))], [GT.cells a pa]⟩ .nil ?_; clear S; intro ac w β S
  refine RG.done rfl (nx_then ?_)
  refine S.c (decide ((f_sz (SZ.sz a.known) left) < 0)) (fun h2 => ?_) (fun h2 => ?_)
  · have g3 : (f_sz (SZ.sz a.known) left) < 0 := of_decide_eq_true h2
    refine wp_seq (RG.start ?_)
    refine S.q 1 [4] 0 ⟨[(4, .v (I (-1)))], []⟩ .nil ?_; clear S; intro ac w β S
    refine RG.done rfl (nx_then (wp_ret (rt_then ?_)))
    refine S.r [I (-1)] ?_
    exact ⟨retI (by clear S; omega), S.chg⟩
  · have g4 : ¬ ((f_sz (SZ.sz a.known) left) < 0) := of_decide_eq_false h2
    refine wp_skip (nx_then (wp_seq (RG.start ?_)))
    have b5 := f_sz_cs (SZ.sz a.slots) (f_sz (SZ.sz a.known) left)
    refine S.q 5 [1] 0 ⟨[(1, .v (I (f_sz (SZ.sz a.slots) (f_sz (SZ.sz a.known) left))))], []⟩ (.cons (Q_call fun w hw => c_laws_szSlotS w a.slots pa.slots (rd_of (RKept.slots (d := a) (S.arg ha)) hw) (f_sz (SZ.sz a.known) left) (by omega) (by omega)) .nil) ?_; clear S; intro ac w β S
    refine RG.done rfl (nx_then (wp_seq (wp_seq (RG.start ?_))))
    refine S.q 2 [1, 16] 0 ⟨[(1, .v (I (f_sz (SZ.sz a.slots) (f_sz (SZ.sz a.known) left)))), (16, .v (B (decide ((f_sz (SZ.sz a.slots) (f_sz (SZ.sz a.known) left)) < 0))))], []⟩ .nil ?_; clear S; intro ac w β S
    refine RG.done rfl (nx_then ?_)
    refine S.c (decide ((f_sz (SZ.sz a.slots) (f_sz (SZ.sz a.known) left)) < 0)) (fun h6 => ?_) (fun h6 => ?_)
    · have g7 : (f_sz (SZ.sz a.slots) (f_sz (SZ.sz a.known) left)) < 0 := of_decide_eq_true h6
      refine wp_seq (RG.start ?_)
      refine S.q 1 [4] 0 ⟨[(4, .v (I (-1)))], []⟩ .nil ?_; clear S; intro ac w β S
      refine RG.done rfl (nx_then (wp_ret (rt_then ?_)))
      refine S.r [I (-1)] ?_
      exact ⟨retI (by clear S; omega), S.chg⟩
    · have g8 : ¬ ((f_sz (SZ.sz a.slots) (f_sz (SZ.sz a.known) left)) < 0) := of_decide_eq_false h6
      refine wp_skip (nx_then (wp_seq (RG.start ?_)))
      refine S.q 2 [4] 0 ⟨[(4, .v (I (f_sz (SZ.sz a.slots) (f_sz (SZ.sz a.known) left))))], []⟩ .nil ?_; clear S; intro ac w β S
      refine RG.done rfl (nx_then (wp_ret ?_))
      refine S.r [I (f_sz (SZ.sz a.slots) (f_sz (SZ.sz a.known) left))] ?_
      exact ⟨retI (by clear S; omega), S.chg⟩

set_option maxRecDepth 100000 in
theorem c_laws_szKeptS (w0 : World) (a : List TKept) (pa : LP TKept) (ha : GT.rd KR (Lt w0.heap.size) w0 a pa) (left : Int) (pre0 : -1 ≤ left) (pre1 : left ≤ 4194304) : Calls Try.prog 37 [slv (a).length pa.1, I left].toArray w0 (fun e w' => e = .returned (I (f_sz (SZ.sz a) left)) ∧ Chg NoB w0 w') := by
  refine Calls.walk (args := [slv (a).length pa.1, I left]) NoB Try.func37 rfl rfl ?_
  intro ac β S
  have hz := sz_list a
  have hb0 := f_sz_cs (SZ.sz a) left
  have hlea : a.length ≤ 9223372036854775807 := LRd.le ha
  refine wp_seq (RG.start ?_)
  refine S.q 1 [0, 1] 0 ⟨[(0, .v (slv (a).length pa.1)), (1, .v (I left))], []⟩ .nil ?_; clear S; intro ac w β S
  refine RG.done rfl (nx_then (wp_seq (RG.start ?_)))
  refine S.q 5 [0, 1] 0 ⟨[(0, .v (slv (a).length pa.1)), (1, .v (I (left - ((a).length : Int))))], []⟩ (.cons (Q_sub (x := left) (y := ((a).length : Int)) ⟨by omega, by omega⟩) .nil) ?_; clear S; intro ac w β S
  refine RG.done rfl (nx_then (wp_seq (wp_seq (RG.start ?_))))
  refine S.q 2 [0, 1, 11] 0 ⟨[(0, .v (slv (a).length pa.1)), (1, .v (I (left - ((a).length : Int)))), (11, .v (B (decide ((left - ((a).length : Int)) < 0))))], []⟩ .nil ?_; clear S; intro ac w β S
  refine RG.done rfl (nx_then ?_)
  refine S.c (decide ((left - ((a).length : Int)) < 0)) (fun h1 => ?_) (fun h1 => ?_)
  · have g2 : (left - ((a).length : Int)) < 0 := of_decide_eq_true h1
    refine wp_seq (RG.start ?_)
    refine S.q 1 [4] 0 ⟨[(4, .v (I (-1)))], []⟩ .nil ?_; clear S; intro ac w β S
    refine RG.done rfl (nx_then (wp_ret (rt_then ?_)))
    refine S.r [I (-1)] ?_
    exact ⟨retI (by clear S; (first | omega | (have hall := szsum_all (xs := a) (k := k) (by omega); omega) | (have hs1 := szsum_take (xs := a) (k := k) (by omega); have hs2 := szsum_take_le a (k + 1); omega))), S.chg⟩
  · have g3 : ¬ ((left - ((a).length : Int)) < 0) := of_decide_eq_false h1
    refine wp_skip (nx_then (wp_seq (wp_seq (RG.start ?_))))
    refine S.q 1 [0, 1, 5] 0 ⟨[(0, .v (slv (a).length pa.1)), (1, .v (I (left - ((a).length : Int)))), (5, .v (I 0))], []⟩ .nil ?_; clear S; intro ac w β S
    refine RG.done rfl (nx_then (wp_block ?_))
    replace S := S.p [0, 1, 5] 0 ⟨[(0, .v (slv (a).length pa.1)), (1, .v (I (left - ((a).length : Int)))), (5, .v (I 0))], []⟩
    refine wp_loop_down (fun mm ac w => ∃ (k : Nat) (l : Int)  (u : World) (N : Bl) (β : Nat → Nat), mm = a.length - k ∧ (k ≤ a.length) ∧ (l = left - a.length - szsum (a.take k)) ∧ (0 ≤ l) ∧ St Try.prog Try.f37.ntmps w0 NoB u N β ⟨[(0, .v (slv (a).length pa.1)), (1, .v (I l)), (5, .v (I (k : Int)))], []⟩ ac w) _ ⟨0, (left - ((a).length : Int)), _, _, _, rfl, (by first | omega | (simp; done) | (simp; omega)), (by simp [szsum_nil]), (by first | omega | (simp; done) | (simp; omega)), S.cast (by kernel_rfl)⟩ ?_
    clear S
    rintro mm ac w ⟨k, l, u, N, β, rfl, hk, hl, hl0, S⟩
    have hle2 := szsum_take_le a k
    refine wp_seq (wp_seq (RG.start ?_))
    refine S.q 4 [0, 1, 5, 15] 0 ⟨[(0, .v (slv (a).length pa.1)), (1, .v (I l)), (5, .v (I (k : Int))), (15, .v (B (decide ((k : Int) < ((a).length : Int)))))], []⟩ .nil ?_; clear S; intro ac w β S
    refine RG.done rfl (nx_then ?_)
    refine S.c (decide ((k : Int) < ((a).length : Int))) (fun h4 => ?_) (fun h4 => ?_)
    · have g5 : (k : Int) < ((a).length : Int) := of_decide_eq_true h4
      refine wp_skip (nx_then (wp_seq (wp_block (wp_seq (RG.start ?_)))))
      have b6 := f_sz_cs (SZ.sz (el a k)) l
      refine S.q 7 [0, 1, 5] 0 ⟨[(0, .v (slv (a).length pa.1)), (1, .v (I (f_sz (SZ.sz (el a k)) l))), (5, .v (I (k : Int)))], []⟩ (.cons (Q_idx (S.arg ha) (l := (a).length) (k := k) (i := (k : Int)) rfl rfl (by omega) Try.underlying31 (by kernel_rfl)) (.cons (Q_el (S.arg ha) (t := 113) (k := k) (by omega) rfl (by kernel_rfl) (by kernel_rfl)) (.cons (Q_call fun w hw => c_laws_szKept w (el a k) (pa.2 k) (rd_of (LRd.el (S.arg ha) k (by omega)) hw) l (by omega) (by omega)) .nil))) ?_; clear S; intro ac w β S
      refine RG.done rfl (nx_then (wp_seq (RG.start ?_)))
      refine S.q 2 [0, 1, 5, 25] 0 ⟨[(0, .v (slv (a).length pa.1)), (1, .v (I (f_sz (SZ.sz (el a k)) l))), (5, .v (I (k : Int))), (25, .v (B (decide ((f_sz (SZ.sz (el a k)) l) < 0))))], []⟩ .nil ?_; clear S; intro ac w β S
      refine RG.done rfl (nx_then ?_)
      refine S.c (decide ((f_sz (SZ.sz (el a k)) l) < 0)) (fun h7 => ?_) (fun h7 => ?_)
      · have g8 : (f_sz (SZ.sz (el a k)) l) < 0 := of_decide_eq_true h7
        refine wp_seq (RG.start ?_)
        refine S.q 1 [4] 0 ⟨[(4, .v (I (-1)))], []⟩ .nil ?_; clear S; intro ac w β S
        refine RG.done rfl (nx_then (wp_ret (rt_block (rt_then (rt_then (rt_block (rt_then ?_)))))))
        refine S.r [I (-1)] ?_
        exact ⟨retI (by clear S; (first | omega | (have hall := szsum_all (xs := a) (k := k) (by omega); omega) | (have hs1 := szsum_take (xs := a) (k := k) (by omega); have hs2 := szsum_take_le a (k + 1); omega))), S.chg⟩
      · have g9 : ¬ ((f_sz (SZ.sz (el a k)) l) < 0) := of_decide_eq_false h7
        refine wp_skip (nx_block (nx_then (RG.start ?_)))
        refine S.q 3 [0, 1, 5] 0 ⟨[(0, .v (slv (a).length pa.1)), (1, .v (I (f_sz (SZ.sz (el a k)) l))), (5, .v (I ((k : Int) + 1)))], []⟩ (.cons (Q_add (x := (k : Int)) (y := 1) ⟨by omega, by omega⟩) .nil) ?_; clear S; intro ac w β S
        refine RG.done rfl (nx_then ?_)
        replace S := S.p [0, 1, 5] 0 ⟨[(0, .v (slv (a).length pa.1)), (1, .v (I (f_sz (SZ.sz (el a k)) l))), (5, .v (I ((k : Int) + 1)))], []⟩
        refine ⟨a.length - (k + 1), by omega, k + 1, (f_sz (SZ.sz (el a k)) l), _, _, _, rfl, ?_, ?_, ?_, S.cast (by kernel_rfl)⟩
        · clear S; first | omega | (simp [*]; done) | (simp [*]; omega)
        · clear S; (rw [szsum_take (by omega)]; omega)
        · clear S; omega
    · have g10 : ¬ ((k : Int) < ((a).length : Int)) := of_decide_eq_false h4
      refine wp_exit (ex_then (ex_then (ex_hit (nx_then (wp_seq (RG.start ?_))))))
      refine S.q 2 [4] 0 ⟨[(4, .v (I l))], []⟩ .nil ?_; clear S; intro ac w β S
      refine RG.done rfl (nx_then (wp_ret ?_))
      refine S.r [I l] ?_
      exact ⟨retI (by clear S; (first | omega | (have hall := szsum_all (xs := a) (k := k) (by omega); omega) | (have hs1 := szsum_take (xs := a) (k := k) (by omega); have hs2 := szsum_take_le a (k + 1); omega))), S.chg⟩

set_option maxRecDepth 100000 in
theorem c_laws_szMon (w0 : World) (a : TMon) (pa : PMon) (ha : GT.rd KR (Lt w0.heap.size) w0 a pa) (left : Int) (pre0 : -1 ≤ left) (pre1 : left ≤ 4194304) : Calls Try.prog 8 [GT.val a pa, I left].toArray w0 (fun e w' => e = .returned (I (f_sz (SZ.sz a) left)) ∧ Chg NoB w0 w') := by
  refine Calls.walk (args := [GT.val a pa, I left]) NoB Try.func8 rfl rfl ?_
  intro ac β S
  have hz := sz_Mon a
  have hb0 := f_sz_cs (SZ.sz a) left
  refine wp_seq (RG.start ?_)
  refine S.q 2 [1, 2] 1 ⟨[(1, .v (I left)), (2, .p 0 0)], [GT.cells a pa]⟩ .nil ?_; clear S; intro ac w β S
  refine RG.done rfl (nx_then (wp_seq (RG.start ?_)))
  have b1 := f_sz_cs (SZ.sz a.outer) left
  refine S.q 5 [1, 2] 1 ⟨[(1, .v (I (f_sz (SZ.sz a.outer) left))), (2, .p 0 0)], [GT.cells a pa]⟩ (.cons (Q_call fun w hw => c_laws_szSlotS w a.outer pa.outer (rd_of (RMon.outer (d := a) (S.arg ha)) hw) left (by omega) (by omega)) .nil) ?_; clear S; intro ac w β S
  refine RG.done rfl (nx_then (wp_seq (wp_seq (RG.start ?_))))
  refine S.q 2 [1, 2, 10] 1 ⟨[(1, .v (I (f_sz (SZ.sz a.outer) left))), (2, .p 0 0), (10, .v (B (decide ((f_sz (SZ.sz a.outer) left) < 0))))], [GT.cells a pa]⟩ .nil ?_; clear S; intro ac w β S
  refine RG.done rfl (nx_then ?_)
  refine S.c (decide ((f_sz (SZ.sz a.outer) left) < 0)) (fun h2 => ?_) (fun h2 => ?_)
  · have g3 : (f_sz (SZ.sz a.outer) left) < 0 := of_decide_eq_true h2
    refine wp_seq (RG.start ?_)
    refine S.q 1 [4] 0 ⟨[(4, .v (I (-1)))], []⟩ .nil ?_; clear S; intro ac w β S
    refine RG.done rfl (nx_then (wp_ret (rt_then ?_)))
    refine S.r [I (-1)] ?_
    exact ⟨retI (by clear S; omega), S.chg⟩
  · have g4 : ¬ ((f_sz (SZ.sz a.outer) left) < 0) := of_decide_eq_false h2
    refine wp_skip (nx_then (wp_seq (RG.start ?_)))
    have b5 := f_sz_cs (SZ.sz a.out) (f_sz (SZ.sz a.outer) left)
    refine S.q 5 [1, 2] 1 ⟨[(1, .v (I (f_sz (SZ.sz a.out) (f_sz (SZ.sz a.outer) left)))), (2, .p 0 0)], [GT.cells a pa]⟩ (.cons (Q_call fun w hw => c_laws_szIntSS w a.out pa.out (rd_of (RMon.out (d := a) (S.arg ha)) hw) (f_sz (SZ.sz a.outer) left) (by omega) (by omega)) .nil) ?_; clear S; intro ac w β S
    refine RG.done rfl (nx_then (wp_seq (wp_seq (RG.start ?_))))
    refine S.q 2 [1, 2, 16] 1 ⟨[(1, .v (I (f_sz (SZ.sz a.out) (f_sz (SZ.sz a.outer) left)))), (2, .p 0 0), (16, .v (B (decide ((f_sz (SZ.sz a.out) (f_sz (SZ.sz a.outer) left)) < 0))))], [GT.cells a pa]⟩ .nil ?_; clear S; intro ac w β S
    refine RG.done rfl (nx_then ?_)
    refine S.c (decide ((f_sz (SZ.sz a.out) (f_sz (SZ.sz a.outer) left)) < 0)) (fun h6 => ?_) (fun h6 => ?_)
    · have g7 : (f_sz (SZ.sz a.out) (f_sz (SZ.sz a.outer) left)) < 0 := of_decide_eq_true h6
      refine wp_seq (RG.start ?_)
      refine S.q 1 [4] 0 ⟨[(4, .v (I (-1)))], []⟩ .nil ?_; clear S; intro ac w β S
      refine RG.done rfl (nx_then (wp_ret (rt_then ?_)))
      refine S.r [I (-1)] ?_
      exact ⟨retI (by clear S; omega), S.chg⟩
    · have g8 : ¬ ((f_sz (SZ.sz a.out) (f_sz (SZ.sz a.outer) left)) < 0) := of_decide_eq_false h6
      refine wp_skip (nx_then (wp_seq (RG.start ?_)))
      have b9 := f_sz_cs (SZ.sz a.dirty) (f_sz (SZ.sz a.out) (f_sz (SZ.sz a.outer) left))
      refine S.q 5 [1, 2] 1 ⟨[(1, .v (I (f_sz (SZ.sz a.dirty) (f_sz (SZ.sz a.out) (f_sz (SZ.sz a.outer) left))))), (2, .p 0 0)], [GT.cells a pa]⟩ (.cons (Q_call fun w hw => c_laws_szBoolS w a.dirty pa.dirty (rd_of (RMon.dirty (d := a) (S.arg ha)) hw) (f_sz (SZ.sz a.out) (f_sz (SZ.sz a.outer) left)) (by omega) (by omega)) .nil) ?_; clear S; intro ac w β S
      refine RG.done rfl (nx_then (wp_seq (wp_seq (RG.start ?_))))
      refine S.q 2 [1, 2, 22] 1 ⟨[(1, .v (I (f_sz (SZ.sz a.dirty) (f_sz (SZ.sz a.out) (f_sz (SZ.sz a.outer) left))))), (2, .p 0 0), (22, .v (B (decide ((f_sz (SZ.sz a.dirty) (f_sz (SZ.sz a.out) (f_sz (SZ.sz a.outer) left))) < 0))))], [GT.cells a pa]⟩ .nil ?_; clear S; intro ac w β S
      refine RG.done rfl (nx_then ?_)
      refine S.c (decide ((f_sz (SZ.sz a.dirty) (f_sz (SZ.sz a.out) (f_sz (SZ.sz a.outer) left))) < 0)) (fun h10 => ?_) (fun h10 => ?_)
      · have g11 : (f_sz (SZ.sz a.dirty) (f_sz (SZ.sz a.out) (f_sz (SZ.sz a.outer) left))) < 0 := of_decide_eq_true h10
        refine wp_seq (RG.start ?_)
        refine S.q 1 [4] 0 ⟨[(4, .v (I (-1)))], []⟩ .nil ?_; clear S; intro ac w β S
        refine RG.done rfl (nx_then (wp_ret (rt_then ?_)))
        refine S.r [I (-1)] ?_
        exact ⟨retI (by clear S; omega), S.chg⟩
      · have g12 : ¬ ((f_sz (SZ.sz a.dirty) (f_sz (SZ.sz a.out) (f_sz (SZ.sz a.outer) left))) < 0) := of_decide_eq_false h10
        refine wp_skip (nx_then (wp_seq (RG.start ?_)))
        have b13 := f_sz_cs (SZ.sz a.guests) (f_sz (SZ.sz a.dirty) (f_sz (SZ.sz a.out) (f_sz (SZ.sz a.outer) left)))
        refine S.q 5 [1, 2] 1 ⟨[(1, .v (I (f_sz (SZ.sz a.guests) (f_sz (SZ.sz a.dirty) (f_sz (SZ.sz a.out) (f_sz (SZ.sz a.outer) left)))))), (2, .p 0 0)], [GT.cells a pa]⟩ (.cons (Q_call fun w hw => c_laws_szGuestS w a.guests pa.guests (rd_of (RMon.guests (d := a) (S.arg ha)) hw) (f_sz (SZ.sz a.dirty) (f_sz (SZ.sz a.out) (f_sz (SZ.sz a.outer) left))) (by omega) (by omega)) .nil) ?_; clear S; intro ac w β S
        refine RG.done rfl (nx_then (wp_seq (wp_seq (RG.start ?_))))
        refine S.q 2 [1, 2, 28] 1 ⟨[(1, .v (I (f_sz (SZ.sz a.guests) (f_sz (SZ.sz a.dirty) (f_sz (SZ.sz a.out) (f_sz (SZ.sz a.outer) left)))))), (2, .p 0 0), (28, .v (B (decide ((f_sz (SZ.sz a.guests) (f_sz (SZ.sz a.dirty) (f_sz (SZ.sz a.out) (f_sz (SZ.sz a.outer) left)))) < 0))))], [GT.cells a pa]⟩ .nil ?_; clear S; intro ac w β S
        refine RG.done rfl (nx_then ?_)
        refine S.c (decide ((f_sz (SZ.sz a.guests) (f_sz (SZ.sz a.dirty) (f_sz (SZ.sz a.out) (f_sz (SZ.sz a.outer) left)))) < 0)) (fun h14 => ?_) (fun h14 => ?_)
        · have g15 : (f_sz (SZ.sz a.guests) (f_sz (SZ.sz a.dirty) (f_sz (SZ.sz a.out) (f_sz (SZ.sz a.outer) left)))) < 0 := of_decide_eq_true h14
          refine wp_seq (RG.start ?_)
          refine S.q 1 [4] 0 ⟨[(4, .v (I (-1)))], []⟩ .nil ?_; clear S; intro ac w β S
          refine RG.done rfl (nx_then (wp_ret (rt_then ?_)))
          refine S.r [I (-1)] ?_
          exact ⟨retI (by clear S; omega), S.chg⟩
        · have g16 : ¬ ((f_sz (SZ.sz a.guests) (f_sz (SZ.sz a.dirty) (f_sz (SZ.sz a.out) (f_sz (SZ.sz a.outer) left)))) < 0) := of_decide_eq_false h14
          refine wp_skip (nx_then (wp_seq (RG.start ?_)))
          have b17 := f_sz_cs (SZ.sz a.outs) (f_sz (SZ.sz a.guests) (f_sz (SZ.sz a.dirty) (f_sz (SZ.sz a.out) (f_sz (SZ.sz a.outer) left))))
          refine S.q 5 [1, 2] 1 ⟨[(1, .v (I (f_sz (SZ.sz a.outs) (f_sz (SZ.sz a.guests) (f_sz (SZ.sz a.dirty) (f_sz (SZ.sz a.out) (f_sz (SZ.sz a.outer) left))))))), (2, .p 0 0)], [GT.cells a pa]⟩ (.cons (Q_call fun w hw => c_laws_szIntS w a.outs pa.outs (rd_of (RMon.outs (d := a) (S.arg ha)) hw) (f_sz (SZ.sz a.guests) (f_sz (SZ.sz a.dirty) (f_sz (SZ.sz a.out) (f_sz (SZ.sz a.outer) left)))) (by omega) (by omega)) .nil) ?_; clear S; intro ac w β S
          refine RG.done rfl (nx_then (wp_seq (wp_seq (RG.start ?_))))
          refine S.q 2 [1, 2, 34] 1 ⟨[(1, .v (I (f_sz (SZ.sz a.outs) (f_sz (SZ.sz a.guests) (f_sz (SZ.sz a.dirty) (f_sz (SZ.sz a.out) (f_sz (SZ.sz a.outer) left))))))), (2, .p 0 0), (34, .v (B (decide ((f_sz (SZ.sz a.outs) (f_sz (SZ.sz a.guests) (f_sz (SZ.sz a.dirty) (f_sz (SZ.sz a.out) (f_sz (SZ.sz a.outer) left))))) < 0))))], [GT.cells a pa]⟩ .nil ?_; clear S; intro ac w β S
          refine RG.done rfl (nx_then ?_)
          refine S.c (decide ((f_sz (SZ.sz a.outs) (f_sz (SZ.sz a.guests) (f_sz (SZ.sz a.dirty) (f_sz (SZ.sz a.out) (f_sz (SZ.sz a.outer) left))))) < 0)) (fun h18 => ?_) (fun h18 => ?_)
          · have g19 : (f_sz (SZ.sz a.outs) (f_sz (SZ.sz a.guests) (f_sz (SZ.sz a.dirty) (f_sz (SZ.sz a.out) (f_sz (SZ.sz a.outer) left))))) < 0 := of_decide_eq_true h18
            refine wp_seq (RG.start ?_)
            refine S.q 1 [4] 0 ⟨[(4, .v (I (-1)))], []⟩ .nil ?_; clear S; intro ac w β S
            refine RG.done rfl (nx_then (wp_ret (rt_then ?_)))
            refine S.r [I (-1)] ?_
            exact ⟨retI (by clear S; omega), S.chg⟩
          · have g20 : ¬ ((f_sz (SZ.sz a.outs) (f_sz (SZ.sz a.guests) (f_sz (SZ.sz a.dirty) (f_sz (SZ.sz a.out) (f_sz (SZ.sz a.outer) left))))) < 0) := of_decide_eq_false h18
            refine wp_skip (nx_then (wp_seq (RG.start ?_)))
            have b21 := f_sz_cs (SZ.sz a.tables) (f_sz (SZ.sz a.outs) (f_sz (SZ.sz a.guests) (f_sz (SZ.sz a.dirty) (f_sz (SZ.sz a.out) (f_sz (SZ.sz a.outer) left)))))
            refine S.q 5 [1] 0 ⟨[(1, .v (I (f_sz (SZ.sz a.tables) (f_sz (SZ.sz a.outs) (f_sz (SZ.sz a.guests) (f_sz (SZ.sz a.dirty) (f_sz (SZ.sz a.out) (f_sz (SZ.sz a.outer) left))))))))], []⟩ (.cons (Q_call fun w hw => c_laws_szKeptS w a.tables pa.tables (rd_of (RMon.tables (d := a) (S.arg ha)) hw) (f_sz (SZ.sz a.outs) (f_sz (SZ.sz a.guests) (f_sz (SZ.sz a.dirty) (f_sz (SZ.sz a.out) (f_sz (SZ.sz a.outer) left))))) (by omega) (by omega)) .nil) ?_; clear S; intro ac w β S
            refine RG.done rfl (nx_then (wp_seq (wp_seq (RG.start ?_))))
            refine S.q 2 [1, 40] 0 ⟨[(1, .v (I (f_sz (SZ.sz a.tables) (f_sz (SZ.sz a.outs) (f_sz (SZ.sz a.guests) (f_sz (SZ.sz a.dirty) (f_sz (SZ.sz a.out) (f_sz (SZ.sz a.outer) left)))))))), (40, .v (B (decide ((f_sz (SZ.sz a.tables) (f_sz (SZ.sz a.outs) (f_sz (SZ.sz a.guests) (f_sz (SZ.sz a.dirty) (f_sz (SZ.sz a.out) (f_sz (SZ.sz a.outer) left)))))) < 0))))], []⟩ .nil ?_; clear S; intro ac w β S
            refine RG.done rfl (nx_then ?_)
            refine S.c (decide ((f_sz (SZ.sz a.tables) (f_sz (SZ.sz a.outs) (f_sz (SZ.sz a.guests) (f_sz (SZ.sz a.dirty) (f_sz (SZ.sz a.out) (f_sz (SZ.sz a.outer) left)))))) < 0)) (fun h22 => ?_) (fun h22 => ?_)
            · have g23 : (f_sz (SZ.sz a.tables) (f_sz (SZ.sz a.outs) (f_sz (SZ.sz a.guests) (f_sz (SZ.sz a.dirty) (f_sz (SZ.sz a.out) (f_sz (SZ.sz a.outer) left)))))) < 0 := of_decide_eq_true h22
              refine wp_seq (RG.start ?_)
              refine S.q 1 [4] 0 ⟨[(4, .v (I (-1)))], []⟩ .nil ?_; clear S; intro ac w β S
              refine RG.done rfl (nx_then (wp_ret (rt_then ?_)))
              refine S.r [I (-1)] ?_
              exact ⟨retI (by clear S; omega), S.chg⟩
            · have g24 : ¬ ((f_sz (SZ.sz a.tables) (f_sz (SZ.sz a.outs) (f_sz (SZ.sz a.guests) (f_sz (SZ.sz a.dirty) (f_sz (SZ.sz a.out) (f_sz (SZ.sz a.outer) left)))))) < 0) := of_decide_eq_false h22
              refine wp_skip (nx_then (wp_seq (RG.start ?_)))
              refine S.q 2 [4] 0 ⟨[(4, .v (I (f_sz (SZ.sz a.tables) (f_sz (SZ.sz a.outs) (f_sz (SZ.sz a.guests) (f_sz (SZ.sz a.dirty) (f_sz (SZ.sz a.out) (f_sz (SZ.sz a.outer) left))))))))], []⟩ .nil ?_; clear S; intro ac w β S
              refine RG.done rfl (nx_then (wp_ret ?_))
              refine S.r [I (f_sz (SZ.sz a.tables) (f_sz (SZ.sz a.outs) (f_sz (SZ.sz a.guests) (f_sz (SZ.sz a.dirty) (f_sz (SZ.sz a.out) (f_sz (SZ.sz a.outer) left))))))] ?_
              exact ⟨retI (by clear S; omega), S.chg⟩

set_option maxRecDepth 100000 in
theorem c_laws_szMonS (w0 : World) (a : List TMon) (pa : LP TMon) (ha : GT.rd KR (Lt w0.heap.size) w0 a pa) (left : Int) (pre0 : -1 ≤ left) (pre1 : left ≤ 4194304) : Calls Try.prog 31 [slv (a).length pa.1, I left].toArray w0 (fun e w' => e = .returned (I (f_sz (SZ.sz a) left)) ∧ Chg NoB w0 w') := by
  refine Calls.walk (args := [slv (a).length pa.1, I left]) NoB Try.func31 rfl rfl ?_
  intro ac β S
  have hz := sz_list a
  have hb0 := f_sz_cs (SZ.sz a) left
  have hlea : a.length ≤ 9223372036854775807 := LRd.le ha
  refine wp_seq (RG.start ?_)
  refine S.q 1 [0, 1] 0 ⟨[(0, .v (slv (a).length pa.1)), (1, .v (I left))], []⟩ .nil ?_; clear S; intro ac w β S
  refine RG.done rfl (nx_then (wp_seq (RG.start ?_)))
  refine S.q 5 [0, 1] 0 ⟨[(0, .v (slv (a).length pa.1)), (1, .v (I (left - ((a).length : Int))))], []⟩ (.cons (Q_sub (x := left) (y := ((a).length : Int)) ⟨by omega, by omega⟩) .nil) ?_; clear S; intro ac w β S
  refine RG.done rfl (nx_then (wp_seq (wp_seq (RG.start ?_))))
  refine S.q 2 [0, 1, 11] 0 ⟨[(0, .v (slv (a).length pa.1)), (1, .v (I (left - ((a).length : Int)))), (11, .v (B (decide ((left - ((a).length : Int)) < 0))))], []⟩ .nil ?_; clear S; intro ac w β S
  refine RG.done rfl (nx_then ?_)
  refine S.c (decide ((left - ((a).length : Int)) < 0)) (fun h1 => ?_) (fun h1 => ?_)
  · have g2 : (left - ((a).length : Int)) < 0 := of_decide_eq_true h1
    refine wp_seq (RG.start ?_)
    refine S.q 1 [4] 0 ⟨[(4, .v (I (-1)))], []⟩ .nil ?_; clear S; intro ac w β S
    refine RG.done rfl (nx_then (wp_ret (rt_then ?_)))
    refine S.r [I (-1)] ?_
    exact ⟨retI (by clear S; (first | omega | (have hall := szsum_all (xs := a) (k := k) (by omega); omega) | (have hs1 := szsum_take (xs := a) (k := k) (by omega); have hs2 := szsum_take_le a (k + 1); omega))), S.chg⟩
  · have g3 : ¬ ((left - ((a).length : Int)) < 0) := of_decide_eq_false h1
    refine wp_skip (nx_then (wp_seq (wp_seq (RG.start ?_))))
    refine S.q 1 [0, 1, 5] 0 ⟨[(0, .v (slv (a).length pa.1)), (1, .v (I (left - ((a).length : Int)))), (5, .v (I 0))], []⟩ .nil ?_; clear S; intro ac w β S
    refine RG.done rfl (nx_then (wp_block ?_))
    replace S := S.p [0, 1, 5] 0 ⟨[(0, .v (slv (a).length pa.1)), (1, .v (I (left - ((a).length : Int)))), (5, .v (I 0))], []⟩
    refine wp_loop_down (fun mm ac w => ∃ (k : Nat) (l : Int)  (u : World) (N : Bl) (β : Nat → Nat), mm = a.length - k ∧ (k ≤ a.length) ∧ (l = left - a.length - szsum (a.take k)) ∧ (0 ≤ l) ∧ St Try.prog Try.f31.ntmps w0 NoB u N β ⟨[(0, .v (slv (a).length pa.1)), (1, .v (I l)), (5, .v (I (k : Int)))], []⟩ ac w) _ ⟨0, (left - ((a).length : Int)), _, _, _, rfl, (by first | omega | (simp; done) | (simp; omega)), (by simp [szsum_nil]), (by first | omega | (simp; done) | (simp; omega)), S.cast (by kernel_rfl)⟩ ?_
    clear S
    rintro mm ac w ⟨k, l, u, N, β, rfl, hk, hl, hl0, S⟩
    have hle2 := szsum_take_le a k
    refine wp_seq (wp_seq (RG.start ?_))
    refine S.q 4 [0, 1, 5, 15] 0 ⟨[(0, .v (slv (a).length pa.1)), (1, .v (I l)), (5, .v (I (k : Int))), (15, .v (B (decide ((k : Int) < ((a).length : Int)))))], []⟩ .nil ?_; clear S; intro ac w β S
    refine RG.done rfl (nx_then ?_)
    refine S.c (decide ((k : Int) < ((a).length : Int))) (fun h4 => ?_) (fun h4 => ?_)
    · have g5 : (k : Int) < ((a).length : Int) := of_decide_eq_true h4
      refine wp_skip (nx_then (wp_seq (wp_block (wp_seq (RG.start ?_)))))
      have b6 := f_sz_cs (SZ.sz (el a k)) l
      refine S.q 7 [0, 1, 5] 0 ⟨[(0, .v (slv (a).length pa.1)), (1, .v (I (f_sz (SZ.sz (el a k)) l))), (5, .v (I (k : Int)))], []⟩ (.cons (Q_idx (S.arg ha) (l := (a).length) (k := k) (i := (k : Int)) rfl rfl (by omega) Try.underlying23 (by kernel_rfl)) (.cons (Q_el (S.arg ha) (t := 33) (k := k) (by omega) rfl (by kernel_rfl) (by kernel_rfl)) (.cons (Q_call fun w hw => c_laws_szMon w (el a k) (pa.2 k) (rd_of (LRd.el (S.arg ha) k (by omega)) hw) l (by omega) (by omega)) .nil))) ?_; clear S; intro ac w β S
      refine RG.done rfl (nx_then (wp_seq (RG.start ?_)))
      refine S.q 2 [0, 1, 5, 25] 0 ⟨[(0, .v (slv (a).length pa.1)), (1, .v (I (f_sz (SZ.sz (el a k)) l))), (5, .v (I (k : Int))), (25, .v (B (decide ((f_sz (SZ.sz (el a k)) l) < 0))))], []⟩ .nil ?_; clear S; intro ac w β S
      refine RG.done rfl (nx_then ?_)
      refine S.c (decide ((f_sz (SZ.sz (el a k)) l) < 0)) (fun h7 => ?_) (fun h7 => ?_)
      · have g8 : (f_sz (SZ.sz (el a k)) l) < 0 := of_decide_eq_true h7
        refine wp_seq (RG.start ?_)
        refine S.q 1 [4] 0 ⟨[(4, .v (I (-1)))], []⟩ .nil ?_; clear S; intro ac w β S
        refine RG.done rfl (nx_then (wp_ret (rt_block (rt_then (rt_then (rt_block (rt_then ?_)))))))
        refine S.r [I (-1)] ?_
        exact ⟨retI (by clear S; (first | omega | (have hall := szsum_all (xs := a) (k := k) (by omega); omega) | (have hs1 := szsum_take (xs := a) (k := k) (by omega); have hs2 := szsum_take_le a (k + 1); omega))), S.chg⟩
      · have g9 : ¬ ((f_sz (SZ.sz (el a k)) l) < 0) := of_decide_eq_false h7
        refine wp_skip (nx_block (nx_then (RG.start ?_)))
        refine S.q 3 [0, 1, 5] 0 ⟨[(0, .v (slv (a).length pa.1)), (1, .v (I (f_sz (SZ.sz (el a k)) l))), (5, .v (I ((k : Int) + 1)))], []⟩ (.cons (Q_add (x := (k : Int)) (y := 1) ⟨by omega, by omega⟩) .nil) ?_; clear S; intro ac w β S
        refine RG.done rfl (nx_then ?_)
        replace S := S.p [0, 1, 5] 0 ⟨[(0, .v (slv (a).length pa.1)), (1, .v (I (f_sz (SZ.sz (el a k)) l))), (5, .v (I ((k : Int) + 1)))], []⟩
        refine ⟨a.length - (k + 1), by omega, k + 1, (f_sz (SZ.sz (el a k)) l), _, _, _, rfl, ?_, ?_, ?_, S.cast (by kernel_rfl)⟩
        · clear S; first | omega | (simp [*]; done) | (simp [*]; omega)
        · clear S; (rw [szsum_take (by omega)]; omega)
        · clear S; omega
    · have g10 : ¬ ((k : Int) < ((a).length : Int)) := of_decide_eq_false h4
      refine wp_exit (ex_then (ex_then (ex_hit (nx_then (wp_seq (RG.start ?_))))))
      refine S.q 2 [4] 0 ⟨[(4, .v (I l))], []⟩ .nil ?_; clear S; intro ac w β S
      refine RG.done rfl (nx_then (wp_ret ?_))
      refine S.r [I l] ?_
      exact ⟨retI (by clear S; (first | omega | (have hall := szsum_all (xs := a) (k := k) (by omega); omega) | (have hs1 := szsum_take (xs := a) (k := k) (by omega); have hs2 := szsum_take_le a (k + 1); omega))), S.chg⟩

set_option maxRecDepth 100000 in
theorem c_laws_szEntryS (w0 : World) (a : List TEntry) (pa : LP TEntry) (ha : GT.rd KR (Lt w0.heap.size) w0 a pa) (left : Int) (pre0 : -1 ≤ left) (pre1 : left ≤ 4194304) : Calls Try.prog 32 [slv (a).length pa.1, I left].toArray w0 (fun e w' => e = .returned (I (f_sz (SZ.sz a) left)) ∧ Chg NoB w0 w') := by
  refine Calls.walk (args := [slv (a).length pa.1, I left]) NoB Try.func32 rfl rfl ?_
  intro ac β S
  have hz := szl_TEntry a
  have hb0 := f_sz_cs (SZ.sz a) left
  have hlea : a.length ≤ 9223372036854775807 := LRd.le ha
  refine wp_seq (RG.start ?_)
  refine S.q 1 [0, 1] 0 ⟨[(0, .v (slv (a).length pa.1)), (1, .v (I left))], []⟩ .nil ?_; clear S; intro ac w β S
  refine RG.done rfl (nx_then (wp_seq (RG.start ?_)))
  refine S.q 5 [1] 0 ⟨[(1, .v (I (left - ((a).length : Int))))], []⟩ (.cons (Q_sub (x := left) (y := ((a).length : Int)) ⟨by omega, by omega⟩) .nil) ?_; clear S; intro ac w β S
  refine RG.done rfl (nx_then (wp_seq (wp_seq (RG.start ?_))))
  refine S.q 2 [1, 10] 0 ⟨[(1, .v (I (left - ((a).length : Int)))), (10, .v (B (decide ((left - ((a).length : Int)) < 0))))], []⟩ .nil ?_; clear S; intro ac w β S
  refine RG.done rfl (nx_then ?_)
  refine S.c (decide ((left - ((a).length : Int)) < 0)) (fun h1 => ?_) (fun h1 => ?_)
  · have g2 : (left - ((a).length : Int)) < 0 := of_decide_eq_true h1
    refine wp_seq (RG.start ?_)
    refine S.q 1 [4] 0 ⟨[(4, .v (I (-1)))], []⟩ .nil ?_; clear S; intro ac w β S
    refine RG.done rfl (nx_then (wp_ret (rt_then ?_)))
    refine S.r [I (-1)] ?_
    exact ⟨retI (by clear S; omega), S.chg⟩
  · have g3 : ¬ ((left - ((a).length : Int)) < 0) := of_decide_eq_false h1
    refine wp_skip (nx_then (wp_seq (RG.start ?_)))
    refine S.q 2 [4] 0 ⟨[(4, .v (I (left - ((a).length : Int))))], []⟩ .nil ?_; clear S; intro ac w β S
    refine RG.done rfl (nx_then (wp_ret ?_))
    refine S.r [I (left - ((a).length : Int))] ?_
    exact ⟨retI (by clear S; omega), S.chg⟩

set_option maxRecDepth 100000 in
theorem c_laws_szHost (w0 : World) (a : THost) (pa : PHost) (ha : GT.rd KR (Lt w0.heap.size) w0 a pa) (left : Int) (pre0 : -1 ≤ left) (pre1 : left ≤ 4194304) : Calls Try.prog 7 [GT.val a pa, I left].toArray w0 (fun e w' => e = .returned (I (f_sz (SZ.sz a) left)) ∧ Chg NoB w0 w') := by
  refine Calls.walk (args := [GT.val a pa, I left]) NoB Try.func7 rfl rfl ?_
  intro ac β S
  have hz := sz_Host a
  have hb0 := f_sz_cs (SZ.sz a) left
  refine wp_seq (RG.start ?_)
  refine S.q 2 [1, 2] 1 ⟨[(1, .v (I left)), (2, .p 0 0)], [GT.cells a pa]⟩ .nil ?_; clear S; intro ac w β S
  refine RG.done rfl (nx_then (wp_seq (RG.start ?_)))
  have b1 := f_sz_cs (SZ.sz a.mem) left
  refine S.q 5 [1, 2] 1 ⟨[(1, .v (I (f_sz (SZ.sz a.mem) left))), (2, .p 0 0)], [GT.cells a pa]⟩ (.cons (Q_call fun w hw => c_laws_szIntSS w a.mem pa.mem (rd_of (RHost.mem (d := a) (S.arg ha)) hw) left (by omega) (by omega)) .nil) ?_; clear S; intro ac w β S
  refine RG.done rfl (nx_then (wp_seq (wp_seq (RG.start ?_))))
  refine S.q 2 [1, 2, 10] 1 ⟨[(1, .v (I (f_sz (SZ.sz a.mem) left))), (2, .p 0 0), (10, .v (B (decide ((f_sz (SZ.sz a.mem) left) < 0))))], [GT.cells a pa]⟩ .nil ?_; clear S; intro ac w β S
  refine RG.done rfl (nx_then ?_)
  refine S.c (decide ((f_sz (SZ.sz a.mem) left) < 0)) (fun h2 => ?_) (fun h2 => ?_)
  · have g3 : (f_sz (SZ.sz a.mem) left) < 0 := of_decide_eq_true h2
    refine wp_seq (RG.start ?_)
    refine S.q 1 [4] 0 ⟨[(4, .v (I (-1)))], []⟩ .nil ?_; clear S; intro ac w β S
    refine RG.done rfl (nx_then (wp_ret (rt_then ?_)))
    refine S.r [I (-1)] ?_
    exact ⟨retI (by clear S; omega), S.chg⟩
  · have g4 : ¬ ((f_sz (SZ.sz a.mem) left) < 0) := of_decide_eq_false h2
    refine wp_skip (nx_then (wp_seq (RG.start ?_)))
    have b5 := f_sz_cs (SZ.sz a.mons) (f_sz (SZ.sz a.mem) left)
    refine S.q 5 [1, 2] 1 ⟨[(1, .v (I (f_sz (SZ.sz a.mons) (f_sz (SZ.sz a.mem) left)))), (2, .p 0 0)], [GT.cells a pa]⟩ (.cons (Q_call fun w hw => c_laws_szMonS w a.mons pa.mons (rd_of (RHost.mons (d := a) (S.arg ha)) hw) (f_sz (SZ.sz a.mem) left) (by omega) (by omega)) .nil) ?_; clear S; intro ac w β S
    refine RG.done rfl (nx_then (wp_seq (wp_seq (RG.start ?_))))
    refine S.q 2 [1, 2, 16] 1 ⟨[(1, .v (I (f_sz (SZ.sz a.mons) (f_sz (SZ.sz a.mem) left)))), (2, .p 0 0), (16, .v (B (decide ((f_sz (SZ.sz a.mons) (f_sz (SZ.sz a.mem) left)) < 0))))], [GT.cells a pa]⟩ .nil ?_; clear S; intro ac w β S
    refine RG.done rfl (nx_then ?_)
    refine S.c (decide ((f_sz (SZ.sz a.mons) (f_sz (SZ.sz a.mem) left)) < 0)) (fun h6 => ?_) (fun h6 => ?_)
    · have g7 : (f_sz (SZ.sz a.mons) (f_sz (SZ.sz a.mem) left)) < 0 := of_decide_eq_true h6
      refine wp_seq (RG.start ?_)
      refine S.q 1 [4] 0 ⟨[(4, .v (I (-1)))], []⟩ .nil ?_; clear S; intro ac w β S
      refine RG.done rfl (nx_then (wp_ret (rt_then ?_)))
      refine S.r [I (-1)] ?_
      exact ⟨retI (by clear S; omega), S.chg⟩
    · have g8 : ¬ ((f_sz (SZ.sz a.mons) (f_sz (SZ.sz a.mem) left)) < 0) := of_decide_eq_false h6
      refine wp_skip (nx_then (wp_seq (RG.start ?_)))
      have b9 := f_sz_cs (SZ.sz a.buf) (f_sz (SZ.sz a.mons) (f_sz (SZ.sz a.mem) left))
      refine S.q 5 [1, 2] 1 ⟨[(1, .v (I (f_sz (SZ.sz a.buf) (f_sz (SZ.sz a.mons) (f_sz (SZ.sz a.mem) left))))), (2, .p 0 0)], [GT.cells a pa]⟩ (.cons (Q_call fun w hw => c_laws_szEntryS w a.buf pa.buf (rd_of (RHost.buf (d := a) (S.arg ha)) hw) (f_sz (SZ.sz a.mons) (f_sz (SZ.sz a.mem) left)) (by omega) (by omega)) .nil) ?_; clear S; intro ac w β S
      refine RG.done rfl (nx_then (wp_seq (wp_seq (RG.start ?_))))
      refine S.q 2 [1, 2, 22] 1 ⟨[(1, .v (I (f_sz (SZ.sz a.buf) (f_sz (SZ.sz a.mons) (f_sz (SZ.sz a.mem) left))))), (2, .p 0 0), (22, .v (B (decide ((f_sz (SZ.sz a.buf) (f_sz (SZ.sz a.mons) (f_sz (SZ.sz a.mem) left))) < 0))))], [GT.cells a pa]⟩ .nil ?_; clear S; intro ac w β S
      refine RG.done rfl (nx_then ?_)
      refine S.c (decide ((f_sz (SZ.sz a.buf) (f_sz (SZ.sz a.mons) (f_sz (SZ.sz a.mem) left))) < 0)) (fun h10 => ?_) (fun h10 => ?_)
      · have g11 : (f_sz (SZ.sz a.buf) (f_sz (SZ.sz a.mons) (f_sz (SZ.sz a.mem) left))) < 0 := of_decide_eq_true h10
        refine wp_seq (RG.start ?_)
        refine S.q 1 [4] 0 ⟨[(4, .v (I (-1)))], []⟩ .nil ?_; clear S; intro ac w β S
        refine RG.done rfl (nx_then (wp_ret (rt_then ?_)))
        refine S.r [I (-1)] ?_
        exact ⟨retI (by clear S; omega), S.chg⟩
      · have g12 : ¬ ((f_sz (SZ.sz a.buf) (f_sz (SZ.sz a.mons) (f_sz (SZ.sz a.mem) left))) < 0) := of_decide_eq_false h10
        refine wp_skip (nx_then (wp_seq (RG.start ?_)))
        have b13 := f_sz_cs (SZ.sz a.iobuf) (f_sz (SZ.sz a.buf) (f_sz (SZ.sz a.mons) (f_sz (SZ.sz a.mem) left)))
        refine S.q 5 [1] 0 ⟨[(1, .v (I (f_sz (SZ.sz a.iobuf) (f_sz (SZ.sz a.buf) (f_sz (SZ.sz a.mons) (f_sz (SZ.sz a.mem) left))))))], []⟩ (.cons (Q_call fun w hw => c_laws_szEntryS w a.iobuf pa.iobuf (rd_of (RHost.iobuf (d := a) (S.arg ha)) hw) (f_sz (SZ.sz a.buf) (f_sz (SZ.sz a.mons) (f_sz (SZ.sz a.mem) left))) (by omega) (by omega)) .nil) ?_; clear S; intro ac w β S
        refine RG.done rfl (nx_then (wp_seq (wp_seq (RG.start ?_))))
        refine S.q 2 [1, 28] 0 ⟨[(1, .v (I (f_sz (SZ.sz a.iobuf) (f_sz (SZ.sz a.buf) (f_sz (SZ.sz a.mons) (f_sz (SZ.sz a.mem) left)))))), (28, .v (B (decide ((f_sz (SZ.sz a.iobuf) (f_sz (SZ.sz a.buf) (f_sz (SZ.sz a.mons) (f_sz (SZ.sz a.mem) left)))) < 0))))], []⟩ .nil ?_; clear S; intro ac w β S
        refine RG.done rfl (nx_then ?_)
        refine S.c (decide ((f_sz (SZ.sz a.iobuf) (f_sz (SZ.sz a.buf) (f_sz (SZ.sz a.mons) (f_sz (SZ.sz a.mem) left)))) < 0)) (fun h14 => ?_) (fun h14 => ?_)
        · have g15 : (f_sz (SZ.sz a.iobuf) (f_sz (SZ.sz a.buf) (f_sz (SZ.sz a.mons) (f_sz (SZ.sz a.mem) left)))) < 0 := of_decide_eq_true h14
          refine wp_seq (RG.start ?_)
          refine S.q 1 [4] 0 ⟨[(4, .v (I (-1)))], []⟩ .nil ?_; clear S; intro ac w β S
          refine RG.done rfl (nx_then (wp_ret (rt_then ?_)))
          refine S.r [I (-1)] ?_
          exact ⟨retI (by clear S; omega), S.chg⟩
        · have g16 : ¬ ((f_sz (SZ.sz a.iobuf) (f_sz (SZ.sz a.buf) (f_sz (SZ.sz a.mons) (f_sz (SZ.sz a.mem) left)))) < 0) := of_decide_eq_false h14
          refine wp_skip (nx_then (wp_seq (RG.start ?_)))
          refine S.q 2 [4] 0 ⟨[(4, .v (I (f_sz (SZ.sz a.iobuf) (f_sz (SZ.sz a.buf) (f_sz (SZ.sz a.mons) (f_sz (SZ.sz a.mem) left))))))], []⟩ .nil ?_; clear S; intro ac w β S
          refine RG.done rfl (nx_then (wp_ret ?_))
          refine S.r [I (f_sz (SZ.sz a.iobuf) (f_sz (SZ.sz a.buf) (f_sz (SZ.sz a.mons) (f_sz (SZ.sz a.mem) left))))] ?_
          exact ⟨retI (by clear S; omega), S.chg⟩

set_option maxRecDepth 100000 in
theorem c_laws_toIntS (w0 : World) (a : List Int) (pa : LP Int) (ha : GT.rd KK (Lt w0.heap.size) w0 a pa) : Calls Try.prog 47 [slv (a).length pa.1].toArray w0 (Ret1 NoB w0 (a : List Int)) := by
  refine Calls.walk (args := [slv (a).length pa.1]) NoB Try.func47 rfl rfl ?_
  intro ac β S
  have hlea : a.length ≤ 4194304 := LRd.le ha
  refine wp_seq (RG.start ?_)
  refine S.q 1 [0] 0 ⟨[(0, .v (slv (a).length pa.1))], []⟩ .nil ?_; clear S; intro ac w β S
  refine RG.done rfl (nx_then (wp_seq (RG.start ?_)))
  refine S.q 2 [0, 6] 0 ⟨[(0, .v (slv (a).length pa.1)), (6, .v (I ((a).length : Int)))], []⟩ .nil ?_; clear S; intro ac w β S
  refine RG.op rfl (S.make (α := Int) (m := (a).length) (by' := 8) (d := 7) (by kernel_rfl) (by omega) (show (a).length ≤ 4194304 by omega) ?_)
  clear S; intro ac w N q1 F2 S up o3 d4
  clear up d4
  refine S.q 1 [0, 3] 0 ⟨[(0, .v (slv (a).length pa.1)), (3, .v (slv ((a).length) q1.1))], []⟩ .nil ?_; clear S; intro ac w β S
  refine RG.done rfl (nx_then (wp_seq (wp_seq (RG.start ?_))))
  refine S.q 1 [0, 3, 4] 0 ⟨[(0, .v (slv (a).length pa.1)), (3, .v (slv ((a).length) q1.1)), (4, .v (I 0))], []⟩ .nil ?_; clear S; intro ac w β S
  refine RG.done rfl (nx_then (wp_block ?_))
  replace S := S.p [0, 3, 4] 0 ⟨[(0, .v (slv (a).length pa.1)), (3, .v (slv ((a).length) q1.1)), (4, .v (I 0))], []⟩
  refine wp_loop_down (fun mm ac w => ∃ (k : Nat) (acc : List (Int)) (q5 : GT.Ptr (List Int)) (F6 : Bl) (u : World) (N : Bl) (β : Nat → Nat), mm = a.length - k ∧ (k ≤ a.length) ∧ (acc = a.take k ++ List.replicate (a.length - k) (GT.dflt : Int)) ∧ St Try.prog Try.f47.ntmps w0 NoB u N β ⟨[(0, .v (slv (a).length pa.1)), (3, .v (slv a.length q5.1)), (4, .v (I (k : Int)))], []⟩ ac w ∧ Ow w0 NoB u N F6 acc q5) _ ⟨0, (List.replicate ((a).length) (GT.dflt : Int)), q1, F2, _, _, _, rfl, (by first | omega | (simp; done) | (simp; omega)), (by simp), S.cast (by kernel_rfl), o3⟩ ?_
  clear S o3
  rintro mm ac w ⟨k, acc, q5, F6, u, N, β, rfl, hk, hacc, S, o7⟩
  have hlacc : acc.length = a.length := by rw [hacc]; simp; omega
  refine wp_seq (wp_seq (RG.start ?_))
  refine S.q 4 [0, 3, 4, 11] 0 ⟨[(0, .v (slv (a).length pa.1)), (3, .v (slv a.length q5.1)), (4, .v (I (k : Int))), (11, .v (B (decide ((k : Int) < ((a).length : Int)))))], []⟩ .nil ?_; clear S; intro ac w β S
  refine RG.done rfl (nx_then ?_)
  refine S.c (decide ((k : Int) < ((a).length : Int))) (fun h8 => ?_) (fun h8 => ?_)
  · have g9 : (k : Int) < ((a).length : Int) := of_decide_eq_true h8
    refine wp_skip (nx_then (wp_seq (wp_block (RG.start ?_))))
    refine S.q 7 [0, 3, 4, 19, 20] 0 ⟨[(0, .v (slv (a).length pa.1)), (3, .v (slv a.length q5.1)), (4, .v (I (k : Int))), (19, .v (I (el a k))), (20, .v (pt q5.1.b (q5.1.off + k * 1)))], []⟩ (.cons (Q_idx (S.arg ha) (l := (a).length) (k := k) (i := (k : Int)) rfl rfl (by omega) Try.underlying30 (by kernel_rfl)) (.cons (Q_el1 (S.arg ha) (t := 3) (k := k) (by omega) rfl (by kernel_rfl)) (.cons (Q_idx o7.rn (l := a.length) (k := k) (i := (k : Int)) (by rw [hacc]; simp; omega) rfl (by omega) Try.underlying30 (by kernel_rfl)) .nil))) ?_; clear S; intro ac w β S
    refine RG.op rfl (S.setEl (α := Int) o7 (t := 3) (v := I (el a k)) (k := k) (j := 0) (off := q5.1.off + k * 1) (y := (el a k)) (q := ()) (Fy := NoB) (by kernel_rfl) (by kernel_rfl) (by omega) (by kernel_rfl) (by kernel_rfl) (Nat.le_of_ble_eq_true (by kernel_rfl)) (by kernel_rfl) (fun _ _ _ => ⟨NoB, (LRd.el (S.arg ha) k (by omega)), fun _ h => False.elim h⟩) (fun b _ h => False.elim h) (fun b h => False.elim h) (fun b h => False.elim h) ?_)
    clear S; intro w N F11 q12 S up o10 d13 s14 n15
    clear up d13 o7 n15
    have l16 : (acc.set k (el a k)).length = (acc).length := List.length_set
    replace S := S.p [0, 3, 4] 0 ⟨[(0, .v (slv (a).length pa.1)), (3, .v (slv a.length q5.1)), (4, .v (I (k : Int)))], []⟩
    refine RG.done rfl (nx_block (nx_then (RG.start ?_)))
    refine S.q 3 [0, 3, 4] 0 ⟨[(0, .v (slv (a).length pa.1)), (3, .v (slv a.length q5.1)), (4, .v (I ((k : Int) + 1)))], []⟩ (.cons (Q_add (x := (k : Int)) (y := 1) ⟨by omega, by omega⟩) .nil) ?_; clear S; intro ac w β S
    refine RG.done rfl (nx_then ?_)
    replace S := S.p [0, 3, 4] 0 ⟨[(0, .v (slv (a).length pa.1)), (3, .v (slv a.length q5.1)), (4, .v (I ((k : Int) + 1)))], []⟩
    refine ⟨a.length - (k + 1), by omega, k + 1, (acc.set k (el a k)), (q5.1, q12), F11, _, _, _, rfl, ?_, ?_, S.cast (by kernel_rfl), o10⟩
    · clear S; first | omega | (simp [*]; done) | (simp [*]; omega)
    · clear S; rw [hacc]; exact set_step (by omega)
  · have g17 : ¬ ((k : Int) < ((a).length : Int)) := of_decide_eq_false h8
    refine wp_exit (ex_then (ex_then (ex_hit (nx_then (wp_seq (RG.start ?_))))))
    refine S.q 2 [2] 0 ⟨[(2, .v (slv a.length q5.1))], []⟩ .nil ?_; clear S; intro ac w β S
    refine RG.done rfl (nx_then (wp_ret ?_))
    refine S.r [slv a.length q5.1] ?_
    exact ret1_of S (show a = acc by clear S; rw [hacc, take_all (by omega), show a.length - k = 0 by omega]; simp) (by rw [show a.length = (acc).length from (by rw [hacc]; simp; omega)]; rfl) o7

set_option maxRecDepth 100000 in
theorem c_laws_toIntSS (w0 : World) (a : List (List Int)) (pa : LP (List Int)) (ha : GT.rd KK (Lt w0.heap.size) w0 a pa) : Calls Try.prog 41 [slv (a).length pa.1].toArray w0 (Ret1 NoB w0 (a : List (List Int))) := by
  refine Calls.walk (args := [slv (a).length pa.1]) NoB Try.func41 rfl rfl ?_
  intro ac β S
  have hlea : a.length ≤ 4194304 := LRd.le ha
  refine wp_seq (RG.start ?_)
  refine S.q 1 [0] 0 ⟨[(0, .v (slv (a).length pa.1))], []⟩ .nil ?_; clear S; intro ac w β S
  refine RG.done rfl (nx_then (wp_seq (RG.start ?_)))
  refine S.q 2 [0, 6] 0 ⟨[(0, .v (slv (a).length pa.1)), (6, .v (I ((a).length : Int)))], []⟩ .nil ?_; clear S; intro ac w β S
  refine RG.op rfl (S.make (α := List Int) (m := (a).length) (by' := 24) (d := 7) (by kernel_rfl) (by omega) (show (a).length ≤ 4194304 by omega) ?_)
  clear S; intro ac w N q1 F2 S up o3 d4
  clear up d4
  refine S.q 1 [0, 3] 0 ⟨[(0, .v (slv (a).length pa.1)), (3, .v (slv ((a).length) q1.1))], []⟩ .nil ?_; clear S; intro ac w β S
  refine RG.done rfl (nx_then (wp_seq (wp_seq (RG.start ?_))))
  refine S.q 1 [0, 3, 4] 0 ⟨[(0, .v (slv (a).length pa.1)), (3, .v (slv ((a).length) q1.1)), (4, .v (I 0))], []⟩ .nil ?_; clear S; intro ac w β S
  refine RG.done rfl (nx_then (wp_block ?_))
  replace S := S.p [0, 3, 4] 0 ⟨[(0, .v (slv (a).length pa.1)), (3, .v (slv ((a).length) q1.1)), (4, .v (I 0))], []⟩
  refine wp_loop_down (fun mm ac w => ∃ (k : Nat) (acc : List (List Int)) (q5 : GT.Ptr (List (List Int))) (F6 : Bl) (u : World) (N : Bl) (β : Nat → Nat), mm = a.length - k ∧ (k ≤ a.length) ∧ (acc = a.take k ++ List.replicate (a.length - k) (GT.dflt : List Int)) ∧ St Try.prog Try.f41.ntmps w0 NoB u N β ⟨[(0, .v (slv (a).length pa.1)), (3, .v (slv a.length q5.1)), (4, .v (I (k : Int)))], []⟩ ac w ∧ Ow w0 NoB u N F6 acc q5) _ ⟨0, (List.replicate ((a).length) (GT.dflt : List Int)), q1, F2, _, _, _, rfl, (by first | omega | (simp; done) | (simp; omega)), (by simp), S.cast (by kernel_rfl), o3⟩ ?_
  clear S o3
  rintro mm ac w ⟨k, acc, q5, F6, u, N, β, rfl, hk, hacc, S, o7⟩
  have hlacc : acc.length = a.length := by rw [hacc]; simp; omega
  refine wp_seq (wp_seq (RG.start ?_))
  refine S.q 4 [0, 3, 4, 11] 0 ⟨[(0, .v (slv (a).length pa.1)), (3, .v (slv a.length q5.1)), (4, .v (I (k : Int))), (11, .v (B (decide ((k : Int) < ((a).length : Int)))))], []⟩ .nil ?_; clear S; intro ac w β S
  refine RG.done rfl (nx_then ?_)
  refine S.c (decide ((k : Int) < ((a).length : Int))) (fun h8 => ?_) (fun h8 => ?_)
  · have g9 : (k : Int) < ((a).length : Int) := of_decide_eq_true h8
    refine wp_skip (nx_then (wp_seq (wp_block (RG.start ?_))))
    refine S.q 6 [0, 3, 4, 14, 15, 19] 0 ⟨[(0, .v (slv (a).length pa.1)), (3, .v (slv a.length q5.1)), (4, .v (I (k : Int))), (14, .v (slv a.length q5.1)), (15, .v (I (k : Int))), (19, .v (slv ((el a k)).length (pa.2 k).1))], []⟩ (.cons (Q_idx (S.arg ha) (l := (a).length) (k := k) (i := (k : Int)) rfl rfl (by omega) Try.underlying22 (by kernel_rfl)) (.cons (Q_el1 (S.arg ha) (t := 30) (k := k) (by omega) rfl (by kernel_rfl)) .nil)) ?_; clear S; intro ac w β S
    refine RG.op rfl (S.call1 (r := (el a k)) (d := 20) (c_laws_toIntS w (el a k) (pa.2 k) (S.rd (LRd.el (S.arg ha) k (by omega)))) (by kernel_rfl) rfl ?_)
    clear S; intro ac w N q10 F11 S up o12 d13
    have d14 : Disj F6 F11 := fun b x y => d13 b (o7.sub b x) y
    replace o7 := o7.up up
    clear up d13
    refine S.q 1 [0, 3, 4, 20, 21] 0 ⟨[(0, .v (slv (a).length pa.1)), (3, .v (slv a.length q5.1)), (4, .v (I (k : Int))), (20, .v (slv ((el a k)).length q10.1)), (21, .v (pt q5.1.b (q5.1.off + k * 1)))], []⟩ (.cons (Q_idx o7.rn (l := a.length) (k := k) (i := (k : Int)) (by rw [hacc]; simp; omega) rfl (by omega) Try.underlying22 (by kernel_rfl)) .nil) ?_; clear S; intro ac w β S
    refine RG.op rfl (S.setEl (α := List Int) o7 (t := 30) (v := slv ((el a k)).length q10.1) (k := k) (j := 0) (off := q5.1.off + k * 1) (y := (el a k)) (q := q10) (Fy := F11) (by kernel_rfl) (by kernel_rfl) (by omega) (by kernel_rfl) (by kernel_rfl) (Nat.le_of_ble_eq_true (by kernel_rfl)) (by kernel_rfl) (fun _ _ _ => ⟨F11, o12.own, fun _ h => .inr h⟩) d14 o12.sub o12.young ?_)
    clear S; intro w N F16 q17 S up o15 d18 s19 n20
    clear up d18 o7 n20
    have l21 : (acc.set k (el a k)).length = (acc).length := List.length_set
    replace S := S.p [0, 3, 4] 0 ⟨[(0, .v (slv (a).length pa.1)), (3, .v (slv a.length q5.1)), (4, .v (I (k : Int)))], []⟩
    refine RG.done rfl (nx_block (nx_then (RG.start ?_)))
    refine S.q 3 [0, 3, 4] 0 ⟨[(0, .v (slv (a).length pa.1)), (3, .v (slv a.length q5.1)), (4, .v (I ((k : Int) + 1)))], []⟩ (.cons (Q_add (x := (k : Int)) (y := 1) ⟨by omega, by omega⟩) .nil) ?_; clear S; intro ac w β S
    refine RG.done rfl (nx_then ?_)
    replace S := S.p [0, 3, 4] 0 ⟨[(0, .v (slv (a).length pa.1)), (3, .v (slv a.length q5.1)), (4, .v (I ((k : Int) + 1)))], []⟩
    refine ⟨a.length - (k + 1), by omega, k + 1, (acc.set k (el a k)), (q5.1, q17), F16, _, _, _, rfl, ?_, ?_, S.cast (by kernel_rfl), o15⟩
    · clear S; first | omega | (simp [*]; done) | (simp [*]; omega)
    · clear S; rw [hacc]; exact set_step (by omega)
  · have g22 : ¬ ((k : Int) < ((a).length : Int)) := of_decide_eq_false h8
    refine wp_exit (ex_then (ex_then (ex_hit (nx_then (wp_seq (RG.start ?_))))))
    refine S.q 2 [2] 0 ⟨[(2, .v (slv a.length q5.1))], []⟩ .nil ?_; clear S; intro ac w β S
    refine RG.done rfl (nx_then (wp_ret ?_))
    refine S.r [slv a.length q5.1] ?_
    exact ret1_of S (show a = acc by clear S; rw [hacc, take_all (by omega), show a.length - k = 0 by omega]; simp) (by rw [show a.length = (acc).length from (by rw [hacc]; simp; omega)]; rfl) o7

set_option maxRecDepth 100000 in
theorem c_laws_toSlot (w0 : World) (a : TSlot) : Calls Try.prog 85 [GT.val a ()].toArray w0 (fun e w' => e = .returned (GT.val a ()) ∧ Chg NoB w0 w') := by
  refine Calls.walk (args := [GT.val a ()]) NoB Try.func85 rfl rfl ?_
  intro ac β S
  refine wp_seq (RG.start ?_)
  refine S.q 2 [1, 2] 2 ⟨[(1, .p 0 0), (2, .p 1 0)], [GT.cells a (), Zc TSlot]⟩ .nil ?_; clear S; intro ac w β S
  refine RG.done rfl (nx_then (wp_seq (RG.start ?_)))
  refine S.q 1 [1, 2, 3] 3 ⟨[(1, .p 0 0), (2, .p 1 0), (3, .p 2 0)], [GT.cells a (), Zc TSlot, Zc TSlot]⟩ .nil ?_; clear S; intro ac w β S
  refine RG.done rfl (nx_then (wp_seq (RG.start ?_)))
  refine S.q 4 [1, 2, 3] 3 ⟨[(1, .p 0 0), (2, .p 1 0), (3, .p 2 0)], [GT.cells a (), Zc TSlot, [I a.page, I 0]]⟩ .nil ?_; clear S; intro ac w β S
  refine RG.done rfl (nx_then (wp_seq (RG.start ?_)))
  refine S.q 4 [2, 3] 3 ⟨[(2, .p 1 0), (3, .p 2 0)], [GT.cells a (), Zc TSlot, [I a.page, I a.rights]]⟩ .nil ?_; clear S; intro ac w β S
  refine RG.done rfl (nx_then (wp_seq (RG.start ?_)))
  refine S.q 2 [2] 2 ⟨[(2, .p 1 0)], [GT.cells a (), [I a.page, I a.rights]]⟩ .nil ?_; clear S; intro ac w β S
  refine RG.done rfl (nx_then (wp_ret ?_))
  refine S.r [GT.val (⟨a.page, a.rights⟩ : TSlot) ()] ?_
  exact ⟨retV (p := ()) (by clear S; first | rfl | (simp [a, *]; done) | (simp [a, *]; omega) | (simp_all [a]; done) | (simp_all [a]; omega)), S.chg⟩

set_option maxRecDepth 100000 in
theorem c_laws_toSlotS (w0 : World) (a : List TSlot) (pa : LP TSlot) (ha : GT.rd KK (Lt w0.heap.size) w0 a pa) : Calls Try.prog 44 [slv (a).length pa.1].toArray w0 (Ret1 NoB w0 (a : List TSlot)) := by
  refine Calls.walk (args := [slv (a).length pa.1]) NoB Try.func44 rfl rfl ?_
  intro ac β S
  have hlea : a.length ≤ 4194304 := LRd.le ha
  refine wp_seq (RG.start ?_)
  refine S.q 1 [0] 0 ⟨[(0, .v (slv (a).length pa.1))], []⟩ .nil ?_; clear S; intro ac w β S
  refine RG.done rfl (nx_then (wp_seq (RG.start ?_)))
  refine S.q 2 [0, 6] 0 ⟨[(0, .v (slv (a).length pa.1)), (6, .v (I ((a).length : Int)))], []⟩ .nil ?_; clear S; intro ac w β S
  refine RG.op rfl (S.make (α := TSlot) (m := (a).length) (by' := 16) (d := 7) (by kernel_rfl) (by omega) (show (a).length ≤ 4194304 by omega) ?_)
  clear S; intro ac w N q1 F2 S up o3 d4
  clear up d4
  refine S.q 1 [0, 3] 0 ⟨[(0, .v (slv (a).length pa.1)), (3, .v (slv ((a).length) q1.1))], []⟩ .nil ?_; clear S; intro ac w β S
  refine RG.done rfl (nx_then (wp_seq (wp_seq (RG.start ?_))))
  refine S.q 1 [0, 3, 4] 0 ⟨[(0, .v (slv (a).length pa.1)), (3, .v (slv ((a).length) q1.1)), (4, .v (I 0))], []⟩ .nil ?_; clear S; intro ac w β S
  refine RG.done rfl (nx_then (wp_block ?_))
  replace S := S.p [0, 3, 4] 0 ⟨[(0, .v (slv (a).length pa.1)), (3, .v (slv ((a).length) q1.1)), (4, .v (I 0))], []⟩
  refine wp_loop_down (fun mm ac w => ∃ (k : Nat) (acc : List (TSlot)) (q5 : GT.Ptr (List TSlot)) (F6 : Bl) (u : World) (N : Bl) (β : Nat → Nat), mm = a.length - k ∧ (k ≤ a.length) ∧ (acc = a.take k ++ List.replicate (a.length - k) (GT.dflt : TSlot)) ∧ St Try.prog Try.f44.ntmps w0 NoB u N β ⟨[(0, .v (slv (a).length pa.1)), (3, .v (slv a.length q5.1)), (4, .v (I (k : Int)))], []⟩ ac w ∧ Ow w0 NoB u N F6 acc q5) _ ⟨0, (List.replicate ((a).length) (GT.dflt : TSlot)), q1, F2, _, _, _, rfl, (by first | omega | (simp; done) | (simp; omega)), (by simp), S.cast (by kernel_rfl), o3⟩ ?_
  clear S o3
  rintro mm ac w ⟨k, acc, q5, F6, u, N, β, rfl, hk, hacc, S, o7⟩
  have hlacc : acc.length = a.length := by rw [hacc]; simp; omega
  refine wp_seq (wp_seq (RG.start ?_))
  refine S.q 4 [0, 3, 4, 11] 0 ⟨[(0, .v (slv (a).length pa.1)), (3, .v (slv a.length q5.1)), (4, .v (I (k : Int))), (11, .v (B (decide ((k : Int) < ((a).length : Int)))))], []⟩ .nil ?_; clear S; intro ac w β S
  refine RG.done rfl (nx_then ?_)
  refine S.c (decide ((k : Int) < ((a).length : Int))) (fun h8 => ?_) (fun h8 => ?_)
  · have g9 : (k : Int) < ((a).length : Int) := of_decide_eq_true h8
    refine wp_skip (nx_then (wp_seq (wp_block (RG.start ?_))))
    refine S.q 8 [0, 3, 4, 20, 21] 0 ⟨[(0, .v (slv (a).length pa.1)), (3, .v (slv a.length q5.1)), (4, .v (I (k : Int))), (20, .v (GT.val ((el a k)) ())), (21, .v (pt q5.1.b (q5.1.off + k * 2)))], []⟩ (.cons (Q_idx (S.arg ha) (l := (a).length) (k := k) (i := (k : Int)) rfl rfl (by omega) Try.underlying27 (by kernel_rfl)) (.cons (Q_el (S.arg ha) (t := 122) (k := k) (by omega) rfl (by kernel_rfl) (by kernel_rfl)) (.cons (Q_call fun w hw => c_laws_toSlot w (el a k)) (.cons (Q_idx o7.rn (l := a.length) (k := k) (i := (k : Int)) (by rw [hacc]; simp; omega) rfl (by omega) Try.underlying42 (by kernel_rfl)) .nil)))) ?_; clear S; intro ac w β S
    have e10 : RSlot (el acc k) := (LRd.el o7.rn k (by omega))
    refine RG.op rfl (S.setEl (α := TSlot) o7 (t := 120) (v := GT.val ((el a k)) ()) (k := k) (j := 0) (off := q5.1.off + k * 2) (y := ((el a k))) (q := ()) (Fy := NoB) (by kernel_rfl) (by kernel_rfl) (by omega) (by kernel_rfl) (by kernel_rfl) (Nat.le_of_ble_eq_true (by kernel_rfl)) (by kernel_rfl) (fun _ _ _ => ⟨NoB, ((LRd.el (S.arg ha) k (by omega))), fun _ h => False.elim h⟩) (fun b _ h => False.elim h) (fun b h => False.elim h) (fun b h => False.elim h) ?_)
    clear S; intro w N F12 q13 S up o11 d14 s15 n16
    clear up d14 o7 n16
    have l17 : (acc.set k ((el a k))).length = (acc).length := List.length_set
    replace S := S.p [0, 3, 4] 0 ⟨[(0, .v (slv (a).length pa.1)), (3, .v (slv a.length q5.1)), (4, .v (I (k : Int)))], []⟩
    refine RG.done rfl (nx_block (nx_then (RG.start ?_)))
    refine S.q 3 [0, 3, 4] 0 ⟨[(0, .v (slv (a).length pa.1)), (3, .v (slv a.length q5.1)), (4, .v (I ((k : Int) + 1)))], []⟩ (.cons (Q_add (x := (k : Int)) (y := 1) ⟨by omega, by omega⟩) .nil) ?_; clear S; intro ac w β S
    refine RG.done rfl (nx_then ?_)
    replace S := S.p [0, 3, 4] 0 ⟨[(0, .v (slv (a).length pa.1)), (3, .v (slv a.length q5.1)), (4, .v (I ((k : Int) + 1)))], []⟩
    refine ⟨a.length - (k + 1), by omega, k + 1, (acc.set k ((el a k))), (q5.1, q13), F12, _, _, _, rfl, ?_, ?_, S.cast (by kernel_rfl), o11⟩
    · clear S; first | omega | (simp [*]; done) | (simp [*]; omega)
    · clear S; rw [hacc]; exact set_step (by omega)
  · have g18 : ¬ ((k : Int) < ((a).length : Int)) := of_decide_eq_false h8
    refine wp_exit (ex_then (ex_then (ex_hit (nx_then (wp_seq (RG.start ?_))))))
    refine S.q 2 [2] 0 ⟨[(2, .v (slv a.length q5.1))], []⟩ .nil ?_; clear S; intro ac w β S
    refine RG.done rfl (nx_then (wp_ret ?_))
    refine S.r [slv a.length q5.1] ?_
    exact ret1_of S (show a = acc by clear S; rw [hacc, take_all (by omega), show a.length - k = 0 by omega]; simp) (by rw [show a.length = (acc).length from (by rw [hacc]; simp; omega)]; rfl) o7

set_option maxRecDepth 100000 in
theorem c_laws_toBoolS (w0 : World) (a : List Bool) (pa : LP Bool) (ha : GT.rd KK (Lt w0.heap.size) w0 a pa) : Calls Try.prog 45 [slv (a).length pa.1].toArray w0 (Ret1 NoB w0 (a : List Bool)) := by
  refine Calls.walk (args := [slv (a).length pa.1]) NoB Try.func45 rfl rfl ?_
  intro ac β S
  have hlea : a.length ≤ 4194304 := LRd.le ha
  refine wp_seq (RG.start ?_)
  refine S.q 1 [0] 0 ⟨[(0, .v (slv (a).length pa.1))], []⟩ .nil ?_; clear S; intro ac w β S
  refine RG.done rfl (nx_then (wp_seq (RG.start ?_)))
  refine S.q 2 [0, 6] 0 ⟨[(0, .v (slv (a).length pa.1)), (6, .v (I ((a).length : Int)))], []⟩ .nil ?_; clear S; intro ac w β S
  refine RG.op rfl (S.make (α := Bool) (m := (a).length) (by' := 1) (d := 7) (by kernel_rfl) (by omega) (show (a).length ≤ 4194304 by omega) ?_)
  clear S; intro ac w N q1 F2 S up o3 d4
  clear up d4
  refine S.q 1 [0, 3] 0 ⟨[(0, .v (slv (a).length pa.1)), (3, .v (slv ((a).length) q1.1))], []⟩ .nil ?_; clear S; intro ac w β S
  refine RG.done rfl (nx_then (wp_seq (wp_seq (RG.start ?_))))
  refine S.q 1 [0, 3, 4] 0 ⟨[(0, .v (slv (a).length pa.1)), (3, .v (slv ((a).length) q1.1)), (4, .v (I 0))], []⟩ .nil ?_; clear S; intro ac w β S
  refine RG.done rfl (nx_then (wp_block ?_))
  replace S := S.p [0, 3, 4] 0 ⟨[(0, .v (slv (a).length pa.1)), (3, .v (slv ((a).length) q1.1)), (4, .v (I 0))], []⟩
  refine wp_loop_down (fun mm ac w => ∃ (k : Nat) (acc : List (Bool)) (q5 : GT.Ptr (List Bool)) (F6 : Bl) (u : World) (N : Bl) (β : Nat → Nat), mm = a.length - k ∧ (k ≤ a.length) ∧ (acc = a.take k ++ List.replicate (a.length - k) (GT.dflt : Bool)) ∧ St Try.prog Try.f45.ntmps w0 NoB u N β ⟨[(0, .v (slv (a).length pa.1)), (3, .v (slv a.length q5.1)), (4, .v (I (k : Int)))], []⟩ ac w ∧ Ow w0 NoB u N F6 acc q5) _ ⟨0, (List.replicate ((a).length) (GT.dflt : Bool)), q1, F2, _, _, _, rfl, (by first | omega | (simp; done) | (simp; omega)), (by simp), S.cast (by kernel_rfl), o3⟩ ?_
  clear S o3
  rintro mm ac w ⟨k, acc, q5, F6, u, N, β, rfl, hk, hacc, S, o7⟩
  have hlacc : acc.length = a.length := by rw [hacc]; simp; omega
  refine wp_seq (wp_seq (RG.start ?_))
  refine S.q 4 [0, 3, 4, 11] 0 ⟨[(0, .v (slv (a).length pa.1)), (3, .v (slv a.length q5.1)), (4, .v (I (k : Int))), (11, .v (B (decide ((k : Int) < ((a).length : Int)))))], []⟩ .nil ?_; clear S; intro ac w β S
  refine RG.done rfl (nx_then ?_)
  refine S.c (decide ((k : Int) < ((a).length : Int))) (fun h8 => ?_) (fun h8 => ?_)
  · have g9 : (k : Int) < ((a).length : Int) := of_decide_eq_true h8
    refine wp_skip (nx_then (wp_seq (wp_block (RG.start ?_))))
    refine S.q 7 [0, 3, 4, 19, 20] 0 ⟨[(0, .v (slv (a).length pa.1)), (3, .v (slv a.length q5.1)), (4, .v (I (k : Int))), (19, .v (B (el a k))), (20, .v (pt q5.1.b (q5.1.off + k * 1)))], []⟩ (.cons (Q_idx (S.arg ha) (l := (a).length) (k := k) (i := (k : Int)) rfl rfl (by omega) Try.underlying28 (by kernel_rfl)) (.cons (Q_el1 (S.arg ha) (t := 4) (k := k) (by omega) rfl (by kernel_rfl)) (.cons (Q_idx o7.rn (l := a.length) (k := k) (i := (k : Int)) (by rw [hacc]; simp; omega) rfl (by omega) Try.underlying28 (by kernel_rfl)) .nil))) ?_; clear S; intro ac w β S
    refine RG.op rfl (S.setEl (α := Bool) o7 (t := 4) (v := B (el a k)) (k := k) (j := 0) (off := q5.1.off + k * 1) (y := (el a k)) (q := ()) (Fy := NoB) (by kernel_rfl) (by kernel_rfl) (by omega) (by kernel_rfl) (by kernel_rfl) (Nat.le_of_ble_eq_true (by kernel_rfl)) (by kernel_rfl) (fun _ _ _ => ⟨NoB, trivial, fun _ h => False.elim h⟩) (fun b _ h => False.elim h) (fun b h => False.elim h) (fun b h => False.elim h) ?_)
    clear S; intro w N F11 q12 S up o10 d13 s14 n15
    clear up d13 o7 n15
    have l16 : (acc.set k (el a k)).length = (acc).length := List.length_set
    replace S := S.p [0, 3, 4] 0 ⟨[(0, .v (slv (a).length pa.1)), (3, .v (slv a.length q5.1)), (4, .v (I (k : Int)))], []⟩
    refine RG.done rfl (nx_block (nx_then (RG.start ?_)))
    refine S.q 3 [0, 3, 4] 0 ⟨[(0, .v (slv (a).length pa.1)), (3, .v (slv a.length q5.1)), (4, .v (I ((k : Int) + 1)))], []⟩ (.cons (Q_add (x := (k : Int)) (y := 1) ⟨by omega, by omega⟩) .nil) ?_; clear S; intro ac w β S
    refine RG.done rfl (nx_then ?_)
    replace S := S.p [0, 3, 4] 0 ⟨[(0, .v (slv (a).length pa.1)), (3, .v (slv a.length q5.1)), (4, .v (I ((k : Int) + 1)))], []⟩
    refine ⟨a.length - (k + 1), by omega, k + 1, (acc.set k (el a k)), (q5.1, q12), F11, _, _, _, rfl, ?_, ?_, S.cast (by kernel_rfl), o10⟩
    · clear S; first | omega | (simp [*]; done) | (simp [*]; omega)
    · clear S; rw [hacc]; exact set_step (by omega)
  · have g17 : ¬ ((k : Int) < ((a).length : Int)) := of_decide_eq_false h8
    refine wp_exit (ex_then (ex_then (ex_hit (nx_then (wp_seq (RG.start ?_))))))
    refine S.q 2 [2] 0 ⟨[(2, .v (slv a.length q5.1))], []⟩ .nil ?_; clear S; intro ac w β S
    refine RG.done rfl (nx_then (wp_ret ?_))
    refine S.r [slv a.length q5.1] ?_
    exact ret1_of S (show a = acc by clear S; rw [hacc, take_all (by omega), show a.length - k = 0 by omega]; simp) (by rw [show a.length = (acc).length from (by rw [hacc]; simp; omega)]; rfl) o7

set_option maxRecDepth 100000 in
theorem c_laws_toIns (w0 : World) (a : TIns) : Calls Try.prog 120 [GT.val a ()].toArray w0 (fun e w' => e = .returned (GT.val a ()) ∧ Chg NoB w0 w') := by
  refine Calls.walk (args := [GT.val a ()]) NoB Try.func120 rfl rfl ?_
  intro ac β S
  refine wp_seq (RG.start ?_)
  refine S.q 2 [1, 2] 2 ⟨[(1, .p 0 0), (2, .p 1 0)], [GT.cells a (), Zc TIns]⟩ .nil ?_; clear S; intro ac w β S
  refine RG.done rfl (nx_then (wp_seq (RG.start ?_)))
  refine S.q 1 [1, 2, 3] 3 ⟨[(1, .p 0 0), (2, .p 1 0), (3, .p 2 0)], [GT.cells a (), Zc TIns, Zc TIns]⟩ .nil ?_; clear S; intro ac w β S
  refine RG.done rfl (nx_then (wp_seq (RG.start ?_)))
  refine S.q 4 [1, 2, 3] 3 ⟨[(1, .p 0 0), (2, .p 1 0), (3, .p 2 0)], [GT.cells a (), Zc TIns, [I a.opc, I 0]]⟩ .nil ?_; clear S; intro ac w β S
  refine RG.done rfl (nx_then (wp_seq (RG.start ?_)))
  refine S.q 4 [2, 3] 3 ⟨[(2, .p 1 0), (3, .p 2 0)], [GT.cells a (), Zc TIns, [I a.opc, I a.x]]⟩ .nil ?_; clear S; intro ac w β S
  refine RG.done rfl (nx_then (wp_seq (RG.start ?_)))
  refine S.q 2 [2] 2 ⟨[(2, .p 1 0)], [GT.cells a (), [I a.opc, I a.x]]⟩ .nil ?_; clear S; intro ac w β S
  refine RG.done rfl (nx_then (wp_ret ?_))
  refine S.r [GT.val (⟨a.opc, a.x⟩ : TIns) ()] ?_
  exact ⟨retV (p := ()) (by clear S; first | rfl | (simp [a, *]; done) | (simp [a, *]; omega) | (simp_all [a]; done) | (simp_all [a]; omega)), S.chg⟩

set_option maxRecDepth 100000 in
theorem c_laws_toInsS (w0 : World) (a : List TIns) (pa : LP TIns) (ha : GT.rd KK (Lt w0.heap.size) w0 a pa) : Calls Try.prog 110 [slv (a).length pa.1].toArray w0 (Ret1 NoB w0 (a : List TIns)) := by
  refine Calls.walk (args := [slv (a).length pa.1]) NoB Try.func110 rfl rfl ?_
  intro ac β S
  have hlea : a.length ≤ 4194304 := LRd.le ha
  refine wp_seq (RG.start ?_)
  refine S.q 1 [0] 0 ⟨[(0, .v (slv (a).length pa.1))], []⟩ .nil ?_; clear S; intro ac w β S
  refine RG.done rfl (nx_then (wp_seq (RG.start ?_)))
  refine S.q 2 [0, 6] 0 ⟨[(0, .v (slv (a).length pa.1)), (6, .v (I ((a).length : Int)))], []⟩ .nil ?_; clear S; intro ac w β S
  refine RG.op rfl (S.make (α := TIns) (m := (a).length) (by' := 16) (d := 7) (by kernel_rfl) (by omega) (show (a).length ≤ 4194304 by omega) ?_)
  clear S; intro ac w N q1 F2 S up o3 d4
  clear up d4
  refine S.q 1 [0, 3] 0 ⟨[(0, .v (slv (a).length pa.1)), (3, .v (slv ((a).length) q1.1))], []⟩ .nil ?_; clear S; intro ac w β S
  refine RG.done rfl (nx_then (wp_seq (wp_seq (RG.start ?_))))
  refine S.q 1 [0, 3, 4] 0 ⟨[(0, .v (slv (a).length pa.1)), (3, .v (slv ((a).length) q1.1)), (4, .v (I 0))], []⟩ .nil ?_; clear S; intro ac w β S
  refine RG.done rfl (nx_then (wp_block ?_))
  replace S := S.p [0, 3, 4] 0 ⟨[(0, .v (slv (a).length pa.1)), (3, .v (slv ((a).length) q1.1)), (4, .v (I 0))], []⟩
  refine wp_loop_down (fun mm ac w => ∃ (k : Nat) (acc : List (TIns)) (q5 : GT.Ptr (List TIns)) (F6 : Bl) (u : World) (N : Bl) (β : Nat → Nat), mm = a.length - k ∧ (k ≤ a.length) ∧ (acc = a.take k ++ List.replicate (a.length - k) (GT.dflt : TIns)) ∧ St Try.prog Try.f110.ntmps w0 NoB u N β ⟨[(0, .v (slv (a).length pa.1)), (3, .v (slv a.length q5.1)), (4, .v (I (k : Int)))], []⟩ ac w ∧ Ow w0 NoB u N F6 acc q5) _ ⟨0, (List.replicate ((a).length) (GT.dflt : TIns)), q1, F2, _, _, _, rfl, (by first | omega | (simp; done) | (simp; omega)), (by simp), S.cast (by kernel_rfl), o3⟩ ?_
  clear S o3
  rintro mm ac w ⟨k, acc, q5, F6, u, N, β, rfl, hk, hacc, S, o7⟩
  have hlacc : acc.length = a.length := by rw [hacc]; simp; omega
  refine wp_seq (wp_seq (RG.start ?_))
  refine S.q 4 [0, 3, 4, 11] 0 ⟨[(0, .v (slv (a).length pa.1)), (3, .v (slv a.length q5.1)), (4, .v (I (k : Int))), (11, .v (B (decide ((k : Int) < ((a).length : Int)))))], []⟩ .nil ?_; clear S; intro ac w β S
  refine RG.done rfl (nx_then ?_)
  refine S.c (decide ((k : Int) < ((a).length : Int))) (fun h8 => ?_) (fun h8 => ?_)
  · have g9 : (k : Int) < ((a).length : Int) := of_decide_eq_true h8
    refine wp_skip (nx_then (wp_seq (wp_block (RG.start ?_))))
    refine S.q 8 [0, 3, 4, 20, 21] 0 ⟨[(0, .v (slv (a).length pa.1)), (3, .v (slv a.length q5.1)), (4, .v (I (k : Int))), (20, .v (GT.val ((el a k)) ())), (21, .v (pt q5.1.b (q5.1.off + k * 2)))], []⟩ (.cons (Q_idx (S.arg ha) (l := (a).length) (k := k) (i := (k : Int)) rfl rfl (by omega) Try.underlying104 (by kernel_rfl)) (.cons (Q_el (S.arg ha) (t := 152) (k := k) (by omega) rfl (by kernel_rfl) (by kernel_rfl)) (.cons (Q_call fun w hw => c_laws_toIns w (el a k)) (.cons (Q_idx o7.rn (l := a.length) (k := k) (i := (k : Int)) (by rw [hacc]; simp; omega) rfl (by omega) Try.underlying123 (by kernel_rfl)) .nil)))) ?_; clear S; intro ac w β S
    have e10 : RIns (el acc k) := (LRd.el o7.rn k (by omega))
    refine RG.op rfl (S.setEl (α := TIns) o7 (t := 148) (v := GT.val ((el a k)) ()) (k := k) (j := 0) (off := q5.1.off + k * 2) (y := ((el a k))) (q := ()) (Fy := NoB) (by kernel_rfl) (by kernel_rfl) (by omega) (by kernel_rfl) (by kernel_rfl) (Nat.le_of_ble_eq_true (by kernel_rfl)) (by kernel_rfl) (fun _ _ _ => ⟨NoB, ((LRd.el (S.arg ha) k (by omega))), fun _ h => False.elim h⟩) (fun b _ h => False.elim h) (fun b h => False.elim h) (fun b h => False.elim h) ?_)
    clear S; intro w N F12 q13 S up o11 d14 s15 n16
    clear up d14 o7 n16
    have l17 : (acc.set k ((el a k))).length = (acc).length := List.length_set
    replace S := S.p [0, 3, 4] 0 ⟨[(0, .v (slv (a).length pa.1)), (3, .v (slv a.length q5.1)), (4, .v (I (k : Int)))], []⟩
    refine RG.done rfl (nx_block (nx_then (RG.start ?_)))
    refine S.q 3 [0, 3, 4] 0 ⟨[(0, .v (slv (a).length pa.1)), (3, .v (slv a.length q5.1)), (4, .v (I ((k : Int) + 1)))], []⟩ (.cons (Q_add (x := (k : Int)) (y := 1) ⟨by omega, by omega⟩) .nil) ?_; clear S; intro ac w β S
    refine RG.done rfl (nx_then ?_)
    replace S := S.p [0, 3, 4] 0 ⟨[(0, .v (slv (a).length pa.1)), (3, .v (slv a.length q5.1)), (4, .v (I ((k : Int) + 1)))], []⟩
    refine ⟨a.length - (k + 1), by omega, k + 1, (acc.set k ((el a k))), (q5.1, q13), F12, _, _, _, rfl, ?_, ?_, S.cast (by kernel_rfl), o11⟩
    · clear S; first | omega | (simp [*]; done) | (simp [*]; omega)
    · clear S; rw [hacc]; exact set_step (by omega)
  · have g18 : ¬ ((k : Int) < ((a).length : Int)) := of_decide_eq_false h8
    refine wp_exit (ex_then (ex_then (ex_hit (nx_then (wp_seq (RG.start ?_))))))
    refine S.q 2 [2] 0 ⟨[(2, .v (slv a.length q5.1))], []⟩ .nil ?_; clear S; intro ac w β S
    refine RG.done rfl (nx_then (wp_ret ?_))
    refine S.r [slv a.length q5.1] ?_
    exact ret1_of S (show a = acc by clear S; rw [hacc, take_all (by omega), show a.length - k = 0 by omega]; simp) (by rw [show a.length = (acc).length from (by rw [hacc]; simp; omega)]; rfl) o7

set_option maxRecDepth 100000 in
theorem c_laws_toCtl (w0 : World) (a : TCtl) : Calls Try.prog 111 [GT.val a ()].toArray w0 (fun e w' => e = .returned (GT.val a ()) ∧ Chg NoB w0 w') := by
  refine Calls.walk (args := [GT.val a ()]) NoB Try.func111 rfl rfl ?_
  intro ac β S
  refine wp_seq (RG.start ?_)
  refine S.q 2 [1, 2] 2 ⟨[(1, .p 0 0), (2, .p 1 0)], [GT.cells a (), Zc TCtl]⟩ .nil ?_; clear S; intro ac w β S
  refine RG.done rfl (nx_then (wp_seq (RG.start ?_)))
  refine S.q 1 [1, 2, 3] 3 ⟨[(1, .p 0 0), (2, .p 1 0), (3, .p 2 0)], [GT.cells a (), Zc TCtl, Zc TCtl]⟩ .nil ?_; clear S; intro ac w β S
  refine RG.done rfl (nx_then (wp_seq (RG.start ?_)))
  refine S.q 4 [1, 2, 3] 3 ⟨[(1, .p 0 0), (2, .p 1 0), (3, .p 2 0)], [GT.cells a (), Zc TCtl, [I a.traps, I 0, B false]]⟩ .nil ?_; clear S; intro ac w β S
  refine RG.done rfl (nx_then (wp_seq (RG.start ?_)))
  refine S.q 4 [1, 2, 3] 3 ⟨[(1, .p 0 0), (2, .p 1 0), (3, .p 2 0)], [GT.cells a (), Zc TCtl, [I a.traps, I a.post, B false]]⟩ .nil ?_; clear S; intro ac w β S
  refine RG.done rfl (nx_then (wp_seq (RG.start ?_)))
  refine S.q 4 [2, 3] 3 ⟨[(2, .p 1 0), (3, .p 2 0)], [GT.cells a (), Zc TCtl, [I a.traps, I a.post, B a.opn]]⟩ .nil ?_; clear S; intro ac w β S
  refine RG.done rfl (nx_then (wp_seq (RG.start ?_)))
  refine S.q 2 [2] 2 ⟨[(2, .p 1 0)], [GT.cells a (), [I a.traps, I a.post, B a.opn]]⟩ .nil ?_; clear S; intro ac w β S
  refine RG.done rfl (nx_then (wp_ret ?_))
  refine S.r [GT.val (⟨a.traps, a.post, a.opn⟩ : TCtl) ()] ?_
  exact ⟨retV (p := ()) (by clear S; first | rfl | (simp [a, *]; done) | (simp [a, *]; omega) | (simp_all [a]; done) | (simp_all [a]; omega)), S.chg⟩

set_option maxRecDepth 100000 in
theorem c_laws_toExit (w0 : World) (a : TExit) : Calls Try.prog 112 [GT.val a ()].toArray w0 (fun e w' => e = .returned (GT.val a ()) ∧ Chg NoB w0 w') := by
  refine Calls.walk (args := [GT.val a ()]) NoB Try.func112 rfl rfl ?_
  intro ac β S
  refine wp_seq (RG.start ?_)
  refine S.q 2 [1, 2] 2 ⟨[(1, .p 0 0), (2, .p 1 0)], [GT.cells a (), Zc TExit]⟩ .nil ?_; clear S; intro ac w β S
  refine RG.done rfl (nx_then (wp_seq (RG.start ?_)))
  refine S.q 1 [1, 2, 3] 3 ⟨[(1, .p 0 0), (2, .p 1 0), (3, .p 2 0)], [GT.cells a (), Zc TExit, Zc TExit]⟩ .nil ?_; clear S; intro ac w β S
  refine RG.done rfl (nx_then (wp_seq (RG.start ?_)))
  refine S.q 4 [1, 2, 3] 3 ⟨[(1, .p 0 0), (2, .p 1 0), (3, .p 2 0)], [GT.cells a (), Zc TExit, [I a.kind, I 0, B false, I 0]]⟩ .nil ?_; clear S; intro ac w β S
  refine RG.done rfl (nx_then (wp_seq (RG.start ?_)))
  refine S.q 4 [1, 2, 3] 3 ⟨[(1, .p 0 0), (2, .p 1 0), (3, .p 2 0)], [GT.cells a (), Zc TExit, [I a.kind, I a.page, B false, I 0]]⟩ .nil ?_; clear S; intro ac w β S
  refine RG.done rfl (nx_then (wp_seq (RG.start ?_)))
  refine S.q 4 [1, 2, 3] 3 ⟨[(1, .p 0 0), (2, .p 1 0), (3, .p 2 0)], [GT.cells a (), Zc TExit, [I a.kind, I a.page, B a.wr, I 0]]⟩ .nil ?_; clear S; intro ac w β S
  refine RG.done rfl (nx_then (wp_seq (RG.start ?_)))
  refine S.q 4 [2, 3] 3 ⟨[(2, .p 1 0), (3, .p 2 0)], [GT.cells a (), Zc TExit, [I a.kind, I a.page, B a.wr, I a.n]]⟩ .nil ?_; clear S; intro ac w β S
  refine RG.done rfl (nx_then (wp_seq (RG.start ?_)))
  refine S.q 2 [2] 2 ⟨[(2, .p 1 0)], [GT.cells a (), [I a.kind, I a.page, B a.wr, I a.n]]⟩ .nil ?_; clear S; intro ac w β S
  refine RG.done rfl (nx_then (wp_ret ?_))
  refine S.r [GT.val (⟨a.kind, a.page, a.wr, a.n⟩ : TExit) ()] ?_
  exact ⟨retV (p := ()) (by clear S; first | rfl | (simp [a, *]; done) | (simp [a, *]; omega) | (simp_all [a]; done) | (simp_all [a]; omega)), S.chg⟩

set_option maxRecDepth 100000 in
theorem c_laws_toGuest (w0 : World) (a : TGuest) (pa : PGuest) (ha : GT.rd KK (Lt w0.heap.size) w0 a pa) : Calls Try.prog 86 [GT.val a pa].toArray w0 (Ret1 NoB w0 (a : TGuest)) := by
  refine Calls.walk (args := [GT.val a pa]) NoB Try.func86 rfl rfl ?_
  intro ac β S
  have hlea_prog : a.prog.length ≤ 4194304 := LRd.le (RGuest.prog (d := a) ha)
  have hlea_written : a.written.length ≤ 4194304 := LRd.le (RGuest.written (d := a) ha)
  have hlea_live : a.live.length ≤ 4194304 := LRd.le (RGuest.live (d := a) ha)
  have hlea_seen : a.seen.length ≤ 4194304 := LRd.le (RGuest.seen (d := a) ha)
  refine wp_seq (RG.start ?_)
  refine S.q 2 [1, 2] 2 ⟨[(1, .p 0 0), (2, .p 1 0)], [GT.cells a pa, Zc TGuest]⟩ .nil ?_; clear S; intro ac w β S
  refine RG.done rfl (nx_then (wp_seq (RG.start ?_)))
  refine S.q 1 [1, 2, 3] 3 ⟨[(1, .p 0 0), (2, .p 1 0), (3, .p 2 0)], [GT.cells a pa, Zc TGuest, Zc TGuest]⟩ .nil ?_; clear S; intro ac w β S
  refine RG.done rfl (nx_then (wp_seq (RG.start ?_)))
  refine S.q 2 [1, 2, 3, 5] 3 ⟨[(1, .p 0 0), (2, .p 1 0), (3, .p 2 0), (5, .v (slv (a.prog).length pa.prog.1))], [GT.cells a pa, Zc TGuest, Zc TGuest]⟩ .nil ?_; clear S; intro ac w β S
  refine RG.op rfl (S.call1 (r := a.prog) (d := 6) (c_laws_toInsS w a.prog pa.prog (S.rd (RGuest.prog (d := a) (S.arg ha)))) (by kernel_rfl) rfl ?_)
  clear S; intro ac w N q1 F2 S up o3 d4
  clear up d4
  refine S.q 2 [1, 2, 3] 3 ⟨[(1, .p 0 0), (2, .p 1 0), (3, .p 2 0)], [GT.cells a pa, Zc TGuest, [slv (a.prog).length q1.1, I 0, I 0, slv (([] : List TSlot)).length (GT.pdflt (α := List TSlot)).1, slv (([] : List TSlot)).length (GT.pdflt (α := List TSlot)).1, I 0, I 0, B false, I 0, I 0, I 0, B false, I 0, B false, slv (([] : List Int)).length (GT.pdflt (α := List Int)).1]]⟩ .nil ?_; clear S; intro ac w β S
  refine RG.done rfl (nx_then (wp_seq (RG.start ?_)))
  refine S.q 4 [1, 2, 3] 3 ⟨[(1, .p 0 0), (2, .p 1 0), (3, .p 2 0)], [GT.cells a pa, Zc TGuest, [slv (a.prog).length q1.1, I a.acc, I 0, slv (([] : List TSlot)).length (GT.pdflt (α := List TSlot)).1, slv (([] : List TSlot)).length (GT.pdflt (α := List TSlot)).1, I 0, I 0, B false, I 0, I 0, I 0, B false, I 0, B false, slv (([] : List Int)).length (GT.pdflt (α := List Int)).1]]⟩ .nil ?_; clear S; intro ac w β S
  refine RG.done rfl (nx_then (wp_seq (RG.start ?_)))
  refine S.q 4 [1, 2, 3] 3 ⟨[(1, .p 0 0), (2, .p 1 0), (3, .p 2 0)], [GT.cells a pa, Zc TGuest, [slv (a.prog).length q1.1, I a.acc, I a.pc, slv (([] : List TSlot)).length (GT.pdflt (α := List TSlot)).1, slv (([] : List TSlot)).length (GT.pdflt (α := List TSlot)).1, I 0, I 0, B false, I 0, I 0, I 0, B false, I 0, B false, slv (([] : List Int)).length (GT.pdflt (α := List Int)).1]]⟩ .nil ?_; clear S; intro ac w β S
  refine RG.done rfl (nx_then (wp_seq (RG.start ?_)))
  refine S.q 2 [1, 2, 3, 15] 3 ⟨[(1, .p 0 0), (2, .p 1 0), (3, .p 2 0), (15, .v (slv (a.written).length pa.written.1))], [GT.cells a pa, Zc TGuest, [slv (a.prog).length q1.1, I a.acc, I a.pc, slv (([] : List TSlot)).length (GT.pdflt (α := List TSlot)).1, slv (([] : List TSlot)).length (GT.pdflt (α := List TSlot)).1, I 0, I 0, B false, I 0, I 0, I 0, B false, I 0, B false, slv (([] : List Int)).length (GT.pdflt (α := List Int)).1]]⟩ .nil ?_; clear S; intro ac w β S
  refine RG.op rfl (S.call1 (r := a.written) (d := 16) (c_laws_toSlotS w a.written pa.written (S.rd (RGuest.written (d := a) (S.arg ha)))) (by kernel_rfl) rfl ?_)
  clear S; intro ac w N q5 F6 S up o7 d8
  have d9 : Disj F2 F6 := fun b x y => d8 b (o3.sub b x) y
  replace o3 := o3.up up
  clear up d8
  refine S.q 2 [1, 2, 3] 3 ⟨[(1, .p 0 0), (2, .p 1 0), (3, .p 2 0)], [GT.cells a pa, Zc TGuest, [slv (a.prog).length q1.1, I a.acc, I a.pc, slv (a.written).length q5.1, slv (([] : List TSlot)).length (GT.pdflt (α := List TSlot)).1, I 0, I 0, B false, I 0, I 0, I 0, B false, I 0, B false, slv (([] : List Int)).length (GT.pdflt (α := List Int)).1]]⟩ .nil ?_; clear S; intro ac w β S
  refine RG.done rfl (nx_then (wp_seq (RG.start ?_)))
  refine S.q 2 [1, 2, 3, 19] 3 ⟨[(1, .p 0 0), (2, .p 1 0), (3, .p 2 0), (19, .v (slv (a.live).length pa.live.1))], [GT.cells a pa, Zc TGuest, [slv (a.prog).length q1.1, I a.acc, I a.pc, slv (a.written).length q5.1, slv (([] : List TSlot)).length (GT.pdflt (α := List TSlot)).1, I 0, I 0, B false, I 0, I 0, I 0, B false, I 0, B false, slv (([] : List Int)).length (GT.pdflt (α := List Int)).1]]⟩ .nil ?_; clear S; intro ac w β S
  refine RG.op rfl (S.call1 (r := a.live) (d := 20) (c_laws_toSlotS w a.live pa.live (S.rd (RGuest.live (d := a) (S.arg ha)))) (by kernel_rfl) rfl ?_)
  clear S; intro ac w N q10 F11 S up o12 d13
  have d14 : Disj F2 F11 := fun b x y => d13 b (o3.sub b x) y
  have d15 : Disj F6 F11 := fun b x y => d13 b (o7.sub b x) y
  replace o3 := o3.up up
  replace o7 := o7.up up
  clear up d13
  refine S.q 2 [1, 2, 3] 3 ⟨[(1, .p 0 0), (2, .p 1 0), (3, .p 2 0)], [GT.cells a pa, Zc TGuest, [slv (a.prog).length q1.1, I a.acc, I a.pc, slv (a.written).length q5.1, slv (a.live).length q10.1, I 0, I 0, B false, I 0, I 0, I 0, B false, I 0, B false, slv (([] : List Int)).length (GT.pdflt (α := List Int)).1]]⟩ .nil ?_; clear S; intro ac w β S
  refine RG.done rfl (nx_then (wp_seq (RG.start ?_)))
  refine S.q 5 [1, 2, 3] 3 ⟨[(1, .p 0 0), (2, .p 1 0), (3, .p 2 0)], [GT.cells a pa, Zc TGuest, [slv (a.prog).length q1.1, I a.acc, I a.pc, slv (a.written).length q5.1, slv (a.live).length q10.1, I a.ctl.traps, I a.ctl.post, B a.ctl.opn, I 0, I 0, I 0, B false, I 0, B false, slv (([] : List Int)).length (GT.pdflt (α := List Int)).1]]⟩ (.cons (Q_call fun w hw => c_laws_toCtl w a.ctl) .nil) ?_; clear S; intro ac w β S
  refine RG.done rfl (nx_then (wp_seq (RG.start ?_)))
  refine S.q 4 [1, 2, 3] 3 ⟨[(1, .p 0 0), (2, .p 1 0), (3, .p 2 0)], [GT.cells a pa, Zc TGuest, [slv (a.prog).length q1.1, I a.acc, I a.pc, slv (a.written).length q5.1, slv (a.live).length q10.1, I a.ctl.traps, I a.ctl.post, B a.ctl.opn, I a.pend, I 0, I 0, B false, I 0, B false, slv (([] : List Int)).length (GT.pdflt (α := List Int)).1]]⟩ .nil ?_; clear S; intro ac w β S
  refine RG.done rfl (nx_then (wp_seq (RG.start ?_)))
  refine S.q 5 [1, 2, 3] 3 ⟨[(1, .p 0 0), (2, .p 1 0), (3, .p 2 0)], [GT.cells a pa, Zc TGuest, [slv (a.prog).length q1.1, I a.acc, I a.pc, slv (a.written).length q5.1, slv (a.live).length q10.1, I a.ctl.traps, I a.ctl.post, B a.ctl.opn, I a.pend, I a.exit.kind, I a.exit.page, B a.exit.wr, I a.exit.n, B false, slv (([] : List Int)).length (GT.pdflt (α := List Int)).1]]⟩ (.cons (Q_call fun w hw => c_laws_toExit w a.exit) .nil) ?_; clear S; intro ac w β S
  refine RG.done rfl (nx_then (wp_seq (RG.start ?_)))
  refine S.q 4 [1, 2, 3] 3 ⟨[(1, .p 0 0), (2, .p 1 0), (3, .p 2 0)], [GT.cells a pa, Zc TGuest, [slv (a.prog).length q1.1, I a.acc, I a.pc, slv (a.written).length q5.1, slv (a.live).length q10.1, I a.ctl.traps, I a.ctl.post, B a.ctl.opn, I a.pend, I a.exit.kind, I a.exit.page, B a.exit.wr, I a.exit.n, B a.halted, slv (([] : List Int)).length (GT.pdflt (α := List Int)).1]]⟩ .nil ?_; clear S; intro ac w β S
  refine RG.done rfl (nx_then (wp_seq (RG.start ?_)))
  refine S.q 2 [2, 3, 37] 3 ⟨[(2, .p 1 0), (3, .p 2 0), (37, .v (slv (a.seen).length pa.seen.1))], [GT.cells a pa, Zc TGuest, [slv (a.prog).length q1.1, I a.acc, I a.pc, slv (a.written).length q5.1, slv (a.live).length q10.1, I a.ctl.traps, I a.ctl.post, B a.ctl.opn, I a.pend, I a.exit.kind, I a.exit.page, B a.exit.wr, I a.exit.n, B a.halted, slv (([] : List Int)).length (GT.pdflt (α := List Int)).1]]⟩ .nil ?_; clear S; intro ac w β S
  refine RG.op rfl (S.call1 (r := a.seen) (d := 38) (c_laws_toIntS w a.seen pa.seen (S.rd (RGuest.seen (d := a) (S.arg ha)))) (by kernel_rfl) rfl ?_)
  clear S; intro ac w N q16 F17 S up o18 d19
  have d20 : Disj F2 F17 := fun b x y => d19 b (o3.sub b x) y
  have d21 : Disj F6 F17 := fun b x y => d19 b (o7.sub b x) y
  have d22 : Disj F11 F17 := fun b x y => d19 b (o12.sub b x) y
  replace o3 := o3.up up
  replace o7 := o7.up up
  replace o12 := o12.up up
  clear up d19
  refine S.q 2 [2, 3] 3 ⟨[(2, .p 1 0), (3, .p 2 0)], [GT.cells a pa, Zc TGuest, [slv (a.prog).length q1.1, I a.acc, I a.pc, slv (a.written).length q5.1, slv (a.live).length q10.1, I a.ctl.traps, I a.ctl.post, B a.ctl.opn, I a.pend, I a.exit.kind, I a.exit.page, B a.exit.wr, I a.exit.n, B a.halted, slv (a.seen).length q16.1]]⟩ .nil ?_; clear S; intro ac w β S
  refine RG.done rfl (nx_then (wp_seq (RG.start ?_)))
  refine S.q 2 [2] 2 ⟨[(2, .p 1 0)], [GT.cells a pa, [slv (a.prog).length q1.1, I a.acc, I a.pc, slv (a.written).length q5.1, slv (a.live).length q10.1, I a.ctl.traps, I a.ctl.post, B a.ctl.opn, I a.pend, I a.exit.kind, I a.exit.page, B a.exit.wr, I a.exit.n, B a.halted, slv (a.seen).length q16.1]]⟩ .nil ?_; clear S; intro ac w β S
  refine RG.done rfl (nx_then (wp_ret ?_))
  refine S.r [GT.val (⟨a.prog, a.acc, a.pc, a.written, a.live, a.ctl, a.pend, a.exit, a.halted, a.seen⟩ : TGuest) (⟨q1, q5, q10, q16⟩ : PGuest)] ?_
  have o23 := ow_Guest (x := (⟨a.prog, a.acc, a.pc, a.written, a.live, a.ctl, a.pend, a.exit, a.halted, a.seen⟩ : TGuest)) (p := (⟨q1, q5, q10, q16⟩ : PGuest)) o3 o7 o12 o18 d9 d14 d20 d15 d21 d22 (RGuest.acc (d := a) (S.arg ha)) (RGuest.pc (d := a) (S.arg ha)) ((RGuest.ctl (d := a) (S.arg ha))) (RGuest.pend (d := a) (S.arg ha)) ((RGuest.exit (d := a) (S.arg ha)))
  exact ret1_of S (show a = (⟨a.prog, a.acc, a.pc, a.written, a.live, a.ctl, a.pend, a.exit, a.halted, a.seen⟩ : TGuest) by clear S; first | rfl | simp) rfl o23

set_option maxRecDepth 100000 in
theorem c_laws_toGuestS (w0 : World) (a : List TGuest) (pa : LP TGuest) (ha : GT.rd KK (Lt w0.heap.size) w0 a pa) : Calls Try.prog 46 [slv (a).length pa.1].toArray w0 (Ret1 NoB w0 (a : List TGuest)) := by
  refine Calls.walk (args := [slv (a).length pa.1]) NoB Try.func46 rfl rfl ?_
  intro ac β S
  have hlea : a.length ≤ 4194304 := LRd.le ha
  refine wp_seq (RG.start ?_)
  refine S.q 1 [0] 0 ⟨[(0, .v (slv (a).length pa.1))], []⟩ .nil ?_; clear S; intro ac w β S
  refine RG.done rfl (nx_then (wp_seq (RG.start ?_)))
  refine S.q 2 [0, 6] 0 ⟨[(0, .v (slv (a).length pa.1)), (6, .v (I ((a).length : Int)))], []⟩ .nil ?_; clear S; intro ac w β S
  refine RG.op rfl (S.make (α := TGuest) (m := (a).length) (by' := 184) (d := 7) (by kernel_rfl) (by omega) (show (a).length ≤ 4194304 by omega) ?_)
  clear S; intro ac w N q1 F2 S up o3 d4
  clear up d4
  refine S.q 1 [0, 3] 0 ⟨[(0, .v (slv (a).length pa.1)), (3, .v (slv ((a).length) q1.1))], []⟩ .nil ?_; clear S; intro ac w β S
  refine RG.done rfl (nx_then (wp_seq (wp_seq (RG.start ?_))))
  refine S.q 1 [0, 3, 4] 0 ⟨[(0, .v (slv (a).length pa.1)), (3, .v (slv ((a).length) q1.1)), (4, .v (I 0))], []⟩ .nil ?_; clear S; intro ac w β S
  refine RG.done rfl (nx_then (wp_block ?_))
  replace S := S.p [0, 3, 4] 0 ⟨[(0, .v (slv (a).length pa.1)), (3, .v (slv ((a).length) q1.1)), (4, .v (I 0))], []⟩
  refine wp_loop_down (fun mm ac w => ∃ (k : Nat) (acc : List (TGuest)) (q5 : GT.Ptr (List TGuest)) (F6 : Bl) (u : World) (N : Bl) (β : Nat → Nat), mm = a.length - k ∧ (k ≤ a.length) ∧ (acc = a.take k ++ List.replicate (a.length - k) (GT.dflt : TGuest)) ∧ St Try.prog Try.f46.ntmps w0 NoB u N β ⟨[(0, .v (slv (a).length pa.1)), (3, .v (slv a.length q5.1)), (4, .v (I (k : Int)))], []⟩ ac w ∧ Ow w0 NoB u N F6 acc q5) _ ⟨0, (List.replicate ((a).length) (GT.dflt : TGuest)), q1, F2, _, _, _, rfl, (by first | omega | (simp; done) | (simp; omega)), (by simp), S.cast (by kernel_rfl), o3⟩ ?_
  clear S o3
  rintro mm ac w ⟨k, acc, q5, F6, u, N, β, rfl, hk, hacc, S, o7⟩
  have hlacc : acc.length = a.length := by rw [hacc]; simp; omega
  refine wp_seq (wp_seq (RG.start ?_))
  refine S.q 4 [0, 3, 4, 11] 0 ⟨[(0, .v (slv (a).length pa.1)), (3, .v (slv a.length q5.1)), (4, .v (I (k : Int))), (11, .v (B (decide ((k : Int) < ((a).length : Int)))))], []⟩ .nil ?_; clear S; intro ac w β S
  refine RG.done rfl (nx_then ?_)
  refine S.c (decide ((k : Int) < ((a).length : Int))) (fun h8 => ?_) (fun h8 => ?_)
  · have g9 : (k : Int) < ((a).length : Int) := of_decide_eq_true h8
    refine wp_skip (nx_then (wp_seq (wp_block (RG.start ?_))))
    refine S.q 6 [0, 3, 4, 14, 15, 19] 0 ⟨[(0, .v (slv (a).length pa.1)), (3, .v (slv a.length q5.1)), (4, .v (I (k : Int))), (14, .v (slv a.length q5.1)), (15, .v (I (k : Int))), (19, .v (GT.val (el a k) (pa.2 k)))], []⟩ (.cons (Q_idx (S.arg ha) (l := (a).length) (k := k) (i := (k : Int)) rfl rfl (by omega) Try.underlying29 (by kernel_rfl)) (.cons (Q_el (S.arg ha) (t := 110) (k := k) (by omega) rfl (by kernel_rfl) (by kernel_rfl)) .nil)) ?_; clear S; intro ac w β S
    refine RG.op rfl (S.call1 (r := (el a k)) (d := 20) (c_laws_toGuest w (el a k) (pa.2 k) (S.rd (LRd.el (S.arg ha) k (by omega)))) (by kernel_rfl) rfl ?_)
    clear S; intro ac w N q10 F11 S up o12 d13
    have d14 : Disj F6 F11 := fun b x y => d13 b (o7.sub b x) y
    replace o7 := o7.up up
    clear up d13
    have i18 : In64 (el a k).acc := RGuest.acc (d := (el a k)) o12.rn
    have i19 : In64 (el a k).pc := RGuest.pc (d := (el a k)) o12.rn
    have i26 : RCtl (el a k).ctl := RGuest.ctl (d := (el a k)) o12.rn
    have i27 : In64 (el a k).pend := RGuest.pend (d := (el a k)) o12.rn
    have i28 : RExit (el a k).exit := RGuest.exit (d := (el a k)) o12.rn
    obtain ⟨F15, F20, F23, F29, o16, o21, o24, o30, s17, s22, s25, s31, d32, d33, d34, d35, d36, d37⟩ := sp_Guest o12
    refine S.q 1 [0, 3, 4, 20, 21] 0 ⟨[(0, .v (slv (a).length pa.1)), (3, .v (slv a.length q5.1)), (4, .v (I (k : Int))), (20, .v (GT.val (el a k) q10)), (21, .v (pt q5.1.b (q5.1.off + k * 15)))], []⟩ (.cons (Q_idx o7.rn (l := a.length) (k := k) (i := (k : Int)) (by rw [hacc]; simp; omega) rfl (by omega) Try.underlying43 (by kernel_rfl)) .nil) ?_; clear S; intro ac w β S
    have o42 := ow_Guest (x := (el a k)) (p := q10) o16 o21 o24 o30 d32 d33 d34 d35 d36 d37 i18 i19 i26 i27 i28
    refine RG.op rfl (S.setEl (α := TGuest) o7 (t := 127) (v := GT.val (el a k) q10) (k := k) (j := 0) (off := q5.1.off + k * 15) (y := (el a k)) (q := q10) (Fy := (uniB [F15, F20, F23, F29])) (by kernel_rfl) (by kernel_rfl) (by omega) (by kernel_rfl) (by kernel_rfl) (Nat.le_of_ble_eq_true (by kernel_rfl)) (by kernel_rfl) (fun _ _ _ => ⟨(uniB [F15, F20, F23, F29]), o42.own, fun _ h => .inr h⟩) (Disj.symm (Disj.or (Disj.part (Disj.symm d14) s17) (Disj.or (Disj.part (Disj.symm d14) s22) (Disj.or (Disj.part (Disj.symm d14) s25) (Disj.or (Disj.part (Disj.symm d14) s31) Disj.nob))))) o42.sub o42.young ?_)
    clear S; intro w N F39 q40 S up o38 d41 s43 n44
    clear up d41 o7 n44
    have l45 : (acc.set k (el a k)).length = (acc).length := List.length_set
    replace S := S.p [0, 3, 4] 0 ⟨[(0, .v (slv (a).length pa.1)), (3, .v (slv a.length q5.1)), (4, .v (I (k : Int)))], []⟩
    refine RG.done rfl (nx_block (nx_then (RG.start ?_)))
    refine S.q 3 [0, 3, 4] 0 ⟨[(0, .v (slv (a).length pa.1)), (3, .v (slv a.length q5.1)), (4, .v (I ((k : Int) + 1)))], []⟩ (.cons (Q_add (x := (k : Int)) (y := 1) ⟨by omega, by omega⟩) .nil) ?_; clear S; intro ac w β S
    refine RG.done rfl (nx_then ?_)
    replace S := S.p [0, 3, 4] 0 ⟨[(0, .v (slv (a).length pa.1)), (3, .v (slv a.length q5.1)), (4, .v (I ((k : Int) + 1)))], []⟩
    refine ⟨a.length - (k + 1), by omega, k + 1, (acc.set k (el a k)), (q5.1, q40), F39, _, _, _, rfl, ?_, ?_, S.cast (by kernel_rfl), o38⟩
    · clear S; first | omega | (simp [*]; done) | (simp [*]; omega)
    · clear S; rw [hacc]; exact set_step (by omega)
  · have g46 : ¬ ((k : Int) < ((a).length : Int)) := of_decide_eq_false h8
    refine wp_exit (ex_then (ex_then (ex_hit (nx_then (wp_seq (RG.start ?_))))))
    refine S.q 2 [2] 0 ⟨[(2, .v (slv a.length q5.1))], []⟩ .nil ?_; clear S; intro ac w β S
    refine RG.done rfl (nx_then (wp_ret ?_))
    refine S.r [slv a.length q5.1] ?_
    exact ret1_of S (show a = acc by clear S; rw [hacc, take_all (by omega), show a.length - k = 0 by omega]; simp) (by rw [show a.length = (acc).length from (by rw [hacc]; simp; omega)]; rfl) o7

set_option maxRecDepth 100000 in
theorem c_laws_toKept (w0 : World) (a : TKept) (pa : PKept) (ha : GT.rd KK (Lt w0.heap.size) w0 a pa) : Calls Try.prog 87 [GT.val a pa].toArray w0 (Ret1 NoB w0 (a : TKept)) := by
  refine Calls.walk (args := [GT.val a pa]) NoB Try.func87 rfl rfl ?_
  intro ac β S
  have hlea_known : a.known.length ≤ 4194304 := LRd.le (RKept.known (d := a) ha)
  have hlea_slots : a.slots.length ≤ 4194304 := LRd.le (RKept.slots (d := a) ha)
  refine wp_seq (RG.start ?_)
  refine S.q 2 [1, 2] 2 ⟨[(1, .p 0 0), (2, .p 1 0)], [GT.cells a pa, Zc TKept]⟩ .nil ?_; clear S; intro ac w β S
  refine RG.done rfl (nx_then (wp_seq (RG.start ?_)))
  refine S.q 1 [1, 2, 3] 3 ⟨[(1, .p 0 0), (2, .p 1 0), (3, .p 2 0)], [GT.cells a pa, Zc TKept, Zc TKept]⟩ .nil ?_; clear S; intro ac w β S
  refine RG.done rfl (nx_then (wp_seq (RG.start ?_)))
  refine S.q 2 [1, 2, 3, 5] 3 ⟨[(1, .p 0 0), (2, .p 1 0), (3, .p 2 0), (5, .v (slv (a.known).length pa.known.1))], [GT.cells a pa, Zc TKept, Zc TKept]⟩ .nil ?_; clear S; intro ac w β S
  refine RG.op rfl (S.call1 (r := a.known) (d := 6) (c_laws_toBoolS w a.known pa.known (S.rd (RKept.known (d := a) (S.arg ha)))) (by kernel_rfl) rfl ?_)
  clear S; intro ac w N q1 F2 S up o3 d4
  clear up d4
  refine S.q 2 [1, 2, 3] 3 ⟨[(1, .p 0 0), (2, .p 1 0), (3, .p 2 0)], [GT.cells a pa, Zc TKept, [slv (a.known).length q1.1, slv (([] : List TSlot)).length (GT.pdflt (α := List TSlot)).1]]⟩ .nil ?_; clear S; intro ac w β S
  refine RG.done rfl (nx_then (wp_seq (RG.start ?_)))
  refine S.q 2 [2, 3, 9] 3 ⟨[(2, .p 1 0), (3, .p 2 0), (9, .v (slv (a.slots).length pa.slots.1))], [GT.cells a pa, Zc TKept, [slv (a.known).length q1.1, slv (([] : List TSlot)).length (GT.pdflt (α := List TSlot)).1]]⟩ .nil ?_; clear S; intro ac w β S
  refine RG.op rfl (S.call1 (r := a.slots) (d := 10) (c_laws_toSlotS w a.slots pa.slots (S.rd (RKept.slots (d := a) (S.arg ha)))) (by kernel_rfl) rfl ?_)
  clear S; intro ac w N q5 F6 S up o7 d8
  have d9 : Disj F2 F6 := fun b x y => d8 b (o3.sub b x) y
  replace o3 := o3.up up
  clear up d8
  refine S.q 2 [2, 3] 3 ⟨[(2, .p 1 0), (3, .p 2 0)], [GT.cells a pa, Zc TKept, [slv (a.known).length q1.1, slv (a.slots).length q5.1]]⟩ .nil ?_; clear S; intro ac w β S
  refine RG.done rfl (nx_then (wp_seq (RG.start ?_)))
  refine S.q 2 [2] 2 ⟨[(2, .p 1 0)], [GT.cells a pa, [slv (a.known).length q1.1, slv (a.slots).length q5.1]]⟩ .nil ?_; clear S; intro ac w β S
  refine RG.done rfl (nx_then (wp_ret ?_))
  refine S.r [GT.val (⟨a.known, a.slots⟩ : TKept) (⟨q1, q5⟩ : PKept)] ?_
  have o10 := ow_Kept (x := (⟨a.known, a.slots⟩ : TKept)) (p := (⟨q1, q5⟩ : PKept)) o3 o7 d9 
  exact ret1_of S (show a = (⟨a.known, a.slots⟩ : TKept) by clear S; first | rfl | simp) rfl o10

set_option maxRecDepth 100000 in
theorem c_laws_toKeptS (w0 : World) (a : List TKept) (pa : LP TKept) (ha : GT.rd KK (Lt w0.heap.size) w0 a pa) : Calls Try.prog 48 [slv (a).length pa.1].toArray w0 (Ret1 NoB w0 (a : List TKept)) := by
  refine Calls.walk (args := [slv (a).length pa.1]) NoB Try.func48 rfl rfl ?_
  intro ac β S
  have hlea : a.length ≤ 4194304 := LRd.le ha
  refine wp_seq (RG.start ?_)
  refine S.q 1 [0] 0 ⟨[(0, .v (slv (a).length pa.1))], []⟩ .nil ?_; clear S; intro ac w β S
  refine RG.done rfl (nx_then (wp_seq (RG.start ?_)))
  refine S.q 2 [0, 6] 0 ⟨[(0, .v (slv (a).length pa.1)), (6, .v (I ((a).length : Int)))], []⟩ .nil ?_; clear S; intro ac w β S
  refine RG.op rfl (S.make (α := TKept) (m := (a).length) (by' := 48) (d := 7) (by kernel_rfl) (by omega) (show (a).length ≤ 4194304 by omega) ?_)
  clear S; intro ac w N q1 F2 S up o3 d4
  clear up d4
  refine S.q 1 [0, 3] 0 ⟨[(0, .v (slv (a).length pa.1)), (3, .v (slv ((a).length) q1.1))], []⟩ .nil ?_; clear S; intro ac w β S
  refine RG.done rfl (nx_then (wp_seq (wp_seq (RG.start ?_))))
  refine S.q 1 [0, 3, 4] 0 ⟨[(0, .v (slv (a).length pa.1)), (3, .v (slv ((a).length) q1.1)), (4, .v (I 0))], []⟩ .nil ?_; clear S; intro ac w β S
  refine RG.done rfl (nx_then (wp_block ?_))
  replace S := S.p [0, 3, 4] 0 ⟨[(0, .v (slv (a).length pa.1)), (3, .v (slv ((a).length) q1.1)), (4, .v (I 0))], []⟩
  refine wp_loop_down (fun mm ac w => ∃ (k : Nat) (acc : List (TKept)) (q5 : GT.Ptr (List TKept)) (F6 : Bl) (u : World) (N : Bl) (β : Nat → Nat), mm = a.length - k ∧ (k ≤ a.length) ∧ (acc = a.take k ++ List.replicate (a.length - k) (GT.dflt : TKept)) ∧ St Try.prog Try.f48.ntmps w0 NoB u N β ⟨[(0, .v (slv (a).length pa.1)), (3, .v (slv a.length q5.1)), (4, .v (I (k : Int)))], []⟩ ac w ∧ Ow w0 NoB u N F6 acc q5) _ ⟨0, (List.replicate ((a).length) (GT.dflt : TKept)), q1, F2, _, _, _, rfl, (by first | omega | (simp; done) | (simp; omega)), (by simp), S.cast (by kernel_rfl), o3⟩ ?_
  clear S o3
  rintro mm ac w ⟨k, acc, q5, F6, u, N, β, rfl, hk, hacc, S, o7⟩
  have hlacc : acc.length = a.length := by rw [hacc]; simp; omega
  refine wp_seq (wp_seq (RG.start ?_))
  refine S.q 4 [0, 3, 4, 11] 0 ⟨[(0, .v (slv (a).length pa.1)), (3, .v (slv a.length q5.1)), (4, .v (I (k : Int))), (11, .v (B (decide ((k : Int) < ((a).length : Int)))))], []⟩ .nil ?_; clear S; intro ac w β S
  refine RG.done rfl (nx_then ?_)
  refine S.c (decide ((k : Int) < ((a).length : Int))) (fun h8 => ?_) (fun h8 => ?_)
  · have g9 : (k : Int) < ((a).length : Int) := of_decide_eq_true h8
    refine wp_skip (nx_then (wp_seq (wp_block (RG.start ?_))))
    refine S.q 6 [0, 3, 4, 14, 15, 19] 0 ⟨[(0, .v (slv (a).length pa.1)), (3, .v (slv a.length q5.1)), (4, .v (I (k : Int))), (14, .v (slv a.length q5.1)), (15, .v (I (k : Int))), (19, .v (GT.val (el a k) (pa.2 k)))], []⟩ (.cons (Q_idx (S.arg ha) (l := (a).length) (k := k) (i := (k : Int)) rfl rfl (by omega) Try.underlying31 (by kernel_rfl)) (.cons (Q_el (S.arg ha) (t := 113) (k := k) (by omega) rfl (by kernel_rfl) (by kernel_rfl)) .nil)) ?_; clear S; intro ac w β S
    refine RG.op rfl (S.call1 (r := (el a k)) (d := 20) (c_laws_toKept w (el a k) (pa.2 k) (S.rd (LRd.el (S.arg ha) k (by omega)))) (by kernel_rfl) rfl ?_)
    clear S; intro ac w N q10 F11 S up o12 d13
    have d14 : Disj F6 F11 := fun b x y => d13 b (o7.sub b x) y
    replace o7 := o7.up up
    clear up d13
    obtain ⟨F15, F18, o16, o19, s17, s20, d21⟩ := sp_Kept o12
    refine S.q 1 [0, 3, 4, 20, 21] 0 ⟨[(0, .v (slv (a).length pa.1)), (3, .v (slv a.length q5.1)), (4, .v (I (k : Int))), (20, .v (GT.val (el a k) q10)), (21, .v (pt q5.1.b (q5.1.off + k * 2)))], []⟩ (.cons (Q_idx o7.rn (l := a.length) (k := k) (i := (k : Int)) (by rw [hacc]; simp; omega) rfl (by omega) Try.underlying44 (by kernel_rfl)) .nil) ?_; clear S; intro ac w β S
    have o26 := ow_Kept (x := (el a k)) (p := q10) o16 o19 d21 
    refine RG.op rfl (S.setEl (α := TKept) o7 (t := 101) (v := GT.val (el a k) q10) (k := k) (j := 0) (off := q5.1.off + k * 2) (y := (el a k)) (q := q10) (Fy := (uniB [F15, F18])) (by kernel_rfl) (by kernel_rfl) (by omega) (by kernel_rfl) (by kernel_rfl) (Nat.le_of_ble_eq_true (by kernel_rfl)) (by kernel_rfl) (fun _ _ _ => ⟨(uniB [F15, F18]), o26.own, fun _ h => .inr h⟩) (Disj.symm (Disj.or (Disj.part (Disj.symm d14) s17) (Disj.or (Disj.part (Disj.symm d14) s20) Disj.nob))) o26.sub o26.young ?_)
    clear S; intro w N F23 q24 S up o22 d25 s27 n28
    clear up d25 o7 n28
    have l29 : (acc.set k (el a k)).length = (acc).length := List.length_set
    replace S := S.p [0, 3, 4] 0 ⟨[(0, .v (slv (a).length pa.1)), (3, .v (slv a.length q5.1)), (4, .v (I (k : Int)))], []⟩
    refine RG.done rfl (nx_block (nx_then (RG.start ?_)))
    refine S.q 3 [0, 3, 4] 0 ⟨[(0, .v (slv (a).length pa.1)), (3, .v (slv a.length q5.1)), (4, .v (I ((k : Int) + 1)))], []⟩ (.cons (Q_add (x := (k : Int)) (y := 1) ⟨by omega, by omega⟩) .nil) ?_; clear S; intro ac w β S
    refine RG.done rfl (nx_then ?_)
    replace S := S.p [0, 3, 4] 0 ⟨[(0, .v (slv (a).length pa.1)), (3, .v (slv a.length q5.1)), (4, .v (I ((k : Int) + 1)))], []⟩
    refine ⟨a.length - (k + 1), by omega, k + 1, (acc.set k (el a k)), (q5.1, q24), F23, _, _, _, rfl, ?_, ?_, S.cast (by kernel_rfl), o22⟩
    · clear S; first | omega | (simp [*]; done) | (simp [*]; omega)
    · clear S; rw [hacc]; exact set_step (by omega)
  · have g30 : ¬ ((k : Int) < ((a).length : Int)) := of_decide_eq_false h8
    refine wp_exit (ex_then (ex_then (ex_hit (nx_then (wp_seq (RG.start ?_))))))
    refine S.q 2 [2] 0 ⟨[(2, .v (slv a.length q5.1))], []⟩ .nil ?_; clear S; intro ac w β S
    refine RG.done rfl (nx_then (wp_ret ?_))
    refine S.r [slv a.length q5.1] ?_
    exact ret1_of S (show a = acc by clear S; rw [hacc, take_all (by omega), show a.length - k = 0 by omega]; simp) (by rw [show a.length = (acc).length from (by rw [hacc]; simp; omega)]; rfl) o7

set_option maxRecDepth 100000 in
theorem c_laws_toMon (w0 : World) (a : TMon) (pa : PMon) (ha : GT.rd KK (Lt w0.heap.size) w0 a pa) : Calls Try.prog 11 [GT.val a pa].toArray w0 (Ret1 NoB w0 (a : TMon)) := by
  refine Calls.walk (args := [GT.val a pa]) NoB Try.func11 rfl rfl ?_
  intro ac β S
  have hlea_outer : a.outer.length ≤ 4194304 := LRd.le (RMon.outer (d := a) ha)
  have hlea_out : a.out.length ≤ 4194304 := LRd.le (RMon.out (d := a) ha)
  have hlea_dirty : a.dirty.length ≤ 4194304 := LRd.le (RMon.dirty (d := a) ha)
  have hlea_guests : a.guests.length ≤ 4194304 := LRd.le (RMon.guests (d := a) ha)
  have hlea_outs : a.outs.length ≤ 4194304 := LRd.le (RMon.outs (d := a) ha)
  have hlea_tables : a.tables.length ≤ 4194304 := LRd.le (RMon.tables (d := a) ha)
  refine wp_seq (RG.start ?_)
  refine S.q 2 [1, 2] 2 ⟨[(1, .p 0 0), (2, .p 1 0)], [GT.cells a pa, Zc TMon]⟩ .nil ?_; clear S; intro ac w β S
  refine RG.done rfl (nx_then (wp_seq (RG.start ?_)))
  refine S.q 1 [1, 2, 3] 3 ⟨[(1, .p 0 0), (2, .p 1 0), (3, .p 2 0)], [GT.cells a pa, Zc TMon, Zc TMon]⟩ .nil ?_; clear S; intro ac w β S
  refine RG.done rfl (nx_then (wp_seq (RG.start ?_)))
  refine S.q 2 [1, 2, 3, 5] 3 ⟨[(1, .p 0 0), (2, .p 1 0), (3, .p 2 0), (5, .v (slv (a.outer).length pa.outer.1))], [GT.cells a pa, Zc TMon, Zc TMon]⟩ .nil ?_; clear S; intro ac w β S
  refine RG.op rfl (S.call1 (r := a.outer) (d := 6) (c_laws_toSlotS w a.outer pa.outer (S.rd (RMon.outer (d := a) (S.arg ha)))) (by kernel_rfl) rfl ?_)
  clear S; intro ac w N q1 F2 S up o3 d4
  clear up d4
  refine S.q 2 [1, 2, 3] 3 ⟨[(1, .p 0 0), (2, .p 1 0), (3, .p 2 0)], [GT.cells a pa, Zc TMon, [slv (a.outer).length q1.1, slv (([] : List (List Int))).length (GT.pdflt (α := List (List Int))).1, slv (([] : List Bool)).length (GT.pdflt (α := List Bool)).1, slv (([] : List TGuest)).length (GT.pdflt (α := List TGuest)).1, slv (([] : List Int)).length (GT.pdflt (α := List Int)).1, I 0, I 0, slv (([] : List TKept)).length (GT.pdflt (α := List TKept)).1, I 0]]⟩ .nil ?_; clear S; intro ac w β S
  refine RG.done rfl (nx_then (wp_seq (RG.start ?_)))
  refine S.q 2 [1, 2, 3, 9] 3 ⟨[(1, .p 0 0), (2, .p 1 0), (3, .p 2 0), (9, .v (slv (a.out).length pa.out.1))], [GT.cells a pa, Zc TMon, [slv (a.outer).length q1.1, slv (([] : List (List Int))).length (GT.pdflt (α := List (List Int))).1, slv (([] : List Bool)).length (GT.pdflt (α := List Bool)).1, slv (([] : List TGuest)).length (GT.pdflt (α := List TGuest)).1, slv (([] : List Int)).length (GT.pdflt (α := List Int)).1, I 0, I 0, slv (([] : List TKept)).length (GT.pdflt (α := List TKept)).1, I 0]]⟩ .nil ?_; clear S; intro ac w β S
  refine RG.op rfl (S.call1 (r := a.out) (d := 10) (c_laws_toIntSS w a.out pa.out (S.rd (RMon.out (d := a) (S.arg ha)))) (by kernel_rfl) rfl ?_)
  clear S; intro ac w N q5 F6 S up o7 d8
  have d9 : Disj F2 F6 := fun b x y => d8 b (o3.sub b x) y
  replace o3 := o3.up up
  clear up d8
  refine S.q 2 [1, 2, 3] 3 ⟨[(1, .p 0 0), (2, .p 1 0), (3, .p 2 0)], [GT.cells a pa, Zc TMon, [slv (a.outer).length q1.1, slv (a.out).length q5.1, slv (([] : List Bool)).length (GT.pdflt (α := List Bool)).1, slv (([] : List TGuest)).length (GT.pdflt (α := List TGuest)).1, slv (([] : List Int)).length (GT.pdflt (α := List Int)).1, I 0, I 0, slv (([] : List TKept)).length (GT.pdflt (α := List TKept)).1, I 0]]⟩ .nil ?_; clear S; intro ac w β S
  refine RG.done rfl (nx_then (wp_seq (RG.start ?_)))
  refine S.q 2 [1, 2, 3, 13] 3 ⟨[(1, .p 0 0), (2, .p 1 0), (3, .p 2 0), (13, .v (slv (a.dirty).length pa.dirty.1))], [GT.cells a pa, Zc TMon, [slv (a.outer).length q1.1, slv (a.out).length q5.1, slv (([] : List Bool)).length (GT.pdflt (α := List Bool)).1, slv (([] : List TGuest)).length (GT.pdflt (α := List TGuest)).1, slv (([] : List Int)).length (GT.pdflt (α := List Int)).1, I 0, I 0, slv (([] : List TKept)).length (GT.pdflt (α := List TKept)).1, I 0]]⟩ .nil ?_; clear S; intro ac w β S
  refine RG.op rfl (S.call1 (r := a.dirty) (d := 14) (c_laws_toBoolS w a.dirty pa.dirty (S.rd (RMon.dirty (d := a) (S.arg ha)))) (by kernel_rfl) rfl ?_)
  clear S; intro ac w N q10 F11 S up o12 d13
  have d14 : Disj F2 F11 := fun b x y => d13 b (o3.sub b x) y
  have d15 : Disj F6 F11 := fun b x y => d13 b (o7.sub b x) y
  replace o3 := o3.up up
  replace o7 := o7.up up
  clear up d13
  refine S.q 2 [1, 2, 3] 3 ⟨[(1, .p 0 0), (2, .p 1 0), (3, .p 2 0)], [GT.cells a pa, Zc TMon, [slv (a.outer).length q1.1, slv (a.out).length q5.1, slv (a.dirty).length q10.1, slv (([] : List TGuest)).length (GT.pdflt (α := List TGuest)).1, slv (([] : List Int)).length (GT.pdflt (α := List Int)).1, I 0, I 0, slv (([] : List TKept)).length (GT.pdflt (α := List TKept)).1, I 0]]⟩ .nil ?_; clear S; intro ac w β S
  refine RG.done rfl (nx_then (wp_seq (RG.start ?_)))
  refine S.q 2 [1, 2, 3, 17] 3 ⟨[(1, .p 0 0), (2, .p 1 0), (3, .p 2 0), (17, .v (slv (a.guests).length pa.guests.1))], [GT.cells a pa, Zc TMon, [slv (a.outer).length q1.1, slv (a.out).length q5.1, slv (a.dirty).length q10.1, slv (([] : List TGuest)).length (GT.pdflt (α := List TGuest)).1, slv (([] : List Int)).length (GT.pdflt (α := List Int)).1, I 0, I 0, slv (([] : List TKept)).length (GT.pdflt (α := List TKept)).1, I 0]]⟩ .nil ?_; clear S; intro ac w β S
  refine RG.op rfl (S.call1 (r := a.guests) (d := 18) (c_laws_toGuestS w a.guests pa.guests (S.rd (RMon.guests (d := a) (S.arg ha)))) (by kernel_rfl) rfl ?_)
  clear S; intro ac w N q16 F17 S up o18 d19
  have d20 : Disj F2 F17 := fun b x y => d19 b (o3.sub b x) y
  have d21 : Disj F6 F17 := fun b x y => d19 b (o7.sub b x) y
  have d22 : Disj F11 F17 := fun b x y => d19 b (o12.sub b x) y
  replace o3 := o3.up up
  replace o7 := o7.up up
  replace o12 := o12.up up
  clear up d19
  refine S.q 2 [1, 2, 3] 3 ⟨[(1, .p 0 0), (2, .p 1 0), (3, .p 2 0)], [GT.cells a pa, Zc TMon, [slv (a.outer).length q1.1, slv (a.out).length q5.1, slv (a.dirty).length q10.1, slv (a.guests).length q16.1, slv (([] : List Int)).length (GT.pdflt (α := List Int)).1, I 0, I 0, slv (([] : List TKept)).length (GT.pdflt (α := List TKept)).1, I 0]]⟩ .nil ?_; clear S; intro ac w β S
  refine RG.done rfl (nx_then (wp_seq (RG.start ?_)))
  refine S.q 2 [1, 2, 3, 21] 3 ⟨[(1, .p 0 0), (2, .p 1 0), (3, .p 2 0), (21, .v (slv (a.outs).length pa.outs.1))], [GT.cells a pa, Zc TMon, [slv (a.outer).length q1.1, slv (a.out).length q5.1, slv (a.dirty).length q10.1, slv (a.guests).length q16.1, slv (([] : List Int)).length (GT.pdflt (α := List Int)).1, I 0, I 0, slv (([] : List TKept)).length (GT.pdflt (α := List TKept)).1, I 0]]⟩ .nil ?_; clear S; intro ac w β S
  refine RG.op rfl (S.call1 (r := a.outs) (d := 22) (c_laws_toIntS w a.outs pa.outs (S.rd (RMon.outs (d := a) (S.arg ha)))) (by kernel_rfl) rfl ?_)
  clear S; intro ac w N q23 F24 S up o25 d26
  have d27 : Disj F2 F24 := fun b x y => d26 b (o3.sub b x) y
  have d28 : Disj F6 F24 := fun b x y => d26 b (o7.sub b x) y
  have d29 : Disj F11 F24 := fun b x y => d26 b (o12.sub b x) y
  have d30 : Disj F17 F24 := fun b x y => d26 b (o18.sub b x) y
  replace o3 := o3.up up
  replace o7 := o7.up up
  replace o12 := o12.up up
  replace o18 := o18.up up
  clear up d26
  refine S.q 2 [1, 2, 3] 3 ⟨[(1, .p 0 0), (2, .p 1 0), (3, .p 2 0)], [GT.cells a pa, Zc TMon, [slv (a.outer).length q1.1, slv (a.out).length q5.1, slv (a.dirty).length q10.1, slv (a.guests).length q16.1, slv (a.outs).length q23.1, I 0, I 0, slv (([] : List TKept)).length (GT.pdflt (α := List TKept)).1, I 0]]⟩ .nil ?_; clear S; intro ac w β S
  refine RG.done rfl (nx_then (wp_seq (RG.start ?_)))
  refine S.q 4 [1, 2, 3] 3 ⟨[(1, .p 0 0), (2, .p 1 0), (3, .p 2 0)], [GT.cells a pa, Zc TMon, [slv (a.outer).length q1.1, slv (a.out).length q5.1, slv (a.dirty).length q10.1, slv (a.guests).length q16.1, slv (a.outs).length q23.1, I a.pend, I 0, slv (([] : List TKept)).length (GT.pdflt (α := List TKept)).1, I 0]]⟩ .nil ?_; clear S; intro ac w β S
  refine RG.done rfl (nx_then (wp_seq (RG.start ?_)))
  refine S.q 4 [1, 2, 3] 3 ⟨[(1, .p 0 0), (2, .p 1 0), (3, .p 2 0)], [GT.cells a pa, Zc TMon, [slv (a.outer).length q1.1, slv (a.out).length q5.1, slv (a.dirty).length q10.1, slv (a.guests).length q16.1, slv (a.outs).length q23.1, I a.pend, I a.traps, slv (([] : List TKept)).length (GT.pdflt (α := List TKept)).1, I 0]]⟩ .nil ?_; clear S; intro ac w β S
  refine RG.done rfl (nx_then (wp_seq (RG.start ?_)))
  refine S.q 2 [1, 2, 3, 31] 3 ⟨[(1, .p 0 0), (2, .p 1 0), (3, .p 2 0), (31, .v (slv (a.tables).length pa.tables.1))], [GT.cells a pa, Zc TMon, [slv (a.outer).length q1.1, slv (a.out).length q5.1, slv (a.dirty).length q10.1, slv (a.guests).length q16.1, slv (a.outs).length q23.1, I a.pend, I a.traps, slv (([] : List TKept)).length (GT.pdflt (α := List TKept)).1, I 0]]⟩ .nil ?_; clear S; intro ac w β S
  refine RG.op rfl (S.call1 (r := a.tables) (d := 32) (c_laws_toKeptS w a.tables pa.tables (S.rd (RMon.tables (d := a) (S.arg ha)))) (by kernel_rfl) rfl ?_)
  clear S; intro ac w N q31 F32 S up o33 d34
  have d35 : Disj F2 F32 := fun b x y => d34 b (o3.sub b x) y
  have d36 : Disj F6 F32 := fun b x y => d34 b (o7.sub b x) y
  have d37 : Disj F11 F32 := fun b x y => d34 b (o12.sub b x) y
  have d38 : Disj F17 F32 := fun b x y => d34 b (o18.sub b x) y
  have d39 : Disj F24 F32 := fun b x y => d34 b (o25.sub b x) y
  replace o3 := o3.up up
  replace o7 := o7.up up
  replace o12 := o12.up up
  replace o18 := o18.up up
  replace o25 := o25.up up
  clear up d34
  refine S.q 2 [1, 2, 3] 3 ⟨[(1, .p 0 0), (2, .p 1 0), (3, .p 2 0)], [GT.cells a pa, Zc TMon, [slv (a.outer).length q1.1, slv (a.out).length q5.1, slv (a.dirty).length q10.1, slv (a.guests).length q16.1, slv (a.outs).length q23.1, I a.pend, I a.traps, slv (a.tables).length q31.1, I 0]]⟩ .nil ?_; clear S; intro ac w β S
  refine RG.done rfl (nx_then (wp_seq (RG.start ?_)))
  refine S.q 4 [2, 3] 3 ⟨[(2, .p 1 0), (3, .p 2 0)], [GT.cells a pa, Zc TMon, [slv (a.outer).length q1.1, slv (a.out).length q5.1, slv (a.dirty).length q10.1, slv (a.guests).length q16.1, slv (a.outs).length q23.1, I a.pend, I a.traps, slv (a.tables).length q31.1, I a.owned]]⟩ .nil ?_; clear S; intro ac w β S
  refine RG.done rfl (nx_then (wp_seq (RG.start ?_)))
  refine S.q 2 [2] 2 ⟨[(2, .p 1 0)], [GT.cells a pa, [slv (a.outer).length q1.1, slv (a.out).length q5.1, slv (a.dirty).length q10.1, slv (a.guests).length q16.1, slv (a.outs).length q23.1, I a.pend, I a.traps, slv (a.tables).length q31.1, I a.owned]]⟩ .nil ?_; clear S; intro ac w β S
  refine RG.done rfl (nx_then (wp_ret ?_))
  refine S.r [GT.val (⟨a.outer, a.out, a.dirty, a.guests, a.outs, a.pend, a.traps, a.tables, a.owned⟩ : TMon) (⟨q1, q5, q10, q16, q23, q31⟩ : PMon)] ?_
  have o40 := ow_Mon (x := (⟨a.outer, a.out, a.dirty, a.guests, a.outs, a.pend, a.traps, a.tables, a.owned⟩ : TMon)) (p := (⟨q1, q5, q10, q16, q23, q31⟩ : PMon)) o3 o7 o12 o18 o25 o33 d9 d14 d20 d27 d35 d15 d21 d28 d36 d22 d29 d37 d30 d38 d39 (RMon.pend (d := a) (S.arg ha)) (RMon.traps (d := a) (S.arg ha)) (RMon.owned (d := a) (S.arg ha))
  exact ret1_of S (show a = (⟨a.outer, a.out, a.dirty, a.guests, a.outs, a.pend, a.traps, a.tables, a.owned⟩ : TMon) by clear S; first | rfl | simp) rfl o40

set_option maxRecDepth 100000 in
theorem c_laws_toMonS (w0 : World) (a : List TMon) (pa : LP TMon) (ha : GT.rd KK (Lt w0.heap.size) w0 a pa) : Calls Try.prog 42 [slv (a).length pa.1].toArray w0 (Ret1 NoB w0 (a : List TMon)) := by
  refine Calls.walk (args := [slv (a).length pa.1]) NoB Try.func42 rfl rfl ?_
  intro ac β S
  have hlea : a.length ≤ 4194304 := LRd.le ha
  refine wp_seq (RG.start ?_)
  refine S.q 1 [0] 0 ⟨[(0, .v (slv (a).length pa.1))], []⟩ .nil ?_; clear S; intro ac w β S
  refine RG.done rfl (nx_then (wp_seq (RG.start ?_)))
  refine S.q 2 [0, 6] 0 ⟨[(0, .v (slv (a).length pa.1)), (6, .v (I ((a).length : Int)))], []⟩ .nil ?_; clear S; intro ac w β S
  refine RG.op rfl (S.make (α := TMon) (m := (a).length) (by' := 168) (d := 7) (by kernel_rfl) (by omega) (show (a).length ≤ 4194304 by omega) ?_)
  clear S; intro ac w N q1 F2 S up o3 d4
  clear up d4
  refine S.q 1 [0, 3] 0 ⟨[(0, .v (slv (a).length pa.1)), (3, .v (slv ((a).length) q1.1))], []⟩ .nil ?_; clear S; intro ac w β S
  refine RG.done rfl (nx_then (wp_seq (wp_seq (RG.start ?_))))
  refine S.q 1 [0, 3, 4] 0 ⟨[(0, .v (slv (a).length pa.1)), (3, .v (slv ((a).length) q1.1)), (4, .v (I 0))], []⟩ .nil ?_; clear S; intro ac w β S
  refine RG.done rfl (nx_then (wp_block ?_))
  replace S := S.p [0, 3, 4] 0 ⟨[(0, .v (slv (a).length pa.1)), (3, .v (slv ((a).length) q1.1)), (4, .v (I 0))], []⟩
  refine wp_loop_down (fun mm ac w => ∃ (k : Nat) (acc : List (TMon)) (q5 : GT.Ptr (List TMon)) (F6 : Bl) (u : World) (N : Bl) (β : Nat → Nat), mm = a.length - k ∧ (k ≤ a.length) ∧ (acc = a.take k ++ List.replicate (a.length - k) (GT.dflt : TMon)) ∧ St Try.prog Try.f42.ntmps w0 NoB u N β ⟨[(0, .v (slv (a).length pa.1)), (3, .v (slv a.length q5.1)), (4, .v (I (k : Int)))], []⟩ ac w ∧ Ow w0 NoB u N F6 acc q5) _ ⟨0, (List.replicate ((a).length) (GT.dflt : TMon)), q1, F2, _, _, _, rfl, (by first | omega | (simp; done) | (simp; omega)), (by simp), S.cast (by kernel_rfl), o3⟩ ?_
  clear S o3
  rintro mm ac w ⟨k, acc, q5, F6, u, N, β, rfl, hk, hacc, S, o7⟩
  have hlacc : acc.length = a.length := by rw [hacc]; simp; omega
  refine wp_seq (wp_seq (RG.start ?_))
  refine S.q 4 [0, 3, 4, 11] 0 ⟨[(0, .v (slv (a).length pa.1)), (3, .v (slv a.length q5.1)), (4, .v (I (k : Int))), (11, .v (B (decide ((k : Int) < ((a).length : Int)))))], []⟩ .nil ?_; clear S; intro ac w β S
  refine RG.done rfl (nx_then ?_)
  refine S.c (decide ((k : Int) < ((a).length : Int))) (fun h8 => ?_) (fun h8 => ?_)
  · have g9 : (k : Int) < ((a).length : Int) := of_decide_eq_true h8
    refine wp_skip (nx_then (wp_seq (wp_block (RG.start ?_))))
    refine S.q 6 [0, 3, 4, 14, 15, 19] 0 ⟨[(0, .v (slv (a).length pa.1)), (3, .v (slv a.length q5.1)), (4, .v (I (k : Int))), (14, .v (slv a.length q5.1)), (15, .v (I (k : Int))), (19, .v (GT.val (el a k) (pa.2 k)))], []⟩ (.cons (Q_idx (S.arg ha) (l := (a).length) (k := k) (i := (k : Int)) rfl rfl (by omega) Try.underlying23 (by kernel_rfl)) (.cons (Q_el (S.arg ha) (t := 33) (k := k) (by omega) rfl (by kernel_rfl) (by kernel_rfl)) .nil)) ?_; clear S; intro ac w β S
    refine RG.op rfl (S.call1 (r := (el a k)) (d := 20) (c_laws_toMon w (el a k) (pa.2 k) (S.rd (LRd.el (S.arg ha) k (by omega)))) (by kernel_rfl) rfl ?_)
    clear S; intro ac w N q10 F11 S up o12 d13
    have d14 : Disj F6 F11 := fun b x y => d13 b (o7.sub b x) y
    replace o7 := o7.up up
    clear up d13
    have i30 : In64 (el a k).pend := RMon.pend (d := (el a k)) o12.rn
    have i31 : In64 (el a k).traps := RMon.traps (d := (el a k)) o12.rn
    have i35 : In64 (el a k).owned := RMon.owned (d := (el a k)) o12.rn
    obtain ⟨F15, F18, F21, F24, F27, F32, o16, o19, o22, o25, o28, o33, s17, s20, s23, s26, s29, s34, d36, d37, d38, d39, d40, d41, d42, d43, d44, d45, d46, d47, d48, d49, d50⟩ := sp_Mon o12
    refine S.q 1 [0, 3, 4, 20, 21] 0 ⟨[(0, .v (slv (a).length pa.1)), (3, .v (slv a.length q5.1)), (4, .v (I (k : Int))), (20, .v (GT.val (el a k) q10)), (21, .v (pt q5.1.b (q5.1.off + k * 9)))], []⟩ (.cons (Q_idx o7.rn (l := a.length) (k := k) (i := (k : Int)) (by rw [hacc]; simp; omega) rfl (by omega) Try.underlying36 (by kernel_rfl)) .nil) ?_; clear S; intro ac w β S
    have o55 := ow_Mon (x := (el a k)) (p := q10) o16 o19 o22 o25 o28 o33 d36 d37 d38 d39 d40 d41 d42 d43 d44 d45 d46 d47 d48 d49 d50 i30 i31 i35
    refine RG.op rfl (S.setEl (α := TMon) o7 (t := 46) (v := GT.val (el a k) q10) (k := k) (j := 0) (off := q5.1.off + k * 9) (y := (el a k)) (q := q10) (Fy := (uniB [F15, F18, F21, F24, F27, F32])) (by kernel_rfl) (by kernel_rfl) (by omega) (by kernel_rfl) (by kernel_rfl) (Nat.le_of_ble_eq_true (by kernel_rfl)) (by kernel_rfl) (fun _ _ _ => ⟨(uniB [F15, F18, F21, F24, F27, F32]), o55.own, fun _ h => .inr h⟩) (Disj.symm (Disj.or (Disj.part (Disj.symm d14) s17) (Disj.or (Disj.part (Disj.symm d14) s20) (Disj.or (Disj.part (Disj.symm d14) s23) (Disj.or (Disj.part (Disj.symm d14) s26) (Disj.or (Disj.part (Disj.symm d14) s29) (Disj.or (Disj.part (Disj.symm d14) s34) Disj.nob))))))) o55.sub o55.young ?_)
    clear S; intro w N F52 q53 S up o51 d54 s56 n57
    clear up d54 o7 n57
    have l58 : (acc.set k (el a k)).length = (acc).length := List.length_set
    replace S := S.p [0, 3, 4] 0 ⟨[(0, .v (slv (a).length pa.1)), (3, .v (slv a.length q5.1)), (4, .v (I (k : Int)))], []⟩
    refine RG.done rfl (nx_block (nx_then (RG.start ?_)))
    refine S.q 3 [0, 3, 4] 0 ⟨[(0, .v (slv (a).length pa.1)), (3, .v (slv a.length q5.1)), (4, .v (I ((k : Int) + 1)))], []⟩ (.cons (Q_add (x := (k : Int)) (y := 1) ⟨by omega, by omega⟩) .nil) ?_; clear S; intro ac w β S
    refine RG.done rfl (nx_then ?_)
    replace S := S.p [0, 3, 4] 0 ⟨[(0, .v (slv (a).length pa.1)), (3, .v (slv a.length q5.1)), (4, .v (I ((k : Int) + 1)))], []⟩
    refine ⟨a.length - (k + 1), by omega, k + 1, (acc.set k (el a k)), (q5.1, q53), F52, _, _, _, rfl, ?_, ?_, S.cast (by kernel_rfl), o51⟩
    · clear S; first | omega | (simp [*]; done) | (simp [*]; omega)
    · clear S; rw [hacc]; exact set_step (by omega)
  · have g59 : ¬ ((k : Int) < ((a).length : Int)) := of_decide_eq_false h8
    refine wp_exit (ex_then (ex_then (ex_hit (nx_then (wp_seq (RG.start ?_))))))
    refine S.q 2 [2] 0 ⟨[(2, .v (slv a.length q5.1))], []⟩ .nil ?_; clear S; intro ac w β S
    refine RG.done rfl (nx_then (wp_ret ?_))
    refine S.r [slv a.length q5.1] ?_
    exact ret1_of S (show a = acc by clear S; rw [hacc, take_all (by omega), show a.length - k = 0 by omega]; simp) (by rw [show a.length = (acc).length from (by rw [hacc]; simp; omega)]; rfl) o7

set_option maxRecDepth 100000 in
theorem c_laws_toEntry (w0 : World) (a : TEntry) : Calls Try.prog 84 [GT.val a ()].toArray w0 (fun e w' => e = .returned (GT.val a ()) ∧ Chg NoB w0 w') := by
  refine Calls.walk (args := [GT.val a ()]) NoB Try.func84 rfl rfl ?_
  intro ac β S
  refine wp_seq (RG.start ?_)
  refine S.q 2 [1, 2] 2 ⟨[(1, .p 0 0), (2, .p 1 0)], [GT.cells a (), Zc TEntry]⟩ .nil ?_; clear S; intro ac w β S
  refine RG.done rfl (nx_then (wp_seq (RG.start ?_)))
  refine S.q 1 [1, 2, 3] 3 ⟨[(1, .p 0 0), (2, .p 1 0), (3, .p 2 0)], [GT.cells a (), Zc TEntry, Zc TEntry]⟩ .nil ?_; clear S; intro ac w β S
  refine RG.done rfl (nx_then (wp_seq (RG.start ?_)))
  refine S.q 4 [1, 2, 3] 3 ⟨[(1, .p 0 0), (2, .p 1 0), (3, .p 2 0)], [GT.cells a (), Zc TEntry, [I a.tag, I 0, I 0, I 0]]⟩ .nil ?_; clear S; intro ac w β S
  refine RG.done rfl (nx_then (wp_seq (RG.start ?_)))
  refine S.q 4 [1, 2, 3] 3 ⟨[(1, .p 0 0), (2, .p 1 0), (3, .p 2 0)], [GT.cells a (), Zc TEntry, [I a.tag, I a.page, I 0, I 0]]⟩ .nil ?_; clear S; intro ac w β S
  refine RG.done rfl (nx_then (wp_seq (RG.start ?_)))
  refine S.q 4 [1, 2, 3] 3 ⟨[(1, .p 0 0), (2, .p 1 0), (3, .p 2 0)], [GT.cells a (), Zc TEntry, [I a.tag, I a.page, I a.host, I 0]]⟩ .nil ?_; clear S; intro ac w β S
  refine RG.done rfl (nx_then (wp_seq (RG.start ?_)))
  refine S.q 4 [2, 3] 3 ⟨[(2, .p 1 0), (3, .p 2 0)], [GT.cells a (), Zc TEntry, [I a.tag, I a.page, I a.host, I a.rights]]⟩ .nil ?_; clear S; intro ac w β S
  refine RG.done rfl (nx_then (wp_seq (RG.start ?_)))
  refine S.q 2 [2] 2 ⟨[(2, .p 1 0)], [GT.cells a (), [I a.tag, I a.page, I a.host, I a.rights]]⟩ .nil ?_; clear S; intro ac w β S
  refine RG.done rfl (nx_then (wp_ret ?_))
  refine S.r [GT.val (⟨a.tag, a.page, a.host, a.rights⟩ : TEntry) ()] ?_
  exact ⟨retV (p := ()) (by clear S; first | rfl | (simp [a, *]; done) | (simp [a, *]; omega) | (simp_all [a]; done) | (simp_all [a]; omega)), S.chg⟩

set_option maxRecDepth 100000 in
theorem c_laws_toEntryS (w0 : World) (a : List TEntry) (pa : LP TEntry) (ha : GT.rd KK (Lt w0.heap.size) w0 a pa) : Calls Try.prog 43 [slv (a).length pa.1].toArray w0 (Ret1 NoB w0 (a : List TEntry)) := by
  refine Calls.walk (args := [slv (a).length pa.1]) NoB Try.func43 rfl rfl ?_
  intro ac β S
  have hlea : a.length ≤ 4194304 := LRd.le ha
  refine wp_seq (RG.start ?_)
  refine S.q 1 [0] 0 ⟨[(0, .v (slv (a).length pa.1))], []⟩ .nil ?_; clear S; intro ac w β S
  refine RG.done rfl (nx_then (wp_seq (RG.start ?_)))
  refine S.q 2 [0, 6] 0 ⟨[(0, .v (slv (a).length pa.1)), (6, .v (I ((a).length : Int)))], []⟩ .nil ?_; clear S; intro ac w β S
  refine RG.op rfl (S.make (α := TEntry) (m := (a).length) (by' := 32) (d := 7) (by kernel_rfl) (by omega) (show (a).length ≤ 4194304 by omega) ?_)
  clear S; intro ac w N q1 F2 S up o3 d4
  clear up d4
  refine S.q 1 [0, 3] 0 ⟨[(0, .v (slv (a).length pa.1)), (3, .v (slv ((a).length) q1.1))], []⟩ .nil ?_; clear S; intro ac w β S
  refine RG.done rfl (nx_then (wp_seq (wp_seq (RG.start ?_))))
  refine S.q 1 [0, 3, 4] 0 ⟨[(0, .v (slv (a).length pa.1)), (3, .v (slv ((a).length) q1.1)), (4, .v (I 0))], []⟩ .nil ?_; clear S; intro ac w β S
  refine RG.done rfl (nx_then (wp_block ?_))
  replace S := S.p [0, 3, 4] 0 ⟨[(0, .v (slv (a).length pa.1)), (3, .v (slv ((a).length) q1.1)), (4, .v (I 0))], []⟩
  refine wp_loop_down (fun mm ac w => ∃ (k : Nat) (acc : List (TEntry)) (q5 : GT.Ptr (List TEntry)) (F6 : Bl) (u : World) (N : Bl) (β : Nat → Nat), mm = a.length - k ∧ (k ≤ a.length) ∧ (acc = a.take k ++ List.replicate (a.length - k) (GT.dflt : TEntry)) ∧ St Try.prog Try.f43.ntmps w0 NoB u N β ⟨[(0, .v (slv (a).length pa.1)), (3, .v (slv a.length q5.1)), (4, .v (I (k : Int)))], []⟩ ac w ∧ Ow w0 NoB u N F6 acc q5) _ ⟨0, (List.replicate ((a).length) (GT.dflt : TEntry)), q1, F2, _, _, _, rfl, (by first | omega | (simp; done) | (simp; omega)), (by simp), S.cast (by kernel_rfl), o3⟩ ?_
  clear S o3
  rintro mm ac w ⟨k, acc, q5, F6, u, N, β, rfl, hk, hacc, S, o7⟩
  have hlacc : acc.length = a.length := by rw [hacc]; simp; omega
  refine wp_seq (wp_seq (RG.start ?_))
  refine S.q 4 [0, 3, 4, 11] 0 ⟨[(0, .v (slv (a).length pa.1)), (3, .v (slv a.length q5.1)), (4, .v (I (k : Int))), (11, .v (B (decide ((k : Int) < ((a).length : Int)))))], []⟩ .nil ?_; clear S; intro ac w β S
  refine RG.done rfl (nx_then ?_)
  refine S.c (decide ((k : Int) < ((a).length : Int))) (fun h8 => ?_) (fun h8 => ?_)
  · have g9 : (k : Int) < ((a).length : Int) := of_decide_eq_true h8
    refine wp_skip (nx_then (wp_seq (wp_block (RG.start ?_))))
    refine S.q 8 [0, 3, 4, 20, 21] 0 ⟨[(0, .v (slv (a).length pa.1)), (3, .v (slv a.length q5.1)), (4, .v (I (k : Int))), (20, .v (GT.val ((el a k)) ())), (21, .v (pt q5.1.b (q5.1.off + k * 4)))], []⟩ (.cons (Q_idx (S.arg ha) (l := (a).length) (k := k) (i := (k : Int)) rfl rfl (by omega) Try.underlying24 (by kernel_rfl)) (.cons (Q_el (S.arg ha) (t := 118) (k := k) (by omega) rfl (by kernel_rfl) (by kernel_rfl)) (.cons (Q_call fun w hw => c_laws_toEntry w (el a k)) (.cons (Q_idx o7.rn (l := a.length) (k := k) (i := (k : Int)) (by rw [hacc]; simp; omega) rfl (by omega) Try.underlying37 (by kernel_rfl)) .nil)))) ?_; clear S; intro ac w β S
    have e10 : REntry (el acc k) := (LRd.el o7.rn k (by omega))
    refine RG.op rfl (S.setEl (α := TEntry) o7 (t := 116) (v := GT.val ((el a k)) ()) (k := k) (j := 0) (off := q5.1.off + k * 4) (y := ((el a k))) (q := ()) (Fy := NoB) (by kernel_rfl) (by kernel_rfl) (by omega) (by kernel_rfl) (by kernel_rfl) (Nat.le_of_ble_eq_true (by kernel_rfl)) (by kernel_rfl) (fun _ _ _ => ⟨NoB, ((LRd.el (S.arg ha) k (by omega))), fun _ h => False.elim h⟩) (fun b _ h => False.elim h) (fun b h => False.elim h) (fun b h => False.elim h) ?_)
    clear S; intro w N F12 q13 S up o11 d14 s15 n16
    clear up d14 o7 n16
    have l17 : (acc.set k ((el a k))).length = (acc).length := List.length_set
    replace S := S.p [0, 3, 4] 0 ⟨[(0, .v (slv (a).length pa.1)), (3, .v (slv a.length q5.1)), (4, .v (I (k : Int)))], []⟩
    refine RG.done rfl (nx_block (nx_then (RG.start ?_)))
    refine S.q 3 [0, 3, 4] 0 ⟨[(0, .v (slv (a).length pa.1)), (3, .v (slv a.length q5.1)), (4, .v (I ((k : Int) + 1)))], []⟩ (.cons (Q_add (x := (k : Int)) (y := 1) ⟨by omega, by omega⟩) .nil) ?_; clear S; intro ac w β S
    refine RG.done rfl (nx_then ?_)
    replace S := S.p [0, 3, 4] 0 ⟨[(0, .v (slv (a).length pa.1)), (3, .v (slv a.length q5.1)), (4, .v (I ((k : Int) + 1)))], []⟩
    refine ⟨a.length - (k + 1), by omega, k + 1, (acc.set k ((el a k))), (q5.1, q13), F12, _, _, _, rfl, ?_, ?_, S.cast (by kernel_rfl), o11⟩
    · clear S; first | omega | (simp [*]; done) | (simp [*]; omega)
    · clear S; rw [hacc]; exact set_step (by omega)
  · have g18 : ¬ ((k : Int) < ((a).length : Int)) := of_decide_eq_false h8
    refine wp_exit (ex_then (ex_then (ex_hit (nx_then (wp_seq (RG.start ?_))))))
    refine S.q 2 [2] 0 ⟨[(2, .v (slv a.length q5.1))], []⟩ .nil ?_; clear S; intro ac w β S
    refine RG.done rfl (nx_then (wp_ret ?_))
    refine S.r [slv a.length q5.1] ?_
    exact ret1_of S (show a = acc by clear S; rw [hacc, take_all (by omega), show a.length - k = 0 by omega]; simp) (by rw [show a.length = (acc).length from (by rw [hacc]; simp; omega)]; rfl) o7

set_option maxRecDepth 100000 in
theorem c_laws_toHost (w0 : World) (a : THost) (pa : PHost) (ha : GT.rd KK (Lt w0.heap.size) w0 a pa) : Calls Try.prog 10 [GT.val a pa].toArray w0 (Ret1 NoB w0 (a : THost)) := by
  refine Calls.walk (args := [GT.val a pa]) NoB Try.func10 rfl rfl ?_
  intro ac β S
  have hlea_mem : a.mem.length ≤ 4194304 := LRd.le (RHost.mem (d := a) ha)
  have hlea_mons : a.mons.length ≤ 4194304 := LRd.le (RHost.mons (d := a) ha)
  have hlea_buf : a.buf.length ≤ 4194304 := LRd.le (RHost.buf (d := a) ha)
  have hlea_iobuf : a.iobuf.length ≤ 4194304 := LRd.le (RHost.iobuf (d := a) ha)
  refine wp_seq (RG.start ?_)
  refine S.q 2 [1, 2] 2 ⟨[(1, .p 0 0), (2, .p 1 0)], [GT.cells a pa, Zc THost]⟩ .nil ?_; clear S; intro ac w β S
  refine RG.done rfl (nx_then (wp_seq (RG.start ?_)))
  refine S.q 1 [1, 2, 3] 3 ⟨[(1, .p 0 0), (2, .p 1 0), (3, .p 2 0)], [GT.cells a pa, Zc THost, Zc THost]⟩ .nil ?_; clear S; intro ac w β S
  refine RG.done rfl (nx_then (wp_seq (RG.start ?_)))
  refine S.q 2 [1, 2, 3, 5] 3 ⟨[(1, .p 0 0), (2, .p 1 0), (3, .p 2 0), (5, .v (slv (a.mem).length pa.mem.1))], [GT.cells a pa, Zc THost, Zc THost]⟩ .nil ?_; clear S; intro ac w β S
  refine RG.op rfl (S.call1 (r := a.mem) (d := 6) (c_laws_toIntSS w a.mem pa.mem (S.rd (RHost.mem (d := a) (S.arg ha)))) (by kernel_rfl) rfl ?_)
  clear S; intro ac w N q1 F2 S up o3 d4
  clear up d4
  refine S.q 2 [1, 2, 3] 3 ⟨[(1, .p 0 0), (2, .p 1 0), (3, .p 2 0)], [GT.cells a pa, Zc THost, [slv (a.mem).length q1.1, slv (([] : List TMon)).length (GT.pdflt (α := List TMon)).1, slv (([] : List TEntry)).length (GT.pdflt (α := List TEntry)).1, slv (([] : List TEntry)).length (GT.pdflt (α := List TEntry)).1]]⟩ .nil ?_; clear S; intro ac w β S
  refine RG.done rfl (nx_then (wp_seq (RG.start ?_)))
  refine S.q 2 [1, 2, 3, 9] 3 ⟨[(1, .p 0 0), (2, .p 1 0), (3, .p 2 0), (9, .v (slv (a.mons).length pa.mons.1))], [GT.cells a pa, Zc THost, [slv (a.mem).length q1.1, slv (([] : List TMon)).length (GT.pdflt (α := List TMon)).1, slv (([] : List TEntry)).length (GT.pdflt (α := List TEntry)).1, slv (([] : List TEntry)).length (GT.pdflt (α := List TEntry)).1]]⟩ .nil ?_; clear S; intro ac w β S
  refine RG.op rfl (S.call1 (r := a.mons) (d := 10) (c_laws_toMonS w a.mons pa.mons (S.rd (RHost.mons (d := a) (S.arg ha)))) (by kernel_rfl) rfl ?_)
  clear S; intro ac w N q5 F6 S up o7 d8
  have d9 : Disj F2 F6 := fun b x y => d8 b (o3.sub b x) y
  replace o3 := o3.up up
  clear up d8
  refine S.q 2 [1, 2, 3] 3 ⟨[(1, .p 0 0), (2, .p 1 0), (3, .p 2 0)], [GT.cells a pa, Zc THost, [slv (a.mem).length q1.1, slv (a.mons).length q5.1, slv (([] : List TEntry)).length (GT.pdflt (α := List TEntry)).1, slv (([] : List TEntry)).length (GT.pdflt (α := List TEntry)).1]]⟩ .nil ?_; clear S; intro ac w β S
  refine RG.done rfl (nx_then (wp_seq (RG.start ?_)))
  refine S.q 2 [1, 2, 3, 13] 3 ⟨[(1, .p 0 0), (2, .p 1 0), (3, .p 2 0), (13, .v (slv (a.buf).length pa.buf.1))], [GT.cells a pa, Zc THost, [slv (a.mem).length q1.1, slv (a.mons).length q5.1, slv (([] : List TEntry)).length (GT.pdflt (α := List TEntry)).1, slv (([] : List TEntry)).length (GT.pdflt (α := List TEntry)).1]]⟩ .nil ?_; clear S; intro ac w β S
  refine RG.op rfl (S.call1 (r := a.buf) (d := 14) (c_laws_toEntryS w a.buf pa.buf (S.rd (RHost.buf (d := a) (S.arg ha)))) (by kernel_rfl) rfl ?_)
  clear S; intro ac w N q10 F11 S up o12 d13
  have d14 : Disj F2 F11 := fun b x y => d13 b (o3.sub b x) y
  have d15 : Disj F6 F11 := fun b x y => d13 b (o7.sub b x) y
  replace o3 := o3.up up
  replace o7 := o7.up up
  clear up d13
  refine S.q 2 [1, 2, 3] 3 ⟨[(1, .p 0 0), (2, .p 1 0), (3, .p 2 0)], [GT.cells a pa, Zc THost, [slv (a.mem).length q1.1, slv (a.mons).length q5.1, slv (a.buf).length q10.1, slv (([] : List TEntry)).length (GT.pdflt (α := List TEntry)).1]]⟩ .nil ?_; clear S; intro ac w β S
  refine RG.done rfl (nx_then (wp_seq (RG.start ?_)))
  refine S.q 2 [2, 3, 17] 3 ⟨[(2, .p 1 0), (3, .p 2 0), (17, .v (slv (a.iobuf).length pa.iobuf.1))], [GT.cells a pa, Zc THost, [slv (a.mem).length q1.1, slv (a.mons).length q5.1, slv (a.buf).length q10.1, slv (([] : List TEntry)).length (GT.pdflt (α := List TEntry)).1]]⟩ .nil ?_; clear S; intro ac w β S
  refine RG.op rfl (S.call1 (r := a.iobuf) (d := 18) (c_laws_toEntryS w a.iobuf pa.iobuf (S.rd (RHost.iobuf (d := a) (S.arg ha)))) (by kernel_rfl) rfl ?_)
  clear S; intro ac w N q16 F17 S up o18 d19
  have d20 : Disj F2 F17 := fun b x y => d19 b (o3.sub b x) y
  have d21 : Disj F6 F17 := fun b x y => d19 b (o7.sub b x) y
  have d22 : Disj F11 F17 := fun b x y => d19 b (o12.sub b x) y
  replace o3 := o3.up up
  replace o7 := o7.up up
  replace o12 := o12.up up
  clear up d19
  refine S.q 2 [2, 3] 3 ⟨[(2, .p 1 0), (3, .p 2 0)], [GT.cells a pa, Zc THost, [slv (a.mem).length q1.1, slv (a.mons).length q5.1, slv (a.buf).length q10.1, slv (a.iobuf).length q16.1]]⟩ .nil ?_; clear S; intro ac w β S
  refine RG.done rfl (nx_then (wp_seq (RG.start ?_)))
  refine S.q 2 [2] 2 ⟨[(2, .p 1 0)], [GT.cells a pa, [slv (a.mem).length q1.1, slv (a.mons).length q5.1, slv (a.buf).length q10.1, slv (a.iobuf).length q16.1]]⟩ .nil ?_; clear S; intro ac w β S
  refine RG.done rfl (nx_then (wp_ret ?_))
  refine S.r [GT.val (⟨a.mem, a.mons, a.buf, a.iobuf⟩ : THost) (⟨q1, q5, q10, q16⟩ : PHost)] ?_
  have o23 := ow_Host (x := (⟨a.mem, a.mons, a.buf, a.iobuf⟩ : THost)) (p := (⟨q1, q5, q10, q16⟩ : PHost)) o3 o7 o12 o18 d9 d14 d20 d15 d21 d22 
  exact ret1_of S (show a = (⟨a.mem, a.mons, a.buf, a.iobuf⟩ : THost) by clear S; first | rfl | simp) rfl o23

set_option maxRecDepth 100000 in
theorem c_spec_l04Copy (w0 : World) (l : List (List Int)) (pl : LP (List Int)) (hl : GT.rd KK (Lt w0.heap.size) w0 l pl) : Calls Try.prog 81 [slv (l).length pl.1].toArray w0 (Ret1 NoB w0 (l : List (List Int))) := by
  refine Calls.walk (args := [slv (l).length pl.1]) NoB Try.func81 rfl rfl ?_
  intro ac β S
  have hlel : l.length ≤ 4194304 := LRd.le hl
  refine wp_seq (RG.start ?_)
  refine S.q 1 [0] 0 ⟨[(0, .v (slv (l).length pl.1))], []⟩ .nil ?_; clear S; intro ac w β S
  refine RG.done rfl (nx_then (wp_seq (RG.start ?_)))
  refine RG.op rfl (S.bs0 (α := List Int) (d := 5) (by kernel_rfl) ?_)
  clear S; intro ac w N q1 F2 S up o3 d4
  clear up d4
  refine S.q 1 [0, 3] 0 ⟨[(0, .v (slv (l).length pl.1)), (3, .v (slv 0 q1.1))], []⟩ .nil ?_; clear S; intro ac w β S
  refine RG.done rfl (nx_then (wp_seq (wp_seq (RG.start ?_))))
  refine S.q 1 [0, 3, 4] 0 ⟨[(0, .v (slv (l).length pl.1)), (3, .v (slv 0 q1.1)), (4, .v (I 0))], []⟩ .nil ?_; clear S; intro ac w β S
  refine RG.done rfl (nx_then (wp_block ?_))
  replace S := S.p [0, 3, 4] 0 ⟨[(0, .v (slv (l).length pl.1)), (3, .v (slv 0 q1.1)), (4, .v (I 0))], []⟩
  refine wp_loop_down (fun mm ac w => ∃ (k : Nat) (acc : List (List Int)) (q5 : GT.Ptr (List (List Int))) (F6 : Bl) (u : World) (N : Bl) (β : Nat → Nat), mm = (l).length - k ∧ (k ≤ (l).length) ∧ (acc = (l).take k) ∧ St Try.prog Try.f81.ntmps w0 NoB u N β ⟨[(0, .v (slv (l).length pl.1)), (3, .v (slv (acc).length q5.1)), (4, .v (I (k : Int)))], []⟩ ac w ∧ Ow w0 NoB u N F6 acc q5) _ ⟨0, ([] : List (List Int)), q1, F2, _, _, _, rfl, (by first | omega | (simp; done) | (simp; omega)), (by simp), S.cast (by kernel_rfl), o3⟩ ?_
  clear S o3
  rintro mm ac w ⟨k, acc, q5, F6, u, N, β, rfl, hk, hacc, S, o7⟩
  have hlacc : acc.length = k := by rw [hacc]; simp; omega
  refine wp_seq (wp_seq (RG.start ?_))
  refine S.q 4 [0, 3, 4, 9] 0 ⟨[(0, .v (slv (l).length pl.1)), (3, .v (slv (acc).length q5.1)), (4, .v (I (k : Int))), (9, .v (B (decide ((k : Int) < ((l).length : Int)))))], []⟩ .nil ?_; clear S; intro ac w β S
  refine RG.done rfl (nx_then ?_)
  refine S.c (decide ((k : Int) < ((l).length : Int))) (fun h8 => ?_) (fun h8 => ?_)
  · have g9 : (k : Int) < ((l).length : Int) := of_decide_eq_true h8
    refine wp_skip (nx_then (wp_seq (wp_block (RG.start ?_))))
    refine S.q 1 [0, 4, 12] 0 ⟨[(0, .v (slv (l).length pl.1)), (4, .v (I (k : Int))), (12, .v (slv (acc).length q5.1))], []⟩ .nil ?_; clear S; intro ac w β S
    refine RG.op rfl (S.bs0 (α := Int) (d := 13) (by kernel_rfl) ?_)
    clear S; intro ac w N q10 F11 S up o12 d13
    have d14 : Disj F6 F11 := fun b x y => d13 b (o7.sub b x) y
    replace o7 := o7.up up
    clear up d13
    refine S.q 4 [0, 4, 12, 13, 17] 0 ⟨[(0, .v (slv (l).length pl.1)), (4, .v (I (k : Int))), (12, .v (slv (acc).length q5.1)), (13, .v (slv 0 q10.1)), (17, .v (slv ((el l k)).length (pl.2 k).1))], []⟩ (.cons (Q_idx (S.arg hl) (l := (l).length) (k := k) (i := (k : Int)) rfl rfl (by omega) Try.underlying22 (by kernel_rfl)) (.cons (Q_el1 (S.arg hl) (t := 30) (k := k) (by omega) rfl (by kernel_rfl)) .nil)) ?_; clear S; intro ac w β S
    have b19 : ((el l k)).length ≤ 4194304 := LRd.le (LRd.el (S.arg hl) k (by omega))
    refine RG.op rfl (S.appFlat (α := Int) o12 ((LRd.el (S.arg hl) k (by omega))) (fun _ _ h => h) (by' := 8) (d := 18) (lx := 0) (ly := ((el l k)).length) rfl rfl (by kernel_rfl) (show _ ≤ 4194304 by simp only [List.length_append, List.length_cons, List.length_nil]; omega) ?_)
    clear S; intro ac w N q15 F16 S up o17 d18
    have d20 : Disj F6 F16 := d18 _ d14 o7.sub
    replace o7 := o7.upF d14 up
    clear up d18
    refine RG.op rfl (S.bs1 (α := List Int) (x := (([] : List Int) ++ (el l k))) (p := q15) o17.own o17.sub o17.young (d := 19) (by kernel_rfl) ?_)
    clear S; intro ac w N q21 F22 S up o23 d24
    have d25 : Disj F6 F22 := d24 _ d20 o7.sub
    replace o7 := o7.up up
    clear up d24
    refine RG.op rfl (S.appOwn (α := List Int) o7 o23 d25 (by' := 24) (d := 20) (lx := (acc).length) (ly := 1) rfl rfl (by kernel_rfl) (show _ ≤ 4194304 by simp only [List.length_append, List.length_cons, List.length_nil]; omega) ?_)
    clear S; intro ac w N q26 F27 S up o28 d29
    clear up d29
    refine S.q 1 [0, 3, 4] 0 ⟨[(0, .v (slv (l).length pl.1)), (3, .v (slv ((acc ++ [(([] : List Int) ++ (el l k))])).length q26.1)), (4, .v (I (k : Int)))], []⟩ .nil ?_; clear S; intro ac w β S
    refine RG.done rfl (nx_block (nx_then (RG.start ?_)))
    refine S.q 3 [0, 3, 4] 0 ⟨[(0, .v (slv (l).length pl.1)), (3, .v (slv ((acc ++ [(([] : List Int) ++ (el l k))])).length q26.1)), (4, .v (I ((k : Int) + 1)))], []⟩ (.cons (Q_add (x := (k : Int)) (y := 1) ⟨by omega, by omega⟩) .nil) ?_; clear S; intro ac w β S
    refine RG.done rfl (nx_then ?_)
    replace S := S.p [0, 3, 4] 0 ⟨[(0, .v (slv (l).length pl.1)), (3, .v (slv ((acc ++ [(([] : List Int) ++ (el l k))])).length q26.1)), (4, .v (I ((k : Int) + 1)))], []⟩
    refine ⟨(l).length - (k + 1), by omega, k + 1, (acc ++ [(([] : List Int) ++ (el l k))]), q26, F27, _, _, _, rfl, ?_, ?_, S.cast (by kernel_rfl), o28⟩
    · clear S; first | omega | (simp [*]; done) | (simp [*]; omega)
    · clear S; (first | (rw [take_el (by omega), hacc]; done) | (rw [take_el (by omega), hacc]; simp; done))
  · have g30 : ¬ ((k : Int) < ((l).length : Int)) := of_decide_eq_false h8
    refine wp_exit (ex_then (ex_then (ex_hit (nx_then (wp_seq (RG.start ?_))))))
    refine S.q 2 [2] 0 ⟨[(2, .v (slv (acc).length q5.1))], []⟩ .nil ?_; clear S; intro ac w β S
    refine RG.done rfl (nx_then (wp_ret ?_))
    refine S.r [slv (acc).length q5.1] ?_
    exact ret1_of S (show l = acc by clear S; (rw [hacc, take_all (by omega)])) rfl o7

set_option maxRecDepth 100000 in
theorem c_spec_l15Copy (w0 : World) (g : TGuest) (pg : PGuest) (hg : GT.rd KK (Lt w0.heap.size) w0 g pg) : Calls Try.prog 109 [GT.val g pg].toArray w0 (Ret1 NoB w0 (g : TGuest)) := by
  refine Calls.walk (args := [GT.val g pg]) NoB Try.func109 rfl rfl ?_
  intro ac β S
  have hleg_prog : g.prog.length ≤ 4194304 := LRd.le (RGuest.prog (d := g) hg)
  have hleg_written : g.written.length ≤ 4194304 := LRd.le (RGuest.written (d := g) hg)
  have hleg_live : g.live.length ≤ 4194304 := LRd.le (RGuest.live (d := g) hg)
  have hleg_seen : g.seen.length ≤ 4194304 := LRd.le (RGuest.seen (d := g) hg)
  refine wp_seq (RG.start ?_)
  refine S.q 2 [1, 2] 2 ⟨[(1, .p 0 0), (2, .p 1 0)], [GT.cells g pg, Zc TGuest]⟩ .nil ?_; clear S; intro ac w β S
  refine RG.done rfl (nx_then (wp_seq (RG.start ?_)))
  refine RG.op rfl (S.bs0 (α := TIns) (d := 3) (by kernel_rfl) ?_)
  clear S; intro ac w N q1 F2 S up o3 d4
  clear up d4
  refine S.q 2 [1, 2, 3, 5] 2 ⟨[(1, .p 0 0), (2, .p 1 0), (3, .v (slv 0 q1.1)), (5, .v (slv (g.prog).length pg.prog.1))], [GT.cells g pg, Zc TGuest]⟩ .nil ?_; clear S; intro ac w β S
  have b9 : (g.prog).length ≤ 4194304 := LRd.le (RGuest.prog (d := g) (S.arg hg))
  refine RG.op rfl (S.appFlat (α := TIns) o3 ((RGuest.prog (d := g) (S.arg hg))) (fun _ _ h => h) (by' := 16) (d := 6) (lx := 0) (ly := (g.prog).length) rfl rfl (by kernel_rfl) (show _ ≤ 4194304 by simp only [List.length_append, List.length_cons, List.length_nil]; omega) ?_)
  clear S; intro ac w N q5 F6 S up o7 d8
  clear up d8
  refine S.q 2 [1, 2] 2 ⟨[(1, .p 0 0), (2, .p 1 0)], [[slv ((([] : List TIns) ++ g.prog)).length q5.1, I g.acc, I g.pc, slv (g.written).length pg.written.1, slv (g.live).length pg.live.1, I g.ctl.traps, I g.ctl.post, B g.ctl.opn, I g.pend, I g.exit.kind, I g.exit.page, B g.exit.wr, I g.exit.n, B g.halted, slv (g.seen).length pg.seen.1], Zc TGuest]⟩ .nil ?_; clear S; intro ac w β S
  refine RG.done rfl (nx_then (wp_seq (RG.start ?_)))
  refine RG.op rfl (S.bs0 (α := TSlot) (d := 8) (by kernel_rfl) ?_)
  clear S; intro ac w N q10 F11 S up o12 d13
  have d14 : Disj F6 F11 := fun b x y => d13 b (o7.sub b x) y
  replace o7 := o7.up up
  clear up d13
  refine S.q 2 [1, 2, 8, 10] 2 ⟨[(1, .p 0 0), (2, .p 1 0), (8, .v (slv 0 q10.1)), (10, .v (slv (g.written).length pg.written.1))], [[slv ((([] : List TIns) ++ g.prog)).length q5.1, I g.acc, I g.pc, slv (g.written).length pg.written.1, slv (g.live).length pg.live.1, I g.ctl.traps, I g.ctl.post, B g.ctl.opn, I g.pend, I g.exit.kind, I g.exit.page, B g.exit.wr, I g.exit.n, B g.halted, slv (g.seen).length pg.seen.1], Zc TGuest]⟩ .nil ?_; clear S; intro ac w β S
  have b19 : (g.written).length ≤ 4194304 := LRd.le (RGuest.written (d := g) (S.arg hg))
  refine RG.op rfl (S.appFlat (α := TSlot) o12 ((RGuest.written (d := g) (S.arg hg))) (fun _ _ h => h) (by' := 16) (d := 11) (lx := 0) (ly := (g.written).length) rfl rfl (by kernel_rfl) (show _ ≤ 4194304 by simp only [List.length_append, List.length_cons, List.length_nil]; omega) ?_)
  clear S; intro ac w N q15 F16 S up o17 d18
  have d20 : Disj F6 F16 := d18 _ d14 o7.sub
  replace o7 := o7.upF d14 up
  clear up d18
  refine S.q 2 [1, 2] 2 ⟨[(1, .p 0 0), (2, .p 1 0)], [[slv ((([] : List TIns) ++ g.prog)).length q5.1, I g.acc, I g.pc, slv ((([] : List TSlot) ++ g.written)).length q15.1, slv (g.live).length pg.live.1, I g.ctl.traps, I g.ctl.post, B g.ctl.opn, I g.pend, I g.exit.kind, I g.exit.page, B g.exit.wr, I g.exit.n, B g.halted, slv (g.seen).length pg.seen.1], Zc TGuest]⟩ .nil ?_; clear S; intro ac w β S
  refine RG.done rfl (nx_then (wp_seq (RG.start ?_)))
  refine RG.op rfl (S.bs0 (α := TSlot) (d := 13) (by kernel_rfl) ?_)
  clear S; intro ac w N q21 F22 S up o23 d24
  have d25 : Disj F6 F22 := fun b x y => d24 b (o7.sub b x) y
  have d26 : Disj F16 F22 := fun b x y => d24 b (o17.sub b x) y
  replace o7 := o7.up up
  replace o17 := o17.up up
  clear up d24
  refine S.q 2 [1, 2, 13, 15] 2 ⟨[(1, .p 0 0), (2, .p 1 0), (13, .v (slv 0 q21.1)), (15, .v (slv (g.live).length pg.live.1))], [[slv ((([] : List TIns) ++ g.prog)).length q5.1, I g.acc, I g.pc, slv ((([] : List TSlot) ++ g.written)).length q15.1, slv (g.live).length pg.live.1, I g.ctl.traps, I g.ctl.post, B g.ctl.opn, I g.pend, I g.exit.kind, I g.exit.page, B g.exit.wr, I g.exit.n, B g.halted, slv (g.seen).length pg.seen.1], Zc TGuest]⟩ .nil ?_; clear S; intro ac w β S
  have b31 : (g.live).length ≤ 4194304 := LRd.le (RGuest.live (d := g) (S.arg hg))
  refine RG.op rfl (S.appFlat (α := TSlot) o23 ((RGuest.live (d := g) (S.arg hg))) (fun _ _ h => h) (by' := 16) (d := 16) (lx := 0) (ly := (g.live).length) rfl rfl (by kernel_rfl) (show _ ≤ 4194304 by simp only [List.length_append, List.length_cons, List.length_nil]; omega) ?_)
  clear S; intro ac w N q27 F28 S up o29 d30
  have d32 : Disj F6 F28 := d30 _ d25 o7.sub
  have d33 : Disj F16 F28 := d30 _ d26 o17.sub
  replace o7 := o7.upF d25 up
  replace o17 := o17.upF d26 up
  clear up d30
  refine S.q 2 [1, 2] 2 ⟨[(1, .p 0 0), (2, .p 1 0)], [[slv ((([] : List TIns) ++ g.prog)).length q5.1, I g.acc, I g.pc, slv ((([] : List TSlot) ++ g.written)).length q15.1, slv ((([] : List TSlot) ++ g.live)).length q27.1, I g.ctl.traps, I g.ctl.post, B g.ctl.opn, I g.pend, I g.exit.kind, I g.exit.page, B g.exit.wr, I g.exit.n, B g.halted, slv (g.seen).length pg.seen.1], Zc TGuest]⟩ .nil ?_; clear S; intro ac w β S
  refine RG.done rfl (nx_then (wp_seq (RG.start ?_)))
  refine RG.op rfl (S.bs0 (α := Int) (d := 18) (by kernel_rfl) ?_)
  clear S; intro ac w N q34 F35 S up o36 d37
  have d38 : Disj F6 F35 := fun b x y => d37 b (o7.sub b x) y
  have d39 : Disj F16 F35 := fun b x y => d37 b (o17.sub b x) y
  have d40 : Disj F28 F35 := fun b x y => d37 b (o29.sub b x) y
  replace o7 := o7.up up
  replace o17 := o17.up up
  replace o29 := o29.up up
  clear up d37
  refine S.q 2 [1, 2, 18, 20] 2 ⟨[(1, .p 0 0), (2, .p 1 0), (18, .v (slv 0 q34.1)), (20, .v (slv (g.seen).length pg.seen.1))], [[slv ((([] : List TIns) ++ g.prog)).length q5.1, I g.acc, I g.pc, slv ((([] : List TSlot) ++ g.written)).length q15.1, slv ((([] : List TSlot) ++ g.live)).length q27.1, I g.ctl.traps, I g.ctl.post, B g.ctl.opn, I g.pend, I g.exit.kind, I g.exit.page, B g.exit.wr, I g.exit.n, B g.halted, slv (g.seen).length pg.seen.1], Zc TGuest]⟩ .nil ?_; clear S; intro ac w β S
  have b45 : (g.seen).length ≤ 4194304 := LRd.le (RGuest.seen (d := g) (S.arg hg))
  refine RG.op rfl (S.appFlat (α := Int) o36 ((RGuest.seen (d := g) (S.arg hg))) (fun _ _ h => h) (by' := 8) (d := 21) (lx := 0) (ly := (g.seen).length) rfl rfl (by kernel_rfl) (show _ ≤ 4194304 by simp only [List.length_append, List.length_cons, List.length_nil]; omega) ?_)
  clear S; intro ac w N q41 F42 S up o43 d44
  have d46 : Disj F6 F42 := d44 _ d38 o7.sub
  have d47 : Disj F16 F42 := d44 _ d39 o17.sub
  have d48 : Disj F28 F42 := d44 _ d40 o29.sub
  replace o7 := o7.upF d38 up
  replace o17 := o17.upF d39 up
  replace o29 := o29.upF d40 up
  clear up d44
  refine S.q 2 [1, 2] 2 ⟨[(1, .p 0 0), (2, .p 1 0)], [[slv ((([] : List TIns) ++ g.prog)).length q5.1, I g.acc, I g.pc, slv ((([] : List TSlot) ++ g.written)).length q15.1, slv ((([] : List TSlot) ++ g.live)).length q27.1, I g.ctl.traps, I g.ctl.post, B g.ctl.opn, I g.pend, I g.exit.kind, I g.exit.page, B g.exit.wr, I g.exit.n, B g.halted, slv ((([] : List Int) ++ g.seen)).length q41.1], Zc TGuest]⟩ .nil ?_; clear S; intro ac w β S
  refine RG.done rfl (nx_then (wp_seq (RG.start ?_)))
  refine S.q 2 [2] 2 ⟨[(2, .p 1 0)], [[slv ((([] : List TIns) ++ g.prog)).length q5.1, I g.acc, I g.pc, slv ((([] : List TSlot) ++ g.written)).length q15.1, slv ((([] : List TSlot) ++ g.live)).length q27.1, I g.ctl.traps, I g.ctl.post, B g.ctl.opn, I g.pend, I g.exit.kind, I g.exit.page, B g.exit.wr, I g.exit.n, B g.halted, slv ((([] : List Int) ++ g.seen)).length q41.1], [slv ((([] : List TIns) ++ g.prog)).length q5.1, I g.acc, I g.pc, slv ((([] : List TSlot) ++ g.written)).length q15.1, slv ((([] : List TSlot) ++ g.live)).length q27.1, I g.ctl.traps, I g.ctl.post, B g.ctl.opn, I g.pend, I g.exit.kind, I g.exit.page, B g.exit.wr, I g.exit.n, B g.halted, slv ((([] : List Int) ++ g.seen)).length q41.1]]⟩ .nil ?_; clear S; intro ac w β S
  refine RG.done rfl (nx_then (wp_ret ?_))
  refine S.r [GT.val (⟨(([] : List TIns) ++ g.prog), g.acc, g.pc, (([] : List TSlot) ++ g.written), (([] : List TSlot) ++ g.live), g.ctl, g.pend, g.exit, g.halted, (([] : List Int) ++ g.seen)⟩ : TGuest) (⟨q5, q15, q27, q41⟩ : PGuest)] ?_
  have o49 := ow_Guest (x := (⟨(([] : List TIns) ++ g.prog), g.acc, g.pc, (([] : List TSlot) ++ g.written), (([] : List TSlot) ++ g.live), g.ctl, g.pend, g.exit, g.halted, (([] : List Int) ++ g.seen)⟩ : TGuest)) (p := (⟨q5, q15, q27, q41⟩ : PGuest)) o7 o17 o29 o43 d20 d32 d46 d33 d47 d48 (RGuest.acc (d := g) (S.arg hg)) (RGuest.pc (d := g) (S.arg hg)) (RGuest.ctl (d := g) (S.arg hg)) (RGuest.pend (d := g) (S.arg hg)) (RGuest.exit (d := g) (S.arg hg))
  exact ret1_of S (show g = (⟨(([] : List TIns) ++ g.prog), g.acc, g.pc, (([] : List TSlot) ++ g.written), (([] : List TSlot) ++ g.live), g.ctl, g.pend, g.exit, g.halted, (([] : List Int) ++ g.seen)⟩ : TGuest) by clear S; (first | rfl | simp)) rfl o49

set_option maxRecDepth 100000 in
theorem c_spec_l17Guests (w0 : World) (l : List TGuest) (pl : LP TGuest) (hl : GT.rd KK (Lt w0.heap.size) w0 l pl) : Calls Try.prog 82 [slv (l).length pl.1].toArray w0 (Ret1 NoB w0 (l : List TGuest)) := by
  refine Calls.walk (args := [slv (l).length pl.1]) NoB Try.func82 rfl rfl ?_
  intro ac β S
  have hlel : l.length ≤ 4194304 := LRd.le hl
  refine wp_seq (RG.start ?_)
  refine S.q 1 [0] 0 ⟨[(0, .v (slv (l).length pl.1))], []⟩ .nil ?_; clear S; intro ac w β S
  refine RG.done rfl (nx_then (wp_seq (RG.start ?_)))
  refine RG.op rfl (S.bs0 (α := TGuest) (d := 5) (by kernel_rfl) ?_)
  clear S; intro ac w N q1 F2 S up o3 d4
  clear up d4
  refine S.q 1 [0, 3] 0 ⟨[(0, .v (slv (l).length pl.1)), (3, .v (slv 0 q1.1))], []⟩ .nil ?_; clear S; intro ac w β S
  refine RG.done rfl (nx_then (wp_seq (wp_seq (RG.start ?_))))
  refine S.q 1 [0, 3, 4] 0 ⟨[(0, .v (slv (l).length pl.1)), (3, .v (slv 0 q1.1)), (4, .v (I 0))], []⟩ .nil ?_; clear S; intro ac w β S
  refine RG.done rfl (nx_then (wp_block ?_))
  replace S := S.p [0, 3, 4] 0 ⟨[(0, .v (slv (l).length pl.1)), (3, .v (slv 0 q1.1)), (4, .v (I 0))], []⟩
  refine wp_loop_down (fun mm ac w => ∃ (k : Nat) (acc : List TGuest) (q5 : GT.Ptr (List TGuest)) (F6 : Bl) (u : World) (N : Bl) (β : Nat → Nat), mm = (l).length - k ∧ (k ≤ (l).length) ∧ (acc = (l).take k) ∧ St Try.prog Try.f82.ntmps w0 NoB u N β ⟨[(0, .v (slv (l).length pl.1)), (3, .v (slv (acc).length q5.1)), (4, .v (I (k : Int)))], []⟩ ac w ∧ Ow w0 NoB u N F6 acc q5) _ ⟨0, ([] : List TGuest), q1, F2, _, _, _, rfl, (by first | omega | (simp; done) | (simp; omega)), (by simp), S.cast (by kernel_rfl), o3⟩ ?_
  clear S o3
  rintro mm ac w ⟨k, acc, q5, F6, u, N, β, rfl, hk, hacc, S, o7⟩
  have hlacc : acc.length = k := by rw [hacc]; simp; omega
  refine wp_seq (wp_seq (RG.start ?_))
  refine S.q 4 [0, 3, 4, 9] 0 ⟨[(0, .v (slv (l).length pl.1)), (3, .v (slv (acc).length q5.1)), (4, .v (I (k : Int))), (9, .v (B (decide ((k : Int) < ((l).length : Int)))))], []⟩ .nil ?_; clear S; intro ac w β S
  refine RG.done rfl (nx_then ?_)
  refine S.c (decide ((k : Int) < ((l).length : Int))) (fun h8 => ?_) (fun h8 => ?_)
  · have g9 : (k : Int) < ((l).length : Int) := of_decide_eq_true h8
    refine wp_skip (nx_then (wp_seq (wp_block (RG.start ?_))))
    refine S.q 5 [0, 4, 12, 16] 0 ⟨[(0, .v (slv (l).length pl.1)), (4, .v (I (k : Int))), (12, .v (slv (acc).length q5.1)), (16, .v (GT.val (el l k) (pl.2 k)))], []⟩ (.cons (Q_idx (S.arg hl) (l := (l).length) (k := k) (i := (k : Int)) rfl rfl (by omega) Try.underlying43 (by kernel_rfl)) (.cons (Q_el (S.arg hl) (t := 127) (k := k) (by omega) rfl (by kernel_rfl) (by kernel_rfl)) .nil)) ?_; clear S; intro ac w β S
    refine RG.op rfl (S.call1 (r := (el l k)) (d := 17) (c_spec_l15Copy w (el l k) (pl.2 k) (S.rd (LRd.el (S.arg hl) k (by omega)))) (by kernel_rfl) rfl ?_)
    clear S; intro ac w N q10 F11 S up o12 d13
    have d14 : Disj F6 F11 := fun b x y => d13 b (o7.sub b x) y
    replace o7 := o7.up up
    clear up d13
    have i18 : In64 (el l k).acc := RGuest.acc (d := (el l k)) o12.rn
    have i19 : In64 (el l k).pc := RGuest.pc (d := (el l k)) o12.rn
    have i26 : RCtl (el l k).ctl := RGuest.ctl (d := (el l k)) o12.rn
    have i27 : In64 (el l k).pend := RGuest.pend (d := (el l k)) o12.rn
    have i28 : RExit (el l k).exit := RGuest.exit (d := (el l k)) o12.rn
    obtain ⟨F15, F20, F23, F29, o16, o21, o24, o30, s17, s22, s25, s31, d32, d33, d34, d35, d36, d37⟩ := sp_Guest o12
    have o42 := ow_Guest (x := (el l k)) (p := q10) o16 o21 o24 o30 d32 d33 d34 d35 d36 d37 i18 i19 i26 i27 i28
    refine RG.op rfl (S.bs1 (α := TGuest) (x := (el l k)) (p := q10) o42.own o42.sub o42.young (d := 18) (by kernel_rfl) ?_)
    clear S; intro ac w N q38 F39 S up o40 d41
    have d43 : Disj F6 F39 := d41 _ (Disj.symm (Disj.or (Disj.part (Disj.symm d14) s17) (Disj.or (Disj.part (Disj.symm d14) s22) (Disj.or (Disj.part (Disj.symm d14) s25) (Disj.or (Disj.part (Disj.symm d14) s31) Disj.nob))))) o7.sub
    replace o7 := o7.up up
    clear up d41
    refine RG.op rfl (S.appOwn (α := TGuest) o7 o40 d43 (by' := 184) (d := 19) (lx := (acc).length) (ly := 1) rfl rfl (by kernel_rfl) (show _ ≤ 4194304 by simp only [List.length_append, List.length_cons, List.length_nil]; omega) ?_)
    clear S; intro ac w N q44 F45 S up o46 d47
    clear up d47
    refine S.q 1 [0, 3, 4] 0 ⟨[(0, .v (slv (l).length pl.1)), (3, .v (slv ((acc ++ [(el l k)])).length q44.1)), (4, .v (I (k : Int)))], []⟩ .nil ?_; clear S; intro ac w β S
    refine RG.done rfl (nx_block (nx_then (RG.start ?_)))
    refine S.q 3 [0, 3, 4] 0 ⟨[(0, .v (slv (l).length pl.1)), (3, .v (slv ((acc ++ [(el l k)])).length q44.1)), (4, .v (I ((k : Int) + 1)))], []⟩ (.cons (Q_add (x := (k : Int)) (y := 1) ⟨by omega, by omega⟩) .nil) ?_; clear S; intro ac w β S
    refine RG.done rfl (nx_then ?_)
    replace S := S.p [0, 3, 4] 0 ⟨[(0, .v (slv (l).length pl.1)), (3, .v (slv ((acc ++ [(el l k)])).length q44.1)), (4, .v (I ((k : Int) + 1)))], []⟩
    refine ⟨(l).length - (k + 1), by omega, k + 1, (acc ++ [(el l k)]), q44, F45, _, _, _, rfl, ?_, ?_, S.cast (by kernel_rfl), o46⟩
    · clear S; first | omega | (simp [*]; done) | (simp [*]; omega)
    · clear S; (first | (rw [take_el (by omega), hacc]; done) | (rw [take_el (by omega), hacc]; simp; done))
  · have g48 : ¬ ((k : Int) < ((l).length : Int)) := of_decide_eq_false h8
    refine wp_exit (ex_then (ex_then (ex_hit (nx_then (wp_seq (RG.start ?_))))))
    refine S.q 2 [2] 0 ⟨[(2, .v (slv (acc).length q5.1))], []⟩ .nil ?_; clear S; intro ac w β S
    refine RG.done rfl (nx_then (wp_ret ?_))
    refine S.r [slv (acc).length q5.1] ?_
    exact ret1_of S (show l = acc by clear S; (rw [hacc, take_all (by omega)])) rfl o7

set_option maxRecDepth 100000 in
theorem c_spec_l07Copy (w0 : World) (k : TKept) (pk : PKept) (hk : GT.rd KK (Lt w0.heap.size) w0 k pk) : Calls Try.prog 83 [GT.val k pk].toArray w0 (Ret1 NoB w0 (k : TKept)) := by
  refine Calls.walk (args := [GT.val k pk]) NoB Try.func83 rfl rfl ?_
  intro ac β S
  have hlek_known : k.known.length ≤ 4194304 := LRd.le (RKept.known (d := k) hk)
  have hlek_slots : k.slots.length ≤ 4194304 := LRd.le (RKept.slots (d := k) hk)
  refine wp_seq (RG.start ?_)
  refine S.q 2 [1, 2] 2 ⟨[(1, .p 0 0), (2, .p 1 0)], [GT.cells k pk, Zc TKept]⟩ .nil ?_; clear S; intro ac w β S
  refine RG.done rfl (nx_then (wp_seq ?_))
  replace S := S.p [1, 2] 2 ⟨[(1, .p 0 0), (2, .p 1 0)], [GT.cells k pk, Zc TKept]⟩
  obtain ⟨u0, N0, β0, S⟩ : ∃ (u0 : World) (N0 : Bl) (β0 : Nat → Nat), St Try.prog Try.f83.ntmps w0 NoB u0 N0 β0 ⟨[(1, .p 0 0), (2, .p 1 0)], [GT.cells k pk, Zc TKept]⟩ ac w := ⟨_, _, _, S.cast (by kernel_rfl)⟩
  refine wp_region_cut (fun ac w => ∃ (q55 : GT.Ptr (List Bool)) (F56 : Bl) (q58 : GT.Ptr (List TSlot)) (F59 : Bl) (u : World) (N : Bl) (β : Nat → Nat), St Try.prog Try.f83.ntmps w0 NoB u N β ⟨[(2, .p 1 0)], [GT.cells k pk, [slv ((([] : List Bool) ++ k.known)).length q55.1, slv ((([] : List TSlot) ++ k.slots)).length q58.1]]⟩ ac w ∧ Ow w0 NoB u N F56 (([] : List Bool) ++ k.known) q55 ∧ Ow w0 NoB u N F59 (([] : List TSlot) ++ k.slots) q58 ∧ Disj F56 F59) ?_ ?_
  · refine S.draw0 (f := 10) 9 rfl rfl ?_
    clear S; intro w S
    refine S.hoist (i := 1) (path := [1]) (keep := [1, 2, 4]) (m := 2) (σ' := ⟨[(1, .p 0 0), (2, .p 1 0), (4, .p 0 0)], [GT.cells k pk, Zc TKept]⟩) (by kernel_rfl) (by kernel_rfl) .nil (by kernel_rfl) ?_
    clear S; intro ac S
    refine S.hoist (i := 2) (path := [2]) (keep := [1, 2, 5]) (m := 2) (σ' := ⟨[(1, .p 0 0), (2, .p 1 0), (5, .v (slv (k.known).length pk.known.1))], [GT.cells k pk, Zc TKept]⟩) (by kernel_rfl) (by kernel_rfl) .nil (by kernel_rfl) ?_
    clear S; intro ac S
    refine S.hoist (i := 5) (path := [5]) (keep := [2, 5, 8]) (m := 2) (σ' := ⟨[(2, .p 1 0), (5, .v (slv (k.known).length pk.known.1)), (8, .p 0 1)], [GT.cells k pk, Zc TKept]⟩) (by kernel_rfl) (by kernel_rfl) .nil (by kernel_rfl) ?_
    clear S; intro ac S
    refine S.hoist (i := 6) (path := [6]) (keep := [2, 5, 9]) (m := 2) (σ' := ⟨[(2, .p 1 0), (5, .v (slv (k.known).length pk.known.1)), (9, .v (slv (k.slots).length pk.slots.1))], [GT.cells k pk, Zc TKept]⟩) (by kernel_rfl) (by kernel_rfl) .nil (by kernel_rfl) ?_
    clear S; intro ac S
    refine WD.nameW fun W hW => ?_
    refine WD.castW (l' := mkL 10 [1, 2, 5, 6]) (by kernel_rfl) ?_
    have hK60 : ∀ (ac : Act) (w : World) (q55 : GT.Ptr (List Bool)) (F56 : Bl) (q58 : GT.Ptr (List TSlot)) (F59 : Bl) (u : World) (N : Bl) (β : Nat → Nat) (S : St Try.prog Try.f83.ntmps w0 NoB u N β ⟨[(2, .p 1 0)], [GT.cells k pk, [slv ((([] : List Bool) ++ k.known)).length q55.1, slv ((([] : List TSlot) ++ k.slots)).length q58.1]]⟩ ac w) (o54 : Ow w0 NoB u N F56 (([] : List Bool) ++ k.known) q55) (o57 : Ow w0 NoB u N F59 (([] : List TSlot) ++ k.slots) q58) (d61 : Disj F56 F59) (hNN : True) (hBB : True), W 0 (mkL 10 [0, 1, 2, 3, 4, 5, 6, 7, 8, 9]) ac w := by
      intro ac w q55 F56 q58 F59 u N β S o54 o57 d61 hNN hBB
      rw [hW]
      refine WD.done (by kernel_rfl) ?_ _
      replace S := S.p [2] 2 ⟨[(2, .p 1 0)], [GT.cells k pk, [slv ((([] : List Bool) ++ k.known)).length q55.1, slv ((([] : List TSlot) ++ k.slots)).length q58.1]]⟩
      exact ⟨rfl, q55, F56, q58, F59, _, _, _, S.cast (by kernel_rfl), o54, o57, d61⟩
    have hK62 : ∀ (ac : Act) (w : World) (q49 : GT.Ptr (List Bool)) (F50 : Bl) (q52 : GT.Ptr (List TSlot)) (F53 : Bl) (u : World) (N : Bl) (β : Nat → Nat) (S : St Try.prog Try.f83.ntmps w0 NoB u N β ⟨[(2, .p 1 0), (11, .v (GT.val (⟨(([] : List Bool) ++ k.known), (([] : List TSlot) ++ k.slots)⟩ : TKept) (⟨q49, q52⟩ : PKept)))], [GT.cells k pk, Zc TKept]⟩ ac w) (o48 : Ow w0 NoB u N F50 (([] : List Bool) ++ k.known) q49) (o51 : Ow w0 NoB u N F53 (([] : List TSlot) ++ k.slots) q52) (d63 : Disj F50 F53) (hNN : ∀ b, N0 b → N b ∧ u.heap[b]? = u0.heap[b]?) (hBB : ∀ k, k < 2 → β k = β0 k), W 1 (mkL 10 [0, 1, 2, 3, 4, 5, 6, 7, 8]) ac w := by
      intro ac w q49 F50 q52 F53 u N β S o48 o51 d63 hNN hBB
      rw [hW]
      refine WD.one (i := 9) (by kernel_rfl) ?_
      refine S.stepq (i := 9) (keep := [2]) (m := 2) (σ' := ⟨[(2, .p 1 0)], [GT.cells k pk, [slv ((([] : List Bool) ++ k.known)).length q49.1, slv ((([] : List TSlot) ++ k.slots)).length q52.1]]⟩) .nil (by kernel_rfl) ?_
      clear S; intro ac w β S hβ
      refine WD.last (by kernel_rfl) ?_
      clear hβ
      exact WD.ofW hW (by kernel_rfl) (hK60 ac w q49 F50 q52 F53 _ _ _ (S.prune (keep := [2]) (m := 2) (by kernel_rfl)) o48 o51 d63 trivial trivial)
    have hK64 : ∀ (ac : Act) (w : World) (q46 : GT.Ptr (List TSlot)) (F47 : Bl) (q24 : GT.Ptr (List Bool)) (F25 : Bl) (u : World) (N : Bl) (β : Nat → Nat) (S : St Try.prog Try.f83.ntmps w0 NoB u N β ⟨[(2, .p 1 0), (6, .v (slv ((([] : List Bool) ++ k.known)).length q24.1)), (10, .v (slv ((([] : List TSlot) ++ k.slots)).length q46.1))], [GT.cells k pk, Zc TKept]⟩ ac w) (o45 : Ow w0 NoB u N F47 (([] : List TSlot) ++ k.slots) q46) (o23 : Ow w0 NoB u N F25 (([] : List Bool) ++ k.known) q24) (d65 : Disj F47 F25) (hNN : ∀ b, N0 b → N b ∧ u.heap[b]? = u0.heap[b]?) (hBB : ∀ k, k < 2 → β k = β0 k), W 2 (mkL 10 [0, 1, 2, 3, 4, 5, 6, 7]) ac w := by
      intro ac w q46 F47 q24 F25 u N β S o45 o23 d65 hNN hBB
      rw [hW]
      refine WD.one (i := 8) (by kernel_rfl) ?_
      refine S.stepq (i := 8) (keep := [2, 11]) (m := 2) (σ' := ⟨[(2, .p 1 0), (11, .v (GT.val (⟨(([] : List Bool) ++ k.known), (([] : List TSlot) ++ k.slots)⟩ : TKept) (⟨q24, q46⟩ : PKept)))], [GT.cells k pk, Zc TKept]⟩) (.cons (Q_sem (s := Instr.build 101 [(0, slv ((([] : List Bool) ++ k.known)).length q24.1), (1, slv ((([] : List TSlot) ++ k.slots)).length q46.1)].toArray) (v := .agg [slv ((([] : List Bool) ++ k.known)).length q24.1, slv ((([] : List TSlot) ++ k.slots)).length q46.1].toArray) (fun w => by kernel_rfl)) .nil) (by kernel_rfl) ?_
      clear S; intro ac w β S hβ
      have hB2 := fun k (hk : k < 2) => (hβ k (Nat.lt_of_lt_of_le hk (Nat.le_of_ble_eq_true rfl))).trans (hBB k hk)
      refine WD.stayK S (fun b h => ⟨(hNN b h).1, (hNN b h).2⟩) hB2 (fun _ _ h => h) ?_
      clear hβ
      exact WD.ofW hW (by kernel_rfl) (hK62 ac w q24 F25 q46 F47 _ _ _ (S.prune (keep := [2, 11]) (m := 2) (by kernel_rfl)) o23 o45 (Disj.symm d65) hNN hB2)
    have hK66 : ∀ (ac : Act) (w : World) (q24 : GT.Ptr (List Bool)) (F25 : Bl) (q15 : GT.Ptr (List TSlot)) (F16 : Bl) (u : World) (N : Bl) (β : Nat → Nat) (S : St Try.prog Try.f83.ntmps w0 NoB u N β ⟨[(2, .p 1 0), (6, .v (slv ((([] : List Bool) ++ k.known)).length q24.1)), (7, .v (slv 0 q15.1)), (9, .v (slv (k.slots).length pk.slots.1))], [GT.cells k pk, Zc TKept]⟩ ac w) (o23 : Ow w0 NoB u N F25 (([] : List Bool) ++ k.known) q24) (o14 : Ow w0 NoB u N F16 ([] : List TSlot) q15) (d67 : Disj F25 F16) (hNN : ∀ b, N0 b → N b ∧ u.heap[b]? = u0.heap[b]? ∧ ¬ F16 b) (hBB : ∀ k, k < 2 → β k = β0 k), W 3 (mkL 10 [0, 1, 2, 3, 4, 5, 6]) ac w := by
      intro ac w q24 F25 q15 F16 u N β S o23 o14 d67 hNN hBB
      rw [hW]
      refine WD.one (i := 7) (by kernel_rfl) ?_
      have b72 : (k.slots).length ≤ 4194304 := LRd.le (RKept.slots (d := k) (S.arg hk))
      refine id (S.appFlat (α := TSlot) o14 ((RKept.slots (d := k) (S.arg hk))) (fun _ _ h => h) (by' := 16) (d := 10) (lx := 0) (ly := (k.slots).length) rfl rfl (by kernel_rfl) (show _ ≤ 4194304 by simp only [List.length_append, List.length_cons, List.length_nil]; omega) ?_)
      clear S; intro ac w N q68 F69 S up o70 d71
      have hb73 := fun b h => (⟨(up b (hNN b h).1 (hNN b h).2.2).1, (up b (hNN b h).1 (hNN b h).2.2).2.trans (hNN b h).2.1⟩ : _ ∧ _)
      refine WD.stayK S (fun b h => ⟨(hb73 b h).1, (hb73 b h).2⟩) hBB (fun _ _ h => h) ?_
      have d74 : Disj F25 F69 := d71 _ d67 o23.sub
      replace o23 := o23.upF d67 up
      clear up d71
      exact WD.ofW hW (by kernel_rfl) (hK64 ac w q68 F69 q24 F25 _ _ _ (S.prune (keep := [2, 6, 10]) (m := 2) (by kernel_rfl)) o70 o23 (Disj.symm d74) hb73 hBB)
    have hK75 : ∀ (ac : Act) (w : World) (q24 : GT.Ptr (List Bool)) (F25 : Bl) (u : World) (N : Bl) (β : Nat → Nat) (S : St Try.prog Try.f83.ntmps w0 NoB u N β ⟨[(2, .p 1 0), (6, .v (slv ((([] : List Bool) ++ k.known)).length q24.1)), (9, .v (slv (k.slots).length pk.slots.1))], [GT.cells k pk, Zc TKept]⟩ ac w) (o23 : Ow w0 NoB u N F25 (([] : List Bool) ++ k.known) q24) (hNN : ∀ b, N0 b → N b ∧ u.heap[b]? = u0.heap[b]?) (hBB : ∀ k, k < 2 → β k = β0 k), W 4 (mkL 10 [0, 1, 2, 3, 5, 6]) ac w := by
      intro ac w q24 F25 u N β S o23 hNN hBB
      rw [hW]
      refine WD.one (i := 4) (by kernel_rfl) ?_
      refine id (S.bs0 (α := TSlot) (d := 7) (by kernel_rfl) ?_)
      clear S; intro ac w N q76 F77 S up o78 d79
      have hb80 := fun b h => (⟨(up b (hNN b h).1).1, (up b (hNN b h).1).2.trans (hNN b h).2, d79 b (hNN b h).1⟩ : _ ∧ _ ∧ _)
      refine WD.stayK S (fun b h => ⟨(hb80 b h).1, (hb80 b h).2.1⟩) hBB (fun _ _ h => h) ?_
      have d81 : Disj F25 F77 := fun b x y => d79 b (o23.sub b x) y
      replace o23 := o23.up up
      clear up d79
      exact WD.ofW hW (by kernel_rfl) (hK66 ac w q24 F25 q76 F77 _ _ _ (S.prune (keep := [2, 6, 7, 9]) (m := 2) (by kernel_rfl)) o23 o78 d81 hb80 hBB)
    have hK82 : ∀ (ac : Act) (w : World) (q7 : GT.Ptr (List Bool)) (F8 : Bl) (q15 : GT.Ptr (List TSlot)) (F16 : Bl) (u : World) (N : Bl) (β : Nat → Nat) (S : St Try.prog Try.f83.ntmps w0 NoB u N β ⟨[(2, .p 1 0), (3, .v (slv 0 q7.1)), (5, .v (slv (k.known).length pk.known.1)), (7, .v (slv 0 q15.1)), (9, .v (slv (k.slots).length pk.slots.1))], [GT.cells k pk, Zc TKept]⟩ ac w) (o6 : Ow w0 NoB u N F8 ([] : List Bool) q7) (o14 : Ow w0 NoB u N F16 ([] : List TSlot) q15) (d83 : Disj F8 F16) (hNN : ∀ b, N0 b → N b ∧ u.heap[b]? = u0.heap[b]? ∧ ¬ F8 b ∧ ¬ F16 b) (hBB : ∀ k, k < 2 → β k = β0 k), W 4 (mkL 10 [0, 1, 2, 4, 5, 6]) ac w := by
      intro ac w q7 F8 q15 F16 u N β S o6 o14 d83 hNN hBB
      rw [hW]
      refine WD.one (i := 3) (by kernel_rfl) ?_
      have b88 : (k.known).length ≤ 4194304 := LRd.le (RKept.known (d := k) (S.arg hk))
      refine id (S.appFlat (α := Bool) o6 ((RKept.known (d := k) (S.arg hk))) (fun _ _ h => h) (by' := 1) (d := 6) (lx := 0) (ly := (k.known).length) rfl rfl (by kernel_rfl) (show _ ≤ 4194304 by simp only [List.length_append, List.length_cons, List.length_nil]; omega) ?_)
      clear S; intro ac w N q84 F85 S up o86 d87
      have hb89 := fun b h => (⟨(up b (hNN b h).1 (hNN b h).2.2.1).1, (up b (hNN b h).1 (hNN b h).2.2.1).2.trans (hNN b h).2.1, (hNN b h).2.2.2⟩ : _ ∧ _ ∧ _)
      refine WD.stayK S (fun b h => ⟨(hb89 b h).1, (hb89 b h).2.1⟩) hBB (fun _ _ h => h) ?_
      have d90 : Disj F16 F85 := d87 _ (Disj.symm d83) o14.sub
      replace o14 := o14.upF (Disj.symm d83) up
      clear up d87
      exact WD.ofW hW (by kernel_rfl) (hK66 ac w q84 F85 q15 F16 _ _ _ (S.prune (keep := [2, 6, 7, 9]) (m := 2) (by kernel_rfl)) o86 o14 (Disj.symm d90) hb89 hBB)
    have hK91 : ∀ (ac : Act) (w : World) (q7 : GT.Ptr (List Bool)) (F8 : Bl) (u : World) (N : Bl) (β : Nat → Nat) (S : St Try.prog Try.f83.ntmps w0 NoB u N β ⟨[(2, .p 1 0), (3, .v (slv 0 q7.1)), (5, .v (slv (k.known).length pk.known.1)), (9, .v (slv (k.slots).length pk.slots.1))], [GT.cells k pk, Zc TKept]⟩ ac w) (o6 : Ow w0 NoB u N F8 ([] : List Bool) q7) (hNN : ∀ b, N0 b → N b ∧ u.heap[b]? = u0.heap[b]? ∧ ¬ F8 b) (hBB : ∀ k, k < 2 → β k = β0 k), W 5 (mkL 10 [0, 1, 2, 5, 6]) ac w := by
      intro ac w q7 F8 u N β S o6 hNN hBB
      rw [hW]
      refine WD.many (rs := [3, 4]) (by kernel_rfl) rfl (List.forall_mem_cons.2 ⟨?_, List.forall_mem_cons.2 ⟨?_, List.forall_mem_nil _⟩⟩)
      · have b96 : (k.known).length ≤ 4194304 := LRd.le (RKept.known (d := k) (S.arg hk))
        refine id (S.appFlat (α := Bool) o6 ((RKept.known (d := k) (S.arg hk))) (fun _ _ h => h) (by' := 1) (d := 6) (lx := 0) (ly := (k.known).length) rfl rfl (by kernel_rfl) (show _ ≤ 4194304 by simp only [List.length_append, List.length_cons, List.length_nil]; omega) ?_)
        clear S; intro ac w N q92 F93 S up o94 d95
        have hb97 := fun b h => (⟨(up b (hNN b h).1 (hNN b h).2.2).1, (up b (hNN b h).1 (hNN b h).2.2).2.trans (hNN b h).2.1⟩ : _ ∧ _)
        refine WD.stayK S (fun b h => ⟨(hb97 b h).1, (hb97 b h).2⟩) hBB (fun _ _ h => h) ?_
        clear up d95
        exact WD.ofW hW (by kernel_rfl) (hK75 ac w q92 F93 _ _ _ (S.prune (keep := [2, 6, 9]) (m := 2) (by kernel_rfl)) o94 hb97 hBB)
      · refine id (S.bs0 (α := TSlot) (d := 7) (by kernel_rfl) ?_)
        clear S; intro ac w N q98 F99 S up o100 d101
        have hb102 := fun b h => (⟨(up b (hNN b h).1).1, (up b (hNN b h).1).2.trans (hNN b h).2.1, (hNN b h).2.2, d101 b (hNN b h).1⟩ : _ ∧ _ ∧ _ ∧ _)
        refine WD.stayK S (fun b h => ⟨(hb102 b h).1, (hb102 b h).2.1⟩) hBB (fun _ _ h => h) ?_
        have d103 : Disj F8 F99 := fun b x y => d101 b (o6.sub b x) y
        replace o6 := o6.up up
        clear up d101
        exact WD.ofW hW (by kernel_rfl) (hK82 ac w q7 F8 q98 F99 _ _ _ (S.prune (keep := [2, 3, 5, 7, 9]) (m := 2) (by kernel_rfl)) o6 o100 d103 hb102 hBB)
    have hK104 : ∀ (ac : Act) (w : World) (q15 : GT.Ptr (List TSlot)) (F16 : Bl) (u : World) (N : Bl) (β : Nat → Nat) (S : St Try.prog Try.f83.ntmps w0 NoB u N β ⟨[(2, .p 1 0), (5, .v (slv (k.known).length pk.known.1)), (7, .v (slv 0 q15.1)), (9, .v (slv (k.slots).length pk.slots.1))], [GT.cells k pk, Zc TKept]⟩ ac w) (o14 : Ow w0 NoB u N F16 ([] : List TSlot) q15) (hNN : ∀ b, N0 b → N b ∧ u.heap[b]? = u0.heap[b]? ∧ ¬ F16 b) (hBB : ∀ k, k < 2 → β k = β0 k), W 5 (mkL 10 [1, 2, 4, 5, 6]) ac w := by
      intro ac w q15 F16 u N β S o14 hNN hBB
      rw [hW]
      refine WD.one (i := 0) (by kernel_rfl) ?_
      refine id (S.bs0 (α := Bool) (d := 3) (by kernel_rfl) ?_)
      clear S; intro ac w N q105 F106 S up o107 d108
      have hb109 := fun b h => (⟨(up b (hNN b h).1).1, (up b (hNN b h).1).2.trans (hNN b h).2.1, d108 b (hNN b h).1, (hNN b h).2.2⟩ : _ ∧ _ ∧ _ ∧ _)
      refine WD.stayK S (fun b h => ⟨(hb109 b h).1, (hb109 b h).2.1⟩) hBB (fun _ _ h => h) ?_
      have d110 : Disj F16 F106 := fun b x y => d108 b (o14.sub b x) y
      replace o14 := o14.up up
      clear up d108
      exact WD.ofW hW (by kernel_rfl) (hK82 ac w q105 F106 q15 F16 _ _ _ (S.prune (keep := [2, 3, 5, 7, 9]) (m := 2) (by kernel_rfl)) o107 o14 (Disj.symm d110) hb109 hBB)
    have hNN : ∀ b, N0 b → N0 b ∧ u0.heap[b]? = u0.heap[b]? := fun b h => ⟨h, rfl⟩
    have hBB : ∀ k, k < 2 → β0 k = β0 k := fun _ _ => rfl
    rw [hW]
    refine WD.many (rs := [0, 4]) (by kernel_rfl) rfl (List.forall_mem_cons.2 ⟨?_, List.forall_mem_cons.2 ⟨?_, List.forall_mem_nil _⟩⟩)
    · refine id (S.bs0 (α := Bool) (d := 3) (by kernel_rfl) ?_)
      clear S; intro ac w N q111 F112 S up o113 d114
      have hb115 := fun b h => (⟨(up b (hNN b h).1).1, (up b (hNN b h).1).2.trans (hNN b h).2, d114 b (hNN b h).1⟩ : _ ∧ _ ∧ _)
      refine WD.stayK S (fun b h => ⟨(hb115 b h).1, (hb115 b h).2.1⟩) hBB (fun _ _ h => h) ?_
      clear up d114
      exact WD.ofW hW (by kernel_rfl) (hK91 ac w q111 F112 _ _ _ (S.prune (keep := [2, 3, 5, 9]) (m := 2) (by kernel_rfl)) o113 hb115 hBB)
    · refine id (S.bs0 (α := TSlot) (d := 7) (by kernel_rfl) ?_)
      clear S; intro ac w N q116 F117 S up o118 d119
      have hb120 := fun b h => (⟨(up b (hNN b h).1).1, (up b (hNN b h).1).2.trans (hNN b h).2, d119 b (hNN b h).1⟩ : _ ∧ _ ∧ _)
      refine WD.stayK S (fun b h => ⟨(hb120 b h).1, (hb120 b h).2.1⟩) hBB (fun _ _ h => h) ?_
      clear up d119
      exact WD.ofW hW (by kernel_rfl) (hK104 ac w q116 F117 _ _ _ (S.prune (keep := [2, 5, 7, 9]) (m := 2) (by kernel_rfl)) o118 hb120 hBB)
  clear S
  rintro ac w ⟨q55, F56, q58, F59, u, N, β, S, o54, o57, d121⟩
  refine id (nx_then (wp_ret ?_))
  refine S.r [GT.val (⟨(([] : List Bool) ++ k.known), (([] : List TSlot) ++ k.slots)⟩ : TKept) (⟨q55, q58⟩ : PKept)] ?_
  have o122 := ow_Kept (x := (⟨(([] : List Bool) ++ k.known), (([] : List TSlot) ++ k.slots)⟩ : TKept)) (p := (⟨q55, q58⟩ : PKept)) o54 o57 d121 
  exact ret1_of S (show k = (⟨(([] : List Bool) ++ k.known), (([] : List TSlot) ++ k.slots)⟩ : TKept) by clear S; (first | rfl | simp)) rfl o122

set_option maxRecDepth 100000 in
theorem c_spec_l21Mon (w0 : World) (m : TMon) (pm : PMon) (hm : GT.rd KK (Lt w0.heap.size) w0 m pm) : Calls Try.prog 40 [GT.val m pm].toArray w0 (Ret1 NoB w0 (m : TMon)) := by
  refine Calls.walk (args := [GT.val m pm]) NoB Try.func40 rfl rfl ?_
  intro ac β S
  have hlem_outer : m.outer.length ≤ 4194304 := LRd.le (RMon.outer (d := m) hm)
  have hlem_out : m.out.length ≤ 4194304 := LRd.le (RMon.out (d := m) hm)
  have hlem_dirty : m.dirty.length ≤ 4194304 := LRd.le (RMon.dirty (d := m) hm)
  have hlem_guests : m.guests.length ≤ 4194304 := LRd.le (RMon.guests (d := m) hm)
  have hlem_outs : m.outs.length ≤ 4194304 := LRd.le (RMon.outs (d := m) hm)
  have hlem_tables : m.tables.length ≤ 4194304 := LRd.le (RMon.tables (d := m) hm)
  refine wp_seq (RG.start ?_)
  refine S.q 2 [1, 2] 2 ⟨[(1, .p 0 0), (2, .p 1 0)], [GT.cells m pm, Zc TMon]⟩ .nil ?_; clear S; intro ac w β S
  refine RG.done rfl (nx_then (wp_seq (RG.start ?_)))
  refine RG.op rfl (S.bs0 (α := TSlot) (d := 5) (by kernel_rfl) ?_)
  clear S; intro ac w N q1 F2 S up o3 d4
  clear up d4
  refine S.q 2 [1, 2, 5, 7] 2 ⟨[(1, .p 0 0), (2, .p 1 0), (5, .v (slv 0 q1.1)), (7, .v (slv (m.outer).length pm.outer.1))], [GT.cells m pm, Zc TMon]⟩ .nil ?_; clear S; intro ac w β S
  have b9 : (m.outer).length ≤ 4194304 := LRd.le (RMon.outer (d := m) (S.arg hm))
  refine RG.op rfl (S.appFlat (α := TSlot) o3 ((RMon.outer (d := m) (S.arg hm))) (fun _ _ h => h) (by' := 16) (d := 8) (lx := 0) (ly := (m.outer).length) rfl rfl (by kernel_rfl) (show _ ≤ 4194304 by simp only [List.length_append, List.length_cons, List.length_nil]; omega) ?_)
  clear S; intro ac w N q5 F6 S up o7 d8
  clear up d8
  refine S.q 2 [1, 2] 2 ⟨[(1, .p 0 0), (2, .p 1 0)], [[slv ((([] : List TSlot) ++ m.outer)).length q5.1, slv (m.out).length pm.out.1, slv (m.dirty).length pm.dirty.1, slv (m.guests).length pm.guests.1, slv (m.outs).length pm.outs.1, I m.pend, I m.traps, slv (m.tables).length pm.tables.1, I m.owned], Zc TMon]⟩ .nil ?_; clear S; intro ac w β S
  refine RG.done rfl (nx_then (wp_seq (RG.start ?_)))
  refine S.q 2 [1, 2, 11] 2 ⟨[(1, .p 0 0), (2, .p 1 0), (11, .v (slv (m.out).length pm.out.1))], [[slv ((([] : List TSlot) ++ m.outer)).length q5.1, slv (m.out).length pm.out.1, slv (m.dirty).length pm.dirty.1, slv (m.guests).length pm.guests.1, slv (m.outs).length pm.outs.1, I m.pend, I m.traps, slv (m.tables).length pm.tables.1, I m.owned], Zc TMon]⟩ .nil ?_; clear S; intro ac w β S
  refine RG.op rfl (S.call1 (r := m.out) (d := 12) (c_spec_l04Copy w m.out pm.out (S.rd (RMon.out (d := m) (S.arg hm)))) (by kernel_rfl) rfl ?_)
  clear S; intro ac w N q10 F11 S up o12 d13
  have d14 : Disj F6 F11 := fun b x y => d13 b (o7.sub b x) y
  replace o7 := o7.up up
  clear up d13
  refine S.q 2 [1, 2] 2 ⟨[(1, .p 0 0), (2, .p 1 0)], [[slv ((([] : List TSlot) ++ m.outer)).length q5.1, slv (m.out).length q10.1, slv (m.dirty).length pm.dirty.1, slv (m.guests).length pm.guests.1, slv (m.outs).length pm.outs.1, I m.pend, I m.traps, slv (m.tables).length pm.tables.1, I m.owned], Zc TMon]⟩ .nil ?_; clear S; intro ac w β S
  refine RG.done rfl (nx_then (wp_seq (RG.start ?_)))
  refine RG.op rfl (S.bs0 (α := Bool) (d := 14) (by kernel_rfl) ?_)
  clear S; intro ac w N q15 F16 S up o17 d18
  have d19 : Disj F6 F16 := fun b x y => d18 b (o7.sub b x) y
  have d20 : Disj F11 F16 := fun b x y => d18 b (o12.sub b x) y
  replace o7 := o7.up up
  replace o12 := o12.up up
  clear up d18
  refine S.q 2 [1, 2, 14, 16] 2 ⟨[(1, .p 0 0), (2, .p 1 0), (14, .v (slv 0 q15.1)), (16, .v (slv (m.dirty).length pm.dirty.1))], [[slv ((([] : List TSlot) ++ m.outer)).length q5.1, slv (m.out).length q10.1, slv (m.dirty).length pm.dirty.1, slv (m.guests).length pm.guests.1, slv (m.outs).length pm.outs.1, I m.pend, I m.traps, slv (m.tables).length pm.tables.1, I m.owned], Zc TMon]⟩ .nil ?_; clear S; intro ac w β S
  have b25 : (m.dirty).length ≤ 4194304 := LRd.le (RMon.dirty (d := m) (S.arg hm))
  refine RG.op rfl (S.appFlat (α := Bool) o17 ((RMon.dirty (d := m) (S.arg hm))) (fun _ _ h => h) (by' := 1) (d := 17) (lx := 0) (ly := (m.dirty).length) rfl rfl (by kernel_rfl) (show _ ≤ 4194304 by simp only [List.length_append, List.length_cons, List.length_nil]; omega) ?_)
  clear S; intro ac w N q21 F22 S up o23 d24
  have d26 : Disj F6 F22 := d24 _ d19 o7.sub
  have d27 : Disj F11 F22 := d24 _ d20 o12.sub
  replace o7 := o7.upF d19 up
  replace o12 := o12.upF d20 up
  clear up d24
  refine S.q 2 [1, 2] 2 ⟨[(1, .p 0 0), (2, .p 1 0)], [[slv ((([] : List TSlot) ++ m.outer)).length q5.1, slv (m.out).length q10.1, slv ((([] : List Bool) ++ m.dirty)).length q21.1, slv (m.guests).length pm.guests.1, slv (m.outs).length pm.outs.1, I m.pend, I m.traps, slv (m.tables).length pm.tables.1, I m.owned], Zc TMon]⟩ .nil ?_; clear S; intro ac w β S
  refine RG.done rfl (nx_then (wp_seq (RG.start ?_)))
  refine S.q 2 [1, 2, 20] 2 ⟨[(1, .p 0 0), (2, .p 1 0), (20, .v (slv (m.guests).length pm.guests.1))], [[slv ((([] : List TSlot) ++ m.outer)).length q5.1, slv (m.out).length q10.1, slv ((([] : List Bool) ++ m.dirty)).length q21.1, slv (m.guests).length pm.guests.1, slv (m.outs).length pm.outs.1, I m.pend, I m.traps, slv (m.tables).length pm.tables.1, I m.owned], Zc TMon]⟩ .nil ?_; clear S; intro ac w β S
  refine RG.op rfl (S.call1 (r := m.guests) (d := 21) (c_spec_l17Guests w m.guests pm.guests (S.rd (RMon.guests (d := m) (S.arg hm)))) (by kernel_rfl) rfl ?_)
  clear S; intro ac w N q28 F29 S up o30 d31
  have d32 : Disj F6 F29 := fun b x y => d31 b (o7.sub b x) y
  have d33 : Disj F11 F29 := fun b x y => d31 b (o12.sub b x) y
  have d34 : Disj F22 F29 := fun b x y => d31 b (o23.sub b x) y
  replace o7 := o7.up up
  replace o12 := o12.up up
  replace o23 := o23.up up
  clear up d31
  refine S.q 2 [1, 2] 2 ⟨[(1, .p 0 0), (2, .p 1 0)], [[slv ((([] : List TSlot) ++ m.outer)).length q5.1, slv (m.out).length q10.1, slv ((([] : List Bool) ++ m.dirty)).length q21.1, slv (m.guests).length q28.1, slv (m.outs).length pm.outs.1, I m.pend, I m.traps, slv (m.tables).length pm.tables.1, I m.owned], Zc TMon]⟩ .nil ?_; clear S; intro ac w β S
  refine RG.done rfl (nx_then (wp_seq (RG.start ?_)))
  refine RG.op rfl (S.bs0 (α := Int) (d := 23) (by kernel_rfl) ?_)
  clear S; intro ac w N q35 F36 S up o37 d38
  have d39 : Disj F6 F36 := fun b x y => d38 b (o7.sub b x) y
  have d40 : Disj F11 F36 := fun b x y => d38 b (o12.sub b x) y
  have d41 : Disj F22 F36 := fun b x y => d38 b (o23.sub b x) y
  have d42 : Disj F29 F36 := fun b x y => d38 b (o30.sub b x) y
  replace o7 := o7.up up
  replace o12 := o12.up up
  replace o23 := o23.up up
  replace o30 := o30.up up
  clear up d38
  refine S.q 2 [1, 2, 23, 25] 2 ⟨[(1, .p 0 0), (2, .p 1 0), (23, .v (slv 0 q35.1)), (25, .v (slv (m.outs).length pm.outs.1))], [[slv ((([] : List TSlot) ++ m.outer)).length q5.1, slv (m.out).length q10.1, slv ((([] : List Bool) ++ m.dirty)).length q21.1, slv (m.guests).length q28.1, slv (m.outs).length pm.outs.1, I m.pend, I m.traps, slv (m.tables).length pm.tables.1, I m.owned], Zc TMon]⟩ .nil ?_; clear S; intro ac w β S
  have b47 : (m.outs).length ≤ 4194304 := LRd.le (RMon.outs (d := m) (S.arg hm))
  refine RG.op rfl (S.appFlat (α := Int) o37 ((RMon.outs (d := m) (S.arg hm))) (fun _ _ h => h) (by' := 8) (d := 26) (lx := 0) (ly := (m.outs).length) rfl rfl (by kernel_rfl) (show _ ≤ 4194304 by simp only [List.length_append, List.length_cons, List.length_nil]; omega) ?_)
  clear S; intro ac w N q43 F44 S up o45 d46
  have d48 : Disj F6 F44 := d46 _ d39 o7.sub
  have d49 : Disj F11 F44 := d46 _ d40 o12.sub
  have d50 : Disj F22 F44 := d46 _ d41 o23.sub
  have d51 : Disj F29 F44 := d46 _ d42 o30.sub
  replace o7 := o7.upF d39 up
  replace o12 := o12.upF d40 up
  replace o23 := o23.upF d41 up
  replace o30 := o30.upF d42 up
  clear up d46
  refine S.q 2 [1, 2] 2 ⟨[(1, .p 0 0), (2, .p 1 0)], [[slv ((([] : List TSlot) ++ m.outer)).length q5.1, slv (m.out).length q10.1, slv ((([] : List Bool) ++ m.dirty)).length q21.1, slv (m.guests).length q28.1, slv ((([] : List Int) ++ m.outs)).length q43.1, I m.pend, I m.traps, slv (m.tables).length pm.tables.1, I m.owned], Zc TMon]⟩ .nil ?_; clear S; intro ac w β S
  refine RG.done rfl (nx_then (wp_seq (RG.start ?_)))
  refine RG.op rfl (S.bs0 (α := TKept) (d := 28) (by kernel_rfl) ?_)
  clear S; intro ac w N q52 F53 S up o54 d55
  have d56 : Disj F6 F53 := fun b x y => d55 b (o7.sub b x) y
  have d57 : Disj F11 F53 := fun b x y => d55 b (o12.sub b x) y
  have d58 : Disj F22 F53 := fun b x y => d55 b (o23.sub b x) y
  have d59 : Disj F29 F53 := fun b x y => d55 b (o30.sub b x) y
  have d60 : Disj F44 F53 := fun b x y => d55 b (o45.sub b x) y
  replace o7 := o7.up up
  replace o12 := o12.up up
  replace o23 := o23.up up
  replace o30 := o30.up up
  replace o45 := o45.up up
  clear up d55
  refine S.q 1 [1, 2, 3] 2 ⟨[(1, .p 0 0), (2, .p 1 0), (3, .v (slv 0 q52.1))], [[slv ((([] : List TSlot) ++ m.outer)).length q5.1, slv (m.out).length q10.1, slv ((([] : List Bool) ++ m.dirty)).length q21.1, slv (m.guests).length q28.1, slv ((([] : List Int) ++ m.outs)).length q43.1, I m.pend, I m.traps, slv (m.tables).length pm.tables.1, I m.owned], Zc TMon]⟩ .nil ?_; clear S; intro ac w β S
  refine RG.done rfl (nx_then (wp_seq (wp_seq (RG.start ?_))))
  refine S.q 1 [1, 2, 3, 4] 2 ⟨[(1, .p 0 0), (2, .p 1 0), (3, .v (slv 0 q52.1)), (4, .v (I 0))], [[slv ((([] : List TSlot) ++ m.outer)).length q5.1, slv (m.out).length q10.1, slv ((([] : List Bool) ++ m.dirty)).length q21.1, slv (m.guests).length q28.1, slv ((([] : List Int) ++ m.outs)).length q43.1, I m.pend, I m.traps, slv (m.tables).length pm.tables.1, I m.owned], Zc TMon]⟩ .nil ?_; clear S; intro ac w β S
  refine RG.done rfl (nx_then (wp_block ?_))
  replace S := S.p [1, 2, 3, 4] 2 ⟨[(1, .p 0 0), (2, .p 1 0), (3, .v (slv 0 q52.1)), (4, .v (I 0))], [[slv ((([] : List TSlot) ++ m.outer)).length q5.1, slv (m.out).length q10.1, slv ((([] : List Bool) ++ m.dirty)).length q21.1, slv (m.guests).length q28.1, slv ((([] : List Int) ++ m.outs)).length q43.1, I m.pend, I m.traps, slv (m.tables).length pm.tables.1, I m.owned], Zc TMon]⟩
  refine wp_loop_down (fun mm ac w => ∃ (k : Nat) (acc : List TKept) (q61 : GT.Ptr (List TKept)) (F62 : Bl) (u : World) (N : Bl) (β : Nat → Nat), mm = (m.tables).length - k ∧ (k ≤ (m.tables).length) ∧ (acc = (m.tables).take k) ∧ St Try.prog Try.f40.ntmps w0 NoB u N β ⟨[(1, .p 0 0), (2, .p 1 0), (3, .v (slv (acc).length q61.1)), (4, .v (I (k : Int)))], [[slv ((([] : List TSlot) ++ m.outer)).length q5.1, slv (m.out).length q10.1, slv ((([] : List Bool) ++ m.dirty)).length q21.1, slv (m.guests).length q28.1, slv ((([] : List Int) ++ m.outs)).length q43.1, I m.pend, I m.traps, slv (m.tables).length pm.tables.1, I m.owned], Zc TMon]⟩ ac w ∧ Ow w0 NoB u N F62 acc q61 ∧ Ow w0 NoB u N F6 (([] : List TSlot) ++ m.outer) q5 ∧ Ow w0 NoB u N F11 m.out q10 ∧ Ow w0 NoB u N F22 (([] : List Bool) ++ m.dirty) q21 ∧ Ow w0 NoB u N F29 m.guests q28 ∧ Ow w0 NoB u N F44 (([] : List Int) ++ m.outs) q43 ∧ Disj F62 F6 ∧ Disj F62 F11 ∧ Disj F62 F22 ∧ Disj F62 F29 ∧ Disj F62 F44) _ ⟨0, ([] : List TKept), q52, F53, _, _, _, rfl, (by first | omega | (simp; done) | (simp; omega)), (by simp), S.cast (by kernel_rfl), o54, o7, o12, o23, o30, o45, (Disj.symm d56), (Disj.symm d57), (Disj.symm d58), (Disj.symm d59), (Disj.symm d60)⟩ ?_
  clear S o12 o23 o30 o45 o54 o7
  rintro mm ac w ⟨k, acc, q61, F62, u, N, β, rfl, hk, hacc, S, o63, o7, o12, o23, o30, o45, d64, d65, d66, d67, d68⟩
  have hlacc : acc.length = k := by rw [hacc]; simp; omega
  refine wp_seq (wp_seq (RG.start ?_))
  refine S.q 5 [1, 2, 3, 4, 33] 2 ⟨[(1, .p 0 0), (2, .p 1 0), (3, .v (slv (acc).length q61.1)), (4, .v (I (k : Int))), (33, .v (B (decide ((k : Int) < ((m.tables).length : Int)))))], [[slv ((([] : List TSlot) ++ m.outer)).length q5.1, slv (m.out).length q10.1, slv ((([] : List Bool) ++ m.dirty)).length q21.1, slv (m.guests).length q28.1, slv ((([] : List Int) ++ m.outs)).length q43.1, I m.pend, I m.traps, slv (m.tables).length pm.tables.1, I m.owned], Zc TMon]⟩ .nil ?_; clear S; intro ac w β S
  refine RG.done rfl (nx_then ?_)
  refine S.c (decide ((k : Int) < ((m.tables).length : Int))) (fun h69 => ?_) (fun h69 => ?_)
  · have g70 : (k : Int) < ((m.tables).length : Int) := of_decide_eq_true h69
    refine wp_skip (nx_then (wp_seq (wp_block (RG.start ?_))))
    refine S.q 6 [1, 2, 4, 36, 41] 2 ⟨[(1, .p 0 0), (2, .p 1 0), (4, .v (I (k : Int))), (36, .v (slv (acc).length q61.1)), (41, .v (GT.val (el m.tables k) (pm.tables.2 k)))], [[slv ((([] : List TSlot) ++ m.outer)).length q5.1, slv (m.out).length q10.1, slv ((([] : List Bool) ++ m.dirty)).length q21.1, slv (m.guests).length q28.1, slv ((([] : List Int) ++ m.outs)).length q43.1, I m.pend, I m.traps, slv (m.tables).length pm.tables.1, I m.owned], Zc TMon]⟩ (.cons (Q_idx (RMon.tables (d := m) (S.arg hm)) (l := (m.tables).length) (k := k) (i := (k : Int)) rfl rfl (by omega) Try.underlying44 (by kernel_rfl)) (.cons (Q_el (RMon.tables (d := m) (S.arg hm)) (t := 101) (k := k) (by omega) rfl (by kernel_rfl) (by kernel_rfl)) .nil)) ?_; clear S; intro ac w β S
    refine RG.op rfl (S.call1 (r := (el m.tables k)) (d := 42) (c_spec_l07Copy w (el m.tables k) (pm.tables.2 k) (S.rd (LRd.el (RMon.tables (d := m) (S.arg hm)) k (by omega)))) (by kernel_rfl) rfl ?_)
    clear S; intro ac w N q71 F72 S up o73 d74
    have d75 : Disj F62 F72 := fun b x y => d74 b (o63.sub b x) y
    have d76 : Disj F6 F72 := fun b x y => d74 b (o7.sub b x) y
    have d77 : Disj F11 F72 := fun b x y => d74 b (o12.sub b x) y
    have d78 : Disj F22 F72 := fun b x y => d74 b (o23.sub b x) y
    have d79 : Disj F29 F72 := fun b x y => d74 b (o30.sub b x) y
    have d80 : Disj F44 F72 := fun b x y => d74 b (o45.sub b x) y
    replace o63 := o63.up up
    replace o7 := o7.up up
    replace o12 := o12.up up
    replace o23 := o23.up up
    replace o30 := o30.up up
    replace o45 := o45.up up
    clear up d74
    obtain ⟨F81, F84, o82, o85, s83, s86, d87⟩ := sp_Kept o73
    have o92 := ow_Kept (x := (el m.tables k)) (p := q71) o82 o85 d87 
    refine RG.op rfl (S.bs1 (α := TKept) (x := (el m.tables k)) (p := q71) o92.own o92.sub o92.young (d := 43) (by kernel_rfl) ?_)
    clear S; intro ac w N q88 F89 S up o90 d91
    have d93 : Disj F62 F89 := d91 _ (Disj.symm (Disj.or (Disj.part (Disj.symm d75) s83) (Disj.or (Disj.part (Disj.symm d75) s86) Disj.nob))) o63.sub
    have d94 : Disj F6 F89 := d91 _ (Disj.symm (Disj.or (Disj.part (Disj.symm d76) s83) (Disj.or (Disj.part (Disj.symm d76) s86) Disj.nob))) o7.sub
    have d95 : Disj F11 F89 := d91 _ (Disj.symm (Disj.or (Disj.part (Disj.symm d77) s83) (Disj.or (Disj.part (Disj.symm d77) s86) Disj.nob))) o12.sub
    have d96 : Disj F22 F89 := d91 _ (Disj.symm (Disj.or (Disj.part (Disj.symm d78) s83) (Disj.or (Disj.part (Disj.symm d78) s86) Disj.nob))) o23.sub
    have d97 : Disj F29 F89 := d91 _ (Disj.symm (Disj.or (Disj.part (Disj.symm d79) s83) (Disj.or (Disj.part (Disj.symm d79) s86) Disj.nob))) o30.sub
    have d98 : Disj F44 F89 := d91 _ (Disj.symm (Disj.or (Disj.part (Disj.symm d80) s83) (Disj.or (Disj.part (Disj.symm d80) s86) Disj.nob))) o45.sub
    replace o63 := o63.up up
    replace o7 := o7.up up
    replace o12 := o12.up up
    replace o23 := o23.up up
    replace o30 := o30.up up
    replace o45 := o45.up up
    clear up d91
    refine RG.op rfl (S.appOwn (α := TKept) o63 o90 d93 (by' := 48) (d := 44) (lx := (acc).length) (ly := 1) rfl rfl (by kernel_rfl) (show _ ≤ 4194304 by simp only [List.length_append, List.length_cons, List.length_nil]; omega) ?_)
    clear S; intro ac w N q99 F100 S up o101 d102
    have d103 : Disj F6 F100 := d102 _ (Disj.symm d64) d94 o7.sub
    have d104 : Disj F11 F100 := d102 _ (Disj.symm d65) d95 o12.sub
    have d105 : Disj F22 F100 := d102 _ (Disj.symm d66) d96 o23.sub
    have d106 : Disj F29 F100 := d102 _ (Disj.symm d67) d97 o30.sub
    have d107 : Disj F44 F100 := d102 _ (Disj.symm d68) d98 o45.sub
    replace o7 := o7.upF (Disj.symm d64) up
    replace o12 := o12.upF (Disj.symm d65) up
    replace o23 := o23.upF (Disj.symm d66) up
    replace o30 := o30.upF (Disj.symm d67) up
    replace o45 := o45.upF (Disj.symm d68) up
    clear up d102
    refine S.q 1 [1, 2, 3, 4] 2 ⟨[(1, .p 0 0), (2, .p 1 0), (3, .v (slv ((acc ++ [(el m.tables k)])).length q99.1)), (4, .v (I (k : Int)))], [[slv ((([] : List TSlot) ++ m.outer)).length q5.1, slv (m.out).length q10.1, slv ((([] : List Bool) ++ m.dirty)).length q21.1, slv (m.guests).length q28.1, slv ((([] : List Int) ++ m.outs)).length q43.1, I m.pend, I m.traps, slv (m.tables).length pm.tables.1, I m.owned], Zc TMon]⟩ .nil ?_; clear S; intro ac w β S
    refine RG.done rfl (nx_block (nx_then (RG.start ?_)))
    refine S.q 3 [1, 2, 3, 4] 2 ⟨[(1, .p 0 0), (2, .p 1 0), (3, .v (slv ((acc ++ [(el m.tables k)])).length q99.1)), (4, .v (I ((k : Int) + 1)))], [[slv ((([] : List TSlot) ++ m.outer)).length q5.1, slv (m.out).length q10.1, slv ((([] : List Bool) ++ m.dirty)).length q21.1, slv (m.guests).length q28.1, slv ((([] : List Int) ++ m.outs)).length q43.1, I m.pend, I m.traps, slv (m.tables).length pm.tables.1, I m.owned], Zc TMon]⟩ (.cons (Q_add (x := (k : Int)) (y := 1) ⟨by omega, by omega⟩) .nil) ?_; clear S; intro ac w β S
    refine RG.done rfl (nx_then ?_)
    replace S := S.p [1, 2, 3, 4] 2 ⟨[(1, .p 0 0), (2, .p 1 0), (3, .v (slv ((acc ++ [(el m.tables k)])).length q99.1)), (4, .v (I ((k : Int) + 1)))], [[slv ((([] : List TSlot) ++ m.outer)).length q5.1, slv (m.out).length q10.1, slv ((([] : List Bool) ++ m.dirty)).length q21.1, slv (m.guests).length q28.1, slv ((([] : List Int) ++ m.outs)).length q43.1, I m.pend, I m.traps, slv (m.tables).length pm.tables.1, I m.owned], Zc TMon]⟩
    refine ⟨(m.tables).length - (k + 1), by omega, k + 1, (acc ++ [(el m.tables k)]), q99, F100, _, _, _, rfl, ?_, ?_, S.cast (by kernel_rfl), o101, o7, o12, o23, o30, o45, (Disj.symm d103), (Disj.symm d104), (Disj.symm d105), (Disj.symm d106), (Disj.symm d107)⟩
    · clear S; first | omega | (simp [*]; done) | (simp [*]; omega)
    · clear S; (first | (rw [take_el (by omega), hacc]; done) | (rw [take_el (by omega), hacc]; simp; done))
  · have g108 : ¬ ((k : Int) < ((m.tables).length : Int)) := of_decide_eq_false h69
    refine wp_exit (ex_then (ex_then (ex_hit (nx_then (wp_seq (RG.start ?_))))))
    refine S.q 3 [1, 2] 2 ⟨[(1, .p 0 0), (2, .p 1 0)], [[slv ((([] : List TSlot) ++ m.outer)).length q5.1, slv (m.out).length q10.1, slv ((([] : List Bool) ++ m.dirty)).length q21.1, slv (m.guests).length q28.1, slv ((([] : List Int) ++ m.outs)).length q43.1, I m.pend, I m.traps, slv (acc).length q61.1, I m.owned], Zc TMon]⟩ .nil ?_; clear S; intro ac w β S
    refine RG.done rfl (nx_then (wp_seq (RG.start ?_)))
    refine S.q 2 [2] 2 ⟨[(2, .p 1 0)], [[slv ((([] : List TSlot) ++ m.outer)).length q5.1, slv (m.out).length q10.1, slv ((([] : List Bool) ++ m.dirty)).length q21.1, slv (m.guests).length q28.1, slv ((([] : List Int) ++ m.outs)).length q43.1, I m.pend, I m.traps, slv (acc).length q61.1, I m.owned], [slv ((([] : List TSlot) ++ m.outer)).length q5.1, slv (m.out).length q10.1, slv ((([] : List Bool) ++ m.dirty)).length q21.1, slv (m.guests).length q28.1, slv ((([] : List Int) ++ m.outs)).length q43.1, I m.pend, I m.traps, slv (acc).length q61.1, I m.owned]]⟩ .nil ?_; clear S; intro ac w β S
    refine RG.done rfl (nx_then (wp_ret ?_))
    refine S.r [GT.val (⟨(([] : List TSlot) ++ m.outer), m.out, (([] : List Bool) ++ m.dirty), m.guests, (([] : List Int) ++ m.outs), m.pend, m.traps, acc, m.owned⟩ : TMon) (⟨q5, q10, q21, q28, q43, q61⟩ : PMon)] ?_
    have o109 := ow_Mon (x := (⟨(([] : List TSlot) ++ m.outer), m.out, (([] : List Bool) ++ m.dirty), m.guests, (([] : List Int) ++ m.outs), m.pend, m.traps, acc, m.owned⟩ : TMon)) (p := (⟨q5, q10, q21, q28, q43, q61⟩ : PMon)) o7 o12 o23 o30 o45 o63 d14 d26 d32 d48 (Disj.symm d64) d27 d33 d49 (Disj.symm d65) d34 d50 (Disj.symm d66) d51 (Disj.symm d67) (Disj.symm d68) (RMon.pend (d := m) (S.arg hm)) (RMon.traps (d := m) (S.arg hm)) (RMon.owned (d := m) (S.arg hm))
    exact ret1_of S (show m = (⟨(([] : List TSlot) ++ m.outer), m.out, (([] : List Bool) ++ m.dirty), m.guests, (([] : List Int) ++ m.outs), m.pend, m.traps, acc, m.owned⟩ : TMon) by clear S; (first | rfl | (rw [hacc, take_all (by omega)]; simp; done) | simp)) rfl o109

end Go.Proofs.Ytacgkoohinlhjaa
