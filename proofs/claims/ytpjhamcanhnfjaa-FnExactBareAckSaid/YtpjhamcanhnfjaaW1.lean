/- The walks: what each function that the laws reach computes (part 1). -/
import Derived.Test.YtpjhamcanhnfjaaMarks
import Derived.Test.YtpjhamcanhnfjaaCore9
import Derived.Test.YtpjhamcanhnfjaaEq
import Derived.Test.YtpjhamcanhnfjaaSz
import Derived.Test.YtpjhamcanhnfjaaOw
import Derived.Test.YtpjhamcanhnfjaaSpec3
import Derived.Test.YtpjhamcanhnfjaaDrawO
import Derived.Test.YtpjhamcanhnfjaaMk
import Derived.Test.YtpjhamcanhnfjaaSpec4
import Derived.Test.YtpjhamcanhnfjaaSlice
import Derived.Test.YtpjhamcanhnfjaaPt
import Derived.Test.YtpjhamcanhnfjaaSpec5
import Derived.Test.YtpjhamcanhnfjaaShort
import Derived.Test.YtpjhamcanhnfjaaTop
import Derived.Test.YtpjhamcanhnfjaaLen
import Derived.Test.YtpjhamcanhnfjaaProg
import Derived.KernelRfl
namespace Go.Proofs.Ytpjhamcanhnfjaa
open Go
set_option linter.unusedVariables false
set_option linter.unusedSimpArgs false

set_option maxRecDepth 100000 in
theorem c_laws_szIntS (w0 : World) (a : List Int) (pa : LP Int) (ha : GT.rd KR (Lt w0.heap.size) w0 a pa) (left : Int) (pre0 : -1 ≤ left) (pre1 : left ≤ 4194304) : Calls Try.prog 74 [slv (a).length pa.1, I left].toArray w0 (fun e w' => e = .returned (I (f_sz (SZ.sz a) left)) ∧ Chg NoB w0 w') := by
  refine Calls.walk (args := [slv (a).length pa.1, I left]) NoB Try.func74 rfl rfl ?_
  intro ac β S
  have hz := szl_Int a
  have hb0 := f_sz_cs (SZ.sz a) left
  have hlea : a.length ≤ 9223372036854775807 := LRd.le ha
  refine wp_seq (RG.start ?_)
  refine S.q 1 [0, 1] 0 ⟨[(0, .v (slv (a).length pa.1)), (1, .v (I left))], []⟩ .nil ?_; clear S; intro ac w β S
  refine RG.done rfl (nx_then (wp_seq (RG.start ?_)))
  refine S.q 5 [1] 0 ⟨[(1, .v (I (left - ((a).length : Int))))], []⟩ (.cons (Q_sub (x := left) (y := ((a).length : Int)) ⟨by omega, by omega⟩) .nil) ?_; clear S; intro ac w β S
  refine RG.done rfl (nx_then (wp_seq (wp_seq (RG.start ?_))))
  refine S.q 2 [1, 10] 0 ⟨[(1, .v (I (left - ((a).length : Int)))), (10, .v (B (decide ((left - ((a).length : Int)) < 0))))], []⟩ .nil ?_; clear S; intro ac w β S
  refine RG.done rfl (nx_then ?_)
  refine S.c (decide ((left - ((a).length : Int)) < 0)) (fun h1 => ?_) (fun h1 => ?_)
  · have g2 : (left - ((a).length : Int)) < 0 := of_decide_eq_true h1
    refine wp_seq (RG.start ?_)
    refine S.q 1 [4] 0 ⟨[(4, .v (I (-1)))], []⟩ .nil ?_; clear S; intro ac w β S
    refine RG.done rfl (nx_then (wp_ret (rt_then ?_)))
    refine S.r [I (-1)] ?_
    exact ⟨retI (by clear S; omega), S.chg⟩
  · have g3 : ¬ ((left - ((a).length : Int)) < 0) := of_decide_eq_false h1
    refine wp_skip (nx_then (wp_seq (RG.start ?_)))
    refine S.q 2 [4] 0 ⟨[(4, .v (I (left - ((a).length : Int))))], []⟩ .nil ?_; clear S; intro ac w β S
    refine RG.done rfl (nx_then (wp_ret ?_))
    refine S.r [I (left - ((a).length : Int))] ?_
    exact ⟨retI (by clear S; omega), S.chg⟩

set_option maxRecDepth 100000 in
theorem c_laws_szIntSS (w0 : World) (a : List (List Int)) (pa : LP (List Int)) (ha : GT.rd KR (Lt w0.heap.size) w0 a pa) (left : Int) (pre0 : -1 ≤ left) (pre1 : left ≤ 4194304) : Calls Try.prog 72 [slv (a).length pa.1, I left].toArray w0 (fun e w' => e = .returned (I (f_sz (SZ.sz a) left)) ∧ Chg NoB w0 w') := by
  refine Calls.walk (args := [slv (a).length pa.1, I left]) NoB Try.func72 rfl rfl ?_
  intro ac β S
  have hz := sz_list a
  have hb0 := f_sz_cs (SZ.sz a) left
  have hlea : a.length ≤ 9223372036854775807 := LRd.le ha
  refine wp_seq (RG.start ?_)
  refine S.q 1 [0, 1] 0 ⟨[(0, .v (slv (a).length pa.1)), (1, .v (I left))], []⟩ .nil ?_; clear S; intro ac w β S
  refine RG.done rfl (nx_then (wp_seq (RG.start ?_)))
  refine S.q 5 [0, 1] 0 ⟨[(0, .v (slv (a).length pa.1)), (1, .v (I (left - ((a).length : Int))))], []⟩ (.cons (Q_sub (x := left) (y := ((a).length : Int)) ⟨by omega, by omega⟩) .nil) ?_; clear S; intro ac w β S
  refine RG.done rfl (nx_then (wp_seq (wp_seq (RG.start ?_))))
  refine S.q 2 [0, 1, 11] 0 ⟨[(0, .v (slv (a).length pa.1)), (1, .v (I (left - ((a).length : Int)))), (11, .v (B (decide ((left - ((a).length : Int)) < 0))))], []⟩ .nil ?_; clear S; intro ac w β S
  refine RG.done rfl (nx_then ?_)
  refine S.c (decide ((left - ((a).length : Int)) < 0)) (fun h1 => ?_) (fun h1 => ?_)
  · have g2 : (left - ((a).length : Int)) < 0 := of_decide_eq_true h1
    refine wp_seq (RG.start ?_)
    refine S.q 1 [4] 0 ⟨[(4, .v (I (-1)))], []⟩ .nil ?_; clear S; intro ac w β S
    refine RG.done rfl (nx_then (wp_ret (rt_then ?_)))
    refine S.r [I (-1)] ?_
    exact ⟨retI (by clear S; (first | omega | (have hall := szsum_all (xs := a) (k := k) (by omega); omega) | (have hs1 := szsum_take (xs := a) (k := k) (by omega); have hs2 := szsum_take_le a (k + 1); omega))), S.chg⟩
  · have g3 : ¬ ((left - ((a).length : Int)) < 0) := of_decide_eq_false h1
    refine wp_skip (nx_then (wp_seq (wp_seq (RG.start ?_))))
    refine S.q 1 [0, 1, 5] 0 ⟨[(0, .v (slv (a).length pa.1)), (1, .v (I (left - ((a).length : Int)))), (5, .v (I 0))], []⟩ .nil ?_; clear S; intro ac w β S
    refine RG.done rfl (nx_then (wp_block ?_))
    replace S := S.p [0, 1, 5] 0 ⟨[(0, .v (slv (a).length pa.1)), (1, .v (I (left - ((a).length : Int)))), (5, .v (I 0))], []⟩
    refine wp_loop_down (fun mm ac w => ∃ (k : Nat) (l : Int)  (u : World) (N : Bl) (β : Nat → Nat), mm = a.length - k ∧ (k ≤ a.length) ∧ (l = left - a.length - szsum (a.take k)) ∧ (0 ≤ l) ∧ St Try.prog Try.f72.ntmps w0 NoB u N β ⟨[(0, .v (slv (a).length pa.1)), (1, .v (I l)), (5, .v (I (k : Int)))], []⟩ ac w) _ ⟨0, (left - ((a).length : Int)), _, _, _, rfl, (by first | omega | (simp; done) | (simp; omega)), (by simp [szsum_nil]), (by first | omega | (simp; done) | (simp; omega)), S.cast (by kernel_rfl)⟩ ?_
    clear S
    rintro mm ac w ⟨k, l, u, N, β, rfl, hk, hl, hl0, S⟩
    have hle2 := szsum_take_le a k
    refine wp_seq (wp_seq (RG.start ?_))
    refine S.q 4 [0, 1, 5, 15] 0 ⟨[(0, .v (slv (a).length pa.1)), (1, .v (I l)), (5, .v (I (k : Int))), (15, .v (B (decide ((k : Int) < ((a).length : Int)))))], []⟩ .nil ?_; clear S; intro ac w β S
    refine RG.done rfl (nx_then ?_)
    refine S.c (decide ((k : Int) < ((a).length : Int))) (fun h4 => ?_) (fun h4 => ?_)
    · have g5 : (k : Int) < ((a).length : Int) := of_decide_eq_true h4
      refine wp_skip (nx_then (wp_seq (wp_block (wp_seq (RG.start ?_)))))
      have b6 := f_sz_cs (SZ.sz (el a k)) l
      refine S.q 7 [0, 1, 5] 0 ⟨[(0, .v (slv (a).length pa.1)), (1, .v (I (f_sz (SZ.sz (el a k)) l))), (5, .v (I (k : Int)))], []⟩ (.cons (Q_idx (S.arg ha) (l := (a).length) (k := k) (i := (k : Int)) rfl rfl (by omega) Try.underlying31 (by kernel_rfl)) (.cons (Q_el1 (S.arg ha) (t := 24) (k := k) (by omega) rfl (by kernel_rfl)) (.cons (Q_call fun w hw => c_laws_szIntS w (el a k) (pa.2 k) (rd_of (LRd.el (S.arg ha) k (by omega)) hw) l (by omega) (by omega)) .nil))) ?_; clear S; intro ac w β S
      refine RG.done rfl (nx_then (wp_seq (RG.start ?_)))
      refine S.q 2 [0, 1, 5, 25] 0 ⟨[(0, .v (slv (a).length pa.1)), (1, .v (I (f_sz (SZ.sz (el a k)) l))), (5, .v (I (k : Int))), (25, .v (B (decide ((f_sz (SZ.sz (el a k)) l) < 0))))], []⟩ .nil ?_; clear S; intro ac w β S
      refine RG.done rfl (nx_then ?_)
      refine S.c (decide ((f_sz (SZ.sz (el a k)) l) < 0)) (fun h7 => ?_) (fun h7 => ?_)
      · have g8 : (f_sz (SZ.sz (el a k)) l) < 0 := of_decide_eq_true h7
        refine wp_seq (RG.start ?_)
        refine S.q 1 [4] 0 ⟨[(4, .v (I (-1)))], []⟩ .nil ?_; clear S; intro ac w β S
        refine RG.done rfl (nx_then (wp_ret (rt_block (rt_then (rt_then (rt_block (rt_then ?_)))))))
        refine S.r [I (-1)] ?_
        exact ⟨retI (by clear S; (first | omega | (have hall := szsum_all (xs := a) (k := k) (by omega); omega) | (have hs1 := szsum_take (xs := a) (k := k) (by omega); have hs2 := szsum_take_le a (k + 1); omega))), S.chg⟩
      · have g9 : ¬ ((f_sz (SZ.sz (el a k)) l) < 0) := of_decide_eq_false h7
        refine wp_skip (nx_block (nx_then (RG.start ?_)))
        refine S.q 3 [0, 1, 5] 0 ⟨[(0, .v (slv (a).length pa.1)), (1, .v (I (f_sz (SZ.sz (el a k)) l))), (5, .v (I ((k : Int) + 1)))], []⟩ (.cons (Q_add (x := (k : Int)) (y := 1) ⟨by omega, by omega⟩) .nil) ?_; clear S; intro ac w β S
        refine RG.done rfl (nx_then ?_)
        replace S := S.p [0, 1, 5] 0 ⟨[(0, .v (slv (a).length pa.1)), (1, .v (I (f_sz (SZ.sz (el a k)) l))), (5, .v (I ((k : Int) + 1)))], []⟩
        refine ⟨a.length - (k + 1), by omega, k + 1, (f_sz (SZ.sz (el a k)) l), _, _, _, rfl, ?_, ?_, ?_, S.cast (by kernel_rfl)⟩
        · clear S; first | omega | (simp [*]; done) | (simp [*]; omega)
        · clear S; (rw [szsum_take (by omega)]; omega)
        · clear S; omega
    · have g10 : ¬ ((k : Int) < ((a).length : Int)) := of_decide_eq_false h4
      refine wp_exit (ex_then (ex_then (ex_hit (nx_then (wp_seq (RG.start ?_))))))
      refine S.q 2 [4] 0 ⟨[(4, .v (I l))], []⟩ .nil ?_; clear S; intro ac w β S
      refine RG.done rfl (nx_then (wp_ret ?_))
      refine S.r [I l] ?_
      exact ⟨retI (by clear S; (first | omega | (have hall := szsum_all (xs := a) (k := k) (by omega); omega) | (have hs1 := szsum_take (xs := a) (k := k) (by omega); have hs2 := szsum_take_le a (k + 1); omega))), S.chg⟩

set_option maxRecDepth 100000 in
theorem c_laws_szInsS (w0 : World) (a : List TIns) (pa : LP TIns) (ha : GT.rd KR (Lt w0.heap.size) w0 a pa) (left : Int) (pre0 : -1 ≤ left) (pre1 : left ≤ 4194304) : Calls Try.prog 142 [slv (a).length pa.1, I left].toArray w0 (fun e w' => e = .returned (I (f_sz (SZ.sz a) left)) ∧ Chg NoB w0 w') := by
  refine Calls.walk (args := [slv (a).length pa.1, I left]) NoB Try.func142 rfl rfl ?_
  intro ac β S
  have hz := szl_TIns a
  have hb0 := f_sz_cs (SZ.sz a) left
  have hlea : a.length ≤ 9223372036854775807 := LRd.le ha
  refine wp_seq (RG.start ?_)
  refine S.q 1 [0, 1] 0 ⟨[(0, .v (slv (a).length pa.1)), (1, .v (I left))], []⟩ .nil ?_; clear S; intro ac w β S
  refine RG.done rfl (nx_then (wp_seq (RG.start ?_)))
  refine S.q 5 [1] 0 ⟨[(1, .v (I (left - ((a).length : Int))))], []⟩ (.cons (Q_sub (x := left) (y := ((a).length : Int)) ⟨by omega, by omega⟩) .nil) ?_; clear S; intro ac w β S
  refine RG.done rfl (nx_then (wp_seq (wp_seq (RG.start ?_))))
  refine S.q 2 [1, 10] 0 ⟨[(1, .v (I (left - ((a).length : Int)))), (10, .v (B (decide ((left - ((a).length : Int)) < 0))))], []⟩ .nil ?_; clear S; intro ac w β S
  refine RG.done rfl (nx_then ?_)
  refine S.c (decide ((left - ((a).length : Int)) < 0)) (fun h1 => ?_) (fun h1 => ?_)
  · have g2 : (left - ((a).length : Int)) < 0 := of_decide_eq_true h1
    refine wp_seq (RG.start ?_)
    refine S.q 1 [4] 0 ⟨[(4, .v (I (-1)))], []⟩ .nil ?_; clear S; intro ac w β S
    refine RG.done rfl (nx_then (wp_ret (rt_then ?_)))
    refine S.r [I (-1)] ?_
    exact ⟨retI (by clear S; omega), S.chg⟩
  · have g3 : ¬ ((left - ((a).length : Int)) < 0) := of_decide_eq_false h1
    refine wp_skip (nx_then (wp_seq (RG.start ?_)))
    refine S.q 2 [4] 0 ⟨[(4, .v (I (left - ((a).length : Int))))], []⟩ .nil ?_; clear S; intro ac w β S
    refine RG.done rfl (nx_then (wp_ret ?_))
    refine S.r [I (left - ((a).length : Int))] ?_
    exact ⟨retI (by clear S; omega), S.chg⟩

set_option maxRecDepth 100000 in
theorem c_laws_szSlotS (w0 : World) (a : List TSlot) (pa : LP TSlot) (ha : GT.rd KR (Lt w0.heap.size) w0 a pa) (left : Int) (pre0 : -1 ≤ left) (pre1 : left ≤ 4194304) : Calls Try.prog 143 [slv (a).length pa.1, I left].toArray w0 (fun e w' => e = .returned (I (f_sz (SZ.sz a) left)) ∧ Chg NoB w0 w') := by
  refine Calls.walk (args := [slv (a).length pa.1, I left]) NoB Try.func143 rfl rfl ?_
  intro ac β S
  have hz := szl_TSlot a
  have hb0 := f_sz_cs (SZ.sz a) left
  have hlea : a.length ≤ 9223372036854775807 := LRd.le ha
  refine wp_seq (RG.start ?_)
  refine S.q 1 [0, 1] 0 ⟨[(0, .v (slv (a).length pa.1)), (1, .v (I left))], []⟩ .nil ?_; clear S; intro ac w β S
  refine RG.done rfl (nx_then (wp_seq (RG.start ?_)))
  refine S.q 5 [1] 0 ⟨[(1, .v (I (left - ((a).length : Int))))], []⟩ (.cons (Q_sub (x := left) (y := ((a).length : Int)) ⟨by omega, by omega⟩) .nil) ?_; clear S; intro ac w β S
  refine RG.done rfl (nx_then (wp_seq (wp_seq (RG.start ?_))))
  refine S.q 2 [1, 10] 0 ⟨[(1, .v (I (left - ((a).length : Int)))), (10, .v (B (decide ((left - ((a).length : Int)) < 0))))], []⟩ .nil ?_; clear S; intro ac w β S
  refine RG.done rfl (nx_then ?_)
  refine S.c (decide ((left - ((a).length : Int)) < 0)) (fun h1 => ?_) (fun h1 => ?_)
  · have g2 : (left - ((a).length : Int)) < 0 := of_decide_eq_true h1
    refine wp_seq (RG.start ?_)
    refine S.q 1 [4] 0 ⟨[(4, .v (I (-1)))], []⟩ .nil ?_; clear S; intro ac w β S
    refine RG.done rfl (nx_then (wp_ret (rt_then ?_)))
    refine S.r [I (-1)] ?_
    exact ⟨retI (by clear S; omega), S.chg⟩
  · have g3 : ¬ ((left - ((a).length : Int)) < 0) := of_decide_eq_false h1
    refine wp_skip (nx_then (wp_seq (RG.start ?_)))
    refine S.q 2 [4] 0 ⟨[(4, .v (I (left - ((a).length : Int))))], []⟩ .nil ?_; clear S; intro ac w β S
    refine RG.done rfl (nx_then (wp_ret ?_))
    refine S.r [I (left - ((a).length : Int))] ?_
    exact ⟨retI (by clear S; omega), S.chg⟩

set_option maxRecDepth 100000 in
theorem c_laws_szGuest (w0 : World) (a : TGuest) (pa : PGuest) (ha : GT.rd KR (Lt w0.heap.size) w0 a pa) (left : Int) (pre0 : -1 ≤ left) (pre1 : left ≤ 4194304) : Calls Try.prog 114 [GT.val a pa, I left].toArray w0 (fun e w' => e = .returned (I (f_sz (SZ.sz a) left)) ∧ Chg NoB w0 w') := by
  refine Calls.walk (args := [GT.val a pa, I left]) NoB Try.func114 rfl rfl ?_
  intro ac β S
  have hz := sz_Guest a
  have hb0 := f_sz_cs (SZ.sz a) left
  refine wp_seq (RG.start ?_)
  refine S.q 2 [1, 2] 1 ⟨[(1, .v (I left)), (2, .p 0 0)], [GT.cells a pa]⟩ .nil ?_; clear S; intro ac w β S
  refine RG.done rfl (nx_then (wp_seq (RG.start ?_)))
  have b1 := f_sz_cs (SZ.sz a.prog) left
  refine S.q 5 [1, 2] 1 ⟨[(1, .v (I (f_sz (SZ.sz a.prog) left))), (2, .p 0 0)], [GT.cells a pa]⟩ (.cons (Q_call fun w hw => c_laws_szInsS w a.prog pa.prog (rd_of (RGuest.prog (d := a) (S.arg ha)) hw) left (by omega) (by omega)) .nil) ?_; clear S; intro ac w β S
  refine RG.done rfl (nx_then (wp_seq (wp_seq (RG.start ?_))))
  refine S.q 2 [1, 2, 10] 1 ⟨[(1, .v (I (f_sz (SZ.sz a.prog) left))), (2, .p 0 0), (10, .v (B (decide ((f_sz (SZ.sz a.prog) left) < 0))))], [GT.cells a pa]⟩ .nil ?_; clear S; intro ac w β S
  refine RG.done rfl (nx_then ?_)
  refine S.c (decide ((f_sz (SZ.sz a.prog) left) < 0)) (fun h2 => ?_) (fun h2 => ?_)
  · have g3 : (f_sz (SZ.sz a.prog) left) < 0 := of_decide_eq_true h2
    refine wp_seq (RG.start ?_)
    refine S.q 1 [4] 0 ⟨[(4, .v (I (-1)))], []⟩ .nil ?_; clear S; intro ac w β S
    refine RG.done rfl (nx_then (wp_ret (rt_then ?_)))
    refine S.r [I (-1)] ?_
    exact ⟨retI (by clear S; omega), S.chg⟩
  · have g4 : ¬ ((f_sz (SZ.sz a.prog) left) < 0) := of_decide_eq_false h2
    refine wp_skip (nx_then (wp_seq (RG.start ?_)))
    have b5 := f_sz_cs (SZ.sz a.written) (f_sz (SZ.sz a.prog) left)
    refine S.q 5 [1, 2] 1 ⟨[(1, .v (I (f_sz (SZ.sz a.written) (f_sz (SZ.sz a.prog) left)))), (2, .p 0 0)], [GT.cells a pa]⟩ (.cons (Q_call fun w hw => c_laws_szSlotS w a.written pa.written (rd_of (RGuest.written (d := a) (S.arg ha)) hw) (f_sz (SZ.sz a.prog) left) (by omega) (by omega)) .nil) ?_; clear S; intro ac w β S
    refine RG.done rfl (nx_then (wp_seq (wp_seq (RG.start ?_))))
    refine S.q 2 [1, 2, 16] 1 ⟨[(1, .v (I (f_sz (SZ.sz a.written) (f_sz (SZ.sz a.prog) left)))), (2, .p 0 0), (16, .v (B (decide ((f_sz (SZ.sz a.written) (f_sz (SZ.sz a.prog) left)) < 0))))], [GT.cells a pa]⟩ .nil ?_; clear S; intro ac w β S
    refine RG.done rfl (nx_then ?_)
    refine S.c (decide ((f_sz (SZ.sz a.written) (f_sz (SZ.sz a.prog) left)) < 0)) (fun h6 => ?_) (fun h6 => ?_)
    · have g7 : (f_sz (SZ.sz a.written) (f_sz (SZ.sz a.prog) left)) < 0 := of_decide_eq_true h6
      refine wp_seq (RG.start ?_)
      refine S.q 1 [4] 0 ⟨[(4, .v (I (-1)))], []⟩ .nil ?_; clear S; intro ac w β S
      refine RG.done rfl (nx_then (wp_ret (rt_then ?_)))
      refine S.r [I (-1)] ?_
      exact ⟨retI (by clear S; omega), S.chg⟩
    · have g8 : ¬ ((f_sz (SZ.sz a.written) (f_sz (SZ.sz a.prog) left)) < 0) := of_decide_eq_false h6
      refine wp_skip (nx_then (wp_seq (RG.start ?_)))
      have b9 := f_sz_cs (SZ.sz a.live) (f_sz (SZ.sz a.written) (f_sz (SZ.sz a.prog) left))
      refine S.q 5 [1, 2] 1 ⟨[(1, .v (I (f_sz (SZ.sz a.live) (f_sz (SZ.sz a.written) (f_sz (SZ.sz a.prog) left))))), (2, .p 0 0)], [GT.cells a pa]⟩ (.cons (Q_call fun w hw => c_laws_szSlotS w a.live pa.live (rd_of (RGuest.live (d := a) (S.arg ha)) hw) (f_sz (SZ.sz a.written) (f_sz (SZ.sz a.prog) left)) (by omega) (by omega)) .nil) ?_; clear S; intro ac w β S
      refine RG.done rfl (nx_then (wp_seq (wp_seq (RG.start ?_))))
      refine S.q 2 [1, 2, 22] 1 ⟨[(1, .v (I (f_sz (SZ.sz a.live) (f_sz (SZ.sz a.written) (f_sz (SZ.sz a.prog) left))))), (2, .p 0 0), (22, .v (B (decide ((f_sz (SZ.sz a.live) (f_sz (SZ.sz a.written) (f_sz (SZ.sz a.prog) left))) < 0))))], [GT.cells a pa]⟩ .nil ?_; clear S; intro ac w β S
      refine RG.done rfl (nx_then ?_)
      refine S.c (decide ((f_sz (SZ.sz a.live) (f_sz (SZ.sz a.written) (f_sz (SZ.sz a.prog) left))) < 0)) (fun h10 => ?_) (fun h10 => ?_)
      · have g11 : (f_sz (SZ.sz a.live) (f_sz (SZ.sz a.written) (f_sz (SZ.sz a.prog) left))) < 0 := of_decide_eq_true h10
        refine wp_seq (RG.start ?_)
        refine S.q 1 [4] 0 ⟨[(4, .v (I (-1)))], []⟩ .nil ?_; clear S; intro ac w β S
        refine RG.done rfl (nx_then (wp_ret (rt_then ?_)))
        refine S.r [I (-1)] ?_
        exact ⟨retI (by clear S; omega), S.chg⟩
      · have g12 : ¬ ((f_sz (SZ.sz a.live) (f_sz (SZ.sz a.written) (f_sz (SZ.sz a.prog) left))) < 0) := of_decide_eq_false h10
        refine wp_skip (nx_then (wp_seq (RG.start ?_)))
        have b13 := f_sz_cs (SZ.sz a.seen) (f_sz (SZ.sz a.live) (f_sz (SZ.sz a.written) (f_sz (SZ.sz a.prog) left)))
        refine S.q 5 [1] 0 ⟨[(1, .v (I (f_sz (SZ.sz a.seen) (f_sz (SZ.sz a.live) (f_sz (SZ.sz a.written) (f_sz (SZ.sz a.prog) left))))))], []⟩ (.cons (Q_call fun w hw => c_laws_szIntS w a.seen pa.seen (rd_of (RGuest.seen (d := a) (S.arg ha)) hw) (f_sz (SZ.sz a.live) (f_sz (SZ.sz a.written) (f_sz (SZ.sz a.prog) left))) (by omega) (by omega)) .nil) ?_; clear S; intro ac w β S
        refine RG.done rfl (nx_then (wp_seq (wp_seq (RG.start ?_))))
        refine S.q 2 [1, 28] 0 ⟨[(1, .v (I (f_sz (SZ.sz a.seen) (f_sz (SZ.sz a.live) (f_sz (SZ.sz a.written) (f_sz (SZ.sz a.prog) left)))))), (28, .v (B (decide ((f_sz (SZ.sz a.seen) (f_sz (SZ.sz a.live) (f_sz (SZ.sz a.written) (f_sz (SZ.sz a.prog) left)))) < 0))))], []⟩ .nil ?_; clear S; intro ac w β S
        refine RG.done rfl (nx_then ?_)
        refine S.c (decide ((f_sz (SZ.sz a.seen) (f_sz (SZ.sz a.live) (f_sz (SZ.sz a.written) (f_sz (SZ.sz a.prog) left)))) < 0)) (fun h14 => ?_) (fun h14 => ?_)
        · have g15 : (f_sz (SZ.sz a.seen) (f_sz (SZ.sz a.live) (f_sz (SZ.sz a.written) (f_sz (SZ.sz a.prog) left)))) < 0 := of_decide_eq_true h14
          refine wp_seq (RG.start ?_)
          refine S.q 1 [4] 0 ⟨[(4, .v (I (-1)))], []⟩ .nil ?_; clear S; intro ac w β S
          refine RG.done rfl (nx_then (wp_ret (rt_then ?_)))
          refine S.r [I (-1)] ?_
          exact ⟨retI (by clear S; omega), S.chg⟩
        · have g16 : ¬ ((f_sz (SZ.sz a.seen) (f_sz (SZ.sz a.live) (f_sz (SZ.sz a.written) (f_sz (SZ.sz a.prog) left)))) < 0) := of_decide_eq_false h14
          refine wp_skip (nx_then (wp_seq (RG.start ?_)))
          refine S.q 2 [4] 0 ⟨[(4, .v (I (f_sz (SZ.sz a.seen) (f_sz (SZ.sz a.live) (f_sz (SZ.sz a.written) (f_sz (SZ.sz a.prog) left))))))], []⟩ .nil ?_; clear S; intro ac w β S
          refine RG.done rfl (nx_then (wp_ret ?_))
          refine S.r [I (f_sz (SZ.sz a.seen) (f_sz (SZ.sz a.live) (f_sz (SZ.sz a.written) (f_sz (SZ.sz a.prog) left))))] ?_
          exact ⟨retI (by clear S; omega), S.chg⟩

set_option maxRecDepth 100000 in
theorem c_laws_szGuestS (w0 : World) (a : List TGuest) (pa : LP TGuest) (ha : GT.rd KR (Lt w0.heap.size) w0 a pa) (left : Int) (pre0 : -1 ≤ left) (pre1 : left ≤ 4194304) : Calls Try.prog 73 [slv (a).length pa.1, I left].toArray w0 (fun e w' => e = .returned (I (f_sz (SZ.sz a) left)) ∧ Chg NoB w0 w') := by
  refine Calls.walk (args := [slv (a).length pa.1, I left]) NoB Try.func73 rfl rfl ?_
  intro ac β S
  have hz := sz_list a
  have hb0 := f_sz_cs (SZ.sz a) left
  have hlea : a.length ≤ 9223372036854775807 := LRd.le ha
  refine wp_seq (RG.start ?_)
  refine S.q 1 [0, 1] 0 ⟨[(0, .v (slv (a).length pa.1)), (1, .v (I left))], []⟩ .nil ?_; clear S; intro ac w β S
  refine RG.done rfl (nx_then (wp_seq (RG.start ?_)))
  refine S.q 5 [0, 1] 0 ⟨[(0, .v (slv (a).length pa.1)), (1, .v (I (left - ((a).length : Int))))], []⟩ (.cons (Q_sub (x := left) (y := ((a).length : Int)) ⟨by omega, by omega⟩) .nil) ?_; clear S; intro ac w β S
  refine RG.done rfl (nx_then (wp_seq (wp_seq (RG.start ?_))))
  refine S.q 2 [0, 1, 11] 0 ⟨[(0, .v (slv (a).length pa.1)), (1, .v (I (left - ((a).length : Int)))), (11, .v (B (decide ((left - ((a).length : Int)) < 0))))], []⟩ .nil ?_; clear S; intro ac w β S
  refine RG.done rfl (nx_then ?_)
  refine S.c (decide ((left - ((a).length : Int)) < 0)) (fun h1 => ?_) (fun h1 => ?_)
  · have g2 : (left - ((a).length : Int)) < 0 := of_decide_eq_true h1
    refine wp_seq (RG.start ?_)
    refine S.q 1 [4] 0 ⟨[(4, .v (I (-1)))], []⟩ .nil ?_; clear S; intro ac w β S
    refine RG.done rfl (nx_then (wp_ret (rt_then ?_)))
    refine S.r [I (-1)] ?_
    exact ⟨retI (by clear S; (first | omega | (have hall := szsum_all (xs := a) (k := k) (by omega); omega) | (have hs1 := szsum_take (xs := a) (k := k) (by omega); have hs2 := szsum_take_le a (k + 1); omega))), S.chg⟩
  · have g3 : ¬ ((left - ((a).length : Int)) < 0) := of_decide_eq_false h1
    refine wp_skip (nx_then (wp_seq (wp_seq (RG.start ?_))))
    refine S.q 1 [0, 1, 5] 0 ⟨[(0, .v (slv (a).length pa.1)), (1, .v (I (left - ((a).length : Int)))), (5, .v (I 0))], []⟩ .nil ?_; clear S; intro ac w β S
    refine RG.done rfl (nx_then (wp_block ?_))
    replace S := S.p [0, 1, 5] 0 ⟨[(0, .v (slv (a).length pa.1)), (1, .v (I (left - ((a).length : Int)))), (5, .v (I 0))], []⟩
    refine wp_loop_down (fun mm ac w => ∃ (k : Nat) (l : Int)  (u : World) (N : Bl) (β : Nat → Nat), mm = a.length - k ∧ (k ≤ a.length) ∧ (l = left - a.length - szsum (a.take k)) ∧ (0 ≤ l) ∧ St Try.prog Try.f73.ntmps w0 NoB u N β ⟨[(0, .v (slv (a).length pa.1)), (1, .v (I l)), (5, .v (I (k : Int)))], []⟩ ac w) _ ⟨0, (left - ((a).length : Int)), _, _, _, rfl, (by first | omega | (simp; done) | (simp; omega)), (by simp [szsum_nil]), (by first | omega | (simp; done) | (simp; omega)), S.cast (by kernel_rfl)⟩ ?_
    clear S
    rintro mm ac w ⟨k, l, u, N, β, rfl, hk, hl, hl0, S⟩
    have hle2 := szsum_take_le a k
    refine wp_seq (wp_seq (RG.start ?_))
    refine S.q 4 [0, 1, 5, 15] 0 ⟨[(0, .v (slv (a).length pa.1)), (1, .v (I l)), (5, .v (I (k : Int))), (15, .v (B (decide ((k : Int) < ((a).length : Int)))))], []⟩ .nil ?_; clear S; intro ac w β S
    refine RG.done rfl (nx_then ?_)
    refine S.c (decide ((k : Int) < ((a).length : Int))) (fun h4 => ?_) (fun h4 => ?_)
    · have g5 : (k : Int) < ((a).length : Int) := of_decide_eq_true h4
      refine wp_skip (nx_then (wp_seq (wp_block (wp_seq (RG.start ?_)))))
      have b6 := f_sz_cs (SZ.sz (el a k)) l
      refine S.q 7 [0, 1, 5] 0 ⟨[(0, .v (slv (a).length pa.1)), (1, .v (I (f_sz (SZ.sz (el a k)) l))), (5, .v (I (k : Int)))], []⟩ (.cons (Q_idx (S.arg ha) (l := (a).length) (k := k) (i := (k : Int)) rfl rfl (by omega) Try.underlying68 (by kernel_rfl)) (.cons (Q_el (S.arg ha) (t := 147) (k := k) (by omega) rfl (by kernel_rfl) (by kernel_rfl)) (.cons (Q_call fun w hw => c_laws_szGuest w (el a k) (pa.2 k) (rd_of (LRd.el (S.arg ha) k (by omega)) hw) l (by omega) (by omega)) .nil))) ?_; clear S; intro ac w β S
      refine RG.done rfl (nx_then (wp_seq (RG.start ?_)))
      refine S.q 2 [0, 1, 5, 25] 0 ⟨[(0, .v (slv (a).length pa.1)), (1, .v (I (f_sz (SZ.sz (el a k)) l))), (5, .v (I (k : Int))), (25, .v (B (decide ((f_sz (SZ.sz (el a k)) l) < 0))))], []⟩ .nil ?_; clear S; intro ac w β S
      refine RG.done rfl (nx_then ?_)
      refine S.c (decide ((f_sz (SZ.sz (el a k)) l) < 0)) (fun h7 => ?_) (fun h7 => ?_)
      · have g8 : (f_sz (SZ.sz (el a k)) l) < 0 := of_decide_eq_true h7
        refine wp_seq (RG.start ?_)
        refine S.q 1 [4] 0 ⟨[(4, .v (I (-1)))], []⟩ .nil ?_; clear S; intro ac w β S
        refine RG.done rfl (nx_then (wp_ret (rt_block (rt_then (rt_then (rt_block (rt_then ?_)))))))
        refine S.r [I (-1)] ?_
        exact ⟨retI (by clear S; (first | omega | (have hall := szsum_all (xs := a) (k := k) (by omega); omega) | (have hs1 := szsum_take (xs := a) (k := k) (by omega); have hs2 := szsum_take_le a (k + 1); omega))), S.chg⟩
      · have g9 : ¬ ((f_sz (SZ.sz (el a k)) l) < 0) := of_decide_eq_false h7
        refine wp_skip (nx_block (nx_then (RG.start ?_)))
        refine S.q 3 [0, 1, 5] 0 ⟨[(0, .v (slv (a).length pa.1)), (1, .v (I (f_sz (SZ.sz (el a k)) l))), (5, .v (I ((k : Int) + 1)))], []⟩ (.cons (Q_add (x := (k : Int)) (y := 1) ⟨by omega, by omega⟩) .nil) ?_; clear S; intro ac w β S
        refine RG.done rfl (nx_then ?_)
        replace S := S.p [0, 1, 5] 0 ⟨[(0, .v (slv (a).length pa.1)), (1, .v (I (f_sz (SZ.sz (el a k)) l))), (5, .v (I ((k : Int) + 1)))], []⟩
        refine ⟨a.length - (k + 1), by omega, k + 1, (f_sz (SZ.sz (el a k)) l), _, _, _, rfl, ?_, ?_, ?_, S.cast (by kernel_rfl)⟩
        · clear S; first | omega | (simp [*]; done) | (simp [*]; omega)
        · clear S; (rw [szsum_take (by omega)]; omega)
        · clear S; omega
    · have g10 : ¬ ((k : Int) < ((a).length : Int)) := of_decide_eq_false h4
      refine wp_exit (ex_then (ex_then (ex_hit (nx_then (wp_seq (RG.start ?_))))))
      refine S.q 2 [4] 0 ⟨[(4, .v (I l))], []⟩ .nil ?_; clear S; intro ac w β S
      refine RG.done rfl (nx_then (wp_ret ?_))
      refine S.r [I l] ?_
      exact ⟨retI (by clear S; (first | omega | (have hall := szsum_all (xs := a) (k := k) (by omega); omega) | (have hs1 := szsum_take (xs := a) (k := k) (by omega); have hs2 := szsum_take_le a (k + 1); omega))), S.chg⟩

set_option maxRecDepth 100000 in
theorem c_laws_szBare (w0 : World) (a : TBare) (pa : PBare) (ha : GT.rd KR (Lt w0.heap.size) w0 a pa) (left : Int) (pre0 : -1 ≤ left) (pre1 : left ≤ 4194304) : Calls Try.prog 36 [GT.val a pa, I left].toArray w0 (fun e w' => e = .returned (I (f_sz (SZ.sz a) left)) ∧ Chg NoB w0 w') := by
  refine Calls.walk (args := [GT.val a pa, I left]) NoB Try.func36 rfl rfl ?_
  intro ac β S
  have hz := sz_Bare a
  have hb0 := f_sz_cs (SZ.sz a) left
  refine wp_seq (RG.start ?_)
  refine S.q 2 [1, 2] 1 ⟨[(1, .v (I left)), (2, .p 0 0)], [GT.cells a pa]⟩ .nil ?_; clear S; intro ac w β S
  refine RG.done rfl (nx_then (wp_seq (RG.start ?_)))
  have b1 := f_sz_cs (SZ.sz a.mem) left
  refine S.q 5 [1, 2] 1 ⟨[(1, .v (I (f_sz (SZ.sz a.mem) left))), (2, .p 0 0)], [GT.cells a pa]⟩ (.cons (Q_call fun w hw => c_laws_szIntSS w a.mem pa.mem (rd_of (RBare.mem (d := a) (S.arg ha)) hw) left (by omega) (by omega)) .nil) ?_; clear S; intro ac w β S
  refine RG.done rfl (nx_then (wp_seq (wp_seq (RG.start ?_))))
  refine S.q 2 [1, 2, 10] 1 ⟨[(1, .v (I (f_sz (SZ.sz a.mem) left))), (2, .p 0 0), (10, .v (B (decide ((f_sz (SZ.sz a.mem) left) < 0))))], [GT.cells a pa]⟩ .nil ?_; clear S; intro ac w β S
  refine RG.done rfl (nx_then ?_)
  refine S.c (decide ((f_sz (SZ.sz a.mem) left) < 0)) (fun h2 => ?_) (fun h2 => ?_)
  · have g3 : (f_sz (SZ.sz a.mem) left) < 0 := of_decide_eq_true h2
    refine wp_seq (RG.start ?_)
    refine S.q 1 [4] 0 ⟨[(4, .v (I (-1)))], []⟩ .nil ?_; clear S; intro ac w β S
    refine RG.done rfl (nx_then (wp_ret (rt_then ?_)))
    refine S.r [I (-1)] ?_
    exact ⟨retI (by clear S; omega), S.chg⟩
  · have g4 : ¬ ((f_sz (SZ.sz a.mem) left) < 0) := of_decide_eq_false h2
    refine wp_skip (nx_then (wp_seq (RG.start ?_)))
    have b5 := f_sz_cs (SZ.sz a.guests) (f_sz (SZ.sz a.mem) left)
    refine S.q 5 [1, 2] 1 ⟨[(1, .v (I (f_sz (SZ.sz a.guests) (f_sz (SZ.sz a.mem) left)))), (2, .p 0 0)], [GT.cells a pa]⟩ (.cons (Q_call fun w hw => c_laws_szGuestS w a.guests pa.guests (rd_of (RBare.guests (d := a) (S.arg ha)) hw) (f_sz (SZ.sz a.mem) left) (by omega) (by omega)) .nil) ?_; clear S; intro ac w β S
    refine RG.done rfl (nx_then (wp_seq (wp_seq (RG.start ?_))))
    refine S.q 2 [1, 2, 16] 1 ⟨[(1, .v (I (f_sz (SZ.sz a.guests) (f_sz (SZ.sz a.mem) left)))), (2, .p 0 0), (16, .v (B (decide ((f_sz (SZ.sz a.guests) (f_sz (SZ.sz a.mem) left)) < 0))))], [GT.cells a pa]⟩ .nil ?_; clear S; intro ac w β S
    refine RG.done rfl (nx_then ?_)
    refine S.c (decide ((f_sz (SZ.sz a.guests) (f_sz (SZ.sz a.mem) left)) < 0)) (fun h6 => ?_) (fun h6 => ?_)
    · have g7 : (f_sz (SZ.sz a.guests) (f_sz (SZ.sz a.mem) left)) < 0 := of_decide_eq_true h6
      refine wp_seq (RG.start ?_)
      refine S.q 1 [4] 0 ⟨[(4, .v (I (-1)))], []⟩ .nil ?_; clear S; intro ac w β S
      refine RG.done rfl (nx_then (wp_ret (rt_then ?_)))
      refine S.r [I (-1)] ?_
      exact ⟨retI (by clear S; omega), S.chg⟩
    · have g8 : ¬ ((f_sz (SZ.sz a.guests) (f_sz (SZ.sz a.mem) left)) < 0) := of_decide_eq_false h6
      refine wp_skip (nx_then (wp_seq (RG.start ?_)))
      have b9 := f_sz_cs (SZ.sz a.outs) (f_sz (SZ.sz a.guests) (f_sz (SZ.sz a.mem) left))
      refine S.q 5 [1] 0 ⟨[(1, .v (I (f_sz (SZ.sz a.outs) (f_sz (SZ.sz a.guests) (f_sz (SZ.sz a.mem) left)))))], []⟩ (.cons (Q_call fun w hw => c_laws_szIntS w a.outs pa.outs (rd_of (RBare.outs (d := a) (S.arg ha)) hw) (f_sz (SZ.sz a.guests) (f_sz (SZ.sz a.mem) left)) (by omega) (by omega)) .nil) ?_; clear S; intro ac w β S
      refine RG.done rfl (nx_then (wp_seq (wp_seq (RG.start ?_))))
      refine S.q 2 [1, 22] 0 ⟨[(1, .v (I (f_sz (SZ.sz a.outs) (f_sz (SZ.sz a.guests) (f_sz (SZ.sz a.mem) left))))), (22, .v (B (decide ((f_sz (SZ.sz a.outs) (f_sz (SZ.sz a.guests) (f_sz (SZ.sz a.mem) left))) < 0))))], []⟩ .nil ?_; clear S; intro ac w β S
      refine RG.done rfl (nx_then ?_)
      refine S.c (decide ((f_sz (SZ.sz a.outs) (f_sz (SZ.sz a.guests) (f_sz (SZ.sz a.mem) left))) < 0)) (fun h10 => ?_) (fun h10 => ?_)
      · have g11 : (f_sz (SZ.sz a.outs) (f_sz (SZ.sz a.guests) (f_sz (SZ.sz a.mem) left))) < 0 := of_decide_eq_true h10
        refine wp_seq (RG.start ?_)
        refine S.q 1 [4] 0 ⟨[(4, .v (I (-1)))], []⟩ .nil ?_; clear S; intro ac w β S
        refine RG.done rfl (nx_then (wp_ret (rt_then ?_)))
        refine S.r [I (-1)] ?_
        exact ⟨retI (by clear S; omega), S.chg⟩
      · have g12 : ¬ ((f_sz (SZ.sz a.outs) (f_sz (SZ.sz a.guests) (f_sz (SZ.sz a.mem) left))) < 0) := of_decide_eq_false h10
        refine wp_skip (nx_then (wp_seq (RG.start ?_)))
        refine S.q 2 [4] 0 ⟨[(4, .v (I (f_sz (SZ.sz a.outs) (f_sz (SZ.sz a.guests) (f_sz (SZ.sz a.mem) left)))))], []⟩ .nil ?_; clear S; intro ac w β S
        refine RG.done rfl (nx_then (wp_ret ?_))
        refine S.r [I (f_sz (SZ.sz a.outs) (f_sz (SZ.sz a.guests) (f_sz (SZ.sz a.mem) left)))] ?_
        exact ⟨retI (by clear S; omega), S.chg⟩

set_option maxRecDepth 100000 in
theorem c_laws_toIntS (w0 : World) (a : List Int) (pa : LP Int) (ha : GT.rd KK (Lt w0.heap.size) w0 a pa) : Calls Try.prog 81 [slv (a).length pa.1].toArray w0 (Ret1 NoB w0 (a : List Int)) := by
  refine Calls.walk (args := [slv (a).length pa.1]) NoB Try.func81 rfl rfl ?_
  intro ac β S
  have hlea : a.length ≤ 4194304 := LRd.le ha
  refine wp_seq (RG.start ?_)
  refine S.q 1 [0] 0 ⟨[(0, .v (slv (a).length pa.1))], []⟩ .nil ?_; clear S; intro ac w β S
  refine RG.done rfl (nx_then (wp_seq (RG.start ?_)))
  refine S.q 2 [0, 6] 0 ⟨[(0, .v (slv (a).length pa.1)), (6, .v (I ((a).length : Int)))], []⟩ .nil ?_; clear S; intro ac w β S
  refine RG.op rfl (S.make (α := Int) (m := (a).length) (by' := 8) (d := 7) (by kernel_rfl) (by omega) (show (a).length ≤ 4194304 by omega) ?_)
  clear S; intro ac w N q1 F2 S up o3 d4
  clear up d4
  refine S.q 1 [0, 3] 0 ⟨[(0, .v (slv (a).length pa.1)), (3, .v (slv ((a).length) q1.1))], []⟩ .nil ?_; clear S; intro ac w β S
  refine RG.done rfl (nx_then (wp_seq (wp_seq (RG.start ?_))))
  refine S.q 1 [0, 3, 4] 0 ⟨[(0, .v (slv (a).length pa.1)), (3, .v (slv ((a).length) q1.1)), (4, .v (I 0))], []⟩ .nil ?_; clear S; intro ac w β S
  refine RG.done rfl (nx_then (wp_block ?_))
  replace S := S.p [0, 3, 4] 0 ⟨[(0, .v (slv (a).length pa.1)), (3, .v (slv ((a).length) q1.1)), (4, .v (I 0))], []⟩
  refine wp_loop_down (fun mm ac w => ∃ (k : Nat) (acc : List (Int)) (q5 : GT.Ptr (List Int)) (F6 : Bl) (u : World) (N : Bl) (β : Nat → Nat), mm = a.length - k ∧ (k ≤ a.length) ∧ (acc = a.take k ++ List.replicate (a.length - k) (GT.dflt : Int)) ∧ St Try.prog Try.f81.ntmps w0 NoB u N β ⟨[(0, .v (slv (a).length pa.1)), (3, .v (slv a.length q5.1)), (4, .v (I (k : Int)))], []⟩ ac w ∧ Ow w0 NoB u N F6 acc q5) _ ⟨0, (List.replicate ((a).length) (GT.dflt : Int)), q1, F2, _, _, _, rfl, (by first | omega | (simp; done) | (simp; omega)), (by simp), S.cast (by kernel_rfl), o3⟩ ?_
  clear S o3
  rintro mm ac w ⟨k, acc, q5, F6, u, N, β, rfl, hk, hacc, S, o7⟩
  have hlacc : acc.length = a.length := by rw [hacc]; simp; omega
  refine wp_seq (wp_seq (RG.start ?_))
  refine S.q 4 [0, 3, 4, 11] 0 ⟨[(0, .v (slv (a).length pa.1)), (3, .v (slv a.length q5.1)), (4, .v (I (k : Int))), (11, .v (B (decide ((k : Int) < ((a).length : Int)))))], []⟩ .nil ?_; clear S; intro ac w β S
  refine RG.done rfl (nx_then ?_)
  refine S.c (decide ((k : Int) < ((a).length : Int))) (fun h8 => ?_) (fun h8 => ?_)
  · have g9 : (k : Int) < ((a).length : Int) := of_decide_eq_true h8
    refine wp_skip (nx_then (wp_seq (wp_block (RG.start ?_))))
    refine S.q 7 [0, 3, 4, 19, 20] 0 ⟨[(0, .v (slv (a).length pa.1)), (3, .v (slv a.length q5.1)), (4, .v (I (k : Int))), (19, .v (I (el a k))), (20, .v (pt q5.1.b (q5.1.off + k * 1)))], []⟩ (.cons (Q_idx (S.arg ha) (l := (a).length) (k := k) (i := (k : Int)) rfl rfl (by omega) Try.underlying24 (by kernel_rfl)) (.cons (Q_el1 (S.arg ha) (t := 3) (k := k) (by omega) rfl (by kernel_rfl)) (.cons (Q_idx o7.rn (l := a.length) (k := k) (i := (k : Int)) (by rw [hacc]; simp; omega) rfl (by omega) Try.underlying24 (by kernel_rfl)) .nil))) ?_; clear S; intro ac w β S
    refine RG.op rfl (S.setEl (α := Int) o7 (t := 3) (v := I (el a k)) (k := k) (j := 0) (off := q5.1.off + k * 1) (y := (el a k)) (q := ()) (Fy := NoB) (by kernel_rfl) (by kernel_rfl) (by omega) (by kernel_rfl) (by kernel_rfl) (Nat.le_of_ble_eq_true (by kernel_rfl)) (by kernel_rfl) (fun _ _ _ => ⟨NoB, (LRd.el (S.arg ha) k (by omega)), fun _ h => False.elim h⟩) (fun b _ h => False.elim h) (fun b h => False.elim h) (fun b h => False.elim h) ?_)
    clear S; intro w N F11 q12 S up o10 d13 s14 n15
    clear up d13 o7 n15
    have l16 : (acc.set k (el a k)).length = (acc).length := List.length_set
    replace S := S.p [0, 3, 4] 0 ⟨[(0, .v (slv (a).length pa.1)), (3, .v (slv a.length q5.1)), (4, .v (I (k : Int)))], []⟩
    refine RG.done rfl (nx_block (nx_then (RG.start ?_)))
    refine S.q 3 [0, 3, 4] 0 ⟨[(0, .v (slv (a).length pa.1)), (3, .v (slv a.length q5.1)), (4, .v (I ((k : Int) + 1)))], []⟩ (.cons (Q_add (x := (k : Int)) (y := 1) ⟨by omega, by omega⟩) .nil) ?_; clear S; intro ac w β S
    refine RG.done rfl (nx_then ?_)
    replace S := S.p [0, 3, 4] 0 ⟨[(0, .v (slv (a).length pa.1)), (3, .v (slv a.length q5.1)), (4, .v (I ((k : Int) + 1)))], []⟩
    refine ⟨a.length - (k + 1), by omega, k + 1, (acc.set k (el a k)), (q5.1, q12), F11, _, _, _, rfl, ?_, ?_, S.cast (by kernel_rfl), o10⟩
    · clear S; first | omega | (simp [*]; done) | (simp [*]; omega)
    · clear S; rw [hacc]; exact set_step (by omega)
  · have g17 : ¬ ((k : Int) < ((a).length : Int)) := of_decide_eq_false h8
    refine wp_exit (ex_then (ex_then (ex_hit (nx_then (wp_seq (RG.start ?_))))))
    refine S.q 2 [2] 0 ⟨[(2, .v (slv a.length q5.1))], []⟩ .nil ?_; clear S; intro ac w β S
    refine RG.done rfl (nx_then (wp_ret ?_))
    refine S.r [slv a.length q5.1] ?_
    exact ret1_of S (show a = acc by clear S; rw [hacc, take_all (by omega), show a.length - k = 0 by omega]; simp) (by rw [show a.length = (acc).length from (by rw [hacc]; simp; omega)]; rfl) o7

set_option maxRecDepth 100000 in
theorem c_laws_toIntSS (w0 : World) (a : List (List Int)) (pa : LP (List Int)) (ha : GT.rd KK (Lt w0.heap.size) w0 a pa) : Calls Try.prog 79 [slv (a).length pa.1].toArray w0 (Ret1 NoB w0 (a : List (List Int))) := by
  refine Calls.walk (args := [slv (a).length pa.1]) NoB Try.func79 rfl rfl ?_
  intro ac β S
  have hlea : a.length ≤ 4194304 := LRd.le ha
  refine wp_seq (RG.start ?_)
  refine S.q 1 [0] 0 ⟨[(0, .v (slv (a).length pa.1))], []⟩ .nil ?_; clear S; intro ac w β S
  refine RG.done rfl (nx_then (wp_seq (RG.start ?_)))
  refine S.q 2 [0, 6] 0 ⟨[(0, .v (slv (a).length pa.1)), (6, .v (I ((a).length : Int)))], []⟩ .nil ?_; clear S; intro ac w β S
  refine RG.op rfl (S.make (α := List Int) (m := (a).length) (by' := 24) (d := 7) (by kernel_rfl) (by omega) (show (a).length ≤ 4194304 by omega) ?_)
  clear S; intro ac w N q1 F2 S up o3 d4
  clear up d4
  refine S.q 1 [0, 3] 0 ⟨[(0, .v (slv (a).length pa.1)), (3, .v (slv ((a).length) q1.1))], []⟩ .nil ?_; clear S; intro ac w β S
  refine RG.done rfl (nx_then (wp_seq (wp_seq (RG.start ?_))))
  refine S.q 1 [0, 3, 4] 0 ⟨[(0, .v (slv (a).length pa.1)), (3, .v (slv ((a).length) q1.1)), (4, .v (I 0))], []⟩ .nil ?_; clear S; intro ac w β S
  refine RG.done rfl (nx_then (wp_block ?_))
  replace S := S.p [0, 3, 4] 0 ⟨[(0, .v (slv (a).length pa.1)), (3, .v (slv ((a).length) q1.1)), (4, .v (I 0))], []⟩
  refine wp_loop_down (fun mm ac w => ∃ (k : Nat) (acc : List (List Int)) (q5 : GT.Ptr (List (List Int))) (F6 : Bl) (u : World) (N : Bl) (β : Nat → Nat), mm = a.length - k ∧ (k ≤ a.length) ∧ (acc = a.take k ++ List.replicate (a.length - k) (GT.dflt : List Int)) ∧ St Try.prog Try.f79.ntmps w0 NoB u N β ⟨[(0, .v (slv (a).length pa.1)), (3, .v (slv a.length q5.1)), (4, .v (I (k : Int)))], []⟩ ac w ∧ Ow w0 NoB u N F6 acc q5) _ ⟨0, (List.replicate ((a).length) (GT.dflt : List Int)), q1, F2, _, _, _, rfl, (by first | omega | (simp; done) | (simp; omega)), (by simp), S.cast (by kernel_rfl), o3⟩ ?_
  clear S o3
  rintro mm ac w ⟨k, acc, q5, F6, u, N, β, rfl, hk, hacc, S, o7⟩
  have hlacc : acc.length = a.length := by rw [hacc]; simp; omega
  refine wp_seq (wp_seq (RG.start ?_))
  refine S.q 4 [0, 3, 4, 11] 0 ⟨[(0, .v (slv (a).length pa.1)), (3, .v (slv a.length q5.1)), (4, .v (I (k : Int))), (11, .v (B (decide ((k : Int) < ((a).length : Int)))))], []⟩ .nil ?_; clear S; intro ac w β S
  refine RG.done rfl (nx_then ?_)
  refine S.c (decide ((k : Int) < ((a).length : Int))) (fun h8 => ?_) (fun h8 => ?_)
  · have g9 : (k : Int) < ((a).length : Int) := of_decide_eq_true h8
    refine wp_skip (nx_then (wp_seq (wp_block (RG.start ?_))))
    refine S.q 6 [0, 3, 4, 14, 15, 19] 0 ⟨[(0, .v (slv (a).length pa.1)), (3, .v (slv a.length q5.1)), (4, .v (I (k : Int))), (14, .v (slv a.length q5.1)), (15, .v (I (k : Int))), (19, .v (slv ((el a k)).length (pa.2 k).1))], []⟩ (.cons (Q_idx (S.arg ha) (l := (a).length) (k := k) (i := (k : Int)) rfl rfl (by omega) Try.underlying31 (by kernel_rfl)) (.cons (Q_el1 (S.arg ha) (t := 24) (k := k) (by omega) rfl (by kernel_rfl)) .nil)) ?_; clear S; intro ac w β S
    refine RG.op rfl (S.call1 (r := (el a k)) (d := 20) (c_laws_toIntS w (el a k) (pa.2 k) (S.rd (LRd.el (S.arg ha) k (by omega)))) (by kernel_rfl) rfl ?_)
    clear S; intro ac w N q10 F11 S up o12 d13
    have d14 : Disj F6 F11 := fun b x y => d13 b (o7.sub b x) y
    replace o7 := o7.up up
    clear up d13
    refine S.q 1 [0, 3, 4, 20, 21] 0 ⟨[(0, .v (slv (a).length pa.1)), (3, .v (slv a.length q5.1)), (4, .v (I (k : Int))), (20, .v (slv ((el a k)).length q10.1)), (21, .v (pt q5.1.b (q5.1.off + k * 1)))], []⟩ (.cons (Q_idx o7.rn (l := a.length) (k := k) (i := (k : Int)) (by rw [hacc]; simp; omega) rfl (by omega) Try.underlying31 (by kernel_rfl)) .nil) ?_; clear S; intro ac w β S
    refine RG.op rfl (S.setEl (α := List Int) o7 (t := 24) (v := slv ((el a k)).length q10.1) (k := k) (j := 0) (off := q5.1.off + k * 1) (y := (el a k)) (q := q10) (Fy := F11) (by kernel_rfl) (by kernel_rfl) (by omega) (by kernel_rfl) (by kernel_rfl) (Nat.le_of_ble_eq_true (by kernel_rfl)) (by kernel_rfl) (fun _ _ _ => ⟨F11, o12.own, fun _ h => .inr h⟩) d14 o12.sub o12.young ?_)
    clear S; intro w N F16 q17 S up o15 d18 s19 n20
    clear up d18 o7 n20
    have l21 : (acc.set k (el a k)).length = (acc).length := List.length_set
    replace S := S.p [0, 3, 4] 0 ⟨[(0, .v (slv (a).length pa.1)), (3, .v (slv a.length q5.1)), (4, .v (I (k : Int)))], []⟩
    refine RG.done rfl (nx_block (nx_then (RG.start ?_)))
    refine S.q 3 [0, 3, 4] 0 ⟨[(0, .v (slv (a).length pa.1)), (3, .v (slv a.length q5.1)), (4, .v (I ((k : Int) + 1)))], []⟩ (.cons (Q_add (x := (k : Int)) (y := 1) ⟨by omega, by omega⟩) .nil) ?_; clear S; intro ac w β S
    refine RG.done rfl (nx_then ?_)
    replace S := S.p [0, 3, 4] 0 ⟨[(0, .v (slv (a).length pa.1)), (3, .v (slv a.length q5.1)), (4, .v (I ((k : Int) + 1)))], []⟩
    refine ⟨a.length - (k + 1), by omega, k + 1, (acc.set k (el a k)), (q5.1, q17), F16, _, _, _, rfl, ?_, ?_, S.cast (by kernel_rfl), o15⟩
    · clear S; first | omega | (simp [*]; done) | (simp [*]; omega)
    · clear S; rw [hacc]; exact set_step (by omega)
  · have g22 : ¬ ((k : Int) < ((a).length : Int)) := of_decide_eq_false h8
    refine wp_exit (ex_then (ex_then (ex_hit (nx_then (wp_seq (RG.start ?_))))))
    refine S.q 2 [2] 0 ⟨[(2, .v (slv a.length q5.1))], []⟩ .nil ?_; clear S; intro ac w β S
    refine RG.done rfl (nx_then (wp_ret ?_))
    refine S.r [slv a.length q5.1] ?_
    exact ret1_of S (show a = acc by clear S; rw [hacc, take_all (by omega), show a.length - k = 0 by omega]; simp) (by rw [show a.length = (acc).length from (by rw [hacc]; simp; omega)]; rfl) o7

set_option maxRecDepth 100000 in
theorem c_laws_toIns (w0 : World) (a : TIns) : Calls Try.prog 168 [GT.val a ()].toArray w0 (fun e w' => e = .returned (GT.val a ()) ∧ Chg NoB w0 w') := by
  refine Calls.walk (args := [GT.val a ()]) NoB Try.func168 rfl rfl ?_
  intro ac β S
  refine wp_seq (RG.start ?_)
  refine S.q 2 [1, 2] 2 ⟨[(1, .p 0 0), (2, .p 1 0)], [GT.cells a (), Zc TIns]⟩ .nil ?_; clear S; intro ac w β S
  refine RG.done rfl (nx_then (wp_seq (RG.start ?_)))
  refine S.q 1 [1, 2, 3] 3 ⟨[(1, .p 0 0), (2, .p 1 0), (3, .p 2 0)], [GT.cells a (), Zc TIns, Zc TIns]⟩ .nil ?_; clear S; intro ac w β S
  refine RG.done rfl (nx_then (wp_seq (RG.start ?_)))
  refine S.q 4 [1, 2, 3] 3 ⟨[(1, .p 0 0), (2, .p 1 0), (3, .p 2 0)], [GT.cells a (), Zc TIns, [I a.opc, I 0]]⟩ .nil ?_; clear S; intro ac w β S
  refine RG.done rfl (nx_then (wp_seq (RG.start ?_)))
  refine S.q 4 [2, 3] 3 ⟨[(2, .p 1 0), (3, .p 2 0)], [GT.cells a (), Zc TIns, [I a.opc, I a.x]]⟩ .nil ?_; clear S; intro ac w β S
  refine RG.done rfl (nx_then (wp_seq (RG.start ?_)))
  refine S.q 2 [2] 2 ⟨[(2, .p 1 0)], [GT.cells a (), [I a.opc, I a.x]]⟩ .nil ?_; clear S; intro ac w β S
  refine RG.done rfl (nx_then (wp_ret ?_))
  refine S.r [GT.val (⟨a.opc, a.x⟩ : TIns) ()] ?_
  exact ⟨retV (p := ()) (by clear S; first | rfl | (simp [a, *]; done) | (simp [a, *]; omega) | (simp_all [a]; done) | (simp_all [a]; omega)), S.chg⟩

set_option maxRecDepth 100000 in
theorem c_laws_toInsS (w0 : World) (a : List TIns) (pa : LP TIns) (ha : GT.rd KK (Lt w0.heap.size) w0 a pa) : Calls Try.prog 150 [slv (a).length pa.1].toArray w0 (Ret1 NoB w0 (a : List TIns)) := by
  refine Calls.walk (args := [slv (a).length pa.1]) NoB Try.func150 rfl rfl ?_
  intro ac β S
  have hlea : a.length ≤ 4194304 := LRd.le ha
  refine wp_seq (RG.start ?_)
  refine S.q 1 [0] 0 ⟨[(0, .v (slv (a).length pa.1))], []⟩ .nil ?_; clear S; intro ac w β S
  refine RG.done rfl (nx_then (wp_seq (RG.start ?_)))
  refine S.q 2 [0, 6] 0 ⟨[(0, .v (slv (a).length pa.1)), (6, .v (I ((a).length : Int)))], []⟩ .nil ?_; clear S; intro ac w β S
  refine RG.op rfl (S.make (α := TIns) (m := (a).length) (by' := 16) (d := 7) (by kernel_rfl) (by omega) (show (a).length ≤ 4194304 by omega) ?_)
  clear S; intro ac w N q1 F2 S up o3 d4
  clear up d4
  refine S.q 1 [0, 3] 0 ⟨[(0, .v (slv (a).length pa.1)), (3, .v (slv ((a).length) q1.1))], []⟩ .nil ?_; clear S; intro ac w β S
  refine RG.done rfl (nx_then (wp_seq (wp_seq (RG.start ?_))))
  refine S.q 1 [0, 3, 4] 0 ⟨[(0, .v (slv (a).length pa.1)), (3, .v (slv ((a).length) q1.1)), (4, .v (I 0))], []⟩ .nil ?_; clear S; intro ac w β S
  refine RG.done rfl (nx_then (wp_block ?_))
  replace S := S.p [0, 3, 4] 0 ⟨[(0, .v (slv (a).length pa.1)), (3, .v (slv ((a).length) q1.1)), (4, .v (I 0))], []⟩
  refine wp_loop_down (fun mm ac w => ∃ (k : Nat) (acc : List (TIns)) (q5 : GT.Ptr (List TIns)) (F6 : Bl) (u : World) (N : Bl) (β : Nat → Nat), mm = a.length - k ∧ (k ≤ a.length) ∧ (acc = a.take k ++ List.replicate (a.length - k) (GT.dflt : TIns)) ∧ St Try.prog Try.f150.ntmps w0 NoB u N β ⟨[(0, .v (slv (a).length pa.1)), (3, .v (slv a.length q5.1)), (4, .v (I (k : Int)))], []⟩ ac w ∧ Ow w0 NoB u N F6 acc q5) _ ⟨0, (List.replicate ((a).length) (GT.dflt : TIns)), q1, F2, _, _, _, rfl, (by first | omega | (simp; done) | (simp; omega)), (by simp), S.cast (by kernel_rfl), o3⟩ ?_
  clear S o3
  rintro mm ac w ⟨k, acc, q5, F6, u, N, β, rfl, hk, hacc, S, o7⟩
  have hlacc : acc.length = a.length := by rw [hacc]; simp; omega
  refine wp_seq (wp_seq (RG.start ?_))
  refine S.q 4 [0, 3, 4, 11] 0 ⟨[(0, .v (slv (a).length pa.1)), (3, .v (slv a.length q5.1)), (4, .v (I (k : Int))), (11, .v (B (decide ((k : Int) < ((a).length : Int)))))], []⟩ .nil ?_; clear S; intro ac w β S
  refine RG.done rfl (nx_then ?_)
  refine S.c (decide ((k : Int) < ((a).length : Int))) (fun h8 => ?_) (fun h8 => ?_)
  · have g9 : (k : Int) < ((a).length : Int) := of_decide_eq_true h8
    refine wp_skip (nx_then (wp_seq (wp_block (RG.start ?_))))
    refine S.q 8 [0, 3, 4, 20, 21] 0 ⟨[(0, .v (slv (a).length pa.1)), (3, .v (slv a.length q5.1)), (4, .v (I (k : Int))), (20, .v (GT.val ((el a k)) ())), (21, .v (pt q5.1.b (q5.1.off + k * 2)))], []⟩ (.cons (Q_idx (S.arg ha) (l := (a).length) (k := k) (i := (k : Int)) rfl rfl (by omega) Try.underlying142 (by kernel_rfl)) (.cons (Q_el (S.arg ha) (t := 184) (k := k) (by omega) rfl (by kernel_rfl) (by kernel_rfl)) (.cons (Q_call fun w hw => c_laws_toIns w (el a k)) (.cons (Q_idx o7.rn (l := a.length) (k := k) (i := (k : Int)) (by rw [hacc]; simp; omega) rfl (by omega) Try.underlying28 (by kernel_rfl)) .nil)))) ?_; clear S; intro ac w β S
    have e10 : RIns (el acc k) := (LRd.el o7.rn k (by omega))
    refine RG.op rfl (S.setEl (α := TIns) o7 (t := 27) (v := GT.val ((el a k)) ()) (k := k) (j := 0) (off := q5.1.off + k * 2) (y := ((el a k))) (q := ()) (Fy := NoB) (by kernel_rfl) (by kernel_rfl) (by omega) (by kernel_rfl) (by kernel_rfl) (Nat.le_of_ble_eq_true (by kernel_rfl)) (by kernel_rfl) (fun _ _ _ => ⟨NoB, ((LRd.el (S.arg ha) k (by omega))), fun _ h => False.elim h⟩) (fun b _ h => False.elim h) (fun b h => False.elim h) (fun b h => False.elim h) ?_)
    clear S; intro w N F12 q13 S up o11 d14 s15 n16
    clear up d14 o7 n16
    have l17 : (acc.set k ((el a k))).length = (acc).length := List.length_set
    replace S := S.p [0, 3, 4] 0 ⟨[(0, .v (slv (a).length pa.1)), (3, .v (slv a.length q5.1)), (4, .v (I (k : Int)))], []⟩
    refine RG.done rfl (nx_block (nx_then (RG.start ?_)))
    refine S.q 3 [0, 3, 4] 0 ⟨[(0, .v (slv (a).length pa.1)), (3, .v (slv a.length q5.1)), (4, .v (I ((k : Int) + 1)))], []⟩ (.cons (Q_add (x := (k : Int)) (y := 1) ⟨by omega, by omega⟩) .nil) ?_; clear S; intro ac w β S
    refine RG.done rfl (nx_then ?_)
    replace S := S.p [0, 3, 4] 0 ⟨[(0, .v (slv (a).length pa.1)), (3, .v (slv a.length q5.1)), (4, .v (I ((k : Int) + 1)))], []⟩
    refine ⟨a.length - (k + 1), by omega, k + 1, (acc.set k ((el a k))), (q5.1, q13), F12, _, _, _, rfl, ?_, ?_, S.cast (by kernel_rfl), o11⟩
    · clear S; first | omega | (simp [*]; done) | (simp [*]; omega)
    · clear S; rw [hacc]; exact set_step (by omega)
  · have g18 : ¬ ((k : Int) < ((a).length : Int)) := of_decide_eq_false h8
    refine wp_exit (ex_then (ex_then (ex_hit (nx_then (wp_seq (RG.start ?_))))))
    refine S.q 2 [2] 0 ⟨[(2, .v (slv a.length q5.1))], []⟩ .nil ?_; clear S; intro ac w β S
    refine RG.done rfl (nx_then (wp_ret ?_))
    refine S.r [slv a.length q5.1] ?_
    exact ret1_of S (show a = acc by clear S; rw [hacc, take_all (by omega), show a.length - k = 0 by omega]; simp) (by rw [show a.length = (acc).length from (by rw [hacc]; simp; omega)]; rfl) o7

set_option maxRecDepth 100000 in
theorem c_laws_toSlot (w0 : World) (a : TSlot) : Calls Try.prog 169 [GT.val a ()].toArray w0 (fun e w' => e = .returned (GT.val a ()) ∧ Chg NoB w0 w') := by
  refine Calls.walk (args := [GT.val a ()]) NoB Try.func169 rfl rfl ?_
  intro ac β S
  refine wp_seq (RG.start ?_)
  refine S.q 2 [1, 2] 2 ⟨[(1, .p 0 0), (2, .p 1 0)], [GT.cells a (), Zc TSlot]⟩ .nil ?_; clear S; intro ac w β S
  refine RG.done rfl (nx_then (wp_seq (RG.start ?_)))
  refine S.q 1 [1, 2, 3] 3 ⟨[(1, .p 0 0), (2, .p 1 0), (3, .p 2 0)], [GT.cells a (), Zc TSlot, Zc TSlot]⟩ .nil ?_; clear S; intro ac w β S
  refine RG.done rfl (nx_then (wp_seq (RG.start ?_)))
  refine S.q 4 [1, 2, 3] 3 ⟨[(1, .p 0 0), (2, .p 1 0), (3, .p 2 0)], [GT.cells a (), Zc TSlot, [I a.page, I 0]]⟩ .nil ?_; clear S; intro ac w β S
  refine RG.done rfl (nx_then (wp_seq (RG.start ?_)))
  refine S.q 4 [2, 3] 3 ⟨[(2, .p 1 0), (3, .p 2 0)], [GT.cells a (), Zc TSlot, [I a.page, I a.rights]]⟩ .nil ?_; clear S; intro ac w β S
  refine RG.done rfl (nx_then (wp_seq (RG.start ?_)))
  refine S.q 2 [2] 2 ⟨[(2, .p 1 0)], [GT.cells a (), [I a.page, I a.rights]]⟩ .nil ?_; clear S; intro ac w β S
  refine RG.done rfl (nx_then (wp_ret ?_))
  refine S.r [GT.val (⟨a.page, a.rights⟩ : TSlot) ()] ?_
  exact ⟨retV (p := ()) (by clear S; first | rfl | (simp [a, *]; done) | (simp [a, *]; omega) | (simp_all [a]; done) | (simp_all [a]; omega)), S.chg⟩

set_option maxRecDepth 100000 in
theorem c_laws_toSlotS (w0 : World) (a : List TSlot) (pa : LP TSlot) (ha : GT.rd KK (Lt w0.heap.size) w0 a pa) : Calls Try.prog 151 [slv (a).length pa.1].toArray w0 (Ret1 NoB w0 (a : List TSlot)) := by
  refine Calls.walk (args := [slv (a).length pa.1]) NoB Try.func151 rfl rfl ?_
  intro ac β S
  have hlea : a.length ≤ 4194304 := LRd.le ha
  refine wp_seq (RG.start ?_)
  refine S.q 1 [0] 0 ⟨[(0, .v (slv (a).length pa.1))], []⟩ .nil ?_; clear S; intro ac w β S
  refine RG.done rfl (nx_then (wp_seq (RG.start ?_)))
  refine S.q 2 [0, 6] 0 ⟨[(0, .v (slv (a).length pa.1)), (6, .v (I ((a).length : Int)))], []⟩ .nil ?_; clear S; intro ac w β S
  refine RG.op rfl (S.make (α := TSlot) (m := (a).length) (by' := 16) (d := 7) (by kernel_rfl) (by omega) (show (a).length ≤ 4194304 by omega) ?_)
  clear S; intro ac w N q1 F2 S up o3 d4
  clear up d4
  refine S.q 1 [0, 3] 0 ⟨[(0, .v (slv (a).length pa.1)), (3, .v (slv ((a).length) q1.1))], []⟩ .nil ?_; clear S; intro ac w β S
  refine RG.done rfl (nx_then (wp_seq (wp_seq (RG.start ?_))))
  refine S.q 1 [0, 3, 4] 0 ⟨[(0, .v (slv (a).length pa.1)), (3, .v (slv ((a).length) q1.1)), (4, .v (I 0))], []⟩ .nil ?_; clear S; intro ac w β S
  refine RG.done rfl (nx_then (wp_block ?_))
  replace S := S.p [0, 3, 4] 0 ⟨[(0, .v (slv (a).length pa.1)), (3, .v (slv ((a).length) q1.1)), (4, .v (I 0))], []⟩
  refine wp_loop_down (fun mm ac w => ∃ (k : Nat) (acc : List (TSlot)) (q5 : GT.Ptr (List TSlot)) (F6 : Bl) (u : World) (N : Bl) (β : Nat → Nat), mm = a.length - k ∧ (k ≤ a.length) ∧ (acc = a.take k ++ List.replicate (a.length - k) (GT.dflt : TSlot)) ∧ St Try.prog Try.f151.ntmps w0 NoB u N β ⟨[(0, .v (slv (a).length pa.1)), (3, .v (slv a.length q5.1)), (4, .v (I (k : Int)))], []⟩ ac w ∧ Ow w0 NoB u N F6 acc q5) _ ⟨0, (List.replicate ((a).length) (GT.dflt : TSlot)), q1, F2, _, _, _, rfl, (by first | omega | (simp; done) | (simp; omega)), (by simp), S.cast (by kernel_rfl), o3⟩ ?_
  clear S o3
  rintro mm ac w ⟨k, acc, q5, F6, u, N, β, rfl, hk, hacc, S, o7⟩
  have hlacc : acc.length = a.length := by rw [hacc]; simp; omega
  refine wp_seq (wp_seq (RG.start ?_))
  refine S.q 4 [0, 3, 4, 11] 0 ⟨[(0, .v (slv (a).length pa.1)), (3, .v (slv a.length q5.1)), (4, .v (I (k : Int))), (11, .v (B (decide ((k : Int) < ((a).length : Int)))))], []⟩ .nil ?_; clear S; intro ac w β S
  refine RG.done rfl (nx_then ?_)
  refine S.c (decide ((k : Int) < ((a).length : Int))) (fun h8 => ?_) (fun h8 => ?_)
  · have g9 : (k : Int) < ((a).length : Int) := of_decide_eq_true h8
    refine wp_skip (nx_then (wp_seq (wp_block (RG.start ?_))))
    refine S.q 8 [0, 3, 4, 20, 21] 0 ⟨[(0, .v (slv (a).length pa.1)), (3, .v (slv a.length q5.1)), (4, .v (I (k : Int))), (20, .v (GT.val ((el a k)) ())), (21, .v (pt q5.1.b (q5.1.off + k * 2)))], []⟩ (.cons (Q_idx (S.arg ha) (l := (a).length) (k := k) (i := (k : Int)) rfl rfl (by omega) Try.underlying143 (by kernel_rfl)) (.cons (Q_el (S.arg ha) (t := 186) (k := k) (by omega) rfl (by kernel_rfl) (by kernel_rfl)) (.cons (Q_call fun w hw => c_laws_toSlot w (el a k)) (.cons (Q_idx o7.rn (l := a.length) (k := k) (i := (k : Int)) (by rw [hacc]; simp; omega) rfl (by omega) Try.underlying37 (by kernel_rfl)) .nil)))) ?_; clear S; intro ac w β S
    have e10 : RSlot (el acc k) := (LRd.el o7.rn k (by omega))
    refine RG.op rfl (S.setEl (α := TSlot) o7 (t := 54) (v := GT.val ((el a k)) ()) (k := k) (j := 0) (off := q5.1.off + k * 2) (y := ((el a k))) (q := ()) (Fy := NoB) (by kernel_rfl) (by kernel_rfl) (by omega) (by kernel_rfl) (by kernel_rfl) (Nat.le_of_ble_eq_true (by kernel_rfl)) (by kernel_rfl) (fun _ _ _ => ⟨NoB, ((LRd.el (S.arg ha) k (by omega))), fun _ h => False.elim h⟩) (fun b _ h => False.elim h) (fun b h => False.elim h) (fun b h => False.elim h) ?_)
    clear S; intro w N F12 q13 S up o11 d14 s15 n16
    clear up d14 o7 n16
    have l17 : (acc.set k ((el a k))).length = (acc).length := List.length_set
    replace S := S.p [0, 3, 4] 0 ⟨[(0, .v (slv (a).length pa.1)), (3, .v (slv a.length q5.1)), (4, .v (I (k : Int)))], []⟩
    refine RG.done rfl (nx_block (nx_then (RG.start ?_)))
    refine S.q 3 [0, 3, 4] 0 ⟨[(0, .v (slv (a).length pa.1)), (3, .v (slv a.length q5.1)), (4, .v (I ((k : Int) + 1)))], []⟩ (.cons (Q_add (x := (k : Int)) (y := 1) ⟨by omega, by omega⟩) .nil) ?_; clear S; intro ac w β S
    refine RG.done rfl (nx_then ?_)
    replace S := S.p [0, 3, 4] 0 ⟨[(0, .v (slv (a).length pa.1)), (3, .v (slv a.length q5.1)), (4, .v (I ((k : Int) + 1)))], []⟩
    refine ⟨a.length - (k + 1), by omega, k + 1, (acc.set k ((el a k))), (q5.1, q13), F12, _, _, _, rfl, ?_, ?_, S.cast (by kernel_rfl), o11⟩
    · clear S; first | omega | (simp [*]; done) | (simp [*]; omega)
    · clear S; rw [hacc]; exact set_step (by omega)
  · have g18 : ¬ ((k : Int) < ((a).length : Int)) := of_decide_eq_false h8
    refine wp_exit (ex_then (ex_then (ex_hit (nx_then (wp_seq (RG.start ?_))))))
    refine S.q 2 [2] 0 ⟨[(2, .v (slv a.length q5.1))], []⟩ .nil ?_; clear S; intro ac w β S
    refine RG.done rfl (nx_then (wp_ret ?_))
    refine S.r [slv a.length q5.1] ?_
    exact ret1_of S (show a = acc by clear S; rw [hacc, take_all (by omega), show a.length - k = 0 by omega]; simp) (by rw [show a.length = (acc).length from (by rw [hacc]; simp; omega)]; rfl) o7

set_option maxRecDepth 100000 in
theorem c_laws_toCtl (w0 : World) (a : TCtl) : Calls Try.prog 152 [GT.val a ()].toArray w0 (fun e w' => e = .returned (GT.val a ()) ∧ Chg NoB w0 w') := by
  refine Calls.walk (args := [GT.val a ()]) NoB Try.func152 rfl rfl ?_
  intro ac β S
  refine wp_seq (RG.start ?_)
  refine S.q 2 [1, 2] 2 ⟨[(1, .p 0 0), (2, .p 1 0)], [GT.cells a (), Zc TCtl]⟩ .nil ?_; clear S; intro ac w β S
  refine RG.done rfl (nx_then (wp_seq (RG.start ?_)))
  refine S.q 1 [1, 2, 3] 3 ⟨[(1, .p 0 0), (2, .p 1 0), (3, .p 2 0)], [GT.cells a (), Zc TCtl, Zc TCtl]⟩ .nil ?_; clear S; intro ac w β S
  refine RG.done rfl (nx_then (wp_seq (RG.start ?_)))
  refine S.q 4 [1, 2, 3] 3 ⟨[(1, .p 0 0), (2, .p 1 0), (3, .p 2 0)], [GT.cells a (), Zc TCtl, [I a.traps, I 0, B false]]⟩ .nil ?_; clear S; intro ac w β S
  refine RG.done rfl (nx_then (wp_seq (RG.start ?_)))
  refine S.q 4 [1, 2, 3] 3 ⟨[(1, .p 0 0), (2, .p 1 0), (3, .p 2 0)], [GT.cells a (), Zc TCtl, [I a.traps, I a.post, B false]]⟩ .nil ?_; clear S; intro ac w β S
  refine RG.done rfl (nx_then (wp_seq (RG.start ?_)))
  refine S.q 4 [2, 3] 3 ⟨[(2, .p 1 0), (3, .p 2 0)], [GT.cells a (), Zc TCtl, [I a.traps, I a.post, B a.opn]]⟩ .nil ?_; clear S; intro ac w β S
  refine RG.done rfl (nx_then (wp_seq (RG.start ?_)))
  refine S.q 2 [2] 2 ⟨[(2, .p 1 0)], [GT.cells a (), [I a.traps, I a.post, B a.opn]]⟩ .nil ?_; clear S; intro ac w β S
  refine RG.done rfl (nx_then (wp_ret ?_))
  refine S.r [GT.val (⟨a.traps, a.post, a.opn⟩ : TCtl) ()] ?_
  exact ⟨retV (p := ()) (by clear S; first | rfl | (simp [a, *]; done) | (simp [a, *]; omega) | (simp_all [a]; done) | (simp_all [a]; omega)), S.chg⟩

set_option maxRecDepth 100000 in
theorem c_laws_toExit (w0 : World) (a : TExit) : Calls Try.prog 153 [GT.val a ()].toArray w0 (fun e w' => e = .returned (GT.val a ()) ∧ Chg NoB w0 w') := by
  refine Calls.walk (args := [GT.val a ()]) NoB Try.func153 rfl rfl ?_
  intro ac β S
  refine wp_seq (RG.start ?_)
  refine S.q 2 [1, 2] 2 ⟨[(1, .p 0 0), (2, .p 1 0)], [GT.cells a (), Zc TExit]⟩ .nil ?_; clear S; intro ac w β S
  refine RG.done rfl (nx_then (wp_seq (RG.start ?_)))
  refine S.q 1 [1, 2, 3] 3 ⟨[(1, .p 0 0), (2, .p 1 0), (3, .p 2 0)], [GT.cells a (), Zc TExit, Zc TExit]⟩ .nil ?_; clear S; intro ac w β S
  refine RG.done rfl (nx_then (wp_seq (RG.start ?_)))
  refine S.q 4 [1, 2, 3] 3 ⟨[(1, .p 0 0), (2, .p 1 0), (3, .p 2 0)], [GT.cells a (), Zc TExit, [I a.kind, I 0, B false, I 0]]⟩ .nil ?_; clear S; intro ac w β S
  refine RG.done rfl (nx_then (wp_seq (RG.start ?_)))
  refine S.q 4 [1, 2, 3] 3 ⟨[(1, .p 0 0), (2, .p 1 0), (3, .p 2 0)], [GT.cells a (), Zc TExit, [I a.kind, I a.page, B false, I 0]]⟩ .nil ?_; clear S; intro ac w β S
  refine RG.done rfl (nx_then (wp_seq (RG.start ?_)))
  refine S.q 4 [1, 2, 3] 3 ⟨[(1, .p 0 0), (2, .p 1 0), (3, .p 2 0)], [GT.cells a (), Zc TExit, [I a.kind, I a.page, B a.wr, I 0]]⟩ .nil ?_; clear S; intro ac w β S
  refine RG.done rfl (nx_then (wp_seq (RG.start ?_)))
  refine S.q 4 [2, 3] 3 ⟨[(2, .p 1 0), (3, .p 2 0)], [GT.cells a (), Zc TExit, [I a.kind, I a.page, B a.wr, I a.n]]⟩ .nil ?_; clear S; intro ac w β S
  refine RG.done rfl (nx_then (wp_seq (RG.start ?_)))
  refine S.q 2 [2] 2 ⟨[(2, .p 1 0)], [GT.cells a (), [I a.kind, I a.page, B a.wr, I a.n]]⟩ .nil ?_; clear S; intro ac w β S
  refine RG.done rfl (nx_then (wp_ret ?_))
  refine S.r [GT.val (⟨a.kind, a.page, a.wr, a.n⟩ : TExit) ()] ?_
  exact ⟨retV (p := ()) (by clear S; first | rfl | (simp [a, *]; done) | (simp [a, *]; omega) | (simp_all [a]; done) | (simp_all [a]; omega)), S.chg⟩

set_option maxRecDepth 100000 in
theorem c_laws_toGuest (w0 : World) (a : TGuest) (pa : PGuest) (ha : GT.rd KK (Lt w0.heap.size) w0 a pa) : Calls Try.prog 121 [GT.val a pa].toArray w0 (Ret1 NoB w0 (a : TGuest)) := by
  refine Calls.walk (args := [GT.val a pa]) NoB Try.func121 rfl rfl ?_
  intro ac β S
  have hlea_prog : a.prog.length ≤ 4194304 := LRd.le (RGuest.prog (d := a) ha)
  have hlea_written : a.written.length ≤ 4194304 := LRd.le (RGuest.written (d := a) ha)
  have hlea_live : a.live.length ≤ 4194304 := LRd.le (RGuest.live (d := a) ha)
  have hlea_seen : a.seen.length ≤ 4194304 := LRd.le (RGuest.seen (d := a) ha)
  refine wp_seq (RG.start ?_)
  refine S.q 2 [1, 2] 2 ⟨[(1, .p 0 0), (2, .p 1 0)], [GT.cells a pa, Zc TGuest]⟩ .nil ?_; clear S; intro ac w β S
  refine RG.done rfl (nx_then (wp_seq (RG.start ?_)))
  refine S.q 1 [1, 2, 3] 3 ⟨[(1, .p 0 0), (2, .p 1 0), (3, .p 2 0)], [GT.cells a pa, Zc TGuest, Zc TGuest]⟩ .nil ?_; clear S; intro ac w β S
  refine RG.done rfl (nx_then (wp_seq (RG.start ?_)))
  refine S.q 2 [1, 2, 3, 5] 3 ⟨[(1, .p 0 0), (2, .p 1 0), (3, .p 2 0), (5, .v (slv (a.prog).length pa.prog.1))], [GT.cells a pa, Zc TGuest, Zc TGuest]⟩ .nil ?_; clear S; intro ac w β S
  refine RG.op rfl (S.call1 (r := a.prog) (d := 6) (c_laws_toInsS w a.prog pa.prog (S.rd (RGuest.prog (d := a) (S.arg ha)))) (by kernel_rfl) rfl ?_)
  clear S; intro ac w N q1 F2 S up o3 d4
  clear up d4
  refine S.q 2 [1, 2, 3] 3 ⟨[(1, .p 0 0), (2, .p 1 0), (3, .p 2 0)], [GT.cells a pa, Zc TGuest, [slv (a.prog).length q1.1, I 0, I 0, slv (([] : List TSlot)).length (GT.pdflt (α := List TSlot)).1, slv (([] : List TSlot)).length (GT.pdflt (α := List TSlot)).1, I 0, I 0, B false, I 0, I 0, I 0, B false, I 0, B false, slv (([] : List Int)).length (GT.pdflt (α := List Int)).1]]⟩ .nil ?_; clear S; intro ac w β S
  refine RG.done rfl (nx_then (wp_seq (RG.start ?_)))
  refine S.q 4 [1, 2, 3] 3 ⟨[(1, .p 0 0), (2, .p 1 0), (3, .p 2 0)], [GT.cells a pa, Zc TGuest, [slv (a.prog).length q1.1, I a.acc, I 0, slv (([] : List TSlot)).length (GT.pdflt (α := List TSlot)).1, slv (([] : List TSlot)).length (GT.pdflt (α := List TSlot)).1, I 0, I 0, B false, I 0, I 0, I 0, B false, I 0, B false, slv (([] : List Int)).length (GT.pdflt (α := List Int)).1]]⟩ .nil ?_; clear S; intro ac w β S
  refine RG.done rfl (nx_then (wp_seq (RG.start ?_)))
  refine S.q 4 [1, 2, 3] 3 ⟨[(1, .p 0 0), (2, .p 1 0), (3, .p 2 0)], [GT.cells a pa, Zc TGuest, [slv (a.prog).length q1.1, I a.acc, I a.pc, slv (([] : List TSlot)).length (GT.pdflt (α := List TSlot)).1, slv (([] : List TSlot)).length (GT.pdflt (α := List TSlot)).1, I 0, I 0, B false, I 0, I 0, I 0, B false, I 0, B false, slv (([] : List Int)).length (GT.pdflt (α := List Int)).1]]⟩ .nil ?_; clear S; intro ac w β S
  refine RG.done rfl (nx_then (wp_seq (RG.start ?_)))
  refine S.q 2 [1, 2, 3, 15] 3 ⟨[(1, .p 0 0), (2, .p 1 0), (3, .p 2 0), (15, .v (slv (a.written).length pa.written.1))], [GT.cells a pa, Zc TGuest, [slv (a.prog).length q1.1, I a.acc, I a.pc, slv (([] : List TSlot)).length (GT.pdflt (α := List TSlot)).1, slv (([] : List TSlot)).length (GT.pdflt (α := List TSlot)).1, I 0, I 0, B false, I 0, I 0, I 0, B false, I 0, B false, slv (([] : List Int)).length (GT.pdflt (α := List Int)).1]]⟩ .nil ?_; clear S; intro ac w β S
  refine RG.op rfl (S.call1 (r := a.written) (d := 16) (c_laws_toSlotS w a.written pa.written (S.rd (RGuest.written (d := a) (S.arg ha)))) (by kernel_rfl) rfl ?_)
  clear S; intro ac w N q5 F6 S up o7 d8
  have d9 : Disj F2 F6 := fun b x y => d8 b (o3.sub b x) y
  replace o3 := o3.up up
  clear up d8
  refine S.q 2 [1, 2, 3] 3 ⟨[(1, .p 0 0), (2, .p 1 0), (3, .p 2 0)], [GT.cells a pa, Zc TGuest, [slv (a.prog).length q1.1, I a.acc, I a.pc, slv (a.written).length q5.1, slv (([] : List TSlot)).length (GT.pdflt (α := List TSlot)).1, I 0, I 0, B false, I 0, I 0, I 0, B false, I 0, B false, slv (([] : List Int)).length (GT.pdflt (α := List Int)).1]]⟩ .nil ?_; clear S; intro ac w β S
  refine RG.done rfl (nx_then (wp_seq (RG.start ?_)))
  refine S.q 2 [1, 2, 3, 19] 3 ⟨[(1, .p 0 0), (2, .p 1 0), (3, .p 2 0), (19, .v (slv (a.live).length pa.live.1))], [GT.cells a pa, Zc TGuest, [slv (a.prog).length q1.1, I a.acc, I a.pc, slv (a.written).length q5.1, slv (([] : List TSlot)).length (GT.pdflt (α := List TSlot)).1, I 0, I 0, B false, I 0, I 0, I 0, B false, I 0, B false, slv (([] : List Int)).length (GT.pdflt (α := List Int)).1]]⟩ .nil ?_; clear S; intro ac w β S
  refine RG.op rfl (S.call1 (r := a.live) (d := 20) (c_laws_toSlotS w a.live pa.live (S.rd (RGuest.live (d := a) (S.arg ha)))) (by kernel_rfl) rfl ?_)
  clear S; intro ac w N q10 F11 S up o12 d13
  have d14 : Disj F2 F11 := fun b x y => d13 b (o3.sub b x) y
  have d15 : Disj F6 F11 := fun b x y => d13 b (o7.sub b x) y
  replace o3 := o3.up up
  replace o7 := o7.up up
  clear up d13
  refine S.q 2 [1, 2, 3] 3 ⟨[(1, .p 0 0), (2, .p 1 0), (3, .p 2 0)], [GT.cells a pa, Zc TGuest, [slv (a.prog).length q1.1, I a.acc, I a.pc, slv (a.written).length q5.1, slv (a.live).length q10.1, I 0, I 0, B false, I 0, I 0, I 0, B false, I 0, B false, slv (([] : List Int)).length (GT.pdflt (α := List Int)).1]]⟩ .nil ?_; clear S; intro ac w β S
  refine RG.done rfl (nx_then (wp_seq (RG.start ?_)))
  refine S.q 5 [1, 2, 3] 3 ⟨[(1, .p 0 0), (2, .p 1 0), (3, .p 2 0)], [GT.cells a pa, Zc TGuest, [slv (a.prog).length q1.1, I a.acc, I a.pc, slv (a.written).length q5.1, slv (a.live).length q10.1, I a.ctl.traps, I a.ctl.post, B a.ctl.opn, I 0, I 0, I 0, B false, I 0, B false, slv (([] : List Int)).length (GT.pdflt (α := List Int)).1]]⟩ (.cons (Q_call fun w hw => c_laws_toCtl w a.ctl) .nil) ?_; clear S; intro ac w β S
  refine RG.done rfl (nx_then (wp_seq (RG.start ?_)))
  refine S.q 4 [1, 2, 3] 3 ⟨[(1, .p 0 0), (2, .p 1 0), (3, .p 2 0)], [GT.cells a pa, Zc TGuest, [slv (a.prog).length q1.1, I a.acc, I a.pc, slv (a.written).length q5.1, slv (a.live).length q10.1, I a.ctl.traps, I a.ctl.post, B a.ctl.opn, I a.pend, I 0, I 0, B false, I 0, B false, slv (([] : List Int)).length (GT.pdflt (α := List Int)).1]]⟩ .nil ?_; clear S; intro ac w β S
  refine RG.done rfl (nx_then (wp_seq (RG.start ?_)))
  refine S.q 5 [1, 2, 3] 3 ⟨[(1, .p 0 0), (2, .p 1 0), (3, .p 2 0)], [GT.cells a pa, Zc TGuest, [slv (a.prog).length q1.1, I a.acc, I a.pc, slv (a.written).length q5.1, slv (a.live).length q10.1, I a.ctl.traps, I a.ctl.post, B a.ctl.opn, I a.pend, I a.exit.kind, I a.exit.page, B a.exit.wr, I a.exit.n, B false, slv (([] : List Int)).length (GT.pdflt (α := List Int)).1]]⟩ (.cons (Q_call fun w hw => c_laws_toExit w a.exit) .nil) ?_; clear S; intro ac w β S
  refine RG.done rfl (nx_then (wp_seq (RG.start ?_)))
  refine S.q 4 [1, 2, 3] 3 ⟨[(1, .p 0 0), (2, .p 1 0), (3, .p 2 0)], [GT.cells a pa, Zc TGuest, [slv (a.prog).length q1.1, I a.acc, I a.pc, slv (a.written).length q5.1, slv (a.live).length q10.1, I a.ctl.traps, I a.ctl.post, B a.ctl.opn, I a.pend, I a.exit.kind, I a.exit.page, B a.exit.wr, I a.exit.n, B a.halted, slv (([] : List Int)).length (GT.pdflt (α := List Int)).1]]⟩ .nil ?_; clear S; intro ac w β S
  refine RG.done rfl (nx_then (wp_seq (RG.start ?_)))
  refine S.q 2 [2, 3, 37] 3 ⟨[(2, .p 1 0), (3, .p 2 0), (37, .v (slv (a.seen).length pa.seen.1))], [GT.cells a pa, Zc TGuest, [slv (a.prog).length q1.1, I a.acc, I a.pc, slv (a.written).length q5.1, slv (a.live).length q10.1, I a.ctl.traps, I a.ctl.post, B a.ctl.opn, I a.pend, I a.exit.kind, I a.exit.page, B a.exit.wr, I a.exit.n, B a.halted, slv (([] : List Int)).length (GT.pdflt (α := List Int)).1]]⟩ .nil ?_; clear S; intro ac w β S
  refine RG.op rfl (S.call1 (r := a.seen) (d := 38) (c_laws_toIntS w a.seen pa.seen (S.rd (RGuest.seen (d := a) (S.arg ha)))) (by kernel_rfl) rfl ?_)
  clear S; intro ac w N q16 F17 S up o18 d19
  have d20 : Disj F2 F17 := fun b x y => d19 b (o3.sub b x) y
  have d21 : Disj F6 F17 := fun b x y => d19 b (o7.sub b x) y
  have d22 : Disj F11 F17 := fun b x y => d19 b (o12.sub b x) y
  replace o3 := o3.up up
  replace o7 := o7.up up
  replace o12 := o12.up up
  clear up d19
  refine S.q 2 [2, 3] 3 ⟨[(2, .p 1 0), (3, .p 2 0)], [GT.cells a pa, Zc TGuest, [slv (a.prog).length q1.1, I a.acc, I a.pc, slv (a.written).length q5.1, slv (a.live).length q10.1, I a.ctl.traps, I a.ctl.post, B a.ctl.opn, I a.pend, I a.exit.kind, I a.exit.page, B a.exit.wr, I a.exit.n, B a.halted, slv (a.seen).length q16.1]]⟩ .nil ?_; clear S; intro ac w β S
  refine RG.done rfl (nx_then (wp_seq (RG.start ?_)))
  refine S.q 2 [2] 2 ⟨[(2, .p 1 0)], [GT.cells a pa, [slv (a.prog).length q1.1, I a.acc, I a.pc, slv (a.written).length q5.1, slv (a.live).length q10.1, I a.ctl.traps, I a.ctl.post, B a.ctl.opn, I a.pend, I a.exit.kind, I a.exit.page, B a.exit.wr, I a.exit.n, B a.halted, slv (a.seen).length q16.1]]⟩ .nil ?_; clear S; intro ac w β S
  refine RG.done rfl (nx_then (wp_ret ?_))
  refine S.r [GT.val (⟨a.prog, a.acc, a.pc, a.written, a.live, a.ctl, a.pend, a.exit, a.halted, a.seen⟩ : TGuest) (⟨q1, q5, q10, q16⟩ : PGuest)] ?_
  have o23 := ow_Guest (x := (⟨a.prog, a.acc, a.pc, a.written, a.live, a.ctl, a.pend, a.exit, a.halted, a.seen⟩ : TGuest)) (p := (⟨q1, q5, q10, q16⟩ : PGuest)) o3 o7 o12 o18 d9 d14 d20 d15 d21 d22 (RGuest.acc (d := a) (S.arg ha)) (RGuest.pc (d := a) (S.arg ha)) ((RGuest.ctl (d := a) (S.arg ha))) (RGuest.pend (d := a) (S.arg ha)) ((RGuest.exit (d := a) (S.arg ha)))
  exact ret1_of S (show a = (⟨a.prog, a.acc, a.pc, a.written, a.live, a.ctl, a.pend, a.exit, a.halted, a.seen⟩ : TGuest) by clear S; first | rfl | simp) rfl o23

set_option maxRecDepth 100000 in
theorem c_laws_toGuestS (w0 : World) (a : List TGuest) (pa : LP TGuest) (ha : GT.rd KK (Lt w0.heap.size) w0 a pa) : Calls Try.prog 80 [slv (a).length pa.1].toArray w0 (Ret1 NoB w0 (a : List TGuest)) := by
  refine Calls.walk (args := [slv (a).length pa.1]) NoB Try.func80 rfl rfl ?_
  intro ac β S
  have hlea : a.length ≤ 4194304 := LRd.le ha
  refine wp_seq (RG.start ?_)
  refine S.q 1 [0] 0 ⟨[(0, .v (slv (a).length pa.1))], []⟩ .nil ?_; clear S; intro ac w β S
  refine RG.done rfl (nx_then (wp_seq (RG.start ?_)))
  refine S.q 2 [0, 6] 0 ⟨[(0, .v (slv (a).length pa.1)), (6, .v (I ((a).length : Int)))], []⟩ .nil ?_; clear S; intro ac w β S
  refine RG.op rfl (S.make (α := TGuest) (m := (a).length) (by' := 184) (d := 7) (by kernel_rfl) (by omega) (show (a).length ≤ 4194304 by omega) ?_)
  clear S; intro ac w N q1 F2 S up o3 d4
  clear up d4
  refine S.q 1 [0, 3] 0 ⟨[(0, .v (slv (a).length pa.1)), (3, .v (slv ((a).length) q1.1))], []⟩ .nil ?_; clear S; intro ac w β S
  refine RG.done rfl (nx_then (wp_seq (wp_seq (RG.start ?_))))
  refine S.q 1 [0, 3, 4] 0 ⟨[(0, .v (slv (a).length pa.1)), (3, .v (slv ((a).length) q1.1)), (4, .v (I 0))], []⟩ .nil ?_; clear S; intro ac w β S
  refine RG.done rfl (nx_then (wp_block ?_))
  replace S := S.p [0, 3, 4] 0 ⟨[(0, .v (slv (a).length pa.1)), (3, .v (slv ((a).length) q1.1)), (4, .v (I 0))], []⟩
  refine wp_loop_down (fun mm ac w => ∃ (k : Nat) (acc : List (TGuest)) (q5 : GT.Ptr (List TGuest)) (F6 : Bl) (u : World) (N : Bl) (β : Nat → Nat), mm = a.length - k ∧ (k ≤ a.length) ∧ (acc = a.take k ++ List.replicate (a.length - k) (GT.dflt : TGuest)) ∧ St Try.prog Try.f80.ntmps w0 NoB u N β ⟨[(0, .v (slv (a).length pa.1)), (3, .v (slv a.length q5.1)), (4, .v (I (k : Int)))], []⟩ ac w ∧ Ow w0 NoB u N F6 acc q5) _ ⟨0, (List.replicate ((a).length) (GT.dflt : TGuest)), q1, F2, _, _, _, rfl, (by first | omega | (simp; done) | (simp; omega)), (by simp), S.cast (by kernel_rfl), o3⟩ ?_
  clear S o3
  rintro mm ac w ⟨k, acc, q5, F6, u, N, β, rfl, hk, hacc, S, o7⟩
  have hlacc : acc.length = a.length := by rw [hacc]; simp; omega
  refine wp_seq (wp_seq (RG.start ?_))
  refine S.q 4 [0, 3, 4, 11] 0 ⟨[(0, .v (slv (a).length pa.1)), (3, .v (slv a.length q5.1)), (4, .v (I (k : Int))), (11, .v (B (decide ((k : Int) < ((a).length : Int)))))], []⟩ .nil ?_; clear S; intro ac w β S
  refine RG.done rfl (nx_then ?_)
  refine S.c (decide ((k : Int) < ((a).length : Int))) (fun h8 => ?_) (fun h8 => ?_)
  · have g9 : (k : Int) < ((a).length : Int) := of_decide_eq_true h8
    refine wp_skip (nx_then (wp_seq (wp_block (RG.start ?_))))
    refine S.q 6 [0, 3, 4, 14, 15, 19] 0 ⟨[(0, .v (slv (a).length pa.1)), (3, .v (slv a.length q5.1)), (4, .v (I (k : Int))), (14, .v (slv a.length q5.1)), (15, .v (I (k : Int))), (19, .v (GT.val (el a k) (pa.2 k)))], []⟩ (.cons (Q_idx (S.arg ha) (l := (a).length) (k := k) (i := (k : Int)) rfl rfl (by omega) Try.underlying68 (by kernel_rfl)) (.cons (Q_el (S.arg ha) (t := 147) (k := k) (by omega) rfl (by kernel_rfl) (by kernel_rfl)) .nil)) ?_; clear S; intro ac w β S
    refine RG.op rfl (S.call1 (r := (el a k)) (d := 20) (c_laws_toGuest w (el a k) (pa.2 k) (S.rd (LRd.el (S.arg ha) k (by omega)))) (by kernel_rfl) rfl ?_)
    clear S; intro ac w N q10 F11 S up o12 d13
    have d14 : Disj F6 F11 := fun b x y => d13 b (o7.sub b x) y
    replace o7 := o7.up up
    clear up d13
    have i18 : In64 (el a k).acc := RGuest.acc (d := (el a k)) o12.rn
    have i19 : In64 (el a k).pc := RGuest.pc (d := (el a k)) o12.rn
    have i26 : RCtl (el a k).ctl := RGuest.ctl (d := (el a k)) o12.rn
    have i27 : In64 (el a k).pend := RGuest.pend (d := (el a k)) o12.rn
    have i28 : RExit (el a k).exit := RGuest.exit (d := (el a k)) o12.rn
    obtain ⟨F15, F20, F23, F29, o16, o21, o24, o30, s17, s22, s25, s31, d32, d33, d34, d35, d36, d37⟩ := sp_Guest o12
    refine S.q 1 [0, 3, 4, 20, 21] 0 ⟨[(0, .v (slv (a).length pa.1)), (3, .v (slv a.length q5.1)), (4, .v (I (k : Int))), (20, .v (GT.val (el a k) q10)), (21, .v (pt q5.1.b (q5.1.off + k * 15)))], []⟩ (.cons (Q_idx o7.rn (l := a.length) (k := k) (i := (k : Int)) (by rw [hacc]; simp; omega) rfl (by omega) Try.underlying39 (by kernel_rfl)) .nil) ?_; clear S; intro ac w β S
    have o42 := ow_Guest (x := (el a k)) (p := q10) o16 o21 o24 o30 d32 d33 d34 d35 d36 d37 i18 i19 i26 i27 i28
    refine RG.op rfl (S.setEl (α := TGuest) o7 (t := 117) (v := GT.val (el a k) q10) (k := k) (j := 0) (off := q5.1.off + k * 15) (y := (el a k)) (q := q10) (Fy := (uniB [F15, F20, F23, F29])) (by kernel_rfl) (by kernel_rfl) (by omega) (by kernel_rfl) (by kernel_rfl) (Nat.le_of_ble_eq_true (by kernel_rfl)) (by kernel_rfl) (fun _ _ _ => ⟨(uniB [F15, F20, F23, F29]), o42.own, fun _ h => .inr h⟩) (Disj.symm (Disj.or (Disj.part (Disj.symm d14) s17) (Disj.or (Disj.part (Disj.symm d14) s22) (Disj.or (Disj.part (Disj.symm d14) s25) (Disj.or (Disj.part (Disj.symm d14) s31) Disj.nob))))) o42.sub o42.young ?_)
    clear S; intro w N F39 q40 S up o38 d41 s43 n44
    clear up d41 o7 n44
    have l45 : (acc.set k (el a k)).length = (acc).length := List.length_set
    replace S := S.p [0, 3, 4] 0 ⟨[(0, .v (slv (a).length pa.1)), (3, .v (slv a.length q5.1)), (4, .v (I (k : Int)))], []⟩
    refine RG.done rfl (nx_block (nx_then (RG.start ?_)))
    refine S.q 3 [0, 3, 4] 0 ⟨[(0, .v (slv (a).length pa.1)), (3, .v (slv a.length q5.1)), (4, .v (I ((k : Int) + 1)))], []⟩ (.cons (Q_add (x := (k : Int)) (y := 1) ⟨by omega, by omega⟩) .nil) ?_; clear S; intro ac w β S
    refine RG.done rfl (nx_then ?_)
    replace S := S.p [0, 3, 4] 0 ⟨[(0, .v (slv (a).length pa.1)), (3, .v (slv a.length q5.1)), (4, .v (I ((k : Int) + 1)))], []⟩
    refine ⟨a.length - (k + 1), by omega, k + 1, (acc.set k (el a k)), (q5.1, q40), F39, _, _, _, rfl, ?_, ?_, S.cast (by kernel_rfl), o38⟩
    · clear S; first | omega | (simp [*]; done) | (simp [*]; omega)
    · clear S; rw [hacc]; exact set_step (by omega)
  · have g46 : ¬ ((k : Int) < ((a).length : Int)) := of_decide_eq_false h8
    refine wp_exit (ex_then (ex_then (ex_hit (nx_then (wp_seq (RG.start ?_))))))
    refine S.q 2 [2] 0 ⟨[(2, .v (slv a.length q5.1))], []⟩ .nil ?_; clear S; intro ac w β S
    refine RG.done rfl (nx_then (wp_ret ?_))
    refine S.r [slv a.length q5.1] ?_
    exact ret1_of S (show a = acc by clear S; rw [hacc, take_all (by omega), show a.length - k = 0 by omega]; simp) (by rw [show a.length = (acc).length from (by rw [hacc]; simp; omega)]; rfl) o7

set_option maxRecDepth 100000 in
theorem c_laws_toBare (w0 : World) (a : TBare) (pa : PBare) (ha : GT.rd KK (Lt w0.heap.size) w0 a pa) : Calls Try.prog 38 [GT.val a pa].toArray w0 (Ret1 NoB w0 (a : TBare)) := by
  refine Calls.walk (args := [GT.val a pa]) NoB Try.func38 rfl rfl ?_
  intro ac β S
  have hlea_mem : a.mem.length ≤ 4194304 := LRd.le (RBare.mem (d := a) ha)
  have hlea_guests : a.guests.length ≤ 4194304 := LRd.le (RBare.guests (d := a) ha)
  have hlea_outs : a.outs.length ≤ 4194304 := LRd.le (RBare.outs (d := a) ha)
  refine wp_seq (RG.start ?_)
  refine S.q 2 [1, 2] 2 ⟨[(1, .p 0 0), (2, .p 1 0)], [GT.cells a pa, Zc TBare]⟩ .nil ?_; clear S; intro ac w β S
  refine RG.done rfl (nx_then (wp_seq (RG.start ?_)))
  refine S.q 1 [1, 2, 3] 3 ⟨[(1, .p 0 0), (2, .p 1 0), (3, .p 2 0)], [GT.cells a pa, Zc TBare, Zc TBare]⟩ .nil ?_; clear S; intro ac w β S
  refine RG.done rfl (nx_then (wp_seq (RG.start ?_)))
  refine S.q 2 [1, 2, 3, 5] 3 ⟨[(1, .p 0 0), (2, .p 1 0), (3, .p 2 0), (5, .v (slv (a.mem).length pa.mem.1))], [GT.cells a pa, Zc TBare, Zc TBare]⟩ .nil ?_; clear S; intro ac w β S
  refine RG.op rfl (S.call1 (r := a.mem) (d := 6) (c_laws_toIntSS w a.mem pa.mem (S.rd (RBare.mem (d := a) (S.arg ha)))) (by kernel_rfl) rfl ?_)
  clear S; intro ac w N q1 F2 S up o3 d4
  clear up d4
  refine S.q 2 [1, 2, 3] 3 ⟨[(1, .p 0 0), (2, .p 1 0), (3, .p 2 0)], [GT.cells a pa, Zc TBare, [slv (a.mem).length q1.1, slv (([] : List TGuest)).length (GT.pdflt (α := List TGuest)).1, slv (([] : List Int)).length (GT.pdflt (α := List Int)).1, I 0]]⟩ .nil ?_; clear S; intro ac w β S
  refine RG.done rfl (nx_then (wp_seq (RG.start ?_)))
  refine S.q 2 [1, 2, 3, 9] 3 ⟨[(1, .p 0 0), (2, .p 1 0), (3, .p 2 0), (9, .v (slv (a.guests).length pa.guests.1))], [GT.cells a pa, Zc TBare, [slv (a.mem).length q1.1, slv (([] : List TGuest)).length (GT.pdflt (α := List TGuest)).1, slv (([] : List Int)).length (GT.pdflt (α := List Int)).1, I 0]]⟩ .nil ?_; clear S; intro ac w β S
  refine RG.op rfl (S.call1 (r := a.guests) (d := 10) (c_laws_toGuestS w a.guests pa.guests (S.rd (RBare.guests (d := a) (S.arg ha)))) (by kernel_rfl) rfl ?_)
  clear S; intro ac w N q5 F6 S up o7 d8
  have d9 : Disj F2 F6 := fun b x y => d8 b (o3.sub b x) y
  replace o3 := o3.up up
  clear up d8
  refine S.q 2 [1, 2, 3] 3 ⟨[(1, .p 0 0), (2, .p 1 0), (3, .p 2 0)], [GT.cells a pa, Zc TBare, [slv (a.mem).length q1.1, slv (a.guests).length q5.1, slv (([] : List Int)).length (GT.pdflt (α := List Int)).1, I 0]]⟩ .nil ?_; clear S; intro ac w β S
  refine RG.done rfl (nx_then (wp_seq (RG.start ?_)))
  refine S.q 2 [1, 2, 3, 13] 3 ⟨[(1, .p 0 0), (2, .p 1 0), (3, .p 2 0), (13, .v (slv (a.outs).length pa.outs.1))], [GT.cells a pa, Zc TBare, [slv (a.mem).length q1.1, slv (a.guests).length q5.1, slv (([] : List Int)).length (GT.pdflt (α := List Int)).1, I 0]]⟩ .nil ?_; clear S; intro ac w β S
  refine RG.op rfl (S.call1 (r := a.outs) (d := 14) (c_laws_toIntS w a.outs pa.outs (S.rd (RBare.outs (d := a) (S.arg ha)))) (by kernel_rfl) rfl ?_)
  clear S; intro ac w N q10 F11 S up o12 d13
  have d14 : Disj F2 F11 := fun b x y => d13 b (o3.sub b x) y
  have d15 : Disj F6 F11 := fun b x y => d13 b (o7.sub b x) y
  replace o3 := o3.up up
  replace o7 := o7.up up
  clear up d13
  refine S.q 2 [1, 2, 3] 3 ⟨[(1, .p 0 0), (2, .p 1 0), (3, .p 2 0)], [GT.cells a pa, Zc TBare, [slv (a.mem).length q1.1, slv (a.guests).length q5.1, slv (a.outs).length q10.1, I 0]]⟩ .nil ?_; clear S; intro ac w β S
  refine RG.done rfl (nx_then (wp_seq (RG.start ?_)))
  refine S.q 4 [2, 3] 3 ⟨[(2, .p 1 0), (3, .p 2 0)], [GT.cells a pa, Zc TBare, [slv (a.mem).length q1.1, slv (a.guests).length q5.1, slv (a.outs).length q10.1, I a.pend]]⟩ .nil ?_; clear S; intro ac w β S
  refine RG.done rfl (nx_then (wp_seq (RG.start ?_)))
  refine S.q 2 [2] 2 ⟨[(2, .p 1 0)], [GT.cells a pa, [slv (a.mem).length q1.1, slv (a.guests).length q5.1, slv (a.outs).length q10.1, I a.pend]]⟩ .nil ?_; clear S; intro ac w β S
  refine RG.done rfl (nx_then (wp_ret ?_))
  refine S.r [GT.val (⟨a.mem, a.guests, a.outs, a.pend⟩ : TBare) (⟨q1, q5, q10⟩ : PBare)] ?_
  have o16 := ow_Bare (x := (⟨a.mem, a.guests, a.outs, a.pend⟩ : TBare)) (p := (⟨q1, q5, q10⟩ : PBare)) o3 o7 o12 d9 d14 d15 (RBare.pend (d := a) (S.arg ha))
  exact ret1_of S (show a = (⟨a.mem, a.guests, a.outs, a.pend⟩ : TBare) by clear S; first | rfl | simp) rfl o16

set_option maxRecDepth 100000 in
theorem c_spec_l04Copy (w0 : World) (l : List (List Int)) (pl : LP (List Int)) (hl : GT.rd KK (Lt w0.heap.size) w0 l pl) : Calls Try.prog 115 [slv (l).length pl.1].toArray w0 (Ret1 NoB w0 (l : List (List Int))) := by
  refine Calls.walk (args := [slv (l).length pl.1]) NoB Try.func115 rfl rfl ?_
  intro ac β S
  have hlel : l.length ≤ 4194304 := LRd.le hl
  refine wp_seq (RG.start ?_)
  refine S.q 1 [0] 0 ⟨[(0, .v (slv (l).length pl.1))], []⟩ .nil ?_; clear S; intro ac w β S
  refine RG.done rfl (nx_then (wp_seq (RG.start ?_)))
  refine RG.op rfl (S.bs0 (α := List Int) (d := 5) (by kernel_rfl) ?_)
  clear S; intro ac w N q1 F2 S up o3 d4
  clear up d4
  refine S.q 1 [0, 3] 0 ⟨[(0, .v (slv (l).length pl.1)), (3, .v (slv 0 q1.1))], []⟩ .nil ?_; clear S; intro ac w β S
  refine RG.done rfl (nx_then (wp_seq (wp_seq (RG.start ?_))))
  refine S.q 1 [0, 3, 4] 0 ⟨[(0, .v (slv (l).length pl.1)), (3, .v (slv 0 q1.1)), (4, .v (I 0))], []⟩ .nil ?_; clear S; intro ac w β S
  refine RG.done rfl (nx_then (wp_block ?_))
  replace S := S.p [0, 3, 4] 0 ⟨[(0, .v (slv (l).length pl.1)), (3, .v (slv 0 q1.1)), (4, .v (I 0))], []⟩
  refine wp_loop_down (fun mm ac w => ∃ (k : Nat) (acc : List (List Int)) (q5 : GT.Ptr (List (List Int))) (F6 : Bl) (u : World) (N : Bl) (β : Nat → Nat), mm = (l).length - k ∧ (k ≤ (l).length) ∧ (acc = (l).take k) ∧ St Try.prog Try.f115.ntmps w0 NoB u N β ⟨[(0, .v (slv (l).length pl.1)), (3, .v (slv (acc).length q5.1)), (4, .v (I (k : Int)))], []⟩ ac w ∧ Ow w0 NoB u N F6 acc q5) _ ⟨0, ([] : List (List Int)), q1, F2, _, _, _, rfl, (by first | omega | (simp; done) | (simp; omega)), (by simp), S.cast (by kernel_rfl), o3⟩ ?_
  clear S o3
  rintro mm ac w ⟨k, acc, q5, F6, u, N, β, rfl, hk, hacc, S, o7⟩
  have hlacc : acc.length = k := by rw [hacc]; simp; omega
  refine wp_seq (wp_seq (RG.start ?_))
  refine S.q 4 [0, 3, 4, 9] 0 ⟨[(0, .v (slv (l).length pl.1)), (3, .v (slv (acc).length q5.1)), (4, .v (I (k : Int))), (9, .v (B (decide ((k : Int) < ((l).length : Int)))))], []⟩ .nil ?_; clear S; intro ac w β S
  refine RG.done rfl (nx_then ?_)
  refine S.c (decide ((k : Int) < ((l).length : Int))) (fun h8 => ?_) (fun h8 => ?_)
  · have g9 : (k : Int) < ((l).length : Int) := of_decide_eq_true h8
    refine wp_skip (nx_then (wp_seq (wp_block (RG.start ?_))))
    refine S.q 1 [0, 4, 12] 0 ⟨[(0, .v (slv (l).length pl.1)), (4, .v (I (k : Int))), (12, .v (slv (acc).length q5.1))], []⟩ .nil ?_; clear S; intro ac w β S
    refine RG.op rfl (S.bs0 (α := Int) (d := 13) (by kernel_rfl) ?_)
    clear S; intro ac w N q10 F11 S up o12 d13
    have d14 : Disj F6 F11 := fun b x y => d13 b (o7.sub b x) y
    replace o7 := o7.up up
    clear up d13
    refine S.q 4 [0, 4, 12, 13, 17] 0 ⟨[(0, .v (slv (l).length pl.1)), (4, .v (I (k : Int))), (12, .v (slv (acc).length q5.1)), (13, .v (slv 0 q10.1)), (17, .v (slv ((el l k)).length (pl.2 k).1))], []⟩ (.cons (Q_idx (S.arg hl) (l := (l).length) (k := k) (i := (k : Int)) rfl rfl (by omega) Try.underlying31 (by kernel_rfl)) (.cons (Q_el1 (S.arg hl) (t := 24) (k := k) (by omega) rfl (by kernel_rfl)) .nil)) ?_; clear S; intro ac w β S
    have b19 : ((el l k)).length ≤ 4194304 := LRd.le (LRd.el (S.arg hl) k (by omega))
    refine RG.op rfl (S.appFlat (α := Int) o12 ((LRd.el (S.arg hl) k (by omega))) (fun _ _ h => h) (by' := 8) (d := 18) (lx := 0) (ly := ((el l k)).length) rfl rfl (by kernel_rfl) (show _ ≤ 4194304 by simp only [List.length_append, List.length_cons, List.length_nil]; omega) ?_)
    clear S; intro ac w N q15 F16 S up o17 d18
    have d20 : Disj F6 F16 := d18 _ d14 o7.sub
    replace o7 := o7.upF d14 up
    clear up d18
    refine RG.op rfl (S.bs1 (α := List Int) (x := (([] : List Int) ++ (el l k))) (p := q15) o17.own o17.sub o17.young (d := 19) (by kernel_rfl) ?_)
    clear S; intro ac w N q21 F22 S up o23 d24
    have d25 : Disj F6 F22 := d24 _ d20 o7.sub
    replace o7 := o7.up up
    clear up d24
    refine RG.op rfl (S.appOwn (α := List Int) o7 o23 d25 (by' := 24) (d := 20) (lx := (acc).length) (ly := 1) rfl rfl (by kernel_rfl) (show _ ≤ 4194304 by simp only [List.length_append, List.length_cons, List.length_nil]; omega) ?_)
    clear S; intro ac w N q26 F27 S up o28 d29
    clear up d29
    refine S.q 1 [0, 3, 4] 0 ⟨[(0, .v (slv (l).length pl.1)), (3, .v (slv ((acc ++ [(([] : List Int) ++ (el l k))])).length q26.1)), (4, .v (I (k : Int)))], []⟩ .nil ?_; clear S; intro ac w β S
    refine RG.done rfl (nx_block (nx_then (RG.start ?_)))
    refine S.q 3 [0, 3, 4] 0 ⟨[(0, .v (slv (l).length pl.1)), (3, .v (slv ((acc ++ [(([] : List Int) ++ (el l k))])).length q26.1)), (4, .v (I ((k : Int) + 1)))], []⟩ (.cons (Q_add (x := (k : Int)) (y := 1) ⟨by omega, by omega⟩) .nil) ?_; clear S; intro ac w β S
    refine RG.done rfl (nx_then ?_)
    replace S := S.p [0, 3, 4] 0 ⟨[(0, .v (slv (l).length pl.1)), (3, .v (slv ((acc ++ [(([] : List Int) ++ (el l k))])).length q26.1)), (4, .v (I ((k : Int) + 1)))], []⟩
    refine ⟨(l).length - (k + 1), by omega, k + 1, (acc ++ [(([] : List Int) ++ (el l k))]), q26, F27, _, _, _, rfl, ?_, ?_, S.cast (by kernel_rfl), o28⟩
    · clear S; first | omega | (simp [*]; done) | (simp [*]; omega)
    · clear S; (first | (rw [take_el (by omega), hacc]; done) | (rw [take_el (by omega), hacc]; simp; done))
  · have g30 : ¬ ((k : Int) < ((l).length : Int)) := of_decide_eq_false h8
    refine wp_exit (ex_then (ex_then (ex_hit (nx_then (wp_seq (RG.start ?_))))))
    refine S.q 2 [2] 0 ⟨[(2, .v (slv (acc).length q5.1))], []⟩ .nil ?_; clear S; intro ac w β S
    refine RG.done rfl (nx_then (wp_ret ?_))
    refine S.r [slv (acc).length q5.1] ?_
    exact ret1_of S (show l = acc by clear S; (rw [hacc, take_all (by omega)])) rfl o7

set_option maxRecDepth 100000 in
theorem c_spec_l15Copy (w0 : World) (g : TGuest) (pg : PGuest) (hg : GT.rd KK (Lt w0.heap.size) w0 g pg) : Calls Try.prog 144 [GT.val g pg].toArray w0 (Ret1 NoB w0 (g : TGuest)) := by
  refine Calls.walk (args := [GT.val g pg]) NoB Try.func144 rfl rfl ?_
  intro ac β S
  have hleg_prog : g.prog.length ≤ 4194304 := LRd.le (RGuest.prog (d := g) hg)
  have hleg_written : g.written.length ≤ 4194304 := LRd.le (RGuest.written (d := g) hg)
  have hleg_live : g.live.length ≤ 4194304 := LRd.le (RGuest.live (d := g) hg)
  have hleg_seen : g.seen.length ≤ 4194304 := LRd.le (RGuest.seen (d := g) hg)
  refine wp_seq (RG.start ?_)
  refine S.q 2 [1, 2] 2 ⟨[(1, .p 0 0), (2, .p 1 0)], [GT.cells g pg, Zc TGuest]⟩ .nil ?_; clear S; intro ac w β S
  refine RG.done rfl (nx_then (wp_seq (RG.start ?_)))
  refine RG.op rfl (S.bs0 (α := TIns) (d := 3) (by kernel_rfl) ?_)
  clear S; intro ac w N q1 F2 S up o3 d4
  clear up d4
  refine S.q 2 [1, 2, 3, 5] 2 ⟨[(1, .p 0 0), (2, .p 1 0), (3, .v (slv 0 q1.1)), (5, .v (slv (g.prog).length pg.prog.1))], [GT.cells g pg, Zc TGuest]⟩ .nil ?_; clear S; intro ac w β S
  have b9 : (g.prog).length ≤ 4194304 := LRd.le (RGuest.prog (d := g) (S.arg hg))
  refine RG.op rfl (S.appFlat (α := TIns) o3 ((RGuest.prog (d := g) (S.arg hg))) (fun _ _ h => h) (by' := 16) (d := 6) (lx := 0) (ly := (g.prog).length) rfl rfl (by kernel_rfl) (show _ ≤ 4194304 by simp only [List.length_append, List.length_cons, List.length_nil]; omega) ?_)
  clear S; intro ac w N q5 F6 S up o7 d8
  clear up d8
  refine S.q 2 [1, 2] 2 ⟨[(1, .p 0 0), (2, .p 1 0)], [[slv ((([] : List TIns) ++ g.prog)).length q5.1, I g.acc, I g.pc, slv (g.written).length pg.written.1, slv (g.live).length pg.live.1, I g.ctl.traps, I g.ctl.post, B g.ctl.opn, I g.pend, I g.exit.kind, I g.exit.page, B g.exit.wr, I g.exit.n, B g.halted, slv (g.seen).length pg.seen.1], Zc TGuest]⟩ .nil ?_; clear S; intro ac w β S
  refine RG.done rfl (nx_then (wp_seq (RG.start ?_)))
  refine RG.op rfl (S.bs0 (α := TSlot) (d := 8) (by kernel_rfl) ?_)
  clear S; intro ac w N q10 F11 S up o12 d13
  have d14 : Disj F6 F11 := fun b x y => d13 b (o7.sub b x) y
  replace o7 := o7.up up
  clear up d13
  refine S.q 2 [1, 2, 8, 10] 2 ⟨[(1, .p 0 0), (2, .p 1 0), (8, .v (slv 0 q10.1)), (10, .v (slv (g.written).length pg.written.1))], [[slv ((([] : List TIns) ++ g.prog)).length q5.1, I g.acc, I g.pc, slv (g.written).length pg.written.1, slv (g.live).length pg.live.1, I g.ctl.traps, I g.ctl.post, B g.ctl.opn, I g.pend, I g.exit.kind, I g.exit.page, B g.exit.wr, I g.exit.n, B g.halted, slv (g.seen).length pg.seen.1], Zc TGuest]⟩ .nil ?_; clear S; intro ac w β S
  have b19 : (g.written).length ≤ 4194304 := LRd.le (RGuest.written (d := g) (S.arg hg))
  refine RG.op rfl (S.appFlat (α := TSlot) o12 ((RGuest.written (d := g) (S.arg hg))) (fun _ _ h => h) (by' := 16) (d := 11) (lx := 0) (ly := (g.written).length) rfl rfl (by kernel_rfl) (show _ ≤ 4194304 by simp only [List.length_append, List.length_cons, List.length_nil]; omega) ?_)
  clear S; intro ac w N q15 F16 S up o17 d18
  have d20 : Disj F6 F16 := d18 _ d14 o7.sub
  replace o7 := o7.upF d14 up
  clear up d18
  refine S.q 2 [1, 2] 2 ⟨[(1, .p 0 0), (2, .p 1 0)], [[slv ((([] : List TIns) ++ g.prog)).length q5.1, I g.acc, I g.pc, slv ((([] : List TSlot) ++ g.written)).length q15.1, slv (g.live).length pg.live.1, I g.ctl.traps, I g.ctl.post, B g.ctl.opn, I g.pend, I g.exit.kind, I g.exit.page, B g.exit.wr, I g.exit.n, B g.halted, slv (g.seen).length pg.seen.1], Zc TGuest]⟩ .nil ?_; clear S; intro ac w β S
  refine RG.done rfl (nx_then (wp_seq (RG.start ?_)))
  refine RG.op rfl (S.bs0 (α := TSlot) (d := 13) (by kernel_rfl) ?_)
  clear S; intro ac w N q21 F22 S up o23 d24
  have d25 : Disj F6 F22 := fun b x y => d24 b (o7.sub b x) y
  have d26 : Disj F16 F22 := fun b x y => d24 b (o17.sub b x) y
  replace o7 := o7.up up
  replace o17 := o17.up up
  clear up d24
  refine S.q 2 [1, 2, 13, 15] 2 ⟨[(1, .p 0 0), (2, .p 1 0), (13, .v (slv 0 q21.1)), (15, .v (slv (g.live).length pg.live.1))], [[slv ((([] : List TIns) ++ g.prog)).length q5.1, I g.acc, I g.pc, slv ((([] : List TSlot) ++ g.written)).length q15.1, slv (g.live).length pg.live.1, I g.ctl.traps, I g.ctl.post, B g.ctl.opn, I g.pend, I g.exit.kind, I g.exit.page, B g.exit.wr, I g.exit.n, B g.halted, slv (g.seen).length pg.seen.1], Zc TGuest]⟩ .nil ?_; clear S; intro ac w β S
  have b31 : (g.live).length ≤ 4194304 := LRd.le (RGuest.live (d := g) (S.arg hg))
  refine RG.op rfl (S.appFlat (α := TSlot) o23 ((RGuest.live (d := g) (S.arg hg))) (fun _ _ h => h) (by' := 16) (d := 16) (lx := 0) (ly := (g.live).length) rfl rfl (by kernel_rfl) (show _ ≤ 4194304 by simp only [List.length_append, List.length_cons, List.length_nil]; omega) ?_)
  clear S; intro ac w N q27 F28 S up o29 d30
  have d32 : Disj F6 F28 := d30 _ d25 o7.sub
  have d33 : Disj F16 F28 := d30 _ d26 o17.sub
  replace o7 := o7.upF d25 up
  replace o17 := o17.upF d26 up
  clear up d30
  refine S.q 2 [1, 2] 2 ⟨[(1, .p 0 0), (2, .p 1 0)], [[slv ((([] : List TIns) ++ g.prog)).length q5.1, I g.acc, I g.pc, slv ((([] : List TSlot) ++ g.written)).length q15.1, slv ((([] : List TSlot) ++ g.live)).length q27.1, I g.ctl.traps, I g.ctl.post, B g.ctl.opn, I g.pend, I g.exit.kind, I g.exit.page, B g.exit.wr, I g.exit.n, B g.halted, slv (g.seen).length pg.seen.1], Zc TGuest]⟩ .nil ?_; clear S; intro ac w β S
  refine RG.done rfl (nx_then (wp_seq (RG.start ?_)))
  refine RG.op rfl (S.bs0 (α := Int) (d := 18) (by kernel_rfl) ?_)
  clear S; intro ac w N q34 F35 S up o36 d37
  have d38 : Disj F6 F35 := fun b x y => d37 b (o7.sub b x) y
  have d39 : Disj F16 F35 := fun b x y => d37 b (o17.sub b x) y
  have d40 : Disj F28 F35 := fun b x y => d37 b (o29.sub b x) y
  replace o7 := o7.up up
  replace o17 := o17.up up
  replace o29 := o29.up up
  clear up d37
  refine S.q 2 [1, 2, 18, 20] 2 ⟨[(1, .p 0 0), (2, .p 1 0), (18, .v (slv 0 q34.1)), (20, .v (slv (g.seen).length pg.seen.1))], [[slv ((([] : List TIns) ++ g.prog)).length q5.1, I g.acc, I g.pc, slv ((([] : List TSlot) ++ g.written)).length q15.1, slv ((([] : List TSlot) ++ g.live)).length q27.1, I g.ctl.traps, I g.ctl.post, B g.ctl.opn, I g.pend, I g.exit.kind, I g.exit.page, B g.exit.wr, I g.exit.n, B g.halted, slv (g.seen).length pg.seen.1], Zc TGuest]⟩ .nil ?_; clear S; intro ac w β S
  have b45 : (g.seen).length ≤ 4194304 := LRd.le (RGuest.seen (d := g) (S.arg hg))
  refine RG.op rfl (S.appFlat (α := Int) o36 ((RGuest.seen (d := g) (S.arg hg))) (fun _ _ h => h) (by' := 8) (d := 21) (lx := 0) (ly := (g.seen).length) rfl rfl (by kernel_rfl) (show _ ≤ 4194304 by simp only [List.length_append, List.length_cons, List.length_nil]; omega) ?_)
  clear S; intro ac w N q41 F42 S up o43 d44
  have d46 : Disj F6 F42 := d44 _ d38 o7.sub
  have d47 : Disj F16 F42 := d44 _ d39 o17.sub
  have d48 : Disj F28 F42 := d44 _ d40 o29.sub
  replace o7 := o7.upF d38 up
  replace o17 := o17.upF d39 up
  replace o29 := o29.upF d40 up
  clear up d44
  refine S.q 2 [1, 2] 2 ⟨[(1, .p 0 0), (2, .p 1 0)], [[slv ((([] : List TIns) ++ g.prog)).length q5.1, I g.acc, I g.pc, slv ((([] : List TSlot) ++ g.written)).length q15.1, slv ((([] : List TSlot) ++ g.live)).length q27.1, I g.ctl.traps, I g.ctl.post, B g.ctl.opn, I g.pend, I g.exit.kind, I g.exit.page, B g.exit.wr, I g.exit.n, B g.halted, slv ((([] : List Int) ++ g.seen)).length q41.1], Zc TGuest]⟩ .nil ?_; clear S; intro ac w β S
  refine RG.done rfl (nx_then (wp_seq (RG.start ?_)))
  refine S.q 2 [2] 2 ⟨[(2, .p 1 0)], [[slv ((([] : List TIns) ++ g.prog)).length q5.1, I g.acc, I g.pc, slv ((([] : List TSlot) ++ g.written)).length q15.1, slv ((([] : List TSlot) ++ g.live)).length q27.1, I g.ctl.traps, I g.ctl.post, B g.ctl.opn, I g.pend, I g.exit.kind, I g.exit.page, B g.exit.wr, I g.exit.n, B g.halted, slv ((([] : List Int) ++ g.seen)).length q41.1], [slv ((([] : List TIns) ++ g.prog)).length q5.1, I g.acc, I g.pc, slv ((([] : List TSlot) ++ g.written)).length q15.1, slv ((([] : List TSlot) ++ g.live)).length q27.1, I g.ctl.traps, I g.ctl.post, B g.ctl.opn, I g.pend, I g.exit.kind, I g.exit.page, B g.exit.wr, I g.exit.n, B g.halted, slv ((([] : List Int) ++ g.seen)).length q41.1]]⟩ .nil ?_; clear S; intro ac w β S
  refine RG.done rfl (nx_then (wp_ret ?_))
  refine S.r [GT.val (⟨(([] : List TIns) ++ g.prog), g.acc, g.pc, (([] : List TSlot) ++ g.written), (([] : List TSlot) ++ g.live), g.ctl, g.pend, g.exit, g.halted, (([] : List Int) ++ g.seen)⟩ : TGuest) (⟨q5, q15, q27, q41⟩ : PGuest)] ?_
  have o49 := ow_Guest (x := (⟨(([] : List TIns) ++ g.prog), g.acc, g.pc, (([] : List TSlot) ++ g.written), (([] : List TSlot) ++ g.live), g.ctl, g.pend, g.exit, g.halted, (([] : List Int) ++ g.seen)⟩ : TGuest)) (p := (⟨q5, q15, q27, q41⟩ : PGuest)) o7 o17 o29 o43 d20 d32 d46 d33 d47 d48 (RGuest.acc (d := g) (S.arg hg)) (RGuest.pc (d := g) (S.arg hg)) (RGuest.ctl (d := g) (S.arg hg)) (RGuest.pend (d := g) (S.arg hg)) (RGuest.exit (d := g) (S.arg hg))
  exact ret1_of S (show g = (⟨(([] : List TIns) ++ g.prog), g.acc, g.pc, (([] : List TSlot) ++ g.written), (([] : List TSlot) ++ g.live), g.ctl, g.pend, g.exit, g.halted, (([] : List Int) ++ g.seen)⟩ : TGuest) by clear S; (first | rfl | simp)) rfl o49

set_option maxRecDepth 100000 in
theorem c_spec_l17Guests (w0 : World) (l : List TGuest) (pl : LP TGuest) (hl : GT.rd KK (Lt w0.heap.size) w0 l pl) : Calls Try.prog 116 [slv (l).length pl.1].toArray w0 (Ret1 NoB w0 (l : List TGuest)) := by
  refine Calls.walk (args := [slv (l).length pl.1]) NoB Try.func116 rfl rfl ?_
  intro ac β S
  have hlel : l.length ≤ 4194304 := LRd.le hl
  refine wp_seq (RG.start ?_)
  refine S.q 1 [0] 0 ⟨[(0, .v (slv (l).length pl.1))], []⟩ .nil ?_; clear S; intro ac w β S
  refine RG.done rfl (nx_then (wp_seq (RG.start ?_)))
  refine RG.op rfl (S.bs0 (α := TGuest) (d := 5) (by kernel_rfl) ?_)
  clear S; intro ac w N q1 F2 S up o3 d4
  clear up d4
  refine S.q 1 [0, 3] 0 ⟨[(0, .v (slv (l).length pl.1)), (3, .v (slv 0 q1.1))], []⟩ .nil ?_; clear S; intro ac w β S
  refine RG.done rfl (nx_then (wp_seq (wp_seq (RG.start ?_))))
  refine S.q 1 [0, 3, 4] 0 ⟨[(0, .v (slv (l).length pl.1)), (3, .v (slv 0 q1.1)), (4, .v (I 0))], []⟩ .nil ?_; clear S; intro ac w β S
  refine RG.done rfl (nx_then (wp_block ?_))
  replace S := S.p [0, 3, 4] 0 ⟨[(0, .v (slv (l).length pl.1)), (3, .v (slv 0 q1.1)), (4, .v (I 0))], []⟩
  refine wp_loop_down (fun mm ac w => ∃ (k : Nat) (acc : List TGuest) (q5 : GT.Ptr (List TGuest)) (F6 : Bl) (u : World) (N : Bl) (β : Nat → Nat), mm = (l).length - k ∧ (k ≤ (l).length) ∧ (acc = (l).take k) ∧ St Try.prog Try.f116.ntmps w0 NoB u N β ⟨[(0, .v (slv (l).length pl.1)), (3, .v (slv (acc).length q5.1)), (4, .v (I (k : Int)))], []⟩ ac w ∧ Ow w0 NoB u N F6 acc q5) _ ⟨0, ([] : List TGuest), q1, F2, _, _, _, rfl, (by first | omega | (simp; done) | (simp; omega)), (by simp), S.cast (by kernel_rfl), o3⟩ ?_
  clear S o3
  rintro mm ac w ⟨k, acc, q5, F6, u, N, β, rfl, hk, hacc, S, o7⟩
  have hlacc : acc.length = k := by rw [hacc]; simp; omega
  refine wp_seq (wp_seq (RG.start ?_))
  refine S.q 4 [0, 3, 4, 9] 0 ⟨[(0, .v (slv (l).length pl.1)), (3, .v (slv (acc).length q5.1)), (4, .v (I (k : Int))), (9, .v (B (decide ((k : Int) < ((l).length : Int)))))], []⟩ .nil ?_; clear S; intro ac w β S
  refine RG.done rfl (nx_then ?_)
  refine S.c (decide ((k : Int) < ((l).length : Int))) (fun h8 => ?_) (fun h8 => ?_)
  · have g9 : (k : Int) < ((l).length : Int) := of_decide_eq_true h8
    refine wp_skip (nx_then (wp_seq (wp_block (RG.start ?_))))
    refine S.q 5 [0, 4, 12, 16] 0 ⟨[(0, .v (slv (l).length pl.1)), (4, .v (I (k : Int))), (12, .v (slv (acc).length q5.1)), (16, .v (GT.val (el l k) (pl.2 k)))], []⟩ (.cons (Q_idx (S.arg hl) (l := (l).length) (k := k) (i := (k : Int)) rfl rfl (by omega) Try.underlying39 (by kernel_rfl)) (.cons (Q_el (S.arg hl) (t := 117) (k := k) (by omega) rfl (by kernel_rfl) (by kernel_rfl)) .nil)) ?_; clear S; intro ac w β S
    refine RG.op rfl (S.call1 (r := (el l k)) (d := 17) (c_spec_l15Copy w (el l k) (pl.2 k) (S.rd (LRd.el (S.arg hl) k (by omega)))) (by kernel_rfl) rfl ?_)
    clear S; intro ac w N q10 F11 S up o12 d13
    have d14 : Disj F6 F11 := fun b x y => d13 b (o7.sub b x) y
    replace o7 := o7.up up
    clear up d13
    have i18 : In64 (el l k).acc := RGuest.acc (d := (el l k)) o12.rn
    have i19 : In64 (el l k).pc := RGuest.pc (d := (el l k)) o12.rn
    have i26 : RCtl (el l k).ctl := RGuest.ctl (d := (el l k)) o12.rn
    have i27 : In64 (el l k).pend := RGuest.pend (d := (el l k)) o12.rn
    have i28 : RExit (el l k).exit := RGuest.exit (d := (el l k)) o12.rn
    obtain ⟨F15, F20, F23, F29, o16, o21, o24, o30, s17, s22, s25, s31, d32, d33, d34, d35, d36, d37⟩ := sp_Guest o12
    have o42 := ow_Guest (x := (el l k)) (p := q10) o16 o21 o24 o30 d32 d33 d34 d35 d36 d37 i18 i19 i26 i27 i28
    refine RG.op rfl (S.bs1 (α := TGuest) (x := (el l k)) (p := q10) o42.own o42.sub o42.young (d := 18) (by kernel_rfl) ?_)
    clear S; intro ac w N q38 F39 S up o40 d41
    have d43 : Disj F6 F39 := d41 _ (Disj.symm (Disj.or (Disj.part (Disj.symm d14) s17) (Disj.or (Disj.part (Disj.symm d14) s22) (Disj.or (Disj.part (Disj.symm d14) s25) (Disj.or (Disj.part (Disj.symm d14) s31) Disj.nob))))) o7.sub
    replace o7 := o7.up up
    clear up d41
    refine RG.op rfl (S.appOwn (α := TGuest) o7 o40 d43 (by' := 184) (d := 19) (lx := (acc).length) (ly := 1) rfl rfl (by kernel_rfl) (show _ ≤ 4194304 by simp only [List.length_append, List.length_cons, List.length_nil]; omega) ?_)
    clear S; intro ac w N q44 F45 S up o46 d47
    clear up d47
    refine S.q 1 [0, 3, 4] 0 ⟨[(0, .v (slv (l).length pl.1)), (3, .v (slv ((acc ++ [(el l k)])).length q44.1)), (4, .v (I (k : Int)))], []⟩ .nil ?_; clear S; intro ac w β S
    refine RG.done rfl (nx_block (nx_then (RG.start ?_)))
    refine S.q 3 [0, 3, 4] 0 ⟨[(0, .v (slv (l).length pl.1)), (3, .v (slv ((acc ++ [(el l k)])).length q44.1)), (4, .v (I ((k : Int) + 1)))], []⟩ (.cons (Q_add (x := (k : Int)) (y := 1) ⟨by omega, by omega⟩) .nil) ?_; clear S; intro ac w β S
    refine RG.done rfl (nx_then ?_)
    replace S := S.p [0, 3, 4] 0 ⟨[(0, .v (slv (l).length pl.1)), (3, .v (slv ((acc ++ [(el l k)])).length q44.1)), (4, .v (I ((k : Int) + 1)))], []⟩
    refine ⟨(l).length - (k + 1), by omega, k + 1, (acc ++ [(el l k)]), q44, F45, _, _, _, rfl, ?_, ?_, S.cast (by kernel_rfl), o46⟩
    · clear S; first | omega | (simp [*]; done) | (simp [*]; omega)
    · clear S; (first | (rw [take_el (by omega), hacc]; done) | (rw [take_el (by omega), hacc]; simp; done))
  · have g48 : ¬ ((k : Int) < ((l).length : Int)) := of_decide_eq_false h8
    refine wp_exit (ex_then (ex_then (ex_hit (nx_then (wp_seq (RG.start ?_))))))
    refine S.q 2 [2] 0 ⟨[(2, .v (slv (acc).length q5.1))], []⟩ .nil ?_; clear S; intro ac w β S
    refine RG.done rfl (nx_then (wp_ret ?_))
    refine S.r [slv (acc).length q5.1] ?_
    exact ret1_of S (show l = acc by clear S; (rw [hacc, take_all (by omega)])) rfl o7

set_option maxRecDepth 100000 in
theorem c_spec_l17Copy (w0 : World) (b : TBare) (pb : PBare) (hb : GT.rd KK (Lt w0.heap.size) w0 b pb) : Calls Try.prog 75 [GT.val b pb].toArray w0 (Ret1 NoB w0 (b : TBare)) := by
  refine Calls.walk (args := [GT.val b pb]) NoB Try.func75 rfl rfl ?_
  intro ac β S
  have hleb_mem : b.mem.length ≤ 4194304 := LRd.le (RBare.mem (d := b) hb)
  have hleb_guests : b.guests.length ≤ 4194304 := LRd.le (RBare.guests (d := b) hb)
  have hleb_outs : b.outs.length ≤ 4194304 := LRd.le (RBare.outs (d := b) hb)
  refine wp_seq (RG.start ?_)
  refine S.q 2 [1, 2] 2 ⟨[(1, .p 0 0), (2, .p 1 0)], [GT.cells b pb, Zc TBare]⟩ .nil ?_; clear S; intro ac w β S
  refine RG.done rfl (nx_then (wp_seq ?_))
  replace S := S.p [1, 2] 2 ⟨[(1, .p 0 0), (2, .p 1 0)], [GT.cells b pb, Zc TBare]⟩
  obtain ⟨u0, N0, β0, S⟩ : ∃ (u0 : World) (N0 : Bl) (β0 : Nat → Nat), St Try.prog Try.f75.ntmps w0 NoB u0 N0 β0 ⟨[(1, .p 0 0), (2, .p 1 0)], [GT.cells b pb, Zc TBare]⟩ ac w := ⟨_, _, _, S.cast (by kernel_rfl)⟩
  refine wp_region_cut (fun ac w => ∃ (q63 : GT.Ptr (List TGuest)) (F64 : Bl) (q60 : GT.Ptr (List (List Int))) (F61 : Bl) (q66 : GT.Ptr (List Int)) (F67 : Bl) (u : World) (N : Bl) (β : Nat → Nat), St Try.prog Try.f75.ntmps w0 NoB u N β ⟨[(2, .p 1 0)], [GT.cells b pb, [slv (b.mem).length q60.1, slv (b.guests).length q63.1, slv ((([] : List Int) ++ b.outs)).length q66.1, I b.pend]]⟩ ac w ∧ Ow w0 NoB u N F64 b.guests q63 ∧ Ow w0 NoB u N F61 b.mem q60 ∧ Ow w0 NoB u N F67 (([] : List Int) ++ b.outs) q66 ∧ Disj F64 F61 ∧ Disj F64 F67 ∧ Disj F61 F67) ?_ ?_
  · refine S.draw0 (f := 14) 13 rfl rfl ?_
    clear S; intro w S
    refine S.hoist (i := 0) (path := [0]) (keep := [1, 2, 3]) (m := 2) (σ' := ⟨[(1, .p 0 0), (2, .p 1 0), (3, .p 0 0)], [GT.cells b pb, Zc TBare]⟩) (by kernel_rfl) (by kernel_rfl) .nil (by kernel_rfl) ?_
    clear S; intro ac S
    refine S.hoist (i := 1) (path := [1]) (keep := [1, 2, 4]) (m := 2) (σ' := ⟨[(1, .p 0 0), (2, .p 1 0), (4, .v (slv (b.mem).length pb.mem.1))], [GT.cells b pb, Zc TBare]⟩) (by kernel_rfl) (by kernel_rfl) .nil (by kernel_rfl) ?_
    clear S; intro ac S
    refine S.hoist (i := 3) (path := [3]) (keep := [1, 2, 4, 6]) (m := 2) (σ' := ⟨[(1, .p 0 0), (2, .p 1 0), (4, .v (slv (b.mem).length pb.mem.1)), (6, .p 0 1)], [GT.cells b pb, Zc TBare]⟩) (by kernel_rfl) (by kernel_rfl) .nil (by kernel_rfl) ?_
    clear S; intro ac S
    refine S.hoist (i := 4) (path := [4]) (keep := [1, 2, 4, 7]) (m := 2) (σ' := ⟨[(1, .p 0 0), (2, .p 1 0), (4, .v (slv (b.mem).length pb.mem.1)), (7, .v (slv (b.guests).length pb.guests.1))], [GT.cells b pb, Zc TBare]⟩) (by kernel_rfl) (by kernel_rfl) .nil (by kernel_rfl) ?_
    clear S; intro ac S
    refine S.hoist (i := 7) (path := [7]) (keep := [1, 2, 4, 7, 10]) (m := 2) (σ' := ⟨[(1, .p 0 0), (2, .p 1 0), (4, .v (slv (b.mem).length pb.mem.1)), (7, .v (slv (b.guests).length pb.guests.1)), (10, .p 0 2)], [GT.cells b pb, Zc TBare]⟩) (by kernel_rfl) (by kernel_rfl) .nil (by kernel_rfl) ?_
    clear S; intro ac S
    refine S.hoist (i := 8) (path := [8]) (keep := [1, 2, 4, 7, 11]) (m := 2) (σ' := ⟨[(1, .p 0 0), (2, .p 1 0), (4, .v (slv (b.mem).length pb.mem.1)), (7, .v (slv (b.guests).length pb.guests.1)), (11, .v (slv (b.outs).length pb.outs.1))], [GT.cells b pb, Zc TBare]⟩) (by kernel_rfl) (by kernel_rfl) .nil (by kernel_rfl) ?_
    clear S; intro ac S
    refine S.hoist (i := 10) (path := [10]) (keep := [2, 4, 7, 11, 13]) (m := 2) (σ' := ⟨[(2, .p 1 0), (4, .v (slv (b.mem).length pb.mem.1)), (7, .v (slv (b.guests).length pb.guests.1)), (11, .v (slv (b.outs).length pb.outs.1)), (13, .p 0 3)], [GT.cells b pb, Zc TBare]⟩) (by kernel_rfl) (by kernel_rfl) .nil (by kernel_rfl) ?_
    clear S; intro ac S
    refine S.hoist (i := 11) (path := [11]) (keep := [2, 4, 7, 11, 14]) (m := 2) (σ' := ⟨[(2, .p 1 0), (4, .v (slv (b.mem).length pb.mem.1)), (7, .v (slv (b.guests).length pb.guests.1)), (11, .v (slv (b.outs).length pb.outs.1)), (14, .v (I b.pend))], [GT.cells b pb, Zc TBare]⟩) (by kernel_rfl) (by kernel_rfl) .nil (by kernel_rfl) ?_
    clear S; intro ac S
    refine WD.nameW fun W hW => ?_
    refine WD.castW (l' := mkL 14 [0, 1, 3, 4, 7, 8, 10, 11]) (by kernel_rfl) ?_
    have hK68 : ∀ (ac : Act) (w : World) (q63 : GT.Ptr (List TGuest)) (F64 : Bl) (q60 : GT.Ptr (List (List Int))) (F61 : Bl) (q66 : GT.Ptr (List Int)) (F67 : Bl) (u : World) (N : Bl) (β : Nat → Nat) (S : St Try.prog Try.f75.ntmps w0 NoB u N β ⟨[(2, .p 1 0)], [GT.cells b pb, [slv (b.mem).length q60.1, slv (b.guests).length q63.1, slv ((([] : List Int) ++ b.outs)).length q66.1, I b.pend]]⟩ ac w) (o62 : Ow w0 NoB u N F64 b.guests q63) (o59 : Ow w0 NoB u N F61 b.mem q60) (o65 : Ow w0 NoB u N F67 (([] : List Int) ++ b.outs) q66) (d69 : Disj F64 F61) (d70 : Disj F64 F67) (d71 : Disj F61 F67) (hNN : True) (hBB : True), W 0 (mkL 14 [0, 1, 2, 3, 4, 5, 6, 7, 8, 9, 10, 11, 12, 13]) ac w := by
      intro ac w q63 F64 q60 F61 q66 F67 u N β S o62 o59 o65 d69 d70 d71 hNN hBB
      rw [hW]
      refine WD.done (by kernel_rfl) ?_ _
      replace S := S.p [2] 2 ⟨[(2, .p 1 0)], [GT.cells b pb, [slv (b.mem).length q60.1, slv (b.guests).length q63.1, slv ((([] : List Int) ++ b.outs)).length q66.1, I b.pend]]⟩
      exact ⟨rfl, q63, F64, q60, F61, q66, F67, _, _, _, S.cast (by kernel_rfl), o62, o59, o65, d69, d70, d71⟩
    have hK72 : ∀ (ac : Act) (w : World) (q54 : GT.Ptr (List TGuest)) (F55 : Bl) (q51 : GT.Ptr (List (List Int))) (F52 : Bl) (q57 : GT.Ptr (List Int)) (F58 : Bl) (u : World) (N : Bl) (β : Nat → Nat) (S : St Try.prog Try.f75.ntmps w0 NoB u N β ⟨[(2, .p 1 0), (15, .v (GT.val (⟨b.mem, b.guests, (([] : List Int) ++ b.outs), b.pend⟩ : TBare) (⟨q51, q54, q57⟩ : PBare)))], [GT.cells b pb, Zc TBare]⟩ ac w) (o53 : Ow w0 NoB u N F55 b.guests q54) (o50 : Ow w0 NoB u N F52 b.mem q51) (o56 : Ow w0 NoB u N F58 (([] : List Int) ++ b.outs) q57) (d73 : Disj F55 F52) (d74 : Disj F55 F58) (d75 : Disj F52 F58) (hNN : ∀ b, N0 b → N b ∧ u.heap[b]? = u0.heap[b]?) (hBB : ∀ k, k < 2 → β k = β0 k), W 1 (mkL 14 [0, 1, 2, 3, 4, 5, 6, 7, 8, 9, 10, 11, 12]) ac w := by
      intro ac w q54 F55 q51 F52 q57 F58 u N β S o53 o50 o56 d73 d74 d75 hNN hBB
      rw [hW]
      refine WD.one (i := 13) (by kernel_rfl) ?_
      refine S.stepq (i := 13) (keep := [2]) (m := 2) (σ' := ⟨[(2, .p 1 0)], [GT.cells b pb, [slv (b.mem).length q51.1, slv (b.guests).length q54.1, slv ((([] : List Int) ++ b.outs)).length q57.1, I b.pend]]⟩) .nil (by kernel_rfl) ?_
      clear S; intro ac w β S hβ
      refine WD.last (by kernel_rfl) ?_
      clear hβ
      exact WD.ofW hW (by kernel_rfl) (hK68 ac w q54 F55 q51 F52 q57 F58 _ _ _ (S.prune (keep := [2]) (m := 2) (by kernel_rfl)) o53 o50 o56 d73 d74 d75 trivial trivial)
    have hK76 : ∀ (ac : Act) (w : World) (q48 : GT.Ptr (List Int)) (F49 : Bl) (q7 : GT.Ptr (List (List Int))) (F8 : Bl) (q24 : GT.Ptr (List TGuest)) (F25 : Bl) (u : World) (N : Bl) (β : Nat → Nat) (S : St Try.prog Try.f75.ntmps w0 NoB u N β ⟨[(2, .p 1 0), (5, .v (slv (b.mem).length q7.1)), (8, .v (slv (b.guests).length q24.1)), (12, .v (slv ((([] : List Int) ++ b.outs)).length q48.1)), (14, .v (I b.pend))], [GT.cells b pb, Zc TBare]⟩ ac w) (o47 : Ow w0 NoB u N F49 (([] : List Int) ++ b.outs) q48) (o6 : Ow w0 NoB u N F8 b.mem q7) (o23 : Ow w0 NoB u N F25 b.guests q24) (d77 : Disj F49 F8) (d78 : Disj F49 F25) (d79 : Disj F8 F25) (hNN : ∀ b, N0 b → N b ∧ u.heap[b]? = u0.heap[b]?) (hBB : ∀ k, k < 2 → β k = β0 k), W 2 (mkL 14 [0, 1, 2, 3, 4, 5, 6, 7, 8, 9, 10, 11]) ac w := by
      intro ac w q48 F49 q7 F8 q24 F25 u N β S o47 o6 o23 d77 d78 d79 hNN hBB
      rw [hW]
      refine WD.one (i := 12) (by kernel_rfl) ?_
      refine S.stepq (i := 12) (keep := [2, 15]) (m := 2) (σ' := ⟨[(2, .p 1 0), (15, .v (GT.val (⟨b.mem, b.guests, (([] : List Int) ++ b.outs), b.pend⟩ : TBare) (⟨q7, q24, q48⟩ : PBare)))], [GT.cells b pb, Zc TBare]⟩) (.cons (Q_sem (s := Instr.build 73 [(0, slv (b.mem).length q7.1), (1, slv (b.guests).length q24.1), (2, slv ((([] : List Int) ++ b.outs)).length q48.1), (3, I b.pend)].toArray) (v := .agg [slv (b.mem).length q7.1, slv (b.guests).length q24.1, slv ((([] : List Int) ++ b.outs)).length q48.1, I b.pend].toArray) (fun w => by kernel_rfl)) .nil) (by kernel_rfl) ?_
      clear S; intro ac w β S hβ
      have hB2 := fun k (hk : k < 2) => (hβ k (Nat.lt_of_lt_of_le hk (Nat.le_of_ble_eq_true rfl))).trans (hBB k hk)
      refine WD.stayK S (fun b h => ⟨(hNN b h).1, (hNN b h).2⟩) hB2 (fun _ _ h => h) ?_
      clear hβ
      exact WD.ofW hW (by kernel_rfl) (hK72 ac w q24 F25 q7 F8 q48 F49 _ _ _ (S.prune (keep := [2, 15]) (m := 2) (by kernel_rfl)) o23 o6 o47 (Disj.symm d79) (Disj.symm d78) (Disj.symm d77) hNN hB2)
    have hK80 : ∀ (ac : Act) (w : World) (q7 : GT.Ptr (List (List Int))) (F8 : Bl) (q24 : GT.Ptr (List TGuest)) (F25 : Bl) (q15 : GT.Ptr (List Int)) (F16 : Bl) (u : World) (N : Bl) (β : Nat → Nat) (S : St Try.prog Try.f75.ntmps w0 NoB u N β ⟨[(2, .p 1 0), (5, .v (slv (b.mem).length q7.1)), (8, .v (slv (b.guests).length q24.1)), (9, .v (slv 0 q15.1)), (11, .v (slv (b.outs).length pb.outs.1)), (14, .v (I b.pend))], [GT.cells b pb, Zc TBare]⟩ ac w) (o6 : Ow w0 NoB u N F8 b.mem q7) (o23 : Ow w0 NoB u N F25 b.guests q24) (o14 : Ow w0 NoB u N F16 ([] : List Int) q15) (d81 : Disj F8 F25) (d82 : Disj F8 F16) (d83 : Disj F25 F16) (hNN : ∀ b, N0 b → N b ∧ u.heap[b]? = u0.heap[b]? ∧ ¬ F16 b) (hBB : ∀ k, k < 2 → β k = β0 k), W 3 (mkL 14 [0, 1, 2, 3, 4, 5, 6, 7, 8, 10, 11]) ac w := by
      intro ac w q7 F8 q24 F25 q15 F16 u N β S o6 o23 o14 d81 d82 d83 hNN hBB
      rw [hW]
      refine WD.one (i := 9) (by kernel_rfl) ?_
      have b88 : (b.outs).length ≤ 4194304 := LRd.le (RBare.outs (d := b) (S.arg hb))
      refine id (S.appFlat (α := Int) o14 ((RBare.outs (d := b) (S.arg hb))) (fun _ _ h => h) (by' := 8) (d := 12) (lx := 0) (ly := (b.outs).length) rfl rfl (by kernel_rfl) (show _ ≤ 4194304 by simp only [List.length_append, List.length_cons, List.length_nil]; omega) ?_)
      clear S; intro ac w N q84 F85 S up o86 d87
      have hb89 := fun b h => (⟨(up b (hNN b h).1 (hNN b h).2.2).1, (up b (hNN b h).1 (hNN b h).2.2).2.trans (hNN b h).2.1⟩ : _ ∧ _)
      refine WD.stayK S (fun b h => ⟨(hb89 b h).1, (hb89 b h).2⟩) hBB (fun _ _ h => h) ?_
      have d90 : Disj F8 F85 := d87 _ d82 o6.sub
      have d91 : Disj F25 F85 := d87 _ d83 o23.sub
      replace o6 := o6.upF d82 up
      replace o23 := o23.upF d83 up
      clear up d87
      exact WD.ofW hW (by kernel_rfl) (hK76 ac w q84 F85 q7 F8 q24 F25 _ _ _ (S.prune (keep := [2, 5, 8, 12, 14]) (m := 2) (by kernel_rfl)) o86 o6 o23 (Disj.symm d90) (Disj.symm d91) d81 hb89 hBB)
    have hK92 : ∀ (ac : Act) (w : World) (q7 : GT.Ptr (List (List Int))) (F8 : Bl) (q24 : GT.Ptr (List TGuest)) (F25 : Bl) (u : World) (N : Bl) (β : Nat → Nat) (S : St Try.prog Try.f75.ntmps w0 NoB u N β ⟨[(2, .p 1 0), (5, .v (slv (b.mem).length q7.1)), (8, .v (slv (b.guests).length q24.1)), (11, .v (slv (b.outs).length pb.outs.1)), (14, .v (I b.pend))], [GT.cells b pb, Zc TBare]⟩ ac w) (o6 : Ow w0 NoB u N F8 b.mem q7) (o23 : Ow w0 NoB u N F25 b.guests q24) (d93 : Disj F8 F25) (hNN : ∀ b, N0 b → N b ∧ u.heap[b]? = u0.heap[b]?) (hBB : ∀ k, k < 2 → β k = β0 k), W 4 (mkL 14 [0, 1, 2, 3, 4, 5, 7, 8, 10, 11]) ac w := by
      intro ac w q7 F8 q24 F25 u N β S o6 o23 d93 hNN hBB
      rw [hW]
      refine WD.one (i := 6) (by kernel_rfl) ?_
      refine id (S.bs0 (α := Int) (d := 9) (by kernel_rfl) ?_)
      clear S; intro ac w N q94 F95 S up o96 d97
      have hb98 := fun b h => (⟨(up b (hNN b h).1).1, (up b (hNN b h).1).2.trans (hNN b h).2, d97 b (hNN b h).1⟩ : _ ∧ _ ∧ _)
      refine WD.stayK S (fun b h => ⟨(hb98 b h).1, (hb98 b h).2.1⟩) hBB (fun _ _ h => h) ?_
      have d99 : Disj F8 F95 := fun b x y => d97 b (o6.sub b x) y
      have d100 : Disj F25 F95 := fun b x y => d97 b (o23.sub b x) y
      replace o6 := o6.up up
      replace o23 := o23.up up
      clear up d97
      exact WD.ofW hW (by kernel_rfl) (hK80 ac w q7 F8 q24 F25 q94 F95 _ _ _ (S.prune (keep := [2, 5, 8, 9, 11, 14]) (m := 2) (by kernel_rfl)) o6 o23 o96 d93 d99 d100 hb98 hBB)
    have hK101 : ∀ (ac : Act) (w : World) (q7 : GT.Ptr (List (List Int))) (F8 : Bl) (q15 : GT.Ptr (List Int)) (F16 : Bl) (u : World) (N : Bl) (β : Nat → Nat) (S : St Try.prog Try.f75.ntmps w0 NoB u N β ⟨[(2, .p 1 0), (5, .v (slv (b.mem).length q7.1)), (7, .v (slv (b.guests).length pb.guests.1)), (9, .v (slv 0 q15.1)), (11, .v (slv (b.outs).length pb.outs.1)), (14, .v (I b.pend))], [GT.cells b pb, Zc TBare]⟩ ac w) (o6 : Ow w0 NoB u N F8 b.mem q7) (o14 : Ow w0 NoB u N F16 ([] : List Int) q15) (d102 : Disj F8 F16) (hNN : ∀ b, N0 b → N b ∧ u.heap[b]? = u0.heap[b]? ∧ ¬ F16 b) (hBB : ∀ k, k < 2 → β k = β0 k), W 4 (mkL 14 [0, 1, 2, 3, 4, 6, 7, 8, 10, 11]) ac w := by
      intro ac w q7 F8 q15 F16 u N β S o6 o14 d102 hNN hBB
      rw [hW]
      refine WD.one (i := 5) (by kernel_rfl) ?_
      refine id (S.call1 (r := b.guests) (d := 8) (c_spec_l17Guests w b.guests pb.guests (S.rd (RBare.guests (d := b) (S.arg hb)))) (by kernel_rfl) rfl ?_)
      clear S; intro ac w N q103 F104 S up o105 d106
      have hb107 := fun b h => (⟨(up b (hNN b h).1).1, (up b (hNN b h).1).2.trans (hNN b h).2.1, (hNN b h).2.2⟩ : _ ∧ _ ∧ _)
      refine WD.stayK S (fun b h => ⟨(hb107 b h).1, (hb107 b h).2.1⟩) hBB (fun _ _ h => h) ?_
      have d108 : Disj F8 F104 := fun b x y => d106 b (o6.sub b x) y
      have d109 : Disj F16 F104 := fun b x y => d106 b (o14.sub b x) y
      replace o6 := o6.up up
      replace o14 := o14.up up
      clear up d106
      exact WD.ofW hW (by kernel_rfl) (hK80 ac w q7 F8 q103 F104 q15 F16 _ _ _ (S.prune (keep := [2, 5, 8, 9, 11, 14]) (m := 2) (by kernel_rfl)) o6 o105 o14 d108 d102 (Disj.symm d109) hb107 hBB)
    have hK110 : ∀ (ac : Act) (w : World) (q7 : GT.Ptr (List (List Int))) (F8 : Bl) (u : World) (N : Bl) (β : Nat → Nat) (S : St Try.prog Try.f75.ntmps w0 NoB u N β ⟨[(2, .p 1 0), (5, .v (slv (b.mem).length q7.1)), (7, .v (slv (b.guests).length pb.guests.1)), (11, .v (slv (b.outs).length pb.outs.1)), (14, .v (I b.pend))], [GT.cells b pb, Zc TBare]⟩ ac w) (o6 : Ow w0 NoB u N F8 b.mem q7) (hNN : ∀ b, N0 b → N b ∧ u.heap[b]? = u0.heap[b]?) (hBB : ∀ k, k < 2 → β k = β0 k), W 5 (mkL 14 [0, 1, 2, 3, 4, 7, 8, 10, 11]) ac w := by
      intro ac w q7 F8 u N β S o6 hNN hBB
      rw [hW]
      refine WD.many (rs := [5, 6]) (by kernel_rfl) rfl (List.forall_mem_cons.2 ⟨?_, List.forall_mem_cons.2 ⟨?_, List.forall_mem_nil _⟩⟩)
      · refine id (S.call1 (r := b.guests) (d := 8) (c_spec_l17Guests w b.guests pb.guests (S.rd (RBare.guests (d := b) (S.arg hb)))) (by kernel_rfl) rfl ?_)
        clear S; intro ac w N q111 F112 S up o113 d114
        have hb115 := fun b h => (⟨(up b (hNN b h).1).1, (up b (hNN b h).1).2.trans (hNN b h).2⟩ : _ ∧ _)
        refine WD.stayK S (fun b h => ⟨(hb115 b h).1, (hb115 b h).2⟩) hBB (fun _ _ h => h) ?_
        have d116 : Disj F8 F112 := fun b x y => d114 b (o6.sub b x) y
        replace o6 := o6.up up
        clear up d114
        exact WD.ofW hW (by kernel_rfl) (hK92 ac w q7 F8 q111 F112 _ _ _ (S.prune (keep := [2, 5, 8, 11, 14]) (m := 2) (by kernel_rfl)) o6 o113 d116 hb115 hBB)
      · refine id (S.bs0 (α := Int) (d := 9) (by kernel_rfl) ?_)
        clear S; intro ac w N q117 F118 S up o119 d120
        have hb121 := fun b h => (⟨(up b (hNN b h).1).1, (up b (hNN b h).1).2.trans (hNN b h).2, d120 b (hNN b h).1⟩ : _ ∧ _ ∧ _)
        refine WD.stayK S (fun b h => ⟨(hb121 b h).1, (hb121 b h).2.1⟩) hBB (fun _ _ h => h) ?_
        have d122 : Disj F8 F118 := fun b x y => d120 b (o6.sub b x) y
        replace o6 := o6.up up
        clear up d120
        exact WD.ofW hW (by kernel_rfl) (hK101 ac w q7 F8 q117 F118 _ _ _ (S.prune (keep := [2, 5, 7, 9, 11, 14]) (m := 2) (by kernel_rfl)) o6 o119 d122 hb121 hBB)
    have hK123 : ∀ (ac : Act) (w : World) (q15 : GT.Ptr (List Int)) (F16 : Bl) (u : World) (N : Bl) (β : Nat → Nat) (S : St Try.prog Try.f75.ntmps w0 NoB u N β ⟨[(2, .p 1 0), (4, .v (slv (b.mem).length pb.mem.1)), (7, .v (slv (b.guests).length pb.guests.1)), (9, .v (slv 0 q15.1)), (11, .v (slv (b.outs).length pb.outs.1)), (14, .v (I b.pend))], [GT.cells b pb, Zc TBare]⟩ ac w) (o14 : Ow w0 NoB u N F16 ([] : List Int) q15) (hNN : ∀ b, N0 b → N b ∧ u.heap[b]? = u0.heap[b]? ∧ ¬ F16 b) (hBB : ∀ k, k < 2 → β k = β0 k), W 5 (mkL 14 [0, 1, 3, 4, 6, 7, 8, 10, 11]) ac w := by
      intro ac w q15 F16 u N β S o14 hNN hBB
      rw [hW]
      refine WD.one (i := 2) (by kernel_rfl) ?_
      refine id (S.call1 (r := b.mem) (d := 5) (c_spec_l04Copy w b.mem pb.mem (S.rd (RBare.mem (d := b) (S.arg hb)))) (by kernel_rfl) rfl ?_)
      clear S; intro ac w N q124 F125 S up o126 d127
      have hb128 := fun b h => (⟨(up b (hNN b h).1).1, (up b (hNN b h).1).2.trans (hNN b h).2.1, (hNN b h).2.2⟩ : _ ∧ _ ∧ _)
      refine WD.stayK S (fun b h => ⟨(hb128 b h).1, (hb128 b h).2.1⟩) hBB (fun _ _ h => h) ?_
      have d129 : Disj F16 F125 := fun b x y => d127 b (o14.sub b x) y
      replace o14 := o14.up up
      clear up d127
      exact WD.ofW hW (by kernel_rfl) (hK101 ac w q124 F125 q15 F16 _ _ _ (S.prune (keep := [2, 5, 7, 9, 11, 14]) (m := 2) (by kernel_rfl)) o126 o14 (Disj.symm d129) hb128 hBB)
    have hNN : ∀ b, N0 b → N0 b ∧ u0.heap[b]? = u0.heap[b]? := fun b h => ⟨h, rfl⟩
    have hBB : ∀ k, k < 2 → β0 k = β0 k := fun _ _ => rfl
    rw [hW]
    refine WD.many (rs := [2, 6]) (by kernel_rfl) rfl (List.forall_mem_cons.2 ⟨?_, List.forall_mem_cons.2 ⟨?_, List.forall_mem_nil _⟩⟩)
    · refine id (S.call1 (r := b.mem) (d := 5) (c_spec_l04Copy w b.mem pb.mem (S.rd (RBare.mem (d := b) (S.arg hb)))) (by kernel_rfl) rfl ?_)
      clear S; intro ac w N q130 F131 S up o132 d133
      have hb134 := fun b h => (⟨(up b (hNN b h).1).1, (up b (hNN b h).1).2.trans (hNN b h).2⟩ : _ ∧ _)
      refine WD.stayK S (fun b h => ⟨(hb134 b h).1, (hb134 b h).2⟩) hBB (fun _ _ h => h) ?_
      clear up d133
      exact WD.ofW hW (by kernel_rfl) (hK110 ac w q130 F131 _ _ _ (S.prune (keep := [2, 5, 7, 11, 14]) (m := 2) (by kernel_rfl)) o132 hb134 hBB)
    · refine id (S.bs0 (α := Int) (d := 9) (by kernel_rfl) ?_)
      clear S; intro ac w N q135 F136 S up o137 d138
      have hb139 := fun b h => (⟨(up b (hNN b h).1).1, (up b (hNN b h).1).2.trans (hNN b h).2, d138 b (hNN b h).1⟩ : _ ∧ _ ∧ _)
      refine WD.stayK S (fun b h => ⟨(hb139 b h).1, (hb139 b h).2.1⟩) hBB (fun _ _ h => h) ?_
      clear up d138
      exact WD.ofW hW (by kernel_rfl) (hK123 ac w q135 F136 _ _ _ (S.prune (keep := [2, 4, 7, 9, 11, 14]) (m := 2) (by kernel_rfl)) o137 hb139 hBB)
  clear S
  rintro ac w ⟨q63, F64, q60, F61, q66, F67, u, N, β, S, o62, o59, o65, d140, d141, d142⟩
  refine id (nx_then (wp_ret ?_))
  refine S.r [GT.val (⟨b.mem, b.guests, (([] : List Int) ++ b.outs), b.pend⟩ : TBare) (⟨q60, q63, q66⟩ : PBare)] ?_
  have o143 := ow_Bare (x := (⟨b.mem, b.guests, (([] : List Int) ++ b.outs), b.pend⟩ : TBare)) (p := (⟨q60, q63, q66⟩ : PBare)) o59 o62 o65 (Disj.symm d140) d142 d141 (RBare.pend (d := b) (S.arg hb))
  exact ret1_of S (show b = (⟨b.mem, b.guests, (([] : List Int) ++ b.outs), b.pend⟩ : TBare) by clear S; (first | rfl | simp)) rfl o143

set_option maxRecDepth 100000 in
theorem c_spec_l01In (w0 : World) (x : Int) (a : Int) (b : Int) : Calls Try.prog 71 [I x, I a, I b].toArray w0 (fun e w' => e = .returned (B (f_within x a b)) ∧ Chg NoB w0 w') := by
  refine Calls.walk (args := [I x, I a, I b]) NoB Try.func71 rfl rfl ?_
  intro ac β S
  refine wp_seq (RG.start ?_)
  refine S.q 1 [0, 1, 2] 0 ⟨[(0, .v (I x)), (1, .v (I a)), (2, .v (I b))], []⟩ .nil ?_; clear S; intro ac w β S
  refine RG.done rfl (nx_then (wp_seq (RG.start ?_)))
  refine S.q 4 [0, 2, 10] 0 ⟨[(0, .v (I x)), (2, .v (I b)), (10, .v (B (decide (x ≥ a))))], []⟩ .nil ?_; clear S; intro ac w β S
  rcases Bool.eq_false_or_eq_true (decide (x ≥ a)) with h1 | h1 <;> rw [h1] at S
  · have g2 : x ≥ a := of_decide_eq_true h1
    refine S.q 5 [6] 0 ⟨[(6, .v (B (decide (x ≤ b))))], []⟩ .nil ?_; clear S; intro ac w β S
    refine RG.done rfl (nx_then (wp_ret ?_))
    refine S.r [B (decide (x ≤ b))] ?_
    exact ⟨retB (by clear S; first | rfl | (simp [f_within, *]; done) | (simp [f_within, *]; omega) | (simp_all [f_within]; done) | (simp_all [f_within]; omega)), S.chg⟩
  · have g3 : ¬ (x ≥ a) := of_decide_eq_false h1
    refine S.q 5 [6] 0 ⟨[(6, .v (B false))], []⟩ .nil ?_; clear S; intro ac w β S
    refine RG.done rfl (nx_then (wp_ret ?_))
    refine S.r [B false] ?_
    exact ⟨retB (by clear S; first | rfl | (simp [f_within, *]; done) | (simp [f_within, *]; omega) | (simp_all [f_within]; done) | (simp_all [f_within]; omega)), S.chg⟩

set_option maxRecDepth 100000 in
theorem c_spec_InsOk (w0 : World) (i : TIns) : Calls Try.prog 165 [GT.val i ()].toArray w0 (fun e w' => e = .returned (B (f_insOk i)) ∧ Chg NoB w0 w') := by
  refine Calls.walk (args := [GT.val i ()]) NoB Try.func165 rfl rfl ?_
  intro ac β S
  refine wp_seq (RG.start ?_)
  refine S.q 2 [1] 1 ⟨[(1, .p 0 0)], [GT.cells i ()]⟩ .nil ?_; clear S; intro ac w β S
  refine RG.done rfl (nx_then (wp_seq (wp_seq (RG.start ?_))))
  refine S.q 2 [1, 4] 1 ⟨[(1, .p 0 0), (4, .v (I i.opc))], [GT.cells i ()]⟩ .nil ?_; clear S; intro ac w β S
  refine RG.done rfl (nx_then (wp_block (wp_seq (wp_seq (RG.start ?_)))))
  refine S.q 2 [1, 4, 5] 1 ⟨[(1, .p 0 0), (4, .v (I i.opc)), (5, .v (B (i.opc == 1)))], [GT.cells i ()]⟩ .nil ?_; clear S; intro ac w β S
  refine RG.done rfl (nx_then ?_)
  refine S.c (i.opc == 1) (fun h1 => ?_) (fun h1 => ?_)
  · rw [h1] at S
    have g2 : i.opc = 1 := eq_of_beq h1
    refine wp_skip (nx_then ?_)
    refine S.c true (fun _ => ?_) (fun hx => by cases hx)
    refine wp_seq (RG.start ?_)
    refine S.q 4 [2] 0 ⟨[(2, .v (B (f_within i.x 0 99)))], []⟩ (.cons (Q_call fun w hw => c_spec_l01In w i.x 0 99) .nil) ?_; clear S; intro ac w β S
    refine RG.done rfl (nx_then (wp_ret (rt_block (rt_then ?_))))
    refine S.r [B (f_within i.x 0 99)] ?_
    exact ⟨retB (by clear S; first | rfl | (simp [f_insOk, *]; done) | (simp [f_insOk, *]; omega) | (simp_all [f_insOk]; done) | (simp_all [f_insOk]; omega)), S.chg⟩
  · have g3 : ¬ (i.opc = 1) := ne_of_beq_false h1
    refine wp_seq (RG.start ?_)
    refine S.q 2 [1, 4, 5] 1 ⟨[(1, .p 0 0), (4, .v (I i.opc)), (5, .v (B (i.opc == 2)))], [GT.cells i ()]⟩ .nil ?_; clear S; intro ac w β S
    refine RG.done rfl (nx_then ?_)
    refine S.c (i.opc == 2) (fun h4 => ?_) (fun h4 => ?_)
    · rw [h4] at S
      have g5 : i.opc = 2 := eq_of_beq h4
      refine wp_skip (nx_then ?_)
      refine S.c true (fun _ => ?_) (fun hx => by cases hx)
      refine wp_seq (RG.start ?_)
      refine S.q 4 [2] 0 ⟨[(2, .v (B (f_within i.x 0 99)))], []⟩ (.cons (Q_call fun w hw => c_spec_l01In w i.x 0 99) .nil) ?_; clear S; intro ac w β S
      refine RG.done rfl (nx_then (wp_ret (rt_block (rt_then ?_))))
      refine S.r [B (f_within i.x 0 99)] ?_
      exact ⟨retB (by clear S; first | rfl | (simp [f_insOk, *]; done) | (simp [f_insOk, *]; omega) | (simp_all [f_insOk]; done) | (simp_all [f_insOk]; omega)), S.chg⟩
    · have g6 : ¬ (i.opc = 2) := ne_of_beq_false h4
      refine wp_seq (RG.start ?_)
      refine S.q 2 [1, 4, 5] 1 ⟨[(1, .p 0 0), (4, .v (I i.opc)), (5, .v (B (i.opc == 5)))], [GT.cells i ()]⟩ .nil ?_; clear S; intro ac w β S
      refine RG.done rfl (nx_then ?_)
      refine S.c (i.opc == 5) (fun h7 => ?_) (fun h7 => ?_)
      · rw [h7] at S
        have g8 : i.opc = 5 := eq_of_beq h7
        refine wp_skip (nx_then ?_)
        refine S.c true (fun _ => ?_) (fun hx => by cases hx)
        refine wp_seq (RG.start ?_)
        refine S.q 4 [2] 0 ⟨[(2, .v (B (f_within i.x 0 99)))], []⟩ (.cons (Q_call fun w hw => c_spec_l01In w i.x 0 99) .nil) ?_; clear S; intro ac w β S
        refine RG.done rfl (nx_then (wp_ret (rt_block (rt_then ?_))))
        refine S.r [B (f_within i.x 0 99)] ?_
        exact ⟨retB (by clear S; first | rfl | (simp [f_insOk, *]; done) | (simp [f_insOk, *]; omega) | (simp_all [f_insOk]; done) | (simp_all [f_insOk]; omega)), S.chg⟩
      · have g9 : ¬ (i.opc = 5) := ne_of_beq_false h7
        refine RG.start ?_
        refine S.q 2 [1, 4, 5] 1 ⟨[(1, .p 0 0), (4, .v (I i.opc)), (5, .v (B (i.opc == 6)))], [GT.cells i ()]⟩ .nil ?_; clear S; intro ac w β S
        refine RG.done rfl (nx_then ?_)
        refine S.c (i.opc == 6) (fun h10 => ?_) (fun h10 => ?_)
        · have g11 : i.opc = 6 := eq_of_beq h10
          refine wp_seq (RG.start ?_)
          refine S.q 4 [2] 0 ⟨[(2, .v (B (f_within i.x 0 99)))], []⟩ (.cons (Q_call fun w hw => c_spec_l01In w i.x 0 99) .nil) ?_; clear S; intro ac w β S
          refine RG.done rfl (nx_then (wp_ret (rt_block (rt_then ?_))))
          refine S.r [B (f_within i.x 0 99)] ?_
          exact ⟨retB (by clear S; first | rfl | (simp [f_insOk, *]; done) | (simp [f_insOk, *]; omega) | (simp_all [f_insOk]; done) | (simp_all [f_insOk]; omega)), S.chg⟩
        · have g12 : ¬ (i.opc = 6) := ne_of_beq_false h10
          refine wp_seq (wp_seq (RG.start ?_))
          refine S.q 2 [1, 4, 13] 1 ⟨[(1, .p 0 0), (4, .v (I i.opc)), (13, .v (B (i.opc == 3)))], [GT.cells i ()]⟩ .nil ?_; clear S; intro ac w β S
          refine RG.done rfl (nx_then ?_)
          refine S.c (i.opc == 3) (fun h13 => ?_) (fun h13 => ?_)
          · rw [h13] at S
            have g14 : i.opc = 3 := eq_of_beq h13
            refine wp_skip (nx_then ?_)
            refine S.c true (fun _ => ?_) (fun hx => by cases hx)
            refine wp_seq (RG.start ?_)
            refine S.q 4 [2] 0 ⟨[(2, .v (B (f_within i.x 0 15)))], []⟩ (.cons (Q_call fun w hw => c_spec_l01In w i.x 0 15) .nil) ?_; clear S; intro ac w β S
            refine RG.done rfl (nx_then (wp_ret (rt_block (rt_then ?_))))
            refine S.r [B (f_within i.x 0 15)] ?_
            exact ⟨retB (by clear S; first | rfl | (simp [f_insOk, *]; done) | (simp [f_insOk, *]; omega) | (simp_all [f_insOk]; done) | (simp_all [f_insOk]; omega)), S.chg⟩
          · have g15 : ¬ (i.opc = 3) := ne_of_beq_false h13
            refine RG.start ?_
            refine S.q 2 [1, 4, 13] 1 ⟨[(1, .p 0 0), (4, .v (I i.opc)), (13, .v (B (i.opc == 4)))], [GT.cells i ()]⟩ .nil ?_; clear S; intro ac w β S
            refine RG.done rfl (nx_then ?_)
            refine S.c (i.opc == 4) (fun h16 => ?_) (fun h16 => ?_)
            · have g17 : i.opc = 4 := eq_of_beq h16
              refine wp_seq (RG.start ?_)
              refine S.q 4 [2] 0 ⟨[(2, .v (B (f_within i.x 0 15)))], []⟩ (.cons (Q_call fun w hw => c_spec_l01In w i.x 0 15) .nil) ?_; clear S; intro ac w β S
              refine RG.done rfl (nx_then (wp_ret (rt_block (rt_then ?_))))
              refine S.r [B (f_within i.x 0 15)] ?_
              exact ⟨retB (by clear S; first | rfl | (simp [f_insOk, *]; done) | (simp [f_insOk, *]; omega) | (simp_all [f_insOk]; done) | (simp_all [f_insOk]; omega)), S.chg⟩
            · have g18 : ¬ (i.opc = 4) := ne_of_beq_false h16
              refine wp_seq (RG.start ?_)
              refine S.q 2 [1, 4, 19] 1 ⟨[(1, .p 0 0), (4, .v (I i.opc)), (19, .v (B (i.opc == 7)))], [GT.cells i ()]⟩ .nil ?_; clear S; intro ac w β S
              refine RG.done rfl (nx_then ?_)
              refine S.c (i.opc == 7) (fun h19 => ?_) (fun h19 => ?_)
              · have g20 : i.opc = 7 := eq_of_beq h19
                refine wp_seq (RG.start ?_)
                refine S.q 4 [2] 0 ⟨[(2, .v (B (i.x == 0)))], []⟩ .nil ?_; clear S; intro ac w β S
                refine RG.done rfl (nx_then (wp_ret (rt_block (rt_then ?_))))
                refine S.r [B (i.x == 0)] ?_
                exact ⟨retB (by clear S; first | rfl | (simp [f_insOk, *]; done) | (simp [f_insOk, *]; omega) | (simp_all [f_insOk]; done) | (simp_all [f_insOk]; omega)), S.chg⟩
              · have g21 : ¬ (i.opc = 7) := ne_of_beq_false h19
                refine wp_seq (RG.start ?_)
                refine S.q 2 [1, 24] 1 ⟨[(1, .p 0 0), (24, .v (B (i.opc == 8)))], [GT.cells i ()]⟩ .nil ?_; clear S; intro ac w β S
                refine RG.done rfl (nx_then ?_)
                refine S.c (i.opc == 8) (fun h22 => ?_) (fun h22 => ?_)
                · have g23 : i.opc = 8 := eq_of_beq h22
                  refine wp_seq (RG.start ?_)
                  refine S.q 4 [2] 0 ⟨[(2, .v (B (f_within i.x 0 11)))], []⟩ (.cons (Q_call fun w hw => c_spec_l01In w i.x 0 11) .nil) ?_; clear S; intro ac w β S
                  refine RG.done rfl (nx_then (wp_ret (rt_block (rt_then ?_))))
                  refine S.r [B (f_within i.x 0 11)] ?_
                  exact ⟨retB (by clear S; first | rfl | (simp [f_insOk, *]; done) | (simp [f_insOk, *]; omega) | (simp_all [f_insOk]; done) | (simp_all [f_insOk]; omega)), S.chg⟩
                · have g24 : ¬ (i.opc = 8) := ne_of_beq_false h22
                  refine wp_skip (nx_block (nx_then (wp_seq (RG.start ?_))))
                  refine S.q 1 [2] 0 ⟨[(2, .v (B false))], []⟩ .nil ?_; clear S; intro ac w β S
                  refine RG.done rfl (nx_then (wp_ret ?_))
                  refine S.r [B false] ?_
                  exact ⟨retB (by clear S; first | rfl | (simp [f_insOk, *]; done) | (simp [f_insOk, *]; omega) | (simp_all [f_insOk]; done) | (simp_all [f_insOk]; omega)), S.chg⟩

set_option maxRecDepth 100000 in
theorem c_spec_ProgOk (w0 : World) (p : List TIns) (pp : LP TIns) (hp : GT.rd KK (Lt w0.heap.size) w0 p pp) : Calls Try.prog 145 [slv (p).length pp.1].toArray w0 (fun e w' => e = .returned (B (f_progOk p)) ∧ Chg NoB w0 w') := by
  refine Calls.walk (args := [slv (p).length pp.1]) NoB Try.func145 rfl rfl ?_
  intro ac β S
  have hlep : p.length ≤ 4194304 := LRd.le hp
  refine wp_seq (RG.start ?_)
  refine S.q 1 [0] 0 ⟨[(0, .v (slv (p).length pp.1))], []⟩ .nil ?_; clear S; intro ac w β S
  refine RG.done rfl (nx_then (wp_seq (wp_seq (RG.start ?_))))
  refine S.q 1 [0, 3] 0 ⟨[(0, .v (slv (p).length pp.1)), (3, .v (I 0))], []⟩ .nil ?_; clear S; intro ac w β S
  refine RG.done rfl (nx_then (wp_block ?_))
  replace S := S.p [0, 3] 0 ⟨[(0, .v (slv (p).length pp.1)), (3, .v (I 0))], []⟩
  refine wp_loop_down (fun mm ac w => ∃ (k : Nat)  (u : World) (N : Bl) (β : Nat → Nat), mm = (p).length - k ∧ (k ≤ (p).length) ∧ (((p).take k).all f_insOk = true) ∧ St Try.prog Try.f145.ntmps w0 NoB u N β ⟨[(0, .v (slv (p).length pp.1)), (3, .v (I (k : Int)))], []⟩ ac w) _ ⟨0, _, _, _, rfl, (by first | omega | (simp; done) | (simp; omega)), (by simp), S.cast (by kernel_rfl)⟩ ?_
  clear S
  rintro mm ac w ⟨k, u, N, β, rfl, hk, he, S⟩
  refine wp_seq (wp_seq (RG.start ?_))
  refine S.q 4 [0, 3, 7] 0 ⟨[(0, .v (slv (p).length pp.1)), (3, .v (I (k : Int))), (7, .v (B (decide ((k : Int) < ((p).length : Int)))))], []⟩ .nil ?_; clear S; intro ac w β S
  refine RG.done rfl (nx_then ?_)
  refine S.c (decide ((k : Int) < ((p).length : Int))) (fun h1 => ?_) (fun h1 => ?_)
  · have g2 : (k : Int) < ((p).length : Int) := of_decide_eq_true h1
    refine wp_skip (nx_then (wp_seq (wp_block (wp_seq (RG.start ?_)))))
    refine S.q 6 [0, 3, 15] 0 ⟨[(0, .v (slv (p).length pp.1)), (3, .v (I (k : Int))), (15, .v (B (!(f_insOk (el p k)))))], []⟩ (.cons (Q_idx (S.arg hp) (l := (p).length) (k := k) (i := (k : Int)) rfl rfl (by omega) Try.underlying28 (by kernel_rfl)) (.cons (Q_el (S.arg hp) (t := 27) (k := k) (by omega) rfl (by kernel_rfl) (by kernel_rfl)) (.cons (Q_call fun w hw => c_spec_InsOk w (el p k)) .nil))) ?_; clear S; intro ac w β S
    refine RG.done rfl (nx_then ?_)
    refine S.c (!(f_insOk (el p k))) (fun h3 => ?_) (fun h3 => ?_)
    · have h4 : (f_insOk (el p k)) = false := not_t h3
      refine wp_seq (RG.start ?_)
      refine S.q 1 [2] 0 ⟨[(2, .v (B false))], []⟩ .nil ?_; clear S; intro ac w β S
      refine RG.done rfl (nx_then (wp_ret (rt_block (rt_then (rt_then (rt_block (rt_then ?_)))))))
      refine S.r [B false] ?_
      exact ⟨retB (by clear S; (first | rfl | (unfold f_progOk; rw [all_end (by omega) he]; simp; done) | (unfold f_progOk; rw [all_bad (k := k) (by omega) (by first | assumption | (simp_all <;> fail))]; simp; done) | (unfold f_progOk; rw [all_end (by omega) he]; simp [*]; done) | (unfold f_progOk; rw [all_end (by omega) he]; simp; omega))), S.chg⟩
    · have h5 : (f_insOk (el p k)) = true := not_f h3
      refine wp_skip (nx_block (nx_then (RG.start ?_)))
      refine S.q 3 [0, 3] 0 ⟨[(0, .v (slv (p).length pp.1)), (3, .v (I ((k : Int) + 1)))], []⟩ (.cons (Q_add (x := (k : Int)) (y := 1) ⟨by omega, by omega⟩) .nil) ?_; clear S; intro ac w β S
      refine RG.done rfl (nx_then ?_)
      replace S := S.p [0, 3] 0 ⟨[(0, .v (slv (p).length pp.1)), (3, .v (I ((k : Int) + 1)))], []⟩
      refine ⟨(p).length - (k + 1), by omega, k + 1, _, _, _, rfl, ?_, ?_, S.cast (by kernel_rfl)⟩
      · clear S; first | omega | (simp [*]; done) | (simp [*]; omega)
      · clear S; exact all_step (by omega) he (by first | assumption | (simp only [f_slotOk, f_within] at *; simp_all; done) | (simp_all; done) | (simp_all; omega))
  · have g6 : ¬ ((k : Int) < ((p).length : Int)) := of_decide_eq_false h1
    refine wp_exit (ex_then (ex_then (ex_hit (nx_then (wp_seq (RG.start ?_))))))
    refine S.q 4 [2] 0 ⟨[(2, .v (B (f_within ((p).length : Int) 1 12)))], []⟩ (.cons (Q_call fun w hw => c_spec_l01In w ((p).length : Int) 1 12) .nil) ?_; clear S; intro ac w β S
    refine RG.done rfl (nx_then (wp_ret ?_))
    refine S.r [B (f_within ((p).length : Int) 1 12)] ?_
    exact ⟨retB (by clear S; (first | rfl | (unfold f_progOk; rw [all_end (by omega) he]; simp; done) | (unfold f_progOk; rw [all_bad (k := k) (by omega) (by first | assumption | (simp_all <;> fail))]; simp; done) | (unfold f_progOk; rw [all_end (by omega) he]; simp [*]; done) | (unfold f_progOk; rw [all_end (by omega) he]; simp; omega))), S.chg⟩

set_option maxRecDepth 100000 in
theorem c_spec_NoSlot (w0 : World)  : Calls Try.prog 63 [].toArray w0 (fun e w' => e = .returned (GT.val (⟨-1, 0⟩ : TSlot) ()) ∧ Chg NoB w0 w') := by
  refine Calls.walk (args := []) NoB Try.func63 rfl rfl ?_
  intro ac β S
  refine wp_seq (RG.start ?_)
  refine S.q 1 [0] 1 ⟨[(0, .p 0 0)], [Zc TSlot]⟩ .nil ?_; clear S; intro ac w β S
  refine RG.done rfl (nx_then (wp_seq (RG.start ?_)))
  refine S.q 2 [0] 1 ⟨[(0, .p 0 0)], [[I (-1), I 0]]⟩ (.cons (Q_sem (s := Instr.build 54 [(0, I (-1))].toArray) (v := .agg [I (-1), I 0].toArray) (fun w => by kernel_rfl)) .nil) ?_; clear S; intro ac w β S
  refine RG.done rfl (nx_then (wp_ret ?_))
  refine S.r [GT.val (⟨(-1), 0⟩ : TSlot) ()] ?_
  exact ⟨retV (p := ()) (by clear S; first | rfl | (simp [id, *]; done) | (simp [id, *]; omega) | (simp_all [id]; done) | (simp_all [id]; omega)), S.chg⟩

set_option maxRecDepth 100000 in
theorem c_spec_SlotOk (w0 : World) (s : TSlot) (pages : Int) (pre0 : 0 ≤ pages) (pre1 : pages ≤ 1000) : Calls Try.prog 166 [GT.val s (), I pages].toArray w0 (fun e w' => e = .returned (B (f_slotOk s pages)) ∧ Chg NoB w0 w') := by
  refine Calls.walk (args := [GT.val s (), I pages]) NoB Try.func166 rfl rfl ?_
  intro ac β S
  refine wp_seq (RG.start ?_)
  refine S.q 2 [1, 2] 1 ⟨[(1, .v (I pages)), (2, .p 0 0)], [GT.cells s ()]⟩ .nil ?_; clear S; intro ac w β S
  refine RG.done rfl (nx_then (wp_seq ?_))
  rcases Bool.eq_false_or_eq_true (decide (s = ((⟨-1, 0⟩ : TSlot)))) with h1 | h1
  · refine S.drawnO [(3, true)] (keep := [4]) (m := 0) (σ' := ⟨[(4, .v (B true))], []⟩) (.cons (Q_call fun w hw => c_spec_NoSlot w ) (.cons (Eq_eq_Slot (t := 54) s ((⟨-1, 0⟩ : TSlot)) (by kernel_rfl)) .nil)) rfl (by kernel_rfl) (by kernel_rfl) (.cons h1 .nil) ?_
    clear S; intro ac w S
    refine id (nx_then (wp_ret ?_))
    refine S.r [B true] ?_
    exact ⟨retB (by clear S; first | rfl | (simp [f_slotOk, *]; done) | (simp [f_slotOk, *]; omega) | (simp_all [f_slotOk]; done) | (simp_all [f_slotOk]; omega)), S.chg⟩
  · rcases Bool.eq_false_or_eq_true (f_within s.page 0 (pages - 1)) with h2 | h2
    · have g3 := within_t h2
      rcases Bool.eq_false_or_eq_true (decide (pages > 0)) with h4 | h4
      · have g5 : pages > 0 := of_decide_eq_true h4
        refine S.drawnO [(3, false), (9, true), (13, true)] (keep := [4]) (m := 0) (σ' := ⟨[(4, .v (B (f_within s.rights 1 3)))], []⟩) (.cons (Q_call fun w hw => c_spec_NoSlot w ) (.cons (Eq_eq_Slot (t := 54) s ((⟨-1, 0⟩ : TSlot)) (by kernel_rfl)) (.cons (Q_sub (x := pages) (y := 1) ⟨by omega, by omega⟩) (.cons (Q_call fun w hw => c_spec_l01In w s.page 0 (pages - 1)) (.cons (Q_call fun w hw => c_spec_l01In w s.rights 1 3) .nil))))) rfl (by kernel_rfl) (by kernel_rfl) (.cons h1 (.cons h2 (.cons h4 .nil))) ?_
        clear S; intro ac w S
        refine id (nx_then (wp_ret ?_))
        refine S.r [B (f_within s.rights 1 3)] ?_
        exact ⟨retB (by clear S; first | rfl | (simp [f_slotOk, *]; done) | (simp [f_slotOk, *]; omega) | (simp_all [f_slotOk]; done) | (simp_all [f_slotOk]; omega)), S.chg⟩
      · have g6 : ¬ (pages > 0) := of_decide_eq_false h4
        refine S.drawnO [(3, false), (9, true), (13, false)] (keep := [4]) (m := 0) (σ' := ⟨[(4, .v (B false))], []⟩) (.cons (Q_call fun w hw => c_spec_NoSlot w ) (.cons (Eq_eq_Slot (t := 54) s ((⟨-1, 0⟩ : TSlot)) (by kernel_rfl)) (.cons (Q_sub (x := pages) (y := 1) ⟨by omega, by omega⟩) (.cons (Q_call fun w hw => c_spec_l01In w s.page 0 (pages - 1)) .nil)))) rfl (by kernel_rfl) (by kernel_rfl) (.cons h1 (.cons h2 (.cons h4 .nil))) ?_
        clear S; intro ac w S
        refine id (nx_then (wp_ret ?_))
        refine S.r [B false] ?_
        exact ⟨retB (by clear S; first | rfl | (simp [f_slotOk, *]; done) | (simp [f_slotOk, *]; omega) | (simp_all [f_slotOk]; done) | (simp_all [f_slotOk]; omega)), S.chg⟩
    · have g7 := within_f h2
      refine S.drawnO [(3, false), (9, false)] (keep := [4]) (m := 0) (σ' := ⟨[(4, .v (B false))], []⟩) (.cons (Q_call fun w hw => c_spec_NoSlot w ) (.cons (Eq_eq_Slot (t := 54) s ((⟨-1, 0⟩ : TSlot)) (by kernel_rfl)) (.cons (Q_sub (x := pages) (y := 1) ⟨by omega, by omega⟩) (.cons (Q_call fun w hw => c_spec_l01In w s.page 0 (pages - 1)) .nil)))) rfl (by kernel_rfl) (by kernel_rfl) (.cons h1 (.cons h2 .nil)) ?_
      clear S; intro ac w S
      refine id (nx_then (wp_ret ?_))
      refine S.r [B false] ?_
      exact ⟨retB (by clear S; first | rfl | (simp [f_slotOk, *]; done) | (simp [f_slotOk, *]; omega) | (simp_all [f_slotOk]; done) | (simp_all [f_slotOk]; omega)), S.chg⟩

set_option maxRecDepth 100000 in
theorem c_spec_TableOk (w0 : World) (t : List TSlot) (pt : LP TSlot) (ht : GT.rd KK (Lt w0.heap.size) w0 t pt) (size : Int) (pages : Int) (pre0 : 0 ≤ pages) (pre1 : pages ≤ 1000) : Calls Try.prog 146 [slv (t).length pt.1, I size, I pages].toArray w0 (fun e w' => e = .returned (B (f_tableOk t size pages)) ∧ Chg NoB w0 w') := by
  refine Calls.walk (args := [slv (t).length pt.1, I size, I pages]) NoB Try.func146 rfl rfl ?_
  intro ac β S
  have hlet : t.length ≤ 4194304 := LRd.le ht
  refine wp_seq (RG.start ?_)
  refine S.q 1 [0, 1, 2] 0 ⟨[(0, .v (slv (t).length pt.1)), (1, .v (I size)), (2, .v (I pages))], []⟩ .nil ?_; clear S; intro ac w β S
  refine RG.done rfl (nx_then (wp_seq (wp_seq (RG.start ?_))))
  refine S.q 1 [0, 1, 2, 7] 0 ⟨[(0, .v (slv (t).length pt.1)), (1, .v (I size)), (2, .v (I pages)), (7, .v (I 0))], []⟩ .nil ?_; clear S; intro ac w β S
  refine RG.done rfl (nx_then (wp_block ?_))
  replace S := S.p [0, 1, 2, 7] 0 ⟨[(0, .v (slv (t).length pt.1)), (1, .v (I size)), (2, .v (I pages)), (7, .v (I 0))], []⟩
  refine wp_loop_down (fun mm ac w => ∃ (k : Nat)  (u : World) (N : Bl) (β : Nat → Nat), mm = (t).length - k ∧ (k ≤ (t).length) ∧ (((t).take k).all (fun s => f_slotOk s pages) = true) ∧ St Try.prog Try.f146.ntmps w0 NoB u N β ⟨[(0, .v (slv (t).length pt.1)), (1, .v (I size)), (2, .v (I pages)), (7, .v (I (k : Int)))], []⟩ ac w) _ ⟨0, _, _, _, rfl, (by first | omega | (simp; done) | (simp; omega)), (by simp), S.cast (by kernel_rfl)⟩ ?_
  clear S
  rintro mm ac w ⟨k, u, N, β, rfl, hk, he, S⟩
  refine wp_seq (wp_seq (RG.start ?_))
  refine S.q 4 [0, 1, 2, 7, 11] 0 ⟨[(0, .v (slv (t).length pt.1)), (1, .v (I size)), (2, .v (I pages)), (7, .v (I (k : Int))), (11, .v (B (decide ((k : Int) < ((t).length : Int)))))], []⟩ .nil ?_; clear S; intro ac w β S
  refine RG.done rfl (nx_then ?_)
  refine S.c (decide ((k : Int) < ((t).length : Int))) (fun h1 => ?_) (fun h1 => ?_)
  · have g2 : (k : Int) < ((t).length : Int) := of_decide_eq_true h1
    refine wp_skip (nx_then (wp_seq (wp_block (wp_seq (RG.start ?_)))))
    refine S.q 7 [0, 1, 2, 7, 20] 0 ⟨[(0, .v (slv (t).length pt.1)), (1, .v (I size)), (2, .v (I pages)), (7, .v (I (k : Int))), (20, .v (B (!(f_slotOk (el t k) pages))))], []⟩ (.cons (Q_idx (S.arg ht) (l := (t).length) (k := k) (i := (k : Int)) rfl rfl (by omega) Try.underlying37 (by kernel_rfl)) (.cons (Q_el (S.arg ht) (t := 54) (k := k) (by omega) rfl (by kernel_rfl) (by kernel_rfl)) (.cons (Q_call fun w hw => c_spec_SlotOk w (el t k) pages (by omega) (by omega)) .nil))) ?_; clear S; intro ac w β S
    refine RG.done rfl (nx_then ?_)
    refine S.c (!(f_slotOk (el t k) pages)) (fun h3 => ?_) (fun h3 => ?_)
    · have h4 : (f_slotOk (el t k) pages) = false := not_t h3
      refine wp_seq (RG.start ?_)
      refine S.q 1 [6] 0 ⟨[(6, .v (B false))], []⟩ .nil ?_; clear S; intro ac w β S
      refine RG.done rfl (nx_then (wp_ret (rt_block (rt_then (rt_then (rt_block (rt_then ?_)))))))
      refine S.r [B false] ?_
      exact ⟨retB (by clear S; (first | rfl | (unfold f_tableOk; rw [all_end (by omega) he]; simp; done) | (unfold f_tableOk; rw [all_bad (k := k) (by omega) (by first | assumption | (simp_all <;> fail))]; simp; done) | (unfold f_tableOk; rw [all_end (by omega) he]; simp [*]; done) | (unfold f_tableOk; rw [all_end (by omega) he]; simp; omega))), S.chg⟩
    · have h5 : (f_slotOk (el t k) pages) = true := not_f h3
      refine wp_skip (nx_block (nx_then (RG.start ?_)))
      refine S.q 3 [0, 1, 2, 7] 0 ⟨[(0, .v (slv (t).length pt.1)), (1, .v (I size)), (2, .v (I pages)), (7, .v (I ((k : Int) + 1)))], []⟩ (.cons (Q_add (x := (k : Int)) (y := 1) ⟨by omega, by omega⟩) .nil) ?_; clear S; intro ac w β S
      refine RG.done rfl (nx_then ?_)
      replace S := S.p [0, 1, 2, 7] 0 ⟨[(0, .v (slv (t).length pt.1)), (1, .v (I size)), (2, .v (I pages)), (7, .v (I ((k : Int) + 1)))], []⟩
      refine ⟨(t).length - (k + 1), by omega, k + 1, _, _, _, rfl, ?_, ?_, S.cast (by kernel_rfl)⟩
      · clear S; first | omega | (simp [*]; done) | (simp [*]; omega)
      · clear S; exact all_step (by omega) he (by first | assumption | (simp only [f_slotOk, f_within] at *; simp_all; done) | (simp_all; done) | (simp_all; omega))
  · have g6 : ¬ ((k : Int) < ((t).length : Int)) := of_decide_eq_false h1
    refine wp_exit (ex_then (ex_then (ex_hit (nx_then (wp_seq (RG.start ?_))))))
    refine S.q 5 [6] 0 ⟨[(6, .v (B (((t).length : Int) == size)))], []⟩ .nil ?_; clear S; intro ac w β S
    refine RG.done rfl (nx_then (wp_ret ?_))
    refine S.r [B (((t).length : Int) == size)] ?_
    exact ⟨retB (by clear S; (first | rfl | (unfold f_tableOk; rw [all_end (by omega) he]; simp; done) | (unfold f_tableOk; rw [all_bad (k := k) (by omega) (by first | assumption | (simp_all <;> fail))]; simp; done) | (unfold f_tableOk; rw [all_end (by omega) he]; simp [*]; done) | (unfold f_tableOk; rw [all_end (by omega) he]; simp; omega))), S.chg⟩

set_option maxRecDepth 100000 in
theorem c_spec_CtlFaults (w0 : World) (c : TCtl) : Calls Try.prog 167 [GT.val c ()].toArray w0 (Ret1 NoB w0 (f_ctlFaults c : List Int)) := by
  refine Calls.walk (args := [GT.val c ()]) NoB Try.func167 rfl rfl ?_
  intro ac β S
  refine wp_seq (RG.start ?_)
  refine S.q 2 [1] 1 ⟨[(1, .p 0 0)], [GT.cells c ()]⟩ .nil ?_; clear S; intro ac w β S
  refine RG.done rfl (nx_then (wp_seq (RG.start ?_)))
  refine RG.op rfl (S.bs0 (α := Int) (d := 4) (by kernel_rfl) ?_)
  clear S; intro ac w N q1 F2 S up o3 d4
  clear up d4
  refine S.q 1 [1, 3] 1 ⟨[(1, .p 0 0), (3, .v (slv 0 q1.1))], [GT.cells c ()]⟩ .nil ?_; clear S; intro ac w β S
  refine RG.done rfl (nx_then (wp_seq (wp_seq (RG.start ?_))))
  refine S.q 4 [1, 3, 8] 1 ⟨[(1, .p 0 0), (3, .v (slv 0 q1.1)), (8, .v (B (!(f_within c.traps 0 3))))], [GT.cells c ()]⟩ (.cons (Q_call fun w hw => c_spec_l01In w c.traps 0 3) .nil) ?_; clear S; intro ac w β S
  refine RG.done rfl (nx_then ?_)
  refine wp_region_cut (fun ac w => ∃ (acc1 : List Int) (q5 : GT.Ptr (List Int)) (F6 : Bl) (u : World) (N : Bl) (β : Nat → Nat), (acc1 = (if f_within c.traps 0 3 then [] else [1])) ∧ St Try.prog Try.f167.ntmps w0 NoB u N β ⟨[(1, .p 0 0), (3, .v (slv (acc1).length q5.1))], [GT.cells c ()]⟩ ac w ∧ Ow w0 NoB u N F6 acc1 q5) ?_ ?_
  · refine S.c (!(f_within c.traps 0 3)) (fun h8 => ?_) (fun h8 => ?_)
    · have h9 : (f_within c.traps 0 3) = false := not_t h8
      have g10 := within_f h9
      refine RG.start ?_
      refine S.q 1 [1, 9] 1 ⟨[(1, .p 0 0), (9, .v (slv 0 q1.1))], [GT.cells c ()]⟩ .nil ?_; clear S; intro ac w β S
      refine RG.op rfl (S.bs1 (α := Int) (x := 1) (p := ()) (F := NoB) (show In64 1 from ⟨by decide, by decide⟩) (fun b h => False.elim h) (fun b h => False.elim h) (d := 10) (by kernel_rfl) ?_)
      clear S; intro ac w N q11 F12 S up o13 d14
      have d15 : Disj F2 F12 := d14 _ (fun b _ h => False.elim h) o3.sub
      replace o3 := o3.up up
      clear up d14
      refine RG.op rfl (S.appFlat (α := Int) o3 (o13.rn) (fun _ _ h => h) (by' := 8) (d := 11) (lx := 0) (ly := 1) rfl rfl (by kernel_rfl) (show _ ≤ 4194304 by simp only [List.length_append, List.length_cons, List.length_nil]; omega) ?_)
      clear S; intro ac w N q16 F17 S up o18 d19
      have d20 : Disj F12 F17 := d19 _ (Disj.symm d15) o13.sub
      replace o13 := o13.upF (Disj.symm d15) up
      clear up d19
      refine S.q 1 [1, 3] 1 ⟨[(1, .p 0 0), (3, .v (slv ((([] : List Int) ++ [1])).length q16.1))], [GT.cells c ()]⟩ .nil ?_; clear S; intro ac w β S
      refine RG.done rfl ?_
      replace S := S.p [1, 3] 1 ⟨[(1, .p 0 0), (3, .v (slv ((([] : List Int) ++ [1])).length q16.1))], [GT.cells c ()]⟩
      exact ⟨rfl, (([] : List Int) ++ [1]), q16, F17, _, _, _, (by clear S; (first | (rw [if_pos (by assumption)]; simp [*]; done) | (rw [if_neg (by simp [*])]; simp [*]; done) | ((repeat' split) <;> first | rfl | (simp; done) | (exfalso; simp_all; done) | (simp_all; done)))), S.cast (by kernel_rfl), o18⟩
    · have h21 : (f_within c.traps 0 3) = true := not_f h8
      have g22 := within_t h21
      refine wp_skip ?_
      replace S := S.p [1, 3] 1 ⟨[(1, .p 0 0), (3, .v (slv 0 q1.1))], [GT.cells c ()]⟩
      exact ⟨rfl, ([] : List Int), q1, F2, _, _, _, (by clear S; (first | (rw [if_pos (by assumption)]; simp [*]; done) | (rw [if_neg (by simp [*])]; simp [*]; done) | ((repeat' split) <;> first | rfl | (simp; done) | (exfalso; simp_all; done) | (simp_all; done)))), S.cast (by kernel_rfl), o3⟩
  clear S o3
  rintro ac w ⟨acc1, q5, F6, u, N, β, ha1, S, o7⟩
  have hl1 : acc1.length ≤ 1 := by rw [ha1]; (repeat' split) <;> simp
  refine id (nx_then (wp_seq (wp_seq (RG.start ?_))))
  refine S.q 4 [1, 3, 15] 1 ⟨[(1, .p 0 0), (3, .v (slv (acc1).length q5.1)), (15, .v (B (!(f_within c.post 0 255))))], [GT.cells c ()]⟩ (.cons (Q_call fun w hw => c_spec_l01In w c.post 0 255) .nil) ?_; clear S; intro ac w β S
  refine RG.done rfl (nx_then ?_)
  refine wp_region_cut (fun ac w => ∃ (acc2 : List Int) (q23 : GT.Ptr (List Int)) (F24 : Bl) (u : World) (N : Bl) (β : Nat → Nat), (acc2 = (if f_within c.traps 0 3 then [] else [1]) ++ (if f_within c.post 0 255 then [] else [2])) ∧ St Try.prog Try.f167.ntmps w0 NoB u N β ⟨[(1, .p 0 0), (3, .v (slv (acc2).length q23.1))], [GT.cells c ()]⟩ ac w ∧ Ow w0 NoB u N F24 acc2 q23) ?_ ?_
  · refine S.c (!(f_within c.post 0 255)) (fun h26 => ?_) (fun h26 => ?_)
    · have h27 : (f_within c.post 0 255) = false := not_t h26
      have g28 := within_f h27
      refine RG.start ?_
      refine S.q 1 [1, 16] 1 ⟨[(1, .p 0 0), (16, .v (slv (acc1).length q5.1))], [GT.cells c ()]⟩ .nil ?_; clear S; intro ac w β S
      refine RG.op rfl (S.bs1 (α := Int) (x := 2) (p := ()) (F := NoB) (show In64 2 from ⟨by decide, by decide⟩) (fun b h => False.elim h) (fun b h => False.elim h) (d := 17) (by kernel_rfl) ?_)
      clear S; intro ac w N q29 F30 S up o31 d32
      have d33 : Disj F6 F30 := d32 _ (fun b _ h => False.elim h) o7.sub
      replace o7 := o7.up up
      clear up d32
      refine RG.op rfl (S.appFlat (α := Int) o7 (o31.rn) (fun _ _ h => h) (by' := 8) (d := 18) (lx := (acc1).length) (ly := 1) rfl rfl (by kernel_rfl) (show _ ≤ 4194304 by simp only [List.length_append, List.length_cons, List.length_nil]; omega) ?_)
      clear S; intro ac w N q34 F35 S up o36 d37
      have d38 : Disj F30 F35 := d37 _ (Disj.symm d33) o31.sub
      replace o31 := o31.upF (Disj.symm d33) up
      clear up d37
      refine S.q 1 [1, 3] 1 ⟨[(1, .p 0 0), (3, .v (slv ((acc1 ++ [2])).length q34.1))], [GT.cells c ()]⟩ .nil ?_; clear S; intro ac w β S
      refine RG.done rfl ?_
      replace S := S.p [1, 3] 1 ⟨[(1, .p 0 0), (3, .v (slv ((acc1 ++ [2])).length q34.1))], [GT.cells c ()]⟩
      exact ⟨rfl, (acc1 ++ [2]), q34, F35, _, _, _, (by clear S; (first | (rw [if_pos (by assumption)]; simp [*]; done) | (rw [if_neg (by simp [*])]; simp [*]; done) | (rw [ha1]; (repeat' split) <;> first | rfl | (simp; done) | (exfalso; simp_all; done) | (simp_all; done)))), S.cast (by kernel_rfl), o36⟩
    · have h39 : (f_within c.post 0 255) = true := not_f h26
      have g40 := within_t h39
      refine wp_skip ?_
      replace S := S.p [1, 3] 1 ⟨[(1, .p 0 0), (3, .v (slv (acc1).length q5.1))], [GT.cells c ()]⟩
      exact ⟨rfl, acc1, q5, F6, _, _, _, (by clear S; (first | (rw [if_pos (by assumption)]; simp [*]; done) | (rw [if_neg (by simp [*])]; simp [*]; done) | (rw [ha1]; (repeat' split) <;> first | rfl | (simp; done) | (exfalso; simp_all; done) | (simp_all; done)))), S.cast (by kernel_rfl), o7⟩
  clear S o7
  rintro ac w ⟨acc2, q23, F24, u, N, β, ha2, S, o25⟩
  have hl2 : acc2.length ≤ 2 := by rw [ha2]; (repeat' split) <;> simp
  refine id (nx_then (wp_seq (wp_seq (RG.start ?_))))
  refine S.q 4 [1, 3, 22] 1 ⟨[(1, .p 0 0), (3, .v (slv (acc2).length q23.1)), (22, .v (B (c.post != 0)))], [GT.cells c ()]⟩ .nil ?_; clear S; intro ac w β S
  rcases Bool.eq_false_or_eq_true (c.post != 0) with h41 | h41 <;> rw [h41] at S
  · have g42 : ¬ (c.post = 0) := bne_iff_ne.1 h41
    refine S.q 4 [1, 3, 26] 1 ⟨[(1, .p 0 0), (3, .v (slv (acc2).length q23.1)), (26, .v (B (!c.opn)))], [GT.cells c ()]⟩ .nil ?_; clear S; intro ac w β S
    refine RG.done rfl (nx_then ?_)
    refine wp_region_cut (fun ac w => ∃ (acc3 : List Int) (q43 : GT.Ptr (List Int)) (F44 : Bl) (u : World) (N : Bl) (β : Nat → Nat), (acc3 = (if f_within c.traps 0 3 then [] else [1]) ++ (if f_within c.post 0 255 then [] else [2]) ++ (if c.post ≠ 0 ∧ c.opn = false then [3] else [])) ∧ St Try.prog Try.f167.ntmps w0 NoB u N β ⟨[(1, .p 0 0), (3, .v (slv (acc3).length q43.1))], [GT.cells c ()]⟩ ac w ∧ Ow w0 NoB u N F44 acc3 q43) ?_ ?_
    · refine S.c (!c.opn) (fun h46 => ?_) (fun h46 => ?_)
      · have h47 : c.opn = false := not_t h46
        refine RG.start ?_
        refine S.q 1 [1, 27] 1 ⟨[(1, .p 0 0), (27, .v (slv (acc2).length q23.1))], [GT.cells c ()]⟩ .nil ?_; clear S; intro ac w β S
        refine RG.op rfl (S.bs1 (α := Int) (x := 3) (p := ()) (F := NoB) (show In64 3 from ⟨by decide, by decide⟩) (fun b h => False.elim h) (fun b h => False.elim h) (d := 28) (by kernel_rfl) ?_)
        clear S; intro ac w N q48 F49 S up o50 d51
        have d52 : Disj F24 F49 := d51 _ (fun b _ h => False.elim h) o25.sub
        replace o25 := o25.up up
        clear up d51
        refine RG.op rfl (S.appFlat (α := Int) o25 (o50.rn) (fun _ _ h => h) (by' := 8) (d := 29) (lx := (acc2).length) (ly := 1) rfl rfl (by kernel_rfl) (show _ ≤ 4194304 by simp only [List.length_append, List.length_cons, List.length_nil]; omega) ?_)
        clear S; intro ac w N q53 F54 S up o55 d56
        have d57 : Disj F49 F54 := d56 _ (Disj.symm d52) o50.sub
        replace o50 := o50.upF (Disj.symm d52) up
        clear up d56
        refine S.q 1 [1, 3] 1 ⟨[(1, .p 0 0), (3, .v (slv ((acc2 ++ [3])).length q53.1))], [GT.cells c ()]⟩ .nil ?_; clear S; intro ac w β S
        refine RG.done rfl ?_
        replace S := S.p [1, 3] 1 ⟨[(1, .p 0 0), (3, .v (slv ((acc2 ++ [3])).length q53.1))], [GT.cells c ()]⟩
        exact ⟨rfl, (acc2 ++ [3]), q53, F54, _, _, _, (by clear S; (first | (rw [if_pos (by assumption)]; simp [*]; done) | (rw [if_neg (by simp [*])]; simp [*]; done) | (rw [ha2]; (repeat' split) <;> first | rfl | (simp; done) | (exfalso; simp_all; done) | (simp_all; done)))), S.cast (by kernel_rfl), o55⟩
      · have h58 : c.opn = true := not_f h46
        refine wp_skip ?_
        replace S := S.p [1, 3] 1 ⟨[(1, .p 0 0), (3, .v (slv (acc2).length q23.1))], [GT.cells c ()]⟩
        exact ⟨rfl, acc2, q23, F24, _, _, _, (by clear S; (first | (rw [if_pos (by assumption)]; simp [*]; done) | (rw [if_neg (by simp [*])]; simp [*]; done) | (rw [ha2]; (repeat' split) <;> first | rfl | (simp; done) | (exfalso; simp_all; done) | (simp_all; done)))), S.cast (by kernel_rfl), o25⟩
    clear S o25
    rintro ac w ⟨acc3, q43, F44, u, N, β, ha3, S, o45⟩
    have hl3 : acc3.length ≤ 3 := by rw [ha3]; (repeat' split) <;> simp
    refine id (nx_then (wp_seq (wp_seq (RG.start ?_))))
    refine S.q 4 [1, 3, 33] 1 ⟨[(1, .p 0 0), (3, .v (slv (acc3).length q43.1)), (33, .v (B (c.traps == 2)))], [GT.cells c ()]⟩ .nil ?_; clear S; intro ac w β S
    rcases Bool.eq_false_or_eq_true (c.traps == 2) with h59 | h59 <;> rw [h59] at S
    · have g60 : c.traps = 2 := eq_of_beq h59
      refine S.q 4 [3, 37] 0 ⟨[(3, .v (slv (acc3).length q43.1)), (37, .v (B (c.post != 0)))], []⟩ .nil ?_; clear S; intro ac w β S
      refine RG.done rfl (nx_then ?_)
      refine wp_region_cut (fun ac w => ∃ (acc4 : List Int) (q61 : GT.Ptr (List Int)) (F62 : Bl) (u : World) (N : Bl) (β : Nat → Nat), (acc4 = (if f_within c.traps 0 3 then [] else [1]) ++ (if f_within c.post 0 255 then [] else [2]) ++ (if c.post ≠ 0 ∧ c.opn = false then [3] else []) ++ (if c.traps = 2 ∧ c.post ≠ 0 then [4] else [])) ∧ St Try.prog Try.f167.ntmps w0 NoB u N β ⟨[(3, .v (slv (acc4).length q61.1))], []⟩ ac w ∧ Ow w0 NoB u N F62 acc4 q61) ?_ ?_
      · refine S.c (c.post != 0) (fun h64 => ?_) (fun h64 => ?_)
        · have g65 : ¬ (c.post = 0) := bne_iff_ne.1 h64
          refine RG.start ?_
          refine S.q 1 [38] 0 ⟨[(38, .v (slv (acc3).length q43.1))], []⟩ .nil ?_; clear S; intro ac w β S
          refine RG.op rfl (S.bs1 (α := Int) (x := 4) (p := ()) (F := NoB) (show In64 4 from ⟨by decide, by decide⟩) (fun b h => False.elim h) (fun b h => False.elim h) (d := 39) (by kernel_rfl) ?_)
          clear S; intro ac w N q66 F67 S up o68 d69
          have d70 : Disj F44 F67 := d69 _ (fun b _ h => False.elim h) o45.sub
          replace o45 := o45.up up
          clear up d69
          refine RG.op rfl (S.appFlat (α := Int) o45 (o68.rn) (fun _ _ h => h) (by' := 8) (d := 40) (lx := (acc3).length) (ly := 1) rfl rfl (by kernel_rfl) (show _ ≤ 4194304 by simp only [List.length_append, List.length_cons, List.length_nil]; omega) ?_)
          clear S; intro ac w N q71 F72 S up o73 d74
          have d75 : Disj F67 F72 := d74 _ (Disj.symm d70) o68.sub
          replace o68 := o68.upF (Disj.symm d70) up
          clear up d74
          refine S.q 1 [3] 0 ⟨[(3, .v (slv ((acc3 ++ [4])).length q71.1))], []⟩ .nil ?_; clear S; intro ac w β S
          refine RG.done rfl ?_
          replace S := S.p [3] 0 ⟨[(3, .v (slv ((acc3 ++ [4])).length q71.1))], []⟩
          exact ⟨rfl, (acc3 ++ [4]), q71, F72, _, _, _, (by clear S; (first | (rw [if_pos (by assumption)]; simp [*]; done) | (rw [if_neg (by simp [*])]; simp [*]; done) | (rw [ha3]; (repeat' split) <;> first | rfl | (simp; done) | (exfalso; simp_all; done) | (simp_all; done)))), S.cast (by kernel_rfl), o73⟩
        · have g76 : c.post = 0 := ne_f h64
          refine wp_skip ?_
          replace S := S.p [3] 0 ⟨[(3, .v (slv (acc3).length q43.1))], []⟩
          exact ⟨rfl, acc3, q43, F44, _, _, _, (by clear S; (first | (rw [if_pos (by assumption)]; simp [*]; done) | (rw [if_neg (by simp [*])]; simp [*]; done) | (rw [ha3]; (repeat' split) <;> first | rfl | (simp; done) | (exfalso; simp_all; done) | (simp_all; done)))), S.cast (by kernel_rfl), o45⟩
      clear S o45
      rintro ac w ⟨acc4, q61, F62, u, N, β, ha4, S, o63⟩
      have hl4 : acc4.length ≤ 4 := by rw [ha4]; (repeat' split) <;> simp
      refine id (nx_then (wp_seq (RG.start ?_)))
      refine S.q 2 [2] 0 ⟨[(2, .v (slv (acc4).length q61.1))], []⟩ .nil ?_; clear S; intro ac w β S
      refine RG.done rfl (nx_then (wp_ret ?_))
      refine S.r [slv (acc4).length q61.1] ?_
      exact ret1_of S (show f_ctlFaults c = acc4 by clear S; (rw [ha4]; rfl)) rfl o63
    · have g77 : ¬ (c.traps = 2) := ne_of_beq_false h59
      refine S.q 4 [3, 37] 0 ⟨[(3, .v (slv (acc3).length q43.1)), (37, .v (B false))], []⟩ .nil ?_; clear S; intro ac w β S
      refine RG.done rfl (nx_then ?_)
      refine wp_region_cut (fun ac w => ∃ (acc4 : List Int) (q78 : GT.Ptr (List Int)) (F79 : Bl) (u : World) (N : Bl) (β : Nat → Nat), (acc4 = (if f_within c.traps 0 3 then [] else [1]) ++ (if f_within c.post 0 255 then [] else [2]) ++ (if c.post ≠ 0 ∧ c.opn = false then [3] else []) ++ (if c.traps = 2 ∧ c.post ≠ 0 then [4] else [])) ∧ St Try.prog Try.f167.ntmps w0 NoB u N β ⟨[(3, .v (slv (acc4).length q78.1))], []⟩ ac w ∧ Ow w0 NoB u N F79 acc4 q78) ?_ ?_
      · refine S.c false (fun hx => by cases hx) (fun _ => ?_)
        refine wp_skip ?_
        replace S := S.p [3] 0 ⟨[(3, .v (slv (acc3).length q43.1))], []⟩
        exact ⟨rfl, acc3, q43, F44, _, _, _, (by clear S; (first | (rw [if_pos (by assumption)]; simp [*]; done) | (rw [if_neg (by simp [*])]; simp [*]; done) | (rw [ha3]; (repeat' split) <;> first | rfl | (simp; done) | (exfalso; simp_all; done) | (simp_all; done)))), S.cast (by kernel_rfl), o45⟩
      clear S o45
      rintro ac w ⟨acc4, q78, F79, u, N, β, ha4, S, o80⟩
      have hl4 : acc4.length ≤ 4 := by rw [ha4]; (repeat' split) <;> simp
      refine id (nx_then (wp_seq (RG.start ?_)))
      refine S.q 2 [2] 0 ⟨[(2, .v (slv (acc4).length q78.1))], []⟩ .nil ?_; clear S; intro ac w β S
      refine RG.done rfl (nx_then (wp_ret ?_))
      refine S.r [slv (acc4).length q78.1] ?_
      exact ret1_of S (show f_ctlFaults c = acc4 by clear S; (rw [ha4]; rfl)) rfl o80
  · have g81 : c.post = 0 := ne_f h41
    refine S.q 4 [1, 3, 26] 1 ⟨[(1, .p 0 0), (3, .v (slv (acc2).length q23.1)), (26, .v (B false))], [GT.cells c ()]⟩ .nil ?_; clear S; intro ac w β S
    refine RG.done rfl (nx_then ?_)
    refine wp_region_cut (fun ac w => ∃ (acc3 : List Int) (q82 : GT.Ptr (List Int)) (F83 : Bl) (u : World) (N : Bl) (β : Nat → Nat), (acc3 = (if f_within c.traps 0 3 then [] else [1]) ++ (if f_within c.post 0 255 then [] else [2]) ++ (if c.post ≠ 0 ∧ c.opn = false then [3] else [])) ∧ St Try.prog Try.f167.ntmps w0 NoB u N β ⟨[(1, .p 0 0), (3, .v (slv (acc3).length q82.1))], [GT.cells c ()]⟩ ac w ∧ Ow w0 NoB u N F83 acc3 q82) ?_ ?_
    · refine S.c false (fun hx => by cases hx) (fun _ => ?_)
      refine wp_skip ?_
      replace S := S.p [1, 3] 1 ⟨[(1, .p 0 0), (3, .v (slv (acc2).length q23.1))], [GT.cells c ()]⟩
      exact ⟨rfl, acc2, q23, F24, _, _, _, (by clear S; (first | (rw [if_pos (by assumption)]; simp [*]; done) | (rw [if_neg (by simp [*])]; simp [*]; done) | (rw [ha2]; (repeat' split) <;> first | rfl | (simp; done) | (exfalso; simp_all; done) | (simp_all; done)))), S.cast (by kernel_rfl), o25⟩
    clear S o25
    rintro ac w ⟨acc3, q82, F83, u, N, β, ha3, S, o84⟩
    have hl3 : acc3.length ≤ 3 := by rw [ha3]; (repeat' split) <;> simp
    refine id (nx_then (wp_seq (wp_seq (RG.start ?_))))
    refine S.q 4 [1, 3, 33] 1 ⟨[(1, .p 0 0), (3, .v (slv (acc3).length q82.1)), (33, .v (B (c.traps == 2)))], [GT.cells c ()]⟩ .nil ?_; clear S; intro ac w β S
    rcases Bool.eq_false_or_eq_true (c.traps == 2) with h85 | h85 <;> rw [h85] at S
    · have g86 : c.traps = 2 := eq_of_beq h85
      refine S.q 4 [3, 37] 0 ⟨[(3, .v (slv (acc3).length q82.1)), (37, .v (B (c.post != 0)))], []⟩ .nil ?_; clear S; intro ac w β S
      refine RG.done rfl (nx_then ?_)
      refine wp_region_cut (fun ac w => ∃ (acc4 : List Int) (q87 : GT.Ptr (List Int)) (F88 : Bl) (u : World) (N : Bl) (β : Nat → Nat), (acc4 = (if f_within c.traps 0 3 then [] else [1]) ++ (if f_within c.post 0 255 then [] else [2]) ++ (if c.post ≠ 0 ∧ c.opn = false then [3] else []) ++ (if c.traps = 2 ∧ c.post ≠ 0 then [4] else [])) ∧ St Try.prog Try.f167.ntmps w0 NoB u N β ⟨[(3, .v (slv (acc4).length q87.1))], []⟩ ac w ∧ Ow w0 NoB u N F88 acc4 q87) ?_ ?_
      · refine S.c (c.post != 0) (fun h90 => ?_) (fun h90 => ?_)
        · have g91 : ¬ (c.post = 0) := bne_iff_ne.1 h90
          refine RG.start ?_
          refine S.q 1 [38] 0 ⟨[(38, .v (slv (acc3).length q82.1))], []⟩ .nil ?_; clear S; intro ac w β S
          refine RG.op rfl (S.bs1 (α := Int) (x := 4) (p := ()) (F := NoB) (show In64 4 from ⟨by decide, by decide⟩) (fun b h => False.elim h) (fun b h => False.elim h) (d := 39) (by kernel_rfl) ?_)
          clear S; intro ac w N q92 F93 S up o94 d95
          have d96 : Disj F83 F93 := d95 _ (fun b _ h => False.elim h) o84.sub
          replace o84 := o84.up up
          clear up d95
          refine RG.op rfl (S.appFlat (α := Int) o84 (o94.rn) (fun _ _ h => h) (by' := 8) (d := 40) (lx := (acc3).length) (ly := 1) rfl rfl (by kernel_rfl) (show _ ≤ 4194304 by simp only [List.length_append, List.length_cons, List.length_nil]; omega) ?_)
          clear S; intro ac w N q97 F98 S up o99 d100
          have d101 : Disj F93 F98 := d100 _ (Disj.symm d96) o94.sub
          replace o94 := o94.upF (Disj.symm d96) up
          clear up d100
          refine S.q 1 [3] 0 ⟨[(3, .v (slv ((acc3 ++ [4])).length q97.1))], []⟩ .nil ?_; clear S; intro ac w β S
          refine RG.done rfl ?_
          replace S := S.p [3] 0 ⟨[(3, .v (slv ((acc3 ++ [4])).length q97.1))], []⟩
          exact ⟨rfl, (acc3 ++ [4]), q97, F98, _, _, _, (by clear S; (first | (rw [if_pos (by assumption)]; simp [*]; done) | (rw [if_neg (by simp [*])]; simp [*]; done) | (rw [ha3]; (repeat' split) <;> first | rfl | (simp; done) | (exfalso; simp_all; done) | (simp_all; done)))), S.cast (by kernel_rfl), o99⟩
        · have g102 : c.post = 0 := ne_f h90
          refine wp_skip ?_
          replace S := S.p [3] 0 ⟨[(3, .v (slv (acc3).length q82.1))], []⟩
          exact ⟨rfl, acc3, q82, F83, _, _, _, (by clear S; (first | (rw [if_pos (by assumption)]; simp [*]; done) | (rw [if_neg (by simp [*])]; simp [*]; done) | (rw [ha3]; (repeat' split) <;> first | rfl | (simp; done) | (exfalso; simp_all; done) | (simp_all; done)))), S.cast (by kernel_rfl), o84⟩
      clear S o84
      rintro ac w ⟨acc4, q87, F88, u, N, β, ha4, S, o89⟩
      have hl4 : acc4.length ≤ 4 := by rw [ha4]; (repeat' split) <;> simp
      refine id (nx_then (wp_seq (RG.start ?_)))
      refine S.q 2 [2] 0 ⟨[(2, .v (slv (acc4).length q87.1))], []⟩ .nil ?_; clear S; intro ac w β S
      refine RG.done rfl (nx_then (wp_ret ?_))
      refine S.r [slv (acc4).length q87.1] ?_
      exact ret1_of S (show f_ctlFaults c = acc4 by clear S; (rw [ha4]; rfl)) rfl o89
    · have g103 : ¬ (c.traps = 2) := ne_of_beq_false h85
      refine S.q 4 [3, 37] 0 ⟨[(3, .v (slv (acc3).length q82.1)), (37, .v (B false))], []⟩ .nil ?_; clear S; intro ac w β S
      refine RG.done rfl (nx_then ?_)
      refine wp_region_cut (fun ac w => ∃ (acc4 : List Int) (q104 : GT.Ptr (List Int)) (F105 : Bl) (u : World) (N : Bl) (β : Nat → Nat), (acc4 = (if f_within c.traps 0 3 then [] else [1]) ++ (if f_within c.post 0 255 then [] else [2]) ++ (if c.post ≠ 0 ∧ c.opn = false then [3] else []) ++ (if c.traps = 2 ∧ c.post ≠ 0 then [4] else [])) ∧ St Try.prog Try.f167.ntmps w0 NoB u N β ⟨[(3, .v (slv (acc4).length q104.1))], []⟩ ac w ∧ Ow w0 NoB u N F105 acc4 q104) ?_ ?_
      · refine S.c false (fun hx => by cases hx) (fun _ => ?_)
        refine wp_skip ?_
        replace S := S.p [3] 0 ⟨[(3, .v (slv (acc3).length q82.1))], []⟩
        exact ⟨rfl, acc3, q82, F83, _, _, _, (by clear S; (first | (rw [if_pos (by assumption)]; simp [*]; done) | (rw [if_neg (by simp [*])]; simp [*]; done) | (rw [ha3]; (repeat' split) <;> first | rfl | (simp; done) | (exfalso; simp_all; done) | (simp_all; done)))), S.cast (by kernel_rfl), o84⟩
      clear S o84
      rintro ac w ⟨acc4, q104, F105, u, N, β, ha4, S, o106⟩
      have hl4 : acc4.length ≤ 4 := by rw [ha4]; (repeat' split) <;> simp
      refine id (nx_then (wp_seq (RG.start ?_)))
      refine S.q 2 [2] 0 ⟨[(2, .v (slv (acc4).length q104.1))], []⟩ .nil ?_; clear S; intro ac w β S
      refine RG.done rfl (nx_then (wp_ret ?_))
      refine S.r [slv (acc4).length q104.1] ?_
      exact ret1_of S (show f_ctlFaults c = acc4 by clear S; (rw [ha4]; rfl)) rfl o106

set_option maxRecDepth 100000 in
theorem c_spec_CtlOk (w0 : World) (c : TCtl) : Calls Try.prog 147 [GT.val c ()].toArray w0 (fun e w' => e = .returned (B (f_ctlOk c)) ∧ Chg NoB w0 w') := by
  refine Calls.walk (args := [GT.val c ()]) NoB Try.func147 rfl rfl ?_
  intro ac β S
  refine wp_seq (RG.start ?_)
  refine S.q 2 [1] 1 ⟨[(1, .p 0 0)], [GT.cells c ()]⟩ .nil ?_; clear S; intro ac w β S
  refine RG.done rfl (nx_then (wp_seq (RG.start ?_)))
  refine S.q 1 [3] 0 ⟨[(3, .v (GT.val c ()))], []⟩ .nil ?_; clear S; intro ac w β S
  refine RG.op rfl (S.call1 (r := f_ctlFaults c) (d := 4) (c_spec_CtlFaults w c) (by kernel_rfl) rfl ?_)
  clear S; intro ac w N q1 F2 S up o3 d4
  clear up d4
  refine S.q 3 [2] 0 ⟨[(2, .v (B ((((f_ctlFaults c)).length : Int) == 0)))], []⟩ .nil ?_; clear S; intro ac w β S
  refine RG.done rfl (nx_then (wp_ret ?_))
  refine S.r [B ((((f_ctlFaults c)).length : Int) == 0)] ?_
  exact ⟨retB (by clear S; first | rfl | (simp [f_ctlOk, *]; done) | (simp [f_ctlOk, *]; omega) | (simp_all [f_ctlOk]; done) | (simp_all [f_ctlOk]; omega)), S.chg⟩

set_option maxRecDepth 100000 in
theorem c_spec_PendOk (w0 : World) (p : Int) : Calls Try.prog 119 [I p].toArray w0 (fun e w' => e = .returned (B (f_within p 0 255)) ∧ Chg NoB w0 w') := by
  refine Calls.walk (args := [I p]) NoB Try.func119 rfl rfl ?_
  intro ac β S
  refine wp_seq (RG.start ?_)
  refine S.q 1 [0] 0 ⟨[(0, .v (I p))], []⟩ .nil ?_; clear S; intro ac w β S
  refine RG.done rfl (nx_then (wp_seq (RG.start ?_)))
  refine S.q 3 [2] 0 ⟨[(2, .v (B (f_within p 0 255)))], []⟩ (.cons (Q_call fun w hw => c_spec_l01In w p 0 255) .nil) ?_; clear S; intro ac w β S
  refine RG.done rfl (nx_then (wp_ret ?_))
  refine S.r [B (f_within p 0 255)] ?_
  exact ⟨retB (by clear S; first | rfl | (simp [f_within, *]; done) | (simp [f_within, *]; omega) | (simp_all [f_within]; done) | (simp_all [f_within]; omega)), S.chg⟩

set_option maxRecDepth 100000 in
theorem c_spec_ExitOk (w0 : World) (x : TExit) : Calls Try.prog 148 [GT.val x ()].toArray w0 (fun e w' => e = .returned (B (f_exitOk x)) ∧ Chg NoB w0 w') := by
  refine Calls.walk (args := [GT.val x ()]) NoB Try.func148 rfl rfl ?_
  intro ac β S
  refine wp_seq (RG.start ?_)
  refine S.q 2 [1] 1 ⟨[(1, .p 0 0)], [GT.cells x ()]⟩ .nil ?_; clear S; intro ac w β S
  refine RG.done rfl (nx_then (wp_seq (wp_seq (RG.start ?_))))
  refine S.q 2 [1, 4] 1 ⟨[(1, .p 0 0), (4, .v (I x.kind))], [GT.cells x ()]⟩ .nil ?_; clear S; intro ac w β S
  refine RG.done rfl (nx_then (wp_block (wp_seq (wp_seq (RG.start ?_)))))
  refine S.q 2 [1, 4, 5] 1 ⟨[(1, .p 0 0), (4, .v (I x.kind)), (5, .v (B (x.kind == 0)))], [GT.cells x ()]⟩ .nil ?_; clear S; intro ac w β S
  refine RG.done rfl (nx_then ?_)
  refine S.c (x.kind == 0) (fun h1 => ?_) (fun h1 => ?_)
  · rw [h1] at S
    have g2 : x.kind = 0 := eq_of_beq h1
    refine wp_skip (nx_then ?_)
    refine S.c true (fun _ => ?_) (fun hx => by cases hx)
    refine wp_seq (RG.start ?_)
    refine S.q 6 [2] 0 ⟨[(2, .v (B (decide (x = (⟨x.kind, 0, false, 0⟩ : TExit)))))], []⟩ (.cons (Q_sem (s := Instr.build 115 [(0, I x.kind)].toArray) (v := .agg [I x.kind, I 0, B false, I 0].toArray) (fun w => by kernel_rfl)) (.cons (Eq_eq_Exit (t := 115) x (⟨x.kind, 0, false, 0⟩ : TExit) (by kernel_rfl)) .nil)) ?_; clear S; intro ac w β S
    refine RG.done rfl (nx_then (wp_ret (rt_block (rt_then ?_))))
    refine S.r [B (decide (x = (⟨x.kind, 0, false, 0⟩ : TExit)))] ?_
    exact ⟨retB (by clear S; (unfold f_exitOk; (repeat' split) <;> first | rfl | (exfalso; simp_all; done) | (exfalso; omega) | (rw [Bool.eq_iff_iff]; simp [TExit.ext_iff, *]; done) | (rw [Bool.eq_iff_iff]; simp_all [TExit.ext_iff, and_assoc]; done) | (rw [Bool.eq_iff_iff]; simp_all [TExit.ext_iff, and_assoc]; omega))), S.chg⟩
  · have g3 : ¬ (x.kind = 0) := ne_of_beq_false h1
    refine RG.start ?_
    refine S.q 2 [1, 4, 5] 1 ⟨[(1, .p 0 0), (4, .v (I x.kind)), (5, .v (B (x.kind == 4)))], [GT.cells x ()]⟩ .nil ?_; clear S; intro ac w β S
    refine RG.done rfl (nx_then ?_)
    refine S.c (x.kind == 4) (fun h4 => ?_) (fun h4 => ?_)
    · have g5 : x.kind = 4 := eq_of_beq h4
      refine wp_seq (RG.start ?_)
      refine S.q 6 [2] 0 ⟨[(2, .v (B (decide (x = (⟨x.kind, 0, false, 0⟩ : TExit)))))], []⟩ (.cons (Q_sem (s := Instr.build 115 [(0, I x.kind)].toArray) (v := .agg [I x.kind, I 0, B false, I 0].toArray) (fun w => by kernel_rfl)) (.cons (Eq_eq_Exit (t := 115) x (⟨x.kind, 0, false, 0⟩ : TExit) (by kernel_rfl)) .nil)) ?_; clear S; intro ac w β S
      refine RG.done rfl (nx_then (wp_ret (rt_block (rt_then ?_))))
      refine S.r [B (decide (x = (⟨x.kind, 0, false, 0⟩ : TExit)))] ?_
      exact ⟨retB (by clear S; (unfold f_exitOk; (repeat' split) <;> first | rfl | (exfalso; simp_all; done) | (exfalso; omega) | (rw [Bool.eq_iff_iff]; simp [TExit.ext_iff, *]; done) | (rw [Bool.eq_iff_iff]; simp_all [TExit.ext_iff, and_assoc]; done) | (rw [Bool.eq_iff_iff]; simp_all [TExit.ext_iff, and_assoc]; omega))), S.chg⟩
    · have g6 : ¬ (x.kind = 4) := ne_of_beq_false h4
      refine wp_seq (RG.start ?_)
      refine S.q 2 [1, 4, 13] 1 ⟨[(1, .p 0 0), (4, .v (I x.kind)), (13, .v (B (x.kind == 1)))], [GT.cells x ()]⟩ .nil ?_; clear S; intro ac w β S
      refine RG.done rfl (nx_then ?_)
      refine S.c (x.kind == 1) (fun h7 => ?_) (fun h7 => ?_)
      · have g8 : x.kind = 1 := eq_of_beq h7
        refine wp_seq (RG.start ?_)
        refine S.q 4 [1, 18] 1 ⟨[(1, .p 0 0), (18, .v (B (f_within x.page 0 3)))], [GT.cells x ()]⟩ (.cons (Q_call fun w hw => c_spec_l01In w x.page 0 3) .nil) ?_; clear S; intro ac w β S
        rcases Bool.eq_false_or_eq_true (f_within x.page 0 3) with h9 | h9 <;> rw [h9] at S
        · have g10 := within_t h9
          refine S.q 5 [2] 0 ⟨[(2, .v (B (x.n == 0)))], []⟩ .nil ?_; clear S; intro ac w β S
          refine RG.done rfl (nx_then (wp_ret (rt_block (rt_then ?_))))
          refine S.r [B (x.n == 0)] ?_
          exact ⟨retB (by clear S; (unfold f_exitOk; (repeat' split) <;> first | rfl | (exfalso; simp_all; done) | (exfalso; omega) | (rw [Bool.eq_iff_iff]; simp [TExit.ext_iff, *]; done) | (rw [Bool.eq_iff_iff]; simp_all [TExit.ext_iff, and_assoc]; done) | (rw [Bool.eq_iff_iff]; simp_all [TExit.ext_iff, and_assoc]; omega))), S.chg⟩
        · have g11 := within_f h9
          refine S.q 5 [2] 0 ⟨[(2, .v (B false))], []⟩ .nil ?_; clear S; intro ac w β S
          refine RG.done rfl (nx_then (wp_ret (rt_block (rt_then ?_))))
          refine S.r [B false] ?_
          exact ⟨retB (by clear S; (unfold f_exitOk; (repeat' split) <;> first | rfl | (exfalso; simp_all; done) | (exfalso; omega) | (rw [Bool.eq_iff_iff]; simp [TExit.ext_iff, *]; done) | (rw [Bool.eq_iff_iff]; simp_all [TExit.ext_iff, and_assoc]; done) | (rw [Bool.eq_iff_iff]; simp_all [TExit.ext_iff, and_assoc]; omega))), S.chg⟩
      · have g12 : ¬ (x.kind = 1) := ne_of_beq_false h7
        refine wp_seq (wp_seq (RG.start ?_))
        refine S.q 2 [1, 4, 23] 1 ⟨[(1, .p 0 0), (4, .v (I x.kind)), (23, .v (B (x.kind == 2)))], [GT.cells x ()]⟩ .nil ?_; clear S; intro ac w β S
        refine RG.done rfl (nx_then ?_)
        refine S.c (x.kind == 2) (fun h13 => ?_) (fun h13 => ?_)
        · rw [h13] at S
          have g14 : x.kind = 2 := eq_of_beq h13
          refine wp_skip (nx_then ?_)
          refine S.c true (fun _ => ?_) (fun hx => by cases hx)
          refine wp_seq (RG.start ?_)
          refine S.q 4 [1, 29] 1 ⟨[(1, .p 0 0), (29, .v (B (f_within x.n 0 99)))], [GT.cells x ()]⟩ (.cons (Q_call fun w hw => c_spec_l01In w x.n 0 99) .nil) ?_; clear S; intro ac w β S
          rcases Bool.eq_false_or_eq_true (f_within x.n 0 99) with h15 | h15 <;> rw [h15] at S
          · have g16 := within_t h15
            refine S.q 5 [1, 34] 1 ⟨[(1, .p 0 0), (34, .v (B (x.page == 0)))], [GT.cells x ()]⟩ .nil ?_; clear S; intro ac w β S
            rcases Bool.eq_false_or_eq_true (x.page == 0) with h17 | h17 <;> rw [h17] at S
            · have g18 : x.page = 0 := eq_of_beq h17
              refine S.q 5 [2] 0 ⟨[(2, .v (B (!x.wr)))], []⟩ .nil ?_; clear S; intro ac w β S
              refine RG.done rfl (nx_then (wp_ret (rt_block (rt_then ?_))))
              refine S.r [B (!x.wr)] ?_
              exact ⟨retB (by clear S; (unfold f_exitOk; (repeat' split) <;> first | rfl | (exfalso; simp_all; done) | (exfalso; omega) | (rw [Bool.eq_iff_iff]; simp [TExit.ext_iff, *]; done) | (rw [Bool.eq_iff_iff]; simp_all [TExit.ext_iff, and_assoc]; done) | (rw [Bool.eq_iff_iff]; simp_all [TExit.ext_iff, and_assoc]; omega))), S.chg⟩
            · have g19 : ¬ (x.page = 0) := ne_of_beq_false h17
              refine S.q 5 [2] 0 ⟨[(2, .v (B false))], []⟩ .nil ?_; clear S; intro ac w β S
              refine RG.done rfl (nx_then (wp_ret (rt_block (rt_then ?_))))
              refine S.r [B false] ?_
              exact ⟨retB (by clear S; (unfold f_exitOk; (repeat' split) <;> first | rfl | (exfalso; simp_all; done) | (exfalso; omega) | (rw [Bool.eq_iff_iff]; simp [TExit.ext_iff, *]; done) | (rw [Bool.eq_iff_iff]; simp_all [TExit.ext_iff, and_assoc]; done) | (rw [Bool.eq_iff_iff]; simp_all [TExit.ext_iff, and_assoc]; omega))), S.chg⟩
          · have g20 := within_f h15
            refine S.q 10 [2] 0 ⟨[(2, .v (B false))], []⟩ .nil ?_; clear S; intro ac w β S
            refine RG.done rfl (nx_then (wp_ret (rt_block (rt_then ?_))))
            refine S.r [B false] ?_
            exact ⟨retB (by clear S; (unfold f_exitOk; (repeat' split) <;> first | rfl | (exfalso; simp_all; done) | (exfalso; omega) | (rw [Bool.eq_iff_iff]; simp [TExit.ext_iff, *]; done) | (rw [Bool.eq_iff_iff]; simp_all [TExit.ext_iff, and_assoc]; done) | (rw [Bool.eq_iff_iff]; simp_all [TExit.ext_iff, and_assoc]; omega))), S.chg⟩
        · have g21 : ¬ (x.kind = 2) := ne_of_beq_false h13
          refine RG.start ?_
          refine S.q 2 [1, 23] 1 ⟨[(1, .p 0 0), (23, .v (B (x.kind == 3)))], [GT.cells x ()]⟩ .nil ?_; clear S; intro ac w β S
          refine RG.done rfl (nx_then ?_)
          refine S.c (x.kind == 3) (fun h22 => ?_) (fun h22 => ?_)
          · have g23 : x.kind = 3 := eq_of_beq h22
            refine wp_seq (RG.start ?_)
            refine S.q 4 [1, 29] 1 ⟨[(1, .p 0 0), (29, .v (B (f_within x.n 0 99)))], [GT.cells x ()]⟩ (.cons (Q_call fun w hw => c_spec_l01In w x.n 0 99) .nil) ?_; clear S; intro ac w β S
            rcases Bool.eq_false_or_eq_true (f_within x.n 0 99) with h24 | h24 <;> rw [h24] at S
            · have g25 := within_t h24
              refine S.q 5 [1, 34] 1 ⟨[(1, .p 0 0), (34, .v (B (x.page == 0)))], [GT.cells x ()]⟩ .nil ?_; clear S; intro ac w β S
              rcases Bool.eq_false_or_eq_true (x.page == 0) with h26 | h26 <;> rw [h26] at S
              · have g27 : x.page = 0 := eq_of_beq h26
                refine S.q 5 [2] 0 ⟨[(2, .v (B (!x.wr)))], []⟩ .nil ?_; clear S; intro ac w β S
                refine RG.done rfl (nx_then (wp_ret (rt_block (rt_then ?_))))
                refine S.r [B (!x.wr)] ?_
                exact ⟨retB (by clear S; (unfold f_exitOk; (repeat' split) <;> first | rfl | (exfalso; simp_all; done) | (exfalso; omega) | (rw [Bool.eq_iff_iff]; simp [TExit.ext_iff, *]; done) | (rw [Bool.eq_iff_iff]; simp_all [TExit.ext_iff, and_assoc]; done) | (rw [Bool.eq_iff_iff]; simp_all [TExit.ext_iff, and_assoc]; omega))), S.chg⟩
              · have g28 : ¬ (x.page = 0) := ne_of_beq_false h26
                refine S.q 5 [2] 0 ⟨[(2, .v (B false))], []⟩ .nil ?_; clear S; intro ac w β S
                refine RG.done rfl (nx_then (wp_ret (rt_block (rt_then ?_))))
                refine S.r [B false] ?_
                exact ⟨retB (by clear S; (unfold f_exitOk; (repeat' split) <;> first | rfl | (exfalso; simp_all; done) | (exfalso; omega) | (rw [Bool.eq_iff_iff]; simp [TExit.ext_iff, *]; done) | (rw [Bool.eq_iff_iff]; simp_all [TExit.ext_iff, and_assoc]; done) | (rw [Bool.eq_iff_iff]; simp_all [TExit.ext_iff, and_assoc]; omega))), S.chg⟩
            · have g29 := within_f h24
              refine S.q 10 [2] 0 ⟨[(2, .v (B false))], []⟩ .nil ?_; clear S; intro ac w β S
              refine RG.done rfl (nx_then (wp_ret (rt_block (rt_then ?_))))
              refine S.r [B false] ?_
              exact ⟨retB (by clear S; (unfold f_exitOk; (repeat' split) <;> first | rfl | (exfalso; simp_all; done) | (exfalso; omega) | (rw [Bool.eq_iff_iff]; simp [TExit.ext_iff, *]; done) | (rw [Bool.eq_iff_iff]; simp_all [TExit.ext_iff, and_assoc]; done) | (rw [Bool.eq_iff_iff]; simp_all [TExit.ext_iff, and_assoc]; omega))), S.chg⟩
          · have g30 : ¬ (x.kind = 3) := ne_of_beq_false h22
            refine wp_skip (nx_block (nx_then (wp_seq (RG.start ?_))))
            refine S.q 1 [2] 0 ⟨[(2, .v (B false))], []⟩ .nil ?_; clear S; intro ac w β S
            refine RG.done rfl (nx_then (wp_ret ?_))
            refine S.r [B false] ?_
            exact ⟨retB (by clear S; (unfold f_exitOk; (repeat' split) <;> first | rfl | (exfalso; simp_all; done) | (exfalso; omega) | (rw [Bool.eq_iff_iff]; simp [TExit.ext_iff, *]; done) | (rw [Bool.eq_iff_iff]; simp_all [TExit.ext_iff, and_assoc]; done) | (rw [Bool.eq_iff_iff]; simp_all [TExit.ext_iff, and_assoc]; omega))), S.chg⟩

set_option maxRecDepth 100000 in
theorem c_spec_GuestOk (w0 : World) (g : TGuest) (pg : PGuest) (hg : GT.rd KK (Lt w0.heap.size) w0 g pg) : Calls Try.prog 117 [GT.val g pg].toArray w0 (fun e w' => e = .returned (B (f_guestOk g)) ∧ Chg NoB w0 w') := by
  refine Calls.walk (args := [GT.val g pg]) NoB Try.func117 rfl rfl ?_
  intro ac β S
  have hleg_prog : g.prog.length ≤ 4194304 := LRd.le (RGuest.prog (d := g) hg)
  have hleg_written : g.written.length ≤ 4194304 := LRd.le (RGuest.written (d := g) hg)
  have hleg_live : g.live.length ≤ 4194304 := LRd.le (RGuest.live (d := g) hg)
  have hleg_seen : g.seen.length ≤ 4194304 := LRd.le (RGuest.seen (d := g) hg)
  refine wp_seq (RG.start ?_)
  refine S.q 2 [1] 1 ⟨[(1, .p 0 0)], [GT.cells g pg]⟩ .nil ?_; clear S; intro ac w β S
  refine RG.done rfl (nx_then (wp_seq (RG.start ?_)))
  refine S.q 4 [1, 6] 1 ⟨[(1, .p 0 0), (6, .v (B (f_progOk g.prog)))], [GT.cells g pg]⟩ (.cons (Q_call fun w hw => c_spec_ProgOk w g.prog pg.prog (rd_of (RGuest.prog (d := g) (S.arg hg)) hw)) .nil) ?_; clear S; intro ac w β S
  rcases Bool.eq_false_or_eq_true (f_progOk g.prog) with h1 | h1 <;> rw [h1] at S
  · refine S.q 5 [1, 11] 1 ⟨[(1, .p 0 0), (11, .v (B (f_within g.acc 0 99)))], [GT.cells g pg]⟩ (.cons (Q_call fun w hw => c_spec_l01In w g.acc 0 99) .nil) ?_; clear S; intro ac w β S
    rcases Bool.eq_false_or_eq_true (f_within g.acc 0 99) with h2 | h2 <;> rw [h2] at S
    · have g3 := within_t h2
      refine S.q 5 [1, 16] 1 ⟨[(1, .p 0 0), (16, .v (B (f_within g.pc 0 12)))], [GT.cells g pg]⟩ (.cons (Q_call fun w hw => c_spec_l01In w g.pc 0 12) .nil) ?_; clear S; intro ac w β S
      rcases Bool.eq_false_or_eq_true (f_within g.pc 0 12) with h4 | h4 <;> rw [h4] at S
      · have g5 := within_t h4
        refine S.q 5 [1, 21] 1 ⟨[(1, .p 0 0), (21, .v (B (f_tableOk g.written 4 8)))], [GT.cells g pg]⟩ (.cons (Q_call fun w hw => c_spec_TableOk w g.written pg.written (rd_of (RGuest.written (d := g) (S.arg hg)) hw) 4 8 (by omega) (by omega)) .nil) ?_; clear S; intro ac w β S
        rcases Bool.eq_false_or_eq_true (f_tableOk g.written 4 8) with h6 | h6 <;> rw [h6] at S
        · have g7 := tableOk_t h6
          refine S.q 5 [1, 26] 1 ⟨[(1, .p 0 0), (26, .v (B (f_tableOk g.live 4 8)))], [GT.cells g pg]⟩ (.cons (Q_call fun w hw => c_spec_TableOk w g.live pg.live (rd_of (RGuest.live (d := g) (S.arg hg)) hw) 4 8 (by omega) (by omega)) .nil) ?_; clear S; intro ac w β S
          rcases Bool.eq_false_or_eq_true (f_tableOk g.live 4 8) with h8 | h8 <;> rw [h8] at S
          · have g9 := tableOk_t h8
            refine S.q 5 [1, 31] 1 ⟨[(1, .p 0 0), (31, .v (B (f_ctlOk g.ctl)))], [GT.cells g pg]⟩ (.cons (Q_call fun w hw => c_spec_CtlOk w g.ctl) .nil) ?_; clear S; intro ac w β S
            rcases Bool.eq_false_or_eq_true (f_ctlOk g.ctl) with h10 | h10 <;> rw [h10] at S
            · refine S.q 5 [1, 36] 1 ⟨[(1, .p 0 0), (36, .v (B (f_within g.pend 0 255)))], [GT.cells g pg]⟩ (.cons (Q_call fun w hw => c_spec_PendOk w g.pend) .nil) ?_; clear S; intro ac w β S
              rcases Bool.eq_false_or_eq_true (f_within g.pend 0 255) with h11 | h11 <;> rw [h11] at S
              · have g12 := within_t h11
                refine S.q 5 [1, 41] 1 ⟨[(1, .p 0 0), (41, .v (B (f_exitOk g.exit)))], [GT.cells g pg]⟩ (.cons (Q_call fun w hw => c_spec_ExitOk w g.exit) .nil) ?_; clear S; intro ac w β S
                rcases Bool.eq_false_or_eq_true (f_exitOk g.exit) with h13 | h13 <;> rw [h13] at S
                · refine S.q 6 [2] 0 ⟨[(2, .v (B (decide (((g.seen).length : Int) ≤ 40))))], []⟩ .nil ?_; clear S; intro ac w β S
                  refine RG.done rfl (nx_then (wp_ret ?_))
                  refine S.r [B (decide (((g.seen).length : Int) ≤ 40))] ?_
                  exact ⟨retB (by clear S; first | rfl | (simp [f_guestOk, *]; done) | (simp [f_guestOk, *]; omega) | (simp_all [f_guestOk]; done) | (simp_all [f_guestOk]; omega)), S.chg⟩
                · refine S.q 6 [2] 0 ⟨[(2, .v (B false))], []⟩ .nil ?_; clear S; intro ac w β S
                  refine RG.done rfl (nx_then (wp_ret ?_))
                  refine S.r [B false] ?_
                  exact ⟨retB (by clear S; first | rfl | (simp [f_guestOk, *]; done) | (simp [f_guestOk, *]; omega) | (simp_all [f_guestOk]; done) | (simp_all [f_guestOk]; omega)), S.chg⟩
              · have g14 := within_f h11
                refine S.q 11 [2] 0 ⟨[(2, .v (B false))], []⟩ .nil ?_; clear S; intro ac w β S
                refine RG.done rfl (nx_then (wp_ret ?_))
                refine S.r [B false] ?_
                exact ⟨retB (by clear S; first | rfl | (simp [f_guestOk, *]; done) | (simp [f_guestOk, *]; omega) | (simp_all [f_guestOk]; done) | (simp_all [f_guestOk]; omega)), S.chg⟩
            · refine S.q 16 [2] 0 ⟨[(2, .v (B false))], []⟩ .nil ?_; clear S; intro ac w β S
              refine RG.done rfl (nx_then (wp_ret ?_))
              refine S.r [B false] ?_
              exact ⟨retB (by clear S; first | rfl | (simp [f_guestOk, *]; done) | (simp [f_guestOk, *]; omega) | (simp_all [f_guestOk]; done) | (simp_all [f_guestOk]; omega)), S.chg⟩
          · refine S.q 21 [2] 0 ⟨[(2, .v (B false))], []⟩ .nil ?_; clear S; intro ac w β S
            refine RG.done rfl (nx_then (wp_ret ?_))
            refine S.r [B false] ?_
            exact ⟨retB (by clear S; first | rfl | (simp [f_guestOk, *]; done) | (simp [f_guestOk, *]; omega) | (simp_all [f_guestOk]; done) | (simp_all [f_guestOk]; omega)), S.chg⟩
        · refine S.q 26 [2] 0 ⟨[(2, .v (B false))], []⟩ .nil ?_; clear S; intro ac w β S
          refine RG.done rfl (nx_then (wp_ret ?_))
          refine S.r [B false] ?_
          exact ⟨retB (by clear S; first | rfl | (simp [f_guestOk, *]; done) | (simp [f_guestOk, *]; omega) | (simp_all [f_guestOk]; done) | (simp_all [f_guestOk]; omega)), S.chg⟩
      · have g15 := within_f h4
        refine S.q 31 [2] 0 ⟨[(2, .v (B false))], []⟩ .nil ?_; clear S; intro ac w β S
        refine RG.done rfl (nx_then (wp_ret ?_))
        refine S.r [B false] ?_
        exact ⟨retB (by clear S; first | rfl | (simp [f_guestOk, *]; done) | (simp [f_guestOk, *]; omega) | (simp_all [f_guestOk]; done) | (simp_all [f_guestOk]; omega)), S.chg⟩
    · have g16 := within_f h2
      refine S.q 36 [2] 0 ⟨[(2, .v (B false))], []⟩ .nil ?_; clear S; intro ac w β S
      refine RG.done rfl (nx_then (wp_ret ?_))
      refine S.r [B false] ?_
      exact ⟨retB (by clear S; first | rfl | (simp [f_guestOk, *]; done) | (simp [f_guestOk, *]; omega) | (simp_all [f_guestOk]; done) | (simp_all [f_guestOk]; omega)), S.chg⟩
  · refine S.q 41 [2] 0 ⟨[(2, .v (B false))], []⟩ .nil ?_; clear S; intro ac w β S
    refine RG.done rfl (nx_then (wp_ret ?_))
    refine S.r [B false] ?_
    exact ⟨retB (by clear S; first | rfl | (simp [f_guestOk, *]; done) | (simp [f_guestOk, *]; omega) | (simp_all [f_guestOk]; done) | (simp_all [f_guestOk]; omega)), S.chg⟩

set_option maxRecDepth 100000 in
theorem c_spec_PageOk (w0 : World) (cells : List Int) (pcells : LP Int) (hcells : GT.rd KK (Lt w0.heap.size) w0 cells pcells) : Calls Try.prog 149 [slv (cells).length pcells.1].toArray w0 (fun e w' => e = .returned (B (f_pageOk cells)) ∧ Chg NoB w0 w') := by
  refine Calls.walk (args := [slv (cells).length pcells.1]) NoB Try.func149 rfl rfl ?_
  intro ac β S
  have hlecells : cells.length ≤ 4194304 := LRd.le hcells
  refine wp_seq (RG.start ?_)
  refine S.q 1 [0] 0 ⟨[(0, .v (slv (cells).length pcells.1))], []⟩ .nil ?_; clear S; intro ac w β S
  refine RG.done rfl (nx_then (wp_seq (wp_seq (RG.start ?_))))
  refine S.q 1 [0, 3] 0 ⟨[(0, .v (slv (cells).length pcells.1)), (3, .v (I 0))], []⟩ .nil ?_; clear S; intro ac w β S
  refine RG.done rfl (nx_then (wp_block ?_))
  replace S := S.p [0, 3] 0 ⟨[(0, .v (slv (cells).length pcells.1)), (3, .v (I 0))], []⟩
  refine wp_loop_down (fun mm ac w => ∃ (k : Nat)  (u : World) (N : Bl) (β : Nat → Nat), mm = (cells).length - k ∧ (k ≤ (cells).length) ∧ (((cells).take k).all (fun v => f_within v 0 99) = true) ∧ St Try.prog Try.f149.ntmps w0 NoB u N β ⟨[(0, .v (slv (cells).length pcells.1)), (3, .v (I (k : Int)))], []⟩ ac w) _ ⟨0, _, _, _, rfl, (by first | omega | (simp; done) | (simp; omega)), (by simp), S.cast (by kernel_rfl)⟩ ?_
  clear S
  rintro mm ac w ⟨k, u, N, β, rfl, hk, he, S⟩
  refine wp_seq (wp_seq (RG.start ?_))
  refine S.q 4 [0, 3, 7] 0 ⟨[(0, .v (slv (cells).length pcells.1)), (3, .v (I (k : Int))), (7, .v (B (decide ((k : Int) < ((cells).length : Int)))))], []⟩ .nil ?_; clear S; intro ac w β S
  refine RG.done rfl (nx_then ?_)
  refine S.c (decide ((k : Int) < ((cells).length : Int))) (fun h1 => ?_) (fun h1 => ?_)
  · have g2 : (k : Int) < ((cells).length : Int) := of_decide_eq_true h1
    refine wp_skip (nx_then (wp_seq (wp_block (wp_seq (RG.start ?_)))))
    refine S.q 6 [0, 3, 15] 0 ⟨[(0, .v (slv (cells).length pcells.1)), (3, .v (I (k : Int))), (15, .v (B (!(f_within (el cells k) 0 99))))], []⟩ (.cons (Q_idx (S.arg hcells) (l := (cells).length) (k := k) (i := (k : Int)) rfl rfl (by omega) Try.underlying24 (by kernel_rfl)) (.cons (Q_el1 (S.arg hcells) (t := 3) (k := k) (by omega) rfl (by kernel_rfl)) (.cons (Q_call fun w hw => c_spec_l01In w (el cells k) 0 99) .nil))) ?_; clear S; intro ac w β S
    refine RG.done rfl (nx_then ?_)
    refine S.c (!(f_within (el cells k) 0 99)) (fun h3 => ?_) (fun h3 => ?_)
    · have h4 : (f_within (el cells k) 0 99) = false := not_t h3
      have g5 := within_f h4
      refine wp_seq (RG.start ?_)
      refine S.q 1 [2] 0 ⟨[(2, .v (B false))], []⟩ .nil ?_; clear S; intro ac w β S
      refine RG.done rfl (nx_then (wp_ret (rt_block (rt_then (rt_then (rt_block (rt_then ?_)))))))
      refine S.r [B false] ?_
      exact ⟨retB (by clear S; (first | rfl | (unfold f_pageOk; rw [all_end (by omega) he]; simp; done) | (unfold f_pageOk; rw [all_bad (k := k) (by omega) (by first | assumption | (simp_all <;> fail))]; simp; done) | (unfold f_pageOk; rw [all_end (by omega) he]; simp [*]; done) | (unfold f_pageOk; rw [all_end (by omega) he]; simp; omega))), S.chg⟩
    · have h6 : (f_within (el cells k) 0 99) = true := not_f h3
      have g7 := within_t h6
      refine wp_skip (nx_block (nx_then (RG.start ?_)))
      refine S.q 3 [0, 3] 0 ⟨[(0, .v (slv (cells).length pcells.1)), (3, .v (I ((k : Int) + 1)))], []⟩ (.cons (Q_add (x := (k : Int)) (y := 1) ⟨by omega, by omega⟩) .nil) ?_; clear S; intro ac w β S
      refine RG.done rfl (nx_then ?_)
      replace S := S.p [0, 3] 0 ⟨[(0, .v (slv (cells).length pcells.1)), (3, .v (I ((k : Int) + 1)))], []⟩
      refine ⟨(cells).length - (k + 1), by omega, k + 1, _, _, _, rfl, ?_, ?_, S.cast (by kernel_rfl)⟩
      · clear S; first | omega | (simp [*]; done) | (simp [*]; omega)
      · clear S; exact all_step (by omega) he (by first | assumption | (simp only [f_slotOk, f_within] at *; simp_all; done) | (simp_all; done) | (simp_all; omega))
  · have g8 : ¬ ((k : Int) < ((cells).length : Int)) := of_decide_eq_false h1
    refine wp_exit (ex_then (ex_then (ex_hit (nx_then (wp_seq (RG.start ?_))))))
    refine S.q 4 [2] 0 ⟨[(2, .v (B (((cells).length : Int) == 4)))], []⟩ .nil ?_; clear S; intro ac w β S
    refine RG.done rfl (nx_then (wp_ret ?_))
    refine S.r [B (((cells).length : Int) == 4)] ?_
    exact ⟨retB (by clear S; (first | rfl | (unfold f_pageOk; rw [all_end (by omega) he]; simp; done) | (unfold f_pageOk; rw [all_bad (k := k) (by omega) (by first | assumption | (simp_all <;> fail))]; simp; done) | (unfold f_pageOk; rw [all_end (by omega) he]; simp [*]; done) | (unfold f_pageOk; rw [all_end (by omega) he]; simp; omega))), S.chg⟩

set_option maxRecDepth 100000 in
theorem c_spec_MemOk (w0 : World) (m : List (List Int)) (pm : LP (List Int)) (hm : GT.rd KK (Lt w0.heap.size) w0 m pm) (pages : Int) : Calls Try.prog 118 [slv (m).length pm.1, I pages].toArray w0 (fun e w' => e = .returned (B (f_memOk m pages)) ∧ Chg NoB w0 w') := by
  refine Calls.walk (args := [slv (m).length pm.1, I pages]) NoB Try.func118 rfl rfl ?_
  intro ac β S
  have hlem : m.length ≤ 4194304 := LRd.le hm
  refine wp_seq (RG.start ?_)
  refine S.q 1 [0, 1] 0 ⟨[(0, .v (slv (m).length pm.1)), (1, .v (I pages))], []⟩ .nil ?_; clear S; intro ac w β S
  refine RG.done rfl (nx_then (wp_seq (wp_seq (RG.start ?_))))
  refine S.q 1 [0, 1, 5] 0 ⟨[(0, .v (slv (m).length pm.1)), (1, .v (I pages)), (5, .v (I 0))], []⟩ .nil ?_; clear S; intro ac w β S
  refine RG.done rfl (nx_then (wp_block ?_))
  replace S := S.p [0, 1, 5] 0 ⟨[(0, .v (slv (m).length pm.1)), (1, .v (I pages)), (5, .v (I 0))], []⟩
  refine wp_loop_down (fun mm ac w => ∃ (k : Nat)  (u : World) (N : Bl) (β : Nat → Nat), mm = (m).length - k ∧ (k ≤ (m).length) ∧ (((m).take k).all f_pageOk = true) ∧ St Try.prog Try.f118.ntmps w0 NoB u N β ⟨[(0, .v (slv (m).length pm.1)), (1, .v (I pages)), (5, .v (I (k : Int)))], []⟩ ac w) _ ⟨0, _, _, _, rfl, (by first | omega | (simp; done) | (simp; omega)), (by simp), S.cast (by kernel_rfl)⟩ ?_
  clear S
  rintro mm ac w ⟨k, u, N, β, rfl, hk, he, S⟩
  refine wp_seq (wp_seq (RG.start ?_))
  refine S.q 4 [0, 1, 5, 9] 0 ⟨[(0, .v (slv (m).length pm.1)), (1, .v (I pages)), (5, .v (I (k : Int))), (9, .v (B (decide ((k : Int) < ((m).length : Int)))))], []⟩ .nil ?_; clear S; intro ac w β S
  refine RG.done rfl (nx_then ?_)
  refine S.c (decide ((k : Int) < ((m).length : Int))) (fun h1 => ?_) (fun h1 => ?_)
  · have g2 : (k : Int) < ((m).length : Int) := of_decide_eq_true h1
    refine wp_skip (nx_then (wp_seq (wp_block (wp_seq (RG.start ?_)))))
    refine S.q 6 [0, 1, 5, 17] 0 ⟨[(0, .v (slv (m).length pm.1)), (1, .v (I pages)), (5, .v (I (k : Int))), (17, .v (B (!(f_pageOk (el m k)))))], []⟩ (.cons (Q_idx (S.arg hm) (l := (m).length) (k := k) (i := (k : Int)) rfl rfl (by omega) Try.underlying31 (by kernel_rfl)) (.cons (Q_el1 (S.arg hm) (t := 24) (k := k) (by omega) rfl (by kernel_rfl)) (.cons (Q_call fun w hw => c_spec_PageOk w (el m k) (pm.2 k) (rd_of (LRd.el (S.arg hm) k (by omega)) hw)) .nil))) ?_; clear S; intro ac w β S
    refine RG.done rfl (nx_then ?_)
    refine S.c (!(f_pageOk (el m k))) (fun h3 => ?_) (fun h3 => ?_)
    · have h4 : (f_pageOk (el m k)) = false := not_t h3
      refine wp_seq (RG.start ?_)
      refine S.q 1 [4] 0 ⟨[(4, .v (B false))], []⟩ .nil ?_; clear S; intro ac w β S
      refine RG.done rfl (nx_then (wp_ret (rt_block (rt_then (rt_then (rt_block (rt_then ?_)))))))
      refine S.r [B false] ?_
      exact ⟨retB (by clear S; (first | rfl | (unfold f_memOk; rw [all_end (by omega) he]; simp; done) | (unfold f_memOk; rw [all_bad (k := k) (by omega) (by first | assumption | (simp_all <;> fail))]; simp; done) | (unfold f_memOk; rw [all_end (by omega) he]; simp [*]; done) | (unfold f_memOk; rw [all_end (by omega) he]; simp; omega))), S.chg⟩
    · have h5 : (f_pageOk (el m k)) = true := not_f h3
      refine wp_skip (nx_block (nx_then (RG.start ?_)))
      refine S.q 3 [0, 1, 5] 0 ⟨[(0, .v (slv (m).length pm.1)), (1, .v (I pages)), (5, .v (I ((k : Int) + 1)))], []⟩ (.cons (Q_add (x := (k : Int)) (y := 1) ⟨by omega, by omega⟩) .nil) ?_; clear S; intro ac w β S
      refine RG.done rfl (nx_then ?_)
      replace S := S.p [0, 1, 5] 0 ⟨[(0, .v (slv (m).length pm.1)), (1, .v (I pages)), (5, .v (I ((k : Int) + 1)))], []⟩
      refine ⟨(m).length - (k + 1), by omega, k + 1, _, _, _, rfl, ?_, ?_, S.cast (by kernel_rfl)⟩
      · clear S; first | omega | (simp [*]; done) | (simp [*]; omega)
      · clear S; exact all_step (by omega) he (by first | assumption | (simp only [f_slotOk, f_within] at *; simp_all; done) | (simp_all; done) | (simp_all; omega))
  · have g6 : ¬ ((k : Int) < ((m).length : Int)) := of_decide_eq_false h1
    refine wp_exit (ex_then (ex_then (ex_hit (nx_then (wp_seq (RG.start ?_))))))
    refine S.q 5 [4] 0 ⟨[(4, .v (B (((m).length : Int) == pages)))], []⟩ .nil ?_; clear S; intro ac w β S
    refine RG.done rfl (nx_then (wp_ret ?_))
    refine S.r [B (((m).length : Int) == pages)] ?_
    exact ⟨retB (by clear S; (first | rfl | (unfold f_memOk; rw [all_end (by omega) he]; simp; done) | (unfold f_memOk; rw [all_bad (k := k) (by omega) (by first | assumption | (simp_all <;> fail))]; simp; done) | (unfold f_memOk; rw [all_end (by omega) he]; simp [*]; done) | (unfold f_memOk; rw [all_end (by omega) he]; simp; omega))), S.chg⟩

set_option maxRecDepth 100000 in
theorem c_spec_BareOk (w0 : World) (b : TBare) (pb : PBare) (hb : GT.rd KK (Lt w0.heap.size) w0 b pb) : Calls Try.prog 76 [GT.val b pb].toArray w0 (fun e w' => e = .returned (B (f_bareOk b)) ∧ Chg NoB w0 w') := by
  refine Calls.walk (args := [GT.val b pb]) NoB Try.func76 rfl rfl ?_
  intro ac β S
  have hleb_mem : b.mem.length ≤ 4194304 := LRd.le (RBare.mem (d := b) hb)
  have hleb_guests : b.guests.length ≤ 4194304 := LRd.le (RBare.guests (d := b) hb)
  have hleb_outs : b.outs.length ≤ 4194304 := LRd.le (RBare.outs (d := b) hb)
  refine wp_seq (RG.start ?_)
  refine S.q 2 [1] 1 ⟨[(1, .p 0 0)], [GT.cells b pb]⟩ .nil ?_; clear S; intro ac w β S
  refine RG.done rfl (nx_then (wp_seq (wp_seq (RG.start ?_))))
  refine S.q 1 [1, 3] 1 ⟨[(1, .p 0 0), (3, .v (I 0))], [GT.cells b pb]⟩ .nil ?_; clear S; intro ac w β S
  refine RG.done rfl (nx_then (wp_block ?_))
  replace S := S.p [1, 3] 1 ⟨[(1, .p 0 0), (3, .v (I 0))], [GT.cells b pb]⟩
  refine wp_loop_down (fun mm ac w => ∃ (k : Nat)  (u : World) (N : Bl) (β : Nat → Nat), mm = b.guests.length - k ∧ (k ≤ b.guests.length) ∧ ((b.guests.take k).all f_guestOk = true) ∧ St Try.prog Try.f76.ntmps w0 NoB u N β ⟨[(1, .p 0 0), (3, .v (I (k : Int)))], [GT.cells b pb]⟩ ac w) _ ⟨0, _, _, _, rfl, (by first | omega | (simp; done) | (simp; omega)), (by simp), S.cast (by kernel_rfl)⟩ ?_
  clear S
  rintro mm ac w ⟨k, u, N, β, rfl, hk, he, S⟩
  refine wp_seq (wp_seq (RG.start ?_))
  refine S.q 5 [1, 3, 8] 1 ⟨[(1, .p 0 0), (3, .v (I (k : Int))), (8, .v (B (decide ((k : Int) < ((b.guests).length : Int)))))], [GT.cells b pb]⟩ .nil ?_; clear S; intro ac w β S
  refine RG.done rfl (nx_then ?_)
  refine S.c (decide ((k : Int) < ((b.guests).length : Int))) (fun h1 => ?_) (fun h1 => ?_)
  · have g2 : (k : Int) < ((b.guests).length : Int) := of_decide_eq_true h1
    refine wp_skip (nx_then (wp_seq (wp_block (wp_seq (RG.start ?_)))))
    refine S.q 7 [1, 3, 17] 1 ⟨[(1, .p 0 0), (3, .v (I (k : Int))), (17, .v (B (!(f_guestOk (el b.guests k)))))], [GT.cells b pb]⟩ (.cons (Q_idx (RBare.guests (d := b) (S.arg hb)) (l := (b.guests).length) (k := k) (i := (k : Int)) rfl rfl (by omega) Try.underlying39 (by kernel_rfl)) (.cons (Q_el (RBare.guests (d := b) (S.arg hb)) (t := 117) (k := k) (by omega) rfl (by kernel_rfl) (by kernel_rfl)) (.cons (Q_call fun w hw => c_spec_GuestOk w (el b.guests k) (pb.guests.2 k) (rd_of (LRd.el (RBare.guests (d := b) (S.arg hb)) k (by omega)) hw)) .nil))) ?_; clear S; intro ac w β S
    refine RG.done rfl (nx_then ?_)
    refine S.c (!(f_guestOk (el b.guests k))) (fun h3 => ?_) (fun h3 => ?_)
    · have h4 : (f_guestOk (el b.guests k)) = false := not_t h3
      refine wp_seq (RG.start ?_)
      refine S.q 1 [2] 0 ⟨[(2, .v (B false))], []⟩ .nil ?_; clear S; intro ac w β S
      refine RG.done rfl (nx_then (wp_ret (rt_block (rt_then (rt_then (rt_block (rt_then ?_)))))))
      refine S.r [B false] ?_
      exact ⟨retB (by clear S; (symm; rw [← Bool.not_eq_true]; intro hc; simp only [f_bareOk, Bool.and_eq_true, decide_eq_true_eq, beq_iff_eq] at hc; first | omega | (simp_all; done) | (simp_all; omega) | (have hx := all_el (k := k) hc.1.1.1.1 (by omega); simp_all; done))), S.chg⟩
    · have h5 : (f_guestOk (el b.guests k)) = true := not_f h3
      refine wp_skip (nx_block (nx_then (RG.start ?_)))
      refine S.q 3 [1, 3] 1 ⟨[(1, .p 0 0), (3, .v (I ((k : Int) + 1)))], [GT.cells b pb]⟩ (.cons (Q_add (x := (k : Int)) (y := 1) ⟨by omega, by omega⟩) .nil) ?_; clear S; intro ac w β S
      refine RG.done rfl (nx_then ?_)
      replace S := S.p [1, 3] 1 ⟨[(1, .p 0 0), (3, .v (I ((k : Int) + 1)))], [GT.cells b pb]⟩
      refine ⟨b.guests.length - (k + 1), by omega, k + 1, _, _, _, rfl, ?_, ?_, S.cast (by kernel_rfl)⟩
      · clear S; first | omega | (simp [*]; done) | (simp [*]; omega)
      · clear S; exact all_step (by omega) he (by first | assumption | simp_all)
  · have g6 : ¬ ((k : Int) < ((b.guests).length : Int)) := of_decide_eq_false h1
    refine wp_exit (ex_then (ex_then (ex_hit (nx_then (wp_seq (RG.start ?_))))))
    refine S.q 4 [1, 21] 1 ⟨[(1, .p 0 0), (21, .v (B (f_memOk b.mem 8)))], [GT.cells b pb]⟩ (.cons (Q_call fun w hw => c_spec_MemOk w b.mem pb.mem (rd_of (RBare.mem (d := b) (S.arg hb)) hw) 8) .nil) ?_; clear S; intro ac w β S
    rcases Bool.eq_false_or_eq_true (f_memOk b.mem 8) with h7 | h7 <;> rw [h7] at S
    · refine S.q 6 [1, 27] 1 ⟨[(1, .p 0 0), (27, .v (B (f_within ((b.guests).length : Int) 1 2)))], [GT.cells b pb]⟩ (.cons (Q_call fun w hw => c_spec_l01In w ((b.guests).length : Int) 1 2) .nil) ?_; clear S; intro ac w β S
      rcases Bool.eq_false_or_eq_true (f_within ((b.guests).length : Int) 1 2) with h8 | h8 <;> rw [h8] at S
      · have g9 := within_t h8
        refine S.q 6 [1, 33] 1 ⟨[(1, .p 0 0), (33, .v (B (decide (((b.outs).length : Int) ≤ 40))))], [GT.cells b pb]⟩ .nil ?_; clear S; intro ac w β S
        rcases Bool.eq_false_or_eq_true (decide (((b.outs).length : Int) ≤ 40)) with h10 | h10 <;> rw [h10] at S
        · have g11 : ((b.outs).length : Int) ≤ 40 := of_decide_eq_true h10
          refine S.q 5 [2] 0 ⟨[(2, .v (B (f_within b.pend 0 255)))], []⟩ (.cons (Q_call fun w hw => c_spec_PendOk w b.pend) .nil) ?_; clear S; intro ac w β S
          refine RG.done rfl (nx_then (wp_ret ?_))
          refine S.r [B (f_within b.pend 0 255)] ?_
          exact ⟨retB (by clear S; (first | rfl | (symm; rw [← Bool.not_eq_true]; intro hc; simp only [f_bareOk, Bool.and_eq_true, decide_eq_true_eq, beq_iff_eq] at hc; first | omega | (simp_all; done) | (simp_all; omega) | (have hx := all_el (k := k) hc.1.1.1.1 (by omega); simp_all; done)) | (symm; simp only [f_bareOk, Bool.and_eq_true, decide_eq_true_eq, beq_iff_eq]; (repeat' apply And.intro); all_goals first | assumption | omega | (simp_all; done) | (simp_all; omega) | (exact all_end (by omega) he)) | (rw [Bool.eq_iff_iff]; simp only [f_bareOk, Bool.and_eq_true, decide_eq_true_eq, beq_iff_eq]; refine ⟨fun hr => ?_, fun hc => ?_⟩ <;> ((repeat' apply And.intro); all_goals first | assumption | omega | (simp_all; done) | (simp_all; omega) | (exact all_end (by omega) he))))), S.chg⟩
        · have g12 : ¬ (((b.outs).length : Int) ≤ 40) := of_decide_eq_false h10
          refine S.q 5 [2] 0 ⟨[(2, .v (B false))], []⟩ .nil ?_; clear S; intro ac w β S
          refine RG.done rfl (nx_then (wp_ret ?_))
          refine S.r [B false] ?_
          exact ⟨retB (by clear S; (symm; rw [← Bool.not_eq_true]; intro hc; simp only [f_bareOk, Bool.and_eq_true, decide_eq_true_eq, beq_iff_eq] at hc; first | omega | (simp_all; done) | (simp_all; omega) | (have hx := all_el (k := k) hc.1.1.1.1 (by omega); simp_all; done))), S.chg⟩
      · have g13 := within_f h8
        refine S.q 11 [2] 0 ⟨[(2, .v (B false))], []⟩ .nil ?_; clear S; intro ac w β S
        refine RG.done rfl (nx_then (wp_ret ?_))
        refine S.r [B false] ?_
        exact ⟨retB (by clear S; (symm; rw [← Bool.not_eq_true]; intro hc; simp only [f_bareOk, Bool.and_eq_true, decide_eq_true_eq, beq_iff_eq] at hc; first | omega | (simp_all; done) | (simp_all; omega) | (have hx := all_el (k := k) hc.1.1.1.1 (by omega); simp_all; done))), S.chg⟩
    · refine S.q 17 [2] 0 ⟨[(2, .v (B false))], []⟩ .nil ?_; clear S; intro ac w β S
      refine RG.done rfl (nx_then (wp_ret ?_))
      refine S.r [B false] ?_
      exact ⟨retB (by clear S; (symm; rw [← Bool.not_eq_true]; intro hc; simp only [f_bareOk, Bool.and_eq_true, decide_eq_true_eq, beq_iff_eq] at hc; first | omega | (simp_all; done) | (simp_all; omega) | (have hx := all_el (k := k) hc.1.1.1.1 (by omega); simp_all; done))), S.chg⟩

set_option maxRecDepth 100000 in
theorem c_spec_TopIrq (w0 : World) (p : Int) : Calls Try.prog 131 [I p].toArray w0 (fun e w' => e = .returned (I (f_topIrq p)) ∧ Chg NoB w0 w') := by
  refine Calls.walk (args := [I p]) NoB Try.func131 rfl rfl ?_
  intro ac β S
  refine wp_seq (RG.start ?_)
  refine S.q 1 [0] 0 ⟨[(0, .v (I p))], []⟩ .nil ?_; clear S; intro ac w β S
  refine RG.done rfl (nx_then (wp_seq (wp_seq (RG.start ?_))))
  refine S.q 1 [0, 3] 0 ⟨[(0, .v (I p)), (3, .v (I 7))], []⟩ .nil ?_; clear S; intro ac w β S
  refine RG.done rfl (nx_then (wp_block ?_))
  replace S := S.p [0, 3] 0 ⟨[(0, .v (I p)), (3, .v (I 7))], []⟩
  refine wp_loop_down (fun mm ac w => ∃ (n : Int)  (u : World) (N : Bl) (β : Nat → Nat), mm = (n + 1).toNat ∧ (-1 ≤ n ∧ n ≤ 7) ∧ (∀ j : Nat, n < (j : Int) → j < 8 → ¬ land64 (shr64 p (j : Int)) 1 = 1) ∧ St Try.prog Try.f131.ntmps w0 NoB u N β ⟨[(0, .v (I p)), (3, .v (I n))], []⟩ ac w) _ ⟨7, _, _, _, rfl, (by omega), (by (intro j h1 h2; omega)), S.cast (by kernel_rfl)⟩ ?_
  clear S
  rintro mm ac w ⟨n, u, N, β, rfl, hn, hb, S⟩
  refine wp_seq (wp_seq (RG.start ?_))
  refine S.q 3 [0, 3, 6] 0 ⟨[(0, .v (I p)), (3, .v (I n)), (6, .v (B (decide (n ≥ 0))))], []⟩ .nil ?_; clear S; intro ac w β S
  rcases Bool.eq_false_or_eq_true (decide (n ≥ 0)) with h1 | h1 <;> rw [h1] at S
  · have g2 : n ≥ 0 := of_decide_eq_true h1
    refine S.q 3 [0, 3, 9] 0 ⟨[(0, .v (I p)), (3, .v (I n)), (9, .v (B (f_within p 0 255)))], []⟩ (.cons (Q_call fun w hw => c_spec_PendOk w p) .nil) ?_; clear S; intro ac w β S
    refine RG.done rfl (nx_then ?_)
    refine S.c (f_within p 0 255) (fun h3 => ?_) (fun h3 => ?_)
    · have g4 := within_t h3
      refine wp_skip (nx_then (wp_seq (wp_block (wp_seq (RG.start ?_)))))
      refine S.q 6 [0, 3, 17] 0 ⟨[(0, .v (I p)), (3, .v (I n)), (17, .v (B ((land64 (shr64 p n) 1) == 1)))], []⟩ (.cons (Q_convu (s := 3) (d := 150) (x := n) Try.underlying3 Try.underlying150 (by omega) (by omega)) (.cons (Q_shr (yk := .u64) (x := p) (y := n) (by omega)) (.cons (Q_land64 (x := (shr64 p n)) (y := 1)) .nil))) ?_; clear S; intro ac w β S
      refine RG.done rfl (nx_then ?_)
      refine S.c ((land64 (shr64 p n) 1) == 1) (fun h5 => ?_) (fun h5 => ?_)
      · have g6 : (land64 (shr64 p n) 1) = 1 := eq_of_beq h5
        refine wp_seq (RG.start ?_)
        refine S.q 2 [2] 0 ⟨[(2, .v (I n))], []⟩ .nil ?_; clear S; intro ac w β S
        refine RG.done rfl (nx_then (wp_ret (rt_block (rt_then (rt_then (rt_block (rt_then ?_)))))))
        refine S.r [I n] ?_
        exact ⟨retI (by clear S; (first | (exact (topIrq_hit (by assumption) hn (by omega) (by assumption) hb).symm) | (rcases Bool.eq_false_or_eq_true (f_within p 0 255) with hp | hp; exact (topIrq_none hp (by omega) hb).symm; exact (topIrq_out hp).symm) | (exact (topIrq_out (by assumption)).symm))), S.chg⟩
      · have g7 : ¬ ((land64 (shr64 p n) 1) = 1) := ne_of_beq_false h5
        refine wp_skip (nx_block (nx_then (RG.start ?_)))
        refine S.q 3 [0, 3] 0 ⟨[(0, .v (I p)), (3, .v (I (n - 1)))], []⟩ (.cons (Q_sub (x := n) (y := 1) ⟨by omega, by omega⟩) .nil) ?_; clear S; intro ac w β S
        refine RG.done rfl (nx_then ?_)
        replace S := S.p [0, 3] 0 ⟨[(0, .v (I p)), (3, .v (I (n - 1)))], []⟩
        refine ⟨((n - 1) + 1).toNat, by omega, (n - 1), _, _, _, rfl, ?_, ?_, S.cast (by kernel_rfl)⟩
        · clear S; omega
        · clear S; (intro j h1 h2; by_cases e : (j : Int) = n; rw [e]; assumption; exact hb j (by omega) h2)
    · have g8 := within_f h3
      refine wp_exit (ex_then (ex_then (ex_hit (nx_then (wp_seq (RG.start ?_))))))
      refine S.q 1 [2] 0 ⟨[(2, .v (I (-1)))], []⟩ .nil ?_; clear S; intro ac w β S
      refine RG.done rfl (nx_then (wp_ret ?_))
      refine S.r [I (-1)] ?_
      exact ⟨retI (by clear S; (first | (exact (topIrq_hit (by assumption) hn (by omega) (by assumption) hb).symm) | (rcases Bool.eq_false_or_eq_true (f_within p 0 255) with hp | hp; exact (topIrq_none hp (by omega) hb).symm; exact (topIrq_out hp).symm) | (exact (topIrq_out (by assumption)).symm))), S.chg⟩
  · have g9 : ¬ (n ≥ 0) := of_decide_eq_false h1
    refine S.q 3 [0, 3, 9] 0 ⟨[(0, .v (I p)), (3, .v (I n)), (9, .v (B false))], []⟩ .nil ?_; clear S; intro ac w β S
    refine RG.done rfl (nx_then ?_)
    refine S.c false (fun hx => by cases hx) (fun _ => ?_)
    refine wp_exit (ex_then (ex_then (ex_hit (nx_then (wp_seq (RG.start ?_))))))
    refine S.q 1 [2] 0 ⟨[(2, .v (I (-1)))], []⟩ .nil ?_; clear S; intro ac w β S
    refine RG.done rfl (nx_then (wp_ret ?_))
    refine S.r [I (-1)] ?_
    exact ⟨retI (by clear S; (first | (exact (topIrq_hit (by assumption) hn (by omega) (by assumption) hb).symm) | (rcases Bool.eq_false_or_eq_true (f_within p 0 255) with hp | hp; exact (topIrq_none hp (by omega) hb).symm; exact (topIrq_out hp).symm) | (exact (topIrq_out (by assumption)).symm))), S.chg⟩

set_option maxRecDepth 100000 in
theorem c_spec_TakeIrq (w0 : World) (p : Int) (hp : In64 p) : Calls Try.prog 95 [I p].toArray w0 (fun e w' => e = .returned (.tuple #[I ((f_takeIrq p).1), I ((f_takeIrq p).2.1), B ((f_takeIrq p).2.2)]) ∧ Chg NoB w0 w') := by
  refine Calls.walk (args := [I p]) NoB Try.func95 rfl rfl ?_
  intro ac β S
  have hlop := hp.lo; have hhip := hp.hi
  refine wp_seq (RG.start ?_)
  refine S.q 3 [0] 0 ⟨[(0, .v (I p))], []⟩ .nil ?_; clear S; intro ac w β S
  refine RG.done rfl (nx_then (wp_seq (RG.start ?_)))
  have b1 := topIrq_bd p
  refine S.q 3 [0, 5] 0 ⟨[(0, .v (I p)), (5, .v (I (f_topIrq p)))], []⟩ (.cons (Q_call fun w hw => c_spec_TopIrq w p) .nil) ?_; clear S; intro ac w β S
  refine RG.done rfl (nx_then (wp_seq (wp_seq (RG.start ?_))))
  refine S.q 2 [0, 5, 9] 0 ⟨[(0, .v (I p)), (5, .v (I (f_topIrq p))), (9, .v (B (decide ((f_topIrq p) < 0))))], []⟩ .nil ?_; clear S; intro ac w β S
  refine RG.done rfl (nx_then ?_)
  refine S.c (decide ((f_topIrq p) < 0)) (fun h2 => ?_) (fun h2 => ?_)
  · have g3 : (f_topIrq p) < 0 := of_decide_eq_true h2
    refine wp_seq (RG.start ?_)
    refine S.q 4 [2, 3, 4] 0 ⟨[(2, .v (I p)), (3, .v (I (-1))), (4, .v (B false))], []⟩ .nil ?_; clear S; intro ac w β S
    refine RG.done rfl (nx_then (wp_ret (rt_then ?_)))
    refine S.r [I p, I (-1), B false] ?_
    exact ⟨ret3v (eqI (show p = (f_takeIrq p).1 by clear S; (first | (unfold f_takeIrq; rw [if_pos (by assumption)]; done) | (unfold f_takeIrq; rw [if_neg (by assumption)]; done) | (unfold f_takeIrq; rw [if_neg (by assumption)]; exact take_eq (by assumption)) | (unfold f_takeIrq; rw [if_neg (by assumption)]; exact (take_eq (by assumption)).symm)))) (eqI (show (-1) = (f_takeIrq p).2.1 by clear S; (first | (unfold f_takeIrq; rw [if_pos (by assumption)]; done) | (unfold f_takeIrq; rw [if_neg (by assumption)]; done) | (unfold f_takeIrq; rw [if_neg (by assumption)]; exact take_eq (by assumption)) | (unfold f_takeIrq; rw [if_neg (by assumption)]; exact (take_eq (by assumption)).symm)))) (eqB (show false = (f_takeIrq p).2.2 by clear S; (first | (unfold f_takeIrq; rw [if_pos (by assumption)]; done) | (unfold f_takeIrq; rw [if_neg (by assumption)]; done) | (unfold f_takeIrq; rw [if_neg (by assumption)]; exact take_eq (by assumption)) | (unfold f_takeIrq; rw [if_neg (by assumption)]; exact (take_eq (by assumption)).symm)))), S.chg⟩
  · have g4 : ¬ ((f_topIrq p) < 0) := of_decide_eq_false h2
    refine wp_skip (nx_then (wp_seq (RG.start ?_)))
    refine S.q 9 [2, 3, 4] 0 ⟨[(2, .v (I (IntKind.i64.wrap (p - (shl64 1 (f_topIrq p)))))), (3, .v (I (f_topIrq p))), (4, .v (B true))], []⟩ (.cons (Q_convu (s := 3) (d := 150) (x := (f_topIrq p)) Try.underlying3 Try.underlying150 (by omega) (by omega)) (.cons (Q_shl (yk := .u64) (x := 1) (y := (f_topIrq p)) (by omega)) (.cons (Q_subw (x := p) (y := (shl64 1 (f_topIrq p)))) .nil))) ?_; clear S; intro ac w β S
    refine RG.done rfl (nx_then (wp_ret ?_))
    refine S.r [I (IntKind.i64.wrap (p - (shl64 1 (f_topIrq p)))), I (f_topIrq p), B true] ?_
    exact ⟨ret3v (eqI (show (IntKind.i64.wrap (p - (shl64 1 (f_topIrq p)))) = (f_takeIrq p).1 by clear S; (first | (unfold f_takeIrq; rw [if_pos (by assumption)]; done) | (unfold f_takeIrq; rw [if_neg (by assumption)]; done) | (unfold f_takeIrq; rw [if_neg (by assumption)]; exact take_eq (by assumption)) | (unfold f_takeIrq; rw [if_neg (by assumption)]; exact (take_eq (by assumption)).symm)))) (eqI (show (f_topIrq p) = (f_takeIrq p).2.1 by clear S; (first | (unfold f_takeIrq; rw [if_pos (by assumption)]; done) | (unfold f_takeIrq; rw [if_neg (by assumption)]; done) | (unfold f_takeIrq; rw [if_neg (by assumption)]; exact take_eq (by assumption)) | (unfold f_takeIrq; rw [if_neg (by assumption)]; exact (take_eq (by assumption)).symm)))) (eqB (show true = (f_takeIrq p).2.2 by clear S; (first | (unfold f_takeIrq; rw [if_pos (by assumption)]; done) | (unfold f_takeIrq; rw [if_neg (by assumption)]; done) | (unfold f_takeIrq; rw [if_neg (by assumption)]; exact take_eq (by assumption)) | (unfold f_takeIrq; rw [if_neg (by assumption)]; exact (take_eq (by assumption)).symm)))), S.chg⟩

set_option maxRecDepth 100000 in
theorem c_spec_BareAck (w0 : World) (b : TBare) (pb : PBare) (hb : GT.rd KK (Lt w0.heap.size) w0 b pb) : Calls Try.prog 43 [GT.val b pb].toArray w0 (Ret3 NoB w0 ((f_bareAck b).1 : TBare) ((f_bareAck b).2.1 : Int) ((f_bareAck b).2.2 : Bool)) := by
  refine Calls.walk (args := [GT.val b pb]) NoB Try.func43 rfl rfl ?_
  intro ac β S
  have hleb_mem : b.mem.length ≤ 4194304 := LRd.le (RBare.mem (d := b) hb)
  have hleb_guests : b.guests.length ≤ 4194304 := LRd.le (RBare.guests (d := b) hb)
  have hleb_outs : b.outs.length ≤ 4194304 := LRd.le (RBare.outs (d := b) hb)
  refine wp_seq (RG.start ?_)
  refine S.q 4 [1, 2] 2 ⟨[(1, .p 0 0), (2, .p 1 0)], [GT.cells b pb, Zc TBare]⟩ .nil ?_; clear S; intro ac w β S
  refine RG.done rfl (nx_then (wp_seq (RG.start ?_)))
  refine S.q 1 [1, 2, 8] 2 ⟨[(1, .p 0 0), (2, .p 1 0), (8, .v (GT.val b pb))], [GT.cells b pb, Zc TBare]⟩ .nil ?_; clear S; intro ac w β S
  refine RG.op rfl (S.call1 (r := b) (d := 9) (c_spec_l17Copy w b pb (S.rd (S.arg hb))) (by kernel_rfl) rfl ?_)
  clear S; intro ac w N q1 F2 S up o3 d4
  clear up d4
  have i14 : In64 b.pend := RBare.pend (d := b) o3.rn
  obtain ⟨F5, F8, F11, o6, o9, o12, s7, s10, s13, d15, d16, d17⟩ := sp_Bare o3
  refine S.q 1 [1, 2] 2 ⟨[(1, .p 0 0), (2, .p 1 0)], [[slv (b.mem).length q1.mem.1, slv (b.guests).length q1.guests.1, slv (b.outs).length q1.outs.1, I b.pend], Zc TBare]⟩ .nil ?_; clear S; intro ac w β S
  refine RG.done rfl (nx_then (wp_seq (wp_seq (RG.start ?_))))
  refine S.q 3 [1, 2, 12] 2 ⟨[(1, .p 0 0), (2, .p 1 0), (12, .v (B (!(f_bareOk b))))], [[slv (b.mem).length q1.mem.1, slv (b.guests).length q1.guests.1, slv (b.outs).length q1.outs.1, I b.pend], Zc TBare]⟩ (.cons (Q_call fun w hw => c_spec_BareOk w b q1 (rd_of (show GT.rd KK _ _ b q1 from ⟨o6.rn, o9.rn, o12.rn, i14⟩) hw)) .nil) ?_; clear S; intro ac w β S
  refine RG.done rfl (nx_then ?_)
  refine S.c (!(f_bareOk b)) (fun h18 => ?_) (fun h18 => ?_)
  · have h19 : (f_bareOk b) = false := not_t h18
    refine wp_seq (RG.start ?_)
    refine S.q 4 [2, 3, 4] 2 ⟨[(2, .p 1 0), (3, .v (I (-1))), (4, .v (B false))], [[slv (b.mem).length q1.mem.1, slv (b.guests).length q1.guests.1, slv (b.outs).length q1.outs.1, I b.pend], [slv (b.mem).length q1.mem.1, slv (b.guests).length q1.guests.1, slv (b.outs).length q1.outs.1, I b.pend]]⟩ .nil ?_; clear S; intro ac w β S
    refine RG.done rfl (nx_then (wp_ret (rt_then ?_)))
    refine S.r [GT.val b q1, I (-1), B false] ?_
    have o20 := ow_Bare (x := b) (p := q1) o6 o9 o12 d15 d16 d17 i14
    exact ret3_of (p' := ()) (p'' := ()) S (show (f_bareAck b).1 = b by clear S; (first | (rw [bareAck_ok (by assumption)]; done) | (unfold f_bareAck; (repeat' split) <;> first | rfl | (exfalso; omega) | (exfalso; simp_all; done) | (exfalso; simp_all; omega) | (simp_all; done)))) (show (f_bareAck b).2.1 = (-1) by clear S; (first | (rw [bareAck_ok (by assumption)]; done) | (unfold f_bareAck; (repeat' split) <;> first | rfl | (exfalso; omega) | (exfalso; simp_all; done) | (exfalso; simp_all; omega) | (simp_all; done)))) (show (f_bareAck b).2.2 = false by clear S; (first | (rw [bareAck_ok (by assumption)]; done) | (unfold f_bareAck; (repeat' split) <;> first | rfl | (exfalso; omega) | (exfalso; simp_all; done) | (exfalso; simp_all; omega) | (simp_all; done)))) rfl rfl rfl o20 (show In64 (-1) from ⟨by decide, by decide⟩) trivial
  · have h21 : (f_bareOk b) = true := not_f h18
    have g22 := bareOk_t h21
    refine wp_skip (nx_then (wp_seq (RG.start ?_)))
    refine S.q 10 [1, 2, 5, 6, 7] 2 ⟨[(1, .p 0 0), (2, .p 1 0), (5, .v (I ((f_takeIrq b.pend).1))), (6, .v (I ((f_takeIrq b.pend).2.1))), (7, .v (B ((f_takeIrq b.pend).2.2)))], [[slv (b.mem).length q1.mem.1, slv (b.guests).length q1.guests.1, slv (b.outs).length q1.outs.1, I b.pend], Zc TBare]⟩ (.cons (Q_call fun w hw => c_spec_TakeIrq w b.pend i14) .nil) ?_; clear S; intro ac w β S
    refine RG.done rfl (nx_then (wp_seq (RG.start ?_)))
    refine S.q 3 [1, 2, 6, 7] 2 ⟨[(1, .p 0 0), (2, .p 1 0), (6, .v (I ((f_takeIrq b.pend).2.1))), (7, .v (B ((f_takeIrq b.pend).2.2)))], [[slv (b.mem).length q1.mem.1, slv (b.guests).length q1.guests.1, slv (b.outs).length q1.outs.1, I ((f_takeIrq b.pend).1)], Zc TBare]⟩ .nil ?_; clear S; intro ac w β S
    refine RG.done rfl (nx_then (wp_seq (RG.start ?_)))
    refine S.q 6 [2, 3, 4] 2 ⟨[(2, .p 1 0), (3, .v (I ((f_takeIrq b.pend).2.1))), (4, .v (B ((f_takeIrq b.pend).2.2)))], [[slv (b.mem).length q1.mem.1, slv (b.guests).length q1.guests.1, slv (b.outs).length q1.outs.1, I ((f_takeIrq b.pend).1)], [slv (b.mem).length q1.mem.1, slv (b.guests).length q1.guests.1, slv (b.outs).length q1.outs.1, I ((f_takeIrq b.pend).1)]]⟩ .nil ?_; clear S; intro ac w β S
    refine RG.done rfl (nx_then (wp_ret ?_))
    refine S.r [GT.val (⟨b.mem, b.guests, b.outs, ((f_takeIrq b.pend).1)⟩ : TBare) (⟨q1.mem, q1.guests, q1.outs⟩ : PBare), I ((f_takeIrq b.pend).2.1), B ((f_takeIrq b.pend).2.2)] ?_
    have o23 := ow_Bare (x := (⟨b.mem, b.guests, b.outs, ((f_takeIrq b.pend).1)⟩ : TBare)) (p := (⟨q1.mem, q1.guests, q1.outs⟩ : PBare)) o6 o9 o12 d15 d16 d17 (takeIrq_in64 i14)
    exact ret3_of (p' := ()) (p'' := ()) S (show (f_bareAck b).1 = (⟨b.mem, b.guests, b.outs, ((f_takeIrq b.pend).1)⟩ : TBare) by clear S; (first | (rw [bareAck_ok (by assumption)]; done) | (unfold f_bareAck; (repeat' split) <;> first | rfl | (exfalso; omega) | (exfalso; simp_all; done) | (exfalso; simp_all; omega) | (simp_all; done)))) (show (f_bareAck b).2.1 = ((f_takeIrq b.pend).2.1) by clear S; (first | (rw [bareAck_ok (by assumption)]; done) | (unfold f_bareAck; (repeat' split) <;> first | rfl | (exfalso; omega) | (exfalso; simp_all; done) | (exfalso; simp_all; omega) | (simp_all; done)))) (show (f_bareAck b).2.2 = ((f_takeIrq b.pend).2.2) by clear S; (first | (rw [bareAck_ok (by assumption)]; done) | (unfold f_bareAck; (repeat' split) <;> first | rfl | (exfalso; omega) | (exfalso; simp_all; done) | (exfalso; simp_all; omega) | (simp_all; done)))) rfl rfl rfl o23 (takeIrq_in64b) trivial

set_option maxRecDepth 100000 in
theorem c_impl_copyInts (w0 : World) (l : List Int) (pl : LP Int) (hl : GT.rd KK (Lt w0.heap.size) w0 l pl) : Calls Try.prog 124 [slv (l).length pl.1].toArray w0 (Ret1 NoB w0 (l : List Int)) := by
  refine Calls.walk (args := [slv (l).length pl.1]) NoB Try.func124 rfl rfl ?_
  intro ac β S
  have hlel : l.length ≤ 4194304 := LRd.le hl
  refine wp_seq (RG.start ?_)
  refine S.q 1 [0] 0 ⟨[(0, .v (slv (l).length pl.1))], []⟩ .nil ?_; clear S; intro ac w β S
  refine RG.done rfl (nx_then (wp_seq (RG.start ?_)))
  refine RG.op rfl (S.bs0 (α := Int) (d := 3) (by kernel_rfl) ?_)
  clear S; intro ac w N q1 F2 S up o3 d4
  clear up d4
  refine S.q 1 [3, 4] 0 ⟨[(3, .v (slv 0 q1.1)), (4, .v (slv (l).length pl.1))], []⟩ .nil ?_; clear S; intro ac w β S
  have b9 : (l).length ≤ 4194304 := LRd.le (S.arg hl)
  refine RG.op rfl (S.appFlat (α := Int) o3 ((S.arg hl)) (fun _ _ h => h) (by' := 8) (d := 5) (lx := 0) (ly := (l).length) rfl rfl (by kernel_rfl) (show _ ≤ 4194304 by simp only [List.length_append, List.length_cons, List.length_nil]; omega) ?_)
  clear S; intro ac w N q5 F6 S up o7 d8
  clear up d8
  refine S.q 1 [2] 0 ⟨[(2, .v (slv ((([] : List Int) ++ l)).length q5.1))], []⟩ .nil ?_; clear S; intro ac w β S
  refine RG.done rfl (nx_then (wp_ret ?_))
  refine S.r [slv ((([] : List Int) ++ l)).length q5.1] ?_
  exact ret1_of S (show l = (([] : List Int) ++ l) by clear S; simp) rfl o7

set_option maxRecDepth 100000 in
theorem c_impl_copyMem (w0 : World) (l : List (List Int)) (pl : LP (List Int)) (hl : GT.rd KK (Lt w0.heap.size) w0 l pl) : Calls Try.prog 122 [slv (l).length pl.1].toArray w0 (Ret1 NoB w0 (l : List (List Int))) := by
  refine Calls.walk (args := [slv (l).length pl.1]) NoB Try.func122 rfl rfl ?_
  intro ac β S
  have hlel : l.length ≤ 4194304 := LRd.le hl
  refine wp_seq (RG.start ?_)
  refine S.q 1 [0] 0 ⟨[(0, .v (slv (l).length pl.1))], []⟩ .nil ?_; clear S; intro ac w β S
  refine RG.done rfl (nx_then (wp_seq (RG.start ?_)))
  refine RG.op rfl (S.bs0 (α := List Int) (d := 6) (by kernel_rfl) ?_)
  clear S; intro ac w N q1 F2 S up o3 d4
  clear up d4
  refine S.q 1 [0, 3] 0 ⟨[(0, .v (slv (l).length pl.1)), (3, .v (slv 0 q1.1))], []⟩ .nil ?_; clear S; intro ac w β S
  refine RG.done rfl (nx_then (wp_seq (wp_seq (RG.start ?_))))
  refine S.q 3 [3, 7, 8, 9] 0 ⟨[(3, .v (slv 0 q1.1)), (7, .v (slv (l).length pl.1)), (8, .v (I ((l).length : Int))), (9, .v (I 0))], []⟩ .nil ?_; clear S; intro ac w β S
  refine RG.done rfl (nx_then (wp_block ?_))
  replace S := S.p [3, 7, 8, 9] 0 ⟨[(3, .v (slv 0 q1.1)), (7, .v (slv (l).length pl.1)), (8, .v (I ((l).length : Int))), (9, .v (I 0))], []⟩
  refine wp_loop_down (fun mm ac w => ∃ (k : Nat) (acc : List (List Int)) (q5 : GT.Ptr (List (List Int))) (F6 : Bl) (u : World) (N : Bl) (β : Nat → Nat), mm = (l).length - k ∧ (k ≤ (l).length) ∧ (acc = (l).take k) ∧ St Try.prog Try.f122.ntmps w0 NoB u N β ⟨[(3, .v (slv (acc).length q5.1)), (7, .v (slv (l).length pl.1)), (8, .v (I ((l).length : Int))), (9, .v (I (k : Int)))], []⟩ ac w ∧ Ow w0 NoB u N F6 acc q5) _ ⟨0, ([] : List (List Int)), q1, F2, _, _, _, rfl, (by first | omega | (simp; done) | (simp; omega)), (by simp), S.cast (by kernel_rfl), o3⟩ ?_
  clear S o3
  rintro mm ac w ⟨k, acc, q5, F6, u, N, β, rfl, hk, hacc, S, o7⟩
  have hlacc : acc.length = k := by rw [hacc]; simp; omega
  refine wp_seq (RG.start ?_)
  refine S.q 1 [3, 7, 8, 9, 10] 0 ⟨[(3, .v (slv (acc).length q5.1)), (7, .v (slv (l).length pl.1)), (8, .v (I ((l).length : Int))), (9, .v (I (k : Int))), (10, .v (B (decide ((k : Int) < ((l).length : Int)))))], []⟩ .nil ?_; clear S; intro ac w β S
  refine RG.done rfl (nx_then (wp_seq ?_))
  refine S.c (decide ((k : Int) < ((l).length : Int))) (fun h8 => ?_) (fun h8 => ?_)
  · have g9 : (k : Int) < ((l).length : Int) := of_decide_eq_true h8
    refine wp_skip (nx_then (wp_seq (wp_block (wp_seq (RG.start ?_)))))
    refine S.q 3 [3, 5, 7, 8, 9] 0 ⟨[(3, .v (slv (acc).length q5.1)), (5, .v (slv ((el l k)).length (pl.2 k).1)), (7, .v (slv (l).length pl.1)), (8, .v (I ((l).length : Int))), (9, .v (I (k : Int)))], []⟩ (.cons (Q_idx (S.arg hl) (l := (l).length) (k := k) (i := (k : Int)) rfl rfl (by omega) Try.underlying31 (by kernel_rfl)) (.cons (Q_el1 (S.arg hl) (t := 24) (k := k) (by omega) rfl (by kernel_rfl)) .nil)) ?_; clear S; intro ac w β S
    refine RG.done rfl (nx_then (RG.start ?_))
    refine S.q 2 [7, 8, 9, 13, 14] 0 ⟨[(7, .v (slv (l).length pl.1)), (8, .v (I ((l).length : Int))), (9, .v (I (k : Int))), (13, .v (slv (acc).length q5.1)), (14, .v (slv ((el l k)).length (pl.2 k).1))], []⟩ .nil ?_; clear S; intro ac w β S
    refine RG.op rfl (S.call1 (r := (el l k)) (d := 15) (c_impl_copyInts w (el l k) (pl.2 k) (S.rd (LRd.el (S.arg hl) k (by omega)))) (by kernel_rfl) rfl ?_)
    clear S; intro ac w N q10 F11 S up o12 d13
    have d14 : Disj F6 F11 := fun b x y => d13 b (o7.sub b x) y
    replace o7 := o7.up up
    clear up d13
    refine RG.op rfl (S.bs1 (α := List Int) (x := (el l k)) (p := q10) o12.own o12.sub o12.young (d := 16) (by kernel_rfl) ?_)
    clear S; intro ac w N q15 F16 S up o17 d18
    have d19 : Disj F6 F16 := d18 _ d14 o7.sub
    replace o7 := o7.up up
    clear up d18
    refine RG.op rfl (S.appOwn (α := List Int) o7 o17 d19 (by' := 24) (d := 17) (lx := (acc).length) (ly := 1) rfl rfl (by kernel_rfl) (show _ ≤ 4194304 by simp only [List.length_append, List.length_cons, List.length_nil]; omega) ?_)
    clear S; intro ac w N q20 F21 S up o22 d23
    clear up d23
    refine S.q 1 [3, 7, 8, 9] 0 ⟨[(3, .v (slv ((acc ++ [(el l k)])).length q20.1)), (7, .v (slv (l).length pl.1)), (8, .v (I ((l).length : Int))), (9, .v (I (k : Int)))], []⟩ .nil ?_; clear S; intro ac w β S
    refine RG.done rfl (nx_block (nx_then (RG.start ?_)))
    refine S.q 2 [3, 7, 8, 9] 0 ⟨[(3, .v (slv ((acc ++ [(el l k)])).length q20.1)), (7, .v (slv (l).length pl.1)), (8, .v (I ((l).length : Int))), (9, .v (I ((k : Int) + 1)))], []⟩ (.cons (Q_add (x := (k : Int)) (y := 1) ⟨by omega, by omega⟩) .nil) ?_; clear S; intro ac w β S
    refine RG.done rfl (nx_then ?_)
    replace S := S.p [3, 7, 8, 9] 0 ⟨[(3, .v (slv ((acc ++ [(el l k)])).length q20.1)), (7, .v (slv (l).length pl.1)), (8, .v (I ((l).length : Int))), (9, .v (I ((k : Int) + 1)))], []⟩
    refine ⟨(l).length - (k + 1), by omega, k + 1, (acc ++ [(el l k)]), q20, F21, _, _, _, rfl, ?_, ?_, S.cast (by kernel_rfl), o22⟩
    · clear S; first | omega | (simp [*]; done) | (simp [*]; omega)
    · clear S; (first | (rw [take_el (by omega), hacc]; done) | (rw [take_el (by omega), hacc]; simp; done))
  · have g24 : ¬ ((k : Int) < ((l).length : Int)) := of_decide_eq_false h8
    refine wp_exit (ex_then (ex_then (ex_hit (nx_then (wp_seq (RG.start ?_))))))
    refine S.q 2 [2] 0 ⟨[(2, .v (slv (acc).length q5.1))], []⟩ .nil ?_; clear S; intro ac w β S
    refine RG.done rfl (nx_then (wp_ret ?_))
    refine S.r [slv (acc).length q5.1] ?_
    exact ret1_of S (show l = acc by clear S; (rw [hacc, take_all (by omega)])) rfl o7

set_option maxRecDepth 100000 in
theorem c_impl_copyProg (w0 : World) (l : List TIns) (pl : LP TIns) (hl : GT.rd KK (Lt w0.heap.size) w0 l pl) : Calls Try.prog 133 [slv (l).length pl.1].toArray w0 (Ret1 NoB w0 (l : List TIns)) := by
  refine Calls.walk (args := [slv (l).length pl.1]) NoB Try.func133 rfl rfl ?_
  intro ac β S
  have hlel : l.length ≤ 4194304 := LRd.le hl
  refine wp_seq (RG.start ?_)
  refine S.q 1 [0] 0 ⟨[(0, .v (slv (l).length pl.1))], []⟩ .nil ?_; clear S; intro ac w β S
  refine RG.done rfl (nx_then (wp_seq (RG.start ?_)))
  refine RG.op rfl (S.bs0 (α := TIns) (d := 3) (by kernel_rfl) ?_)
  clear S; intro ac w N q1 F2 S up o3 d4
  clear up d4
  refine S.q 1 [3, 4] 0 ⟨[(3, .v (slv 0 q1.1)), (4, .v (slv (l).length pl.1))], []⟩ .nil ?_; clear S; intro ac w β S
  have b9 : (l).length ≤ 4194304 := LRd.le (S.arg hl)
  refine RG.op rfl (S.appFlat (α := TIns) o3 ((S.arg hl)) (fun _ _ h => h) (by' := 16) (d := 5) (lx := 0) (ly := (l).length) rfl rfl (by kernel_rfl) (show _ ≤ 4194304 by simp only [List.length_append, List.length_cons, List.length_nil]; omega) ?_)
  clear S; intro ac w N q5 F6 S up o7 d8
  clear up d8
  refine S.q 1 [2] 0 ⟨[(2, .v (slv ((([] : List TIns) ++ l)).length q5.1))], []⟩ .nil ?_; clear S; intro ac w β S
  refine RG.done rfl (nx_then (wp_ret ?_))
  refine S.r [slv ((([] : List TIns) ++ l)).length q5.1] ?_
  exact ret1_of S (show l = (([] : List TIns) ++ l) by clear S; simp) rfl o7

set_option maxRecDepth 100000 in
theorem c_impl_copyTable (w0 : World) (l : List TSlot) (pl : LP TSlot) (hl : GT.rd KK (Lt w0.heap.size) w0 l pl) : Calls Try.prog 108 [slv (l).length pl.1].toArray w0 (Ret1 NoB w0 (l : List TSlot)) := by
  refine Calls.walk (args := [slv (l).length pl.1]) NoB Try.func108 rfl rfl ?_
  intro ac β S
  have hlel : l.length ≤ 4194304 := LRd.le hl
  refine wp_seq (RG.start ?_)
  refine S.q 1 [0] 0 ⟨[(0, .v (slv (l).length pl.1))], []⟩ .nil ?_; clear S; intro ac w β S
  refine RG.done rfl (nx_then (wp_seq (RG.start ?_)))
  refine RG.op rfl (S.bs0 (α := TSlot) (d := 3) (by kernel_rfl) ?_)
  clear S; intro ac w N q1 F2 S up o3 d4
  clear up d4
  refine S.q 1 [3, 4] 0 ⟨[(3, .v (slv 0 q1.1)), (4, .v (slv (l).length pl.1))], []⟩ .nil ?_; clear S; intro ac w β S
  have b9 : (l).length ≤ 4194304 := LRd.le (S.arg hl)
  refine RG.op rfl (S.appFlat (α := TSlot) o3 ((S.arg hl)) (fun _ _ h => h) (by' := 16) (d := 5) (lx := 0) (ly := (l).length) rfl rfl (by kernel_rfl) (show _ ≤ 4194304 by simp only [List.length_append, List.length_cons, List.length_nil]; omega) ?_)
  clear S; intro ac w N q5 F6 S up o7 d8
  clear up d8
  refine S.q 1 [2] 0 ⟨[(2, .v (slv ((([] : List TSlot) ++ l)).length q5.1))], []⟩ .nil ?_; clear S; intro ac w β S
  refine RG.done rfl (nx_then (wp_ret ?_))
  refine S.r [slv ((([] : List TSlot) ++ l)).length q5.1] ?_
  exact ret1_of S (show l = (([] : List TSlot) ++ l) by clear S; simp) rfl o7

set_option maxRecDepth 100000 in
theorem c_impl_copyGuest (w0 : World) (g : TGuest) (pg : PGuest) (hg : GT.rd KK (Lt w0.heap.size) w0 g pg) : Calls Try.prog 154 [GT.val g pg].toArray w0 (Ret1 NoB w0 (g : TGuest)) := by
  refine Calls.walk (args := [GT.val g pg]) NoB Try.func154 rfl rfl ?_
  intro ac β S
  have hleg_prog : g.prog.length ≤ 4194304 := LRd.le (RGuest.prog (d := g) hg)
  have hleg_written : g.written.length ≤ 4194304 := LRd.le (RGuest.written (d := g) hg)
  have hleg_live : g.live.length ≤ 4194304 := LRd.le (RGuest.live (d := g) hg)
  have hleg_seen : g.seen.length ≤ 4194304 := LRd.le (RGuest.seen (d := g) hg)
  refine wp_seq (RG.start ?_)
  refine S.q 2 [1, 2] 2 ⟨[(1, .p 0 0), (2, .p 1 0)], [GT.cells g pg, Zc TGuest]⟩ .nil ?_; clear S; intro ac w β S
  refine RG.done rfl (nx_then (wp_seq (RG.start ?_)))
  refine S.q 2 [1, 2, 4] 2 ⟨[(1, .p 0 0), (2, .p 1 0), (4, .v (slv (g.prog).length pg.prog.1))], [GT.cells g pg, Zc TGuest]⟩ .nil ?_; clear S; intro ac w β S
  refine RG.op rfl (S.call1 (r := g.prog) (d := 5) (c_impl_copyProg w g.prog pg.prog (S.rd (RGuest.prog (d := g) (S.arg hg)))) (by kernel_rfl) rfl ?_)
  clear S; intro ac w N q1 F2 S up o3 d4
  clear up d4
  refine S.q 2 [1, 2] 2 ⟨[(1, .p 0 0), (2, .p 1 0)], [[slv (g.prog).length q1.1, I g.acc, I g.pc, slv (g.written).length pg.written.1, slv (g.live).length pg.live.1, I g.ctl.traps, I g.ctl.post, B g.ctl.opn, I g.pend, I g.exit.kind, I g.exit.page, B g.exit.wr, I g.exit.n, B g.halted, slv (g.seen).length pg.seen.1], Zc TGuest]⟩ .nil ?_; clear S; intro ac w β S
  refine RG.done rfl (nx_then (wp_seq (RG.start ?_)))
  refine S.q 2 [1, 2, 8] 2 ⟨[(1, .p 0 0), (2, .p 1 0), (8, .v (slv (g.written).length pg.written.1))], [[slv (g.prog).length q1.1, I g.acc, I g.pc, slv (g.written).length pg.written.1, slv (g.live).length pg.live.1, I g.ctl.traps, I g.ctl.post, B g.ctl.opn, I g.pend, I g.exit.kind, I g.exit.page, B g.exit.wr, I g.exit.n, B g.halted, slv (g.seen).length pg.seen.1], Zc TGuest]⟩ .nil ?_; clear S; intro ac w β S
  refine RG.op rfl (S.call1 (r := g.written) (d := 9) (c_impl_copyTable w g.written pg.written (S.rd (RGuest.written (d := g) (S.arg hg)))) (by kernel_rfl) rfl ?_)
  clear S; intro ac w N q5 F6 S up o7 d8
  have d9 : Disj F2 F6 := fun b x y => d8 b (o3.sub b x) y
  replace o3 := o3.up up
  clear up d8
  refine S.q 2 [1, 2] 2 ⟨[(1, .p 0 0), (2, .p 1 0)], [[slv (g.prog).length q1.1, I g.acc, I g.pc, slv (g.written).length q5.1, slv (g.live).length pg.live.1, I g.ctl.traps, I g.ctl.post, B g.ctl.opn, I g.pend, I g.exit.kind, I g.exit.page, B g.exit.wr, I g.exit.n, B g.halted, slv (g.seen).length pg.seen.1], Zc TGuest]⟩ .nil ?_; clear S; intro ac w β S
  refine RG.done rfl (nx_then (wp_seq (RG.start ?_)))
  refine S.q 2 [1, 2, 12] 2 ⟨[(1, .p 0 0), (2, .p 1 0), (12, .v (slv (g.live).length pg.live.1))], [[slv (g.prog).length q1.1, I g.acc, I g.pc, slv (g.written).length q5.1, slv (g.live).length pg.live.1, I g.ctl.traps, I g.ctl.post, B g.ctl.opn, I g.pend, I g.exit.kind, I g.exit.page, B g.exit.wr, I g.exit.n, B g.halted, slv (g.seen).length pg.seen.1], Zc TGuest]⟩ .nil ?_; clear S; intro ac w β S
  refine RG.op rfl (S.call1 (r := g.live) (d := 13) (c_impl_copyTable w g.live pg.live (S.rd (RGuest.live (d := g) (S.arg hg)))) (by kernel_rfl) rfl ?_)
  clear S; intro ac w N q10 F11 S up o12 d13
  have d14 : Disj F2 F11 := fun b x y => d13 b (o3.sub b x) y
  have d15 : Disj F6 F11 := fun b x y => d13 b (o7.sub b x) y
  replace o3 := o3.up up
  replace o7 := o7.up up
  clear up d13
  refine S.q 2 [1, 2] 2 ⟨[(1, .p 0 0), (2, .p 1 0)], [[slv (g.prog).length q1.1, I g.acc, I g.pc, slv (g.written).length q5.1, slv (g.live).length q10.1, I g.ctl.traps, I g.ctl.post, B g.ctl.opn, I g.pend, I g.exit.kind, I g.exit.page, B g.exit.wr, I g.exit.n, B g.halted, slv (g.seen).length pg.seen.1], Zc TGuest]⟩ .nil ?_; clear S; intro ac w β S
  refine RG.done rfl (nx_then (wp_seq (RG.start ?_)))
  refine S.q 2 [1, 2, 16] 2 ⟨[(1, .p 0 0), (2, .p 1 0), (16, .v (slv (g.seen).length pg.seen.1))], [[slv (g.prog).length q1.1, I g.acc, I g.pc, slv (g.written).length q5.1, slv (g.live).length q10.1, I g.ctl.traps, I g.ctl.post, B g.ctl.opn, I g.pend, I g.exit.kind, I g.exit.page, B g.exit.wr, I g.exit.n, B g.halted, slv (g.seen).length pg.seen.1], Zc TGuest]⟩ .nil ?_; clear S; intro ac w β S
  refine RG.op rfl (S.call1 (r := g.seen) (d := 17) (c_impl_copyInts w g.seen pg.seen (S.rd (RGuest.seen (d := g) (S.arg hg)))) (by kernel_rfl) rfl ?_)
  clear S; intro ac w N q16 F17 S up o18 d19
  have d20 : Disj F2 F17 := fun b x y => d19 b (o3.sub b x) y
  have d21 : Disj F6 F17 := fun b x y => d19 b (o7.sub b x) y
  have d22 : Disj F11 F17 := fun b x y => d19 b (o12.sub b x) y
  replace o3 := o3.up up
  replace o7 := o7.up up
  replace o12 := o12.up up
  clear up d19
  refine S.q 2 [1, 2] 2 ⟨[(1, .p 0 0), (2, .p 1 0)], [[slv (g.prog).length q1.1, I g.acc, I g.pc, slv (g.written).length q5.1, slv (g.live).length q10.1, I g.ctl.traps, I g.ctl.post, B g.ctl.opn, I g.pend, I g.exit.kind, I g.exit.page, B g.exit.wr, I g.exit.n, B g.halted, slv (g.seen).length q16.1], Zc TGuest]⟩ .nil ?_; clear S; intro ac w β S
  refine RG.done rfl (nx_then (wp_seq (RG.start ?_)))
  refine S.q 2 [2] 2 ⟨[(2, .p 1 0)], [[slv (g.prog).length q1.1, I g.acc, I g.pc, slv (g.written).length q5.1, slv (g.live).length q10.1, I g.ctl.traps, I g.ctl.post, B g.ctl.opn, I g.pend, I g.exit.kind, I g.exit.page, B g.exit.wr, I g.exit.n, B g.halted, slv (g.seen).length q16.1], [slv (g.prog).length q1.1, I g.acc, I g.pc, slv (g.written).length q5.1, slv (g.live).length q10.1, I g.ctl.traps, I g.ctl.post, B g.ctl.opn, I g.pend, I g.exit.kind, I g.exit.page, B g.exit.wr, I g.exit.n, B g.halted, slv (g.seen).length q16.1]]⟩ .nil ?_; clear S; intro ac w β S
  refine RG.done rfl (nx_then (wp_ret ?_))
  refine S.r [GT.val (⟨g.prog, g.acc, g.pc, g.written, g.live, g.ctl, g.pend, g.exit, g.halted, g.seen⟩ : TGuest) (⟨q1, q5, q10, q16⟩ : PGuest)] ?_
  have o23 := ow_Guest (x := (⟨g.prog, g.acc, g.pc, g.written, g.live, g.ctl, g.pend, g.exit, g.halted, g.seen⟩ : TGuest)) (p := (⟨q1, q5, q10, q16⟩ : PGuest)) o3 o7 o12 o18 d9 d14 d20 d15 d21 d22 (RGuest.acc (d := g) (S.arg hg)) (RGuest.pc (d := g) (S.arg hg)) (RGuest.ctl (d := g) (S.arg hg)) (RGuest.pend (d := g) (S.arg hg)) (RGuest.exit (d := g) (S.arg hg))
  exact ret1_of S (show g = (⟨g.prog, g.acc, g.pc, g.written, g.live, g.ctl, g.pend, g.exit, g.halted, g.seen⟩ : TGuest) by clear S; (first | rfl | simp)) rfl o23

end Go.Proofs.Ytpjhamcanhnfjaa
