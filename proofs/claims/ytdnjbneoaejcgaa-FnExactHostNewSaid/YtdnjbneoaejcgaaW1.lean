/- The walks: what each function that the laws reach computes (part 1). -/
import Derived.Test.YtdnjbneoaejcgaaMarks
import Derived.Test.YtdnjbneoaejcgaaCore9
import Derived.Test.YtdnjbneoaejcgaaEq
import Derived.Test.YtdnjbneoaejcgaaSz
import Derived.Test.YtdnjbneoaejcgaaOw
import Derived.Test.YtdnjbneoaejcgaaSpec3
import Derived.Test.YtdnjbneoaejcgaaDrawO
import Derived.Test.YtdnjbneoaejcgaaMk
import Derived.Test.YtdnjbneoaejcgaaSpec4
import Derived.Test.YtdnjbneoaejcgaaSlice
import Derived.Test.YtdnjbneoaejcgaaPt
import Derived.Test.YtdnjbneoaejcgaaSpec5
import Derived.Test.YtdnjbneoaejcgaaShort
import Derived.Test.YtdnjbneoaejcgaaClo
import Derived.Test.YtdnjbneoaejcgaaDag
import Derived.Test.YtdnjbneoaejcgaaSpec6
import Derived.Test.YtdnjbneoaejcgaaSpec7
import Derived.Test.YtdnjbneoaejcgaaCopy
import Derived.Test.YtdnjbneoaejcgaaSpec9
import Derived.Test.YtdnjbneoaejcgaaProg
import Derived.KernelRfl
namespace Go.Proofs.Ytdnjbneoaejcgaa
open Go
set_option linter.unusedVariables false
set_option linter.unusedSimpArgs false

set_option maxRecDepth 100000 in
theorem c_laws_szInsS (w0 : World) (a : List TIns) (pa : LP TIns) (ha : GT.rd KR (Lt w0.heap.size) w0 a pa) (left : Int) (pre0 : -1 ≤ left) (pre1 : left ≤ 4194304) : Calls Try.prog 23 [slv (a).length pa.1, I left].toArray w0 (fun e w' => e = .returned (I (f_sz (SZ.sz a) left)) ∧ Chg NoB w0 w') := by
 refine Calls.walk (args := [slv (a).length pa.1, I left]) NoB Try.func23 rfl rfl ?_
 intro ac β S
 have hz := szl_TIns a
 have hb0 := f_sz_cs (SZ.sz a) left
 have hlea : a.length ≤ 9223372036854775807 := LRd.le ha
 refine ws (rg ?_)
 refine S.qe 1 [] [] ?_; clear S; intro ac w β S
 refine (nt (ws (rg ?_)))
 refine S.qg 5 [] [(1, .v (I (left - ((a).length : Int))))] (.cons (Q_sub (x := left) (y := ((a).length : Int)) ⟨by omega, by omega⟩) .nil) ?_; clear S; intro ac w β S
 refine (nt (ws (ws (rg ?_))))
 refine S.qe 2 [] [(10, .v (B (decide ((left - ((a).length : Int)) < 0))))] ?_; clear S; intro ac w β S
 refine (nt (S.c (decide ((left - ((a).length : Int)) < 0)) (fun h1 => ?_) (fun h1 => ?_)))
 ·have g2 := of_decide_eq_true h1
  refine ws (rg ?_)
  refine S.qe 1 [] [(4, .v (I (-1)))] ?_; clear S; intro ac w β S
  exact (nt (wr (rt (S.r [I (-1)] ⟨retI (by clear S; omega), S.chg⟩))))
 ·have g3 := of_decide_eq_false h1
  refine wk (nt (ws (rg ?_)))
  refine S.qe 2 [] [(4, .v (I (left - ((a).length : Int))))] ?_; clear S; intro ac w β S
  exact (nt (wr (S.r [I (left - ((a).length : Int))] ⟨retI (by clear S; omega), S.chg⟩)))

theorem k0_laws_szInsSS {p : Prop} (h : p := by clear S; (first | omega | (have hall := szsum_all (xs := a) (k := k) (by omega); omega) | (have hs1 := szsum_take (xs := a) (k := k) (by omega); have hs2 := szsum_take_le a (k + 1); omega))) : p := h
set_option maxRecDepth 100000 in
theorem c_laws_szInsSS (w0 : World) (a : List (List TIns)) (pa : LP (List TIns)) (ha : GT.rd KR (Lt w0.heap.size) w0 a pa) (left : Int) (pre0 : -1 ≤ left) (pre1 : left ≤ 4194304) : Calls Try.prog 5 [slv (a).length pa.1, I left].toArray w0 (fun e w' => e = .returned (I (f_sz (SZ.sz a) left)) ∧ Chg NoB w0 w') := by
 refine Calls.walk (args := [slv (a).length pa.1, I left]) NoB Try.func5 rfl rfl ?_
 intro ac β S
 have hz := sz_list a
 have hb0 := f_sz_cs (SZ.sz a) left
 have hlea : a.length ≤ 9223372036854775807 := LRd.le ha
 refine ws (rg ?_)
 refine S.qe 1 [] [] ?_; clear S; intro ac w β S
 refine (nt (ws (rg ?_)))
 refine S.qg 5 [] [(1, .v (I (left - ((a).length : Int))))] (.cons (Q_sub (x := left) (y := ((a).length : Int)) ⟨by omega, by omega⟩) .nil) ?_; clear S; intro ac w β S
 refine (nt (ws (ws (rg ?_))))
 refine S.qe 2 [] [(11, .v (B (decide ((left - ((a).length : Int)) < 0))))] ?_; clear S; intro ac w β S
 refine (nt (S.c (decide ((left - ((a).length : Int)) < 0)) (fun h1 => ?_) (fun h1 => ?_)))
 ·have g2 := of_decide_eq_true h1
  refine ws (rg ?_)
  refine S.qe 1 [] [(4, .v (I (-1)))] ?_; clear S; intro ac w β S
  exact (nt (wr (rt (S.r [I (-1)] ⟨retI k0_laws_szInsSS, S.chg⟩))))
 ·have g3 := of_decide_eq_false h1
  refine wk (nt (ws (ws (rg ?_))))
  refine S.qe 1 [] [(5, .v (I 0))] ?_; clear S; intro ac w β S
  refine (nt (wp_block ?_))
  refine wp_loop_down (fun mm ac w => ∃ (k : Nat) (l : Int)  (u : World) (N : Bl) (β : Nat → Nat), mm = a.length - k ∧ (k ≤ a.length) ∧ (l = left - a.length - szsum (a.take k)) ∧ (0 ≤ l) ∧ St Try.prog Try.f5.ntmps w0 NoB u N β ⟨[(0, .v (slv (a).length pa.1)), (1, .v (I l)), (5, .v (I (k : Int)))], []⟩ ac w) _ ⟨0, (left - ((a).length : Int)), _, _, _, rfl, (by first | omega | (simp; done) | (simp; omega)), (by simp [szsum_nil]), (by first | omega | (simp; done) | (simp; omega)), S.z⟩ ?_
  clear S
  rintro mm ac w ⟨k, l, u, N, β, rfl, hk, hl, hl0, S⟩
  have hle2 := szsum_take_le a k
  refine ws (ws (rg ?_))
  refine S.qe 4 [] [(15, .v (B (decide ((k : Int) < ((a).length : Int)))))] ?_; clear S; intro ac w β S
  refine (nt (S.c (decide ((k : Int) < ((a).length : Int))) (fun h4 => ?_) (fun h4 => ?_)))
  ·have g5 := of_decide_eq_true h4
   refine wk (nt (ws (wp_block (ws (rg ?_)))))
   have b6 := f_sz_cs (SZ.sz (el a k)) l
   refine S.qg 7 [] [(1, .v (I (f_sz (SZ.sz (el a k)) l)))] (.cons (Q_idx (S.arg ha) (l := (a).length) (k := k) (i := (k : Int)) rfl rfl (by omega) Try.underlying22 (by kernel_rfl)) (.cons (Q_el1 (S.arg ha) (t := 55) (k := k) (by omega) rfl (by kernel_rfl)) (.cons (Q_call fun w hw => c_laws_szInsS w (el a k) (pa.2 k) (rd_of (LRd.el (S.arg ha) k (by omega)) hw) l (by omega) (by omega)) .nil))) ?_; clear S; intro ac w β S
   refine (nt (ws (rg ?_)))
   refine S.qe 2 [] [(25, .v (B (decide ((f_sz (SZ.sz (el a k)) l) < 0))))] ?_; clear S; intro ac w β S
   refine (nt (S.c (decide ((f_sz (SZ.sz (el a k)) l) < 0)) (fun h7 => ?_) (fun h7 => ?_)))
   ·have g8 := of_decide_eq_true h7
    refine ws (rg ?_)
    refine S.qe 1 [] [(4, .v (I (-1)))] ?_; clear S; intro ac w β S
    exact (nt (wr (rb (rt (rt (rb (rt (S.r [I (-1)] ⟨retI k0_laws_szInsSS, S.chg⟩))))))))
   ·have g9 := of_decide_eq_false h7
    refine wk (nb (nt (rg ?_)))
    refine S.qg 3 [] [(5, .v (I ((k : Int) + 1)))] (.cons (Q_add (x := (k : Int)) (y := 1) ⟨by omega, by omega⟩) .nil) ?_; clear S; intro ac w β S
    refine (nt ?_)
    refine ⟨a.length - (k + 1), by omega, k + 1, (f_sz (SZ.sz (el a k)) l), _, _, _, rfl, ?_, ?_, ?_, S.z⟩
    ·clear S; first | omega | (simp [*]; done) | (simp [*]; omega)
    ·clear S; (rw [szsum_take (by omega)]; omega)
    ·clear S; omega
  ·have g10 := of_decide_eq_false h4
   refine wp_exit (ex_then (ex_then (ex_hit (nt (ws (rg ?_))))))
   refine S.qe 2 [] [(4, .v (I l))] ?_; clear S; intro ac w β S
   exact (nt (wr (S.r [I l] ⟨retI k0_laws_szInsSS, S.chg⟩)))

theorem k0_laws_szInsSSS {p : Prop} (h : p := by clear S; (first | omega | (have hall := szsum_all (xs := a) (k := k) (by omega); omega) | (have hs1 := szsum_take (xs := a) (k := k) (by omega); have hs2 := szsum_take_le a (k + 1); omega))) : p := h
set_option maxRecDepth 100000 in
theorem c_laws_szInsSSS (w0 : World) (a : List (List (List TIns))) (pa : LP (List (List TIns))) (ha : GT.rd KR (Lt w0.heap.size) w0 a pa) (left : Int) (pre0 : -1 ≤ left) (pre1 : left ≤ 4194304) : Calls Try.prog 14 [slv (a).length pa.1, I left].toArray w0 (fun e w' => e = .returned (I (f_sz (SZ.sz a) left)) ∧ Chg NoB w0 w') := by
 refine Calls.walk (args := [slv (a).length pa.1, I left]) NoB Try.func14 rfl rfl ?_
 intro ac β S
 have hz := sz_list a
 have hb0 := f_sz_cs (SZ.sz a) left
 have hlea : a.length ≤ 9223372036854775807 := LRd.le ha
 refine ws (rg ?_)
 refine S.qe 1 [] [] ?_; clear S; intro ac w β S
 refine (nt (ws (rg ?_)))
 refine S.qg 5 [] [(1, .v (I (left - ((a).length : Int))))] (.cons (Q_sub (x := left) (y := ((a).length : Int)) ⟨by omega, by omega⟩) .nil) ?_; clear S; intro ac w β S
 refine (nt (ws (ws (rg ?_))))
 refine S.qe 2 [] [(11, .v (B (decide ((left - ((a).length : Int)) < 0))))] ?_; clear S; intro ac w β S
 refine (nt (S.c (decide ((left - ((a).length : Int)) < 0)) (fun h1 => ?_) (fun h1 => ?_)))
 ·have g2 := of_decide_eq_true h1
  refine ws (rg ?_)
  refine S.qe 1 [] [(4, .v (I (-1)))] ?_; clear S; intro ac w β S
  exact (nt (wr (rt (S.r [I (-1)] ⟨retI k0_laws_szInsSSS, S.chg⟩))))
 ·have g3 := of_decide_eq_false h1
  refine wk (nt (ws (ws (rg ?_))))
  refine S.qe 1 [] [(5, .v (I 0))] ?_; clear S; intro ac w β S
  refine (nt (wp_block ?_))
  refine wp_loop_down (fun mm ac w => ∃ (k : Nat) (l : Int)  (u : World) (N : Bl) (β : Nat → Nat), mm = a.length - k ∧ (k ≤ a.length) ∧ (l = left - a.length - szsum (a.take k)) ∧ (0 ≤ l) ∧ St Try.prog Try.f14.ntmps w0 NoB u N β ⟨[(0, .v (slv (a).length pa.1)), (1, .v (I l)), (5, .v (I (k : Int)))], []⟩ ac w) _ ⟨0, (left - ((a).length : Int)), _, _, _, rfl, (by first | omega | (simp; done) | (simp; omega)), (by simp [szsum_nil]), (by first | omega | (simp; done) | (simp; omega)), S.z⟩ ?_
  clear S
  rintro mm ac w ⟨k, l, u, N, β, rfl, hk, hl, hl0, S⟩
  have hle2 := szsum_take_le a k
  refine ws (ws (rg ?_))
  refine S.qe 4 [] [(15, .v (B (decide ((k : Int) < ((a).length : Int)))))] ?_; clear S; intro ac w β S
  refine (nt (S.c (decide ((k : Int) < ((a).length : Int))) (fun h4 => ?_) (fun h4 => ?_)))
  ·have g5 := of_decide_eq_true h4
   refine wk (nt (ws (wp_block (ws (rg ?_)))))
   have b6 := f_sz_cs (SZ.sz (el a k)) l
   refine S.qg 7 [] [(1, .v (I (f_sz (SZ.sz (el a k)) l)))] (.cons (Q_idx (S.arg ha) (l := (a).length) (k := k) (i := (k : Int)) rfl rfl (by omega) Try.underlying40 (by kernel_rfl)) (.cons (Q_el1 (S.arg ha) (t := 22) (k := k) (by omega) rfl (by kernel_rfl)) (.cons (Q_call fun w hw => c_laws_szInsSS w (el a k) (pa.2 k) (rd_of (LRd.el (S.arg ha) k (by omega)) hw) l (by omega) (by omega)) .nil))) ?_; clear S; intro ac w β S
   refine (nt (ws (rg ?_)))
   refine S.qe 2 [] [(25, .v (B (decide ((f_sz (SZ.sz (el a k)) l) < 0))))] ?_; clear S; intro ac w β S
   refine (nt (S.c (decide ((f_sz (SZ.sz (el a k)) l) < 0)) (fun h7 => ?_) (fun h7 => ?_)))
   ·have g8 := of_decide_eq_true h7
    refine ws (rg ?_)
    refine S.qe 1 [] [(4, .v (I (-1)))] ?_; clear S; intro ac w β S
    exact (nt (wr (rb (rt (rt (rb (rt (S.r [I (-1)] ⟨retI k0_laws_szInsSSS, S.chg⟩))))))))
   ·have g9 := of_decide_eq_false h7
    refine wk (nb (nt (rg ?_)))
    refine S.qg 3 [] [(5, .v (I ((k : Int) + 1)))] (.cons (Q_add (x := (k : Int)) (y := 1) ⟨by omega, by omega⟩) .nil) ?_; clear S; intro ac w β S
    refine (nt ?_)
    refine ⟨a.length - (k + 1), by omega, k + 1, (f_sz (SZ.sz (el a k)) l), _, _, _, rfl, ?_, ?_, ?_, S.z⟩
    ·clear S; first | omega | (simp [*]; done) | (simp [*]; omega)
    ·clear S; (rw [szsum_take (by omega)]; omega)
    ·clear S; omega
  ·have g10 := of_decide_eq_false h4
   refine wp_exit (ex_then (ex_then (ex_hit (nt (ws (rg ?_))))))
   refine S.qe 2 [] [(4, .v (I l))] ?_; clear S; intro ac w β S
   exact (nt (wr (S.r [I l] ⟨retI k0_laws_szInsSSS, S.chg⟩)))

set_option maxRecDepth 100000 in
theorem c_laws_toIns (w0 : World) (a : TIns) : Calls Try.prog 61 [GT.val a ()].toArray w0 (fun e w' => e = .returned (GT.val a ()) ∧ Chg NoB w0 w') := by
 refine Calls.walk (args := [GT.val a ()]) NoB Try.func61 rfl rfl ?_
 intro ac β S
 refine ws (rg ?_)
 refine S.qem 2 [] [(1, .p 0 0), (2, .p 1 0)] 2 [(0, GT.cells a ()), (1, Zc TIns)] ?_; clear S; intro ac w β S
 refine (nt (ws (rg ?_)))
 refine S.qem 1 [] [(3, .p 2 0)] 3 [(2, Zc TIns)] ?_; clear S; intro ac w β S
 refine (nt (ws (rg ?_)))
 refine S.qem 4 [] [] 3 [(2, [I a.opc, I 0])] ?_; clear S; intro ac w β S
 refine (nt (ws (rg ?_)))
 refine S.qem 4 [] [] 3 [(2, [I a.opc, I a.x])] ?_; clear S; intro ac w β S
 refine (nt (ws (rg ?_)))
 refine S.qem 2 [] [] 2 [(1, [I a.opc, I a.x])] ?_; clear S; intro ac w β S
 exact (nt (wr (S.r [GT.val (⟨a.opc, a.x⟩ : TIns) ()] ⟨retV (p := ()) (by clear S; first | rfl | (simp [a, *]; done) | (simp [a, *]; omega) | (simp_all [a]; done) | (simp_all [a]; omega)), S.chg⟩)))

set_option maxRecDepth 100000 in
theorem c_laws_toInsS (w0 : World) (a : List TIns) (pa : LP TIns) (ha : GT.rd KK (Lt w0.heap.size) w0 a pa) : Calls Try.prog 28 [slv (a).length pa.1].toArray w0 (Ret1 NoB w0 (a : List TIns)) := by
 refine Calls.walk (args := [slv (a).length pa.1]) NoB Try.func28 rfl rfl ?_
 intro ac β S
 have hlea : a.length ≤ 4194304 := LRd.le ha
 refine ws (rg ?_)
 refine S.qe 1 [] [] ?_; clear S; intro ac w β S
 refine (nt (ws (rg ?_)))
 refine S.qa 2 [] [(6, .v (I ((a).length : Int)))] ?_; clear S; intro ac w β S
 refine RG.op rfl (S.make (α := TIns) (m := (a).length) (by' := 16) (d := 7) (by kernel_rfl) (by omega) (show (a).length ≤ 4194304 by omega) ?_)
 clear S; intro ac w N q1 F2 S up o3 d4
 clear up d4
 refine S.qe 1 [] [(3, .v (slv ((a).length) q1.1))] ?_; clear S; intro ac w β S
 refine (nt (ws (ws (rg ?_))))
 refine S.qe 1 [] [(4, .v (I 0))] ?_; clear S; intro ac w β S
 refine (nt (wp_block ?_))
 refine wp_loop_down (fun mm ac w => ∃ (k : Nat) (acc : List (TIns)) (q5 : GT.Ptr (List TIns)) (F6 : Bl) (u : World) (N : Bl) (β : Nat → Nat), mm = a.length - k ∧ (k ≤ a.length) ∧ (acc = a.take k ++ List.replicate (a.length - k) (GT.dflt : TIns)) ∧ St Try.prog Try.f28.ntmps w0 NoB u N β ⟨[(0, .v (slv (a).length pa.1)), (3, .v (slv a.length q5.1)), (4, .v (I (k : Int)))], []⟩ ac w ∧ Ow w0 NoB u N F6 acc q5) _ ⟨0, (List.replicate ((a).length) (GT.dflt : TIns)), q1, F2, _, _, _, rfl, (by first | omega | (simp; done) | (simp; omega)), (by simp), S.z, o3⟩ ?_
 clear S o3
 rintro mm ac w ⟨k, acc, q5, F6, u, N, β, rfl, hk, hacc, S, o7⟩
 have hlacc : acc.length = a.length := by rw [hacc]; simp; omega
 refine ws (ws (rg ?_))
 refine S.qe 4 [] [(11, .v (B (decide ((k : Int) < ((a).length : Int)))))] ?_; clear S; intro ac w β S
 refine (nt (S.c (decide ((k : Int) < ((a).length : Int))) (fun h8 => ?_) (fun h8 => ?_)))
 ·have g9 := of_decide_eq_true h8
  refine wk (nt (ws (wp_block (rg ?_))))
  refine S.qb 8 [] [(20, .v (GT.val ((el a k)) ())), (21, .v (pt q5.1.b (q5.1.off + k * 2)))] (.cons (Q_idx (S.arg ha) (l := (a).length) (k := k) (i := (k : Int)) rfl rfl (by omega) Try.underlying55 (by kernel_rfl)) (.cons (Q_el (S.arg ha) (t := 95) (k := k) (by omega) rfl (by kernel_rfl) (by kernel_rfl)) (.cons (Q_call fun w hw => c_laws_toIns w (el a k)) (.cons (Q_idx o7.rn (l := a.length) (k := k) (i := (k : Int)) (by rw [hacc]; simp; omega) rfl (by omega) Try.underlying58 (by kernel_rfl)) .nil)))) ?_; clear S; intro ac w β S
  have e10 : RIns (el acc k) := (LRd.el o7.rn k (by omega))
  refine RG.op rfl (S.setEl (α := TIns) o7 (t := 93) (v := GT.val ((el a k)) ()) (k := k) (j := 0) (off := q5.1.off + k * 2) (y := ((el a k))) (q := ()) (Fy := NoB) (by kernel_rfl) (by kernel_rfl) (by omega) (by kernel_rfl) (by kernel_rfl) (Nat.le_of_ble_eq_true (by kernel_rfl)) (by kernel_rfl) (fun _ _ _ => ⟨NoB, ((LRd.el (S.arg ha) k (by omega))), fun _ h => False.elim h⟩) (fun b _ h => False.elim h) (fun b h => False.elim h) (fun b h => False.elim h) ?_)
  clear S; intro w N F12 q13 S up o11 d14 s15 n16
  clear up d14 o7 n16
  have l17 : (acc.set k ((el a k))).length = (acc).length := List.length_set
  refine rd (nb (nt (rg ?_)))
  refine S.qg 3 [] [(4, .v (I ((k : Int) + 1)))] (.cons (Q_add (x := (k : Int)) (y := 1) ⟨by omega, by omega⟩) .nil) ?_; clear S; intro ac w β S
  refine (nt ?_)
  refine ⟨a.length - (k + 1), by omega, k + 1, (acc.set k ((el a k))), (q5.1, q13), F12, _, _, _, rfl, ?_, ?_, S.z, o11⟩
  ·clear S; first | omega | (simp [*]; done) | (simp [*]; omega)
  ·clear S; rw [hacc]; exact set_step (by omega)
 ·have g18 := of_decide_eq_false h8
  refine wp_exit (ex_then (ex_then (ex_hit (nt (ws (rg ?_))))))
  refine S.qe 2 [] [(2, .v (slv a.length q5.1))] ?_; clear S; intro ac w β S
  exact (nt (wr (S.r [slv a.length q5.1] (ret1_of S (show a = acc by clear S; rw [hacc, take_all (by omega), show a.length - k = 0 by omega]; simp) (by rw [show a.length = (acc).length from (by rw [hacc]; simp; omega)]; rfl) o7))))

set_option maxRecDepth 100000 in
theorem c_laws_toInsSS (w0 : World) (a : List (List TIns)) (pa : LP (List TIns)) (ha : GT.rd KK (Lt w0.heap.size) w0 a pa) : Calls Try.prog 7 [slv (a).length pa.1].toArray w0 (Ret1 NoB w0 (a : List (List TIns))) := by
 refine Calls.walk (args := [slv (a).length pa.1]) NoB Try.func7 rfl rfl ?_
 intro ac β S
 have hlea : a.length ≤ 4194304 := LRd.le ha
 refine ws (rg ?_)
 refine S.qe 1 [] [] ?_; clear S; intro ac w β S
 refine (nt (ws (rg ?_)))
 refine S.qa 2 [] [(6, .v (I ((a).length : Int)))] ?_; clear S; intro ac w β S
 refine RG.op rfl (S.make (α := List TIns) (m := (a).length) (by' := 24) (d := 7) (by kernel_rfl) (by omega) (show (a).length ≤ 4194304 by omega) ?_)
 clear S; intro ac w N q1 F2 S up o3 d4
 clear up d4
 refine S.qe 1 [] [(3, .v (slv ((a).length) q1.1))] ?_; clear S; intro ac w β S
 refine (nt (ws (ws (rg ?_))))
 refine S.qe 1 [] [(4, .v (I 0))] ?_; clear S; intro ac w β S
 refine (nt (wp_block ?_))
 refine wp_loop_down (fun mm ac w => ∃ (k : Nat) (acc : List (List TIns)) (q5 : GT.Ptr (List (List TIns))) (F6 : Bl) (u : World) (N : Bl) (β : Nat → Nat), mm = a.length - k ∧ (k ≤ a.length) ∧ (acc = a.take k ++ List.replicate (a.length - k) (GT.dflt : List TIns)) ∧ St Try.prog Try.f7.ntmps w0 NoB u N β ⟨[(0, .v (slv (a).length pa.1)), (3, .v (slv a.length q5.1)), (4, .v (I (k : Int)))], []⟩ ac w ∧ Ow w0 NoB u N F6 acc q5) _ ⟨0, (List.replicate ((a).length) (GT.dflt : List TIns)), q1, F2, _, _, _, rfl, (by first | omega | (simp; done) | (simp; omega)), (by simp), S.z, o3⟩ ?_
 clear S o3
 rintro mm ac w ⟨k, acc, q5, F6, u, N, β, rfl, hk, hacc, S, o7⟩
 have hlacc : acc.length = a.length := by rw [hacc]; simp; omega
 refine ws (ws (rg ?_))
 refine S.qe 4 [] [(11, .v (B (decide ((k : Int) < ((a).length : Int)))))] ?_; clear S; intro ac w β S
 refine (nt (S.c (decide ((k : Int) < ((a).length : Int))) (fun h8 => ?_) (fun h8 => ?_)))
 ·have g9 := of_decide_eq_true h8
  refine wk (nt (ws (wp_block (rg ?_))))
  refine S.qb 6 [] [(14, .v (slv a.length q5.1)), (15, .v (I (k : Int))), (19, .v (slv ((el a k)).length (pa.2 k).1))] (.cons (Q_idx (S.arg ha) (l := (a).length) (k := k) (i := (k : Int)) rfl rfl (by omega) Try.underlying22 (by kernel_rfl)) (.cons (Q_el1 (S.arg ha) (t := 55) (k := k) (by omega) rfl (by kernel_rfl)) .nil)) ?_; clear S; intro ac w β S
  refine RG.op rfl (S.call1 (r := (el a k)) (d := 20) (c_laws_toInsS w (el a k) (pa.2 k) (S.rd (LRd.el (S.arg ha) k (by omega)))) (by kernel_rfl) rfl ?_)
  clear S; intro ac w N q10 F11 S up o12 d13
  have d14 : Disj F6 F11 := fun b x y => d13 b (o7.sub b x) y
  replace o7 := o7.up up
  clear up d13
  refine S.qb 1 [] [(20, .v (slv ((el a k)).length q10.1)), (21, .v (pt q5.1.b (q5.1.off + k * 1)))] (.cons (Q_idx o7.rn (l := a.length) (k := k) (i := (k : Int)) (by rw [hacc]; simp; omega) rfl (by omega) Try.underlying33 (by kernel_rfl)) .nil) ?_; clear S; intro ac w β S
  refine RG.op rfl (S.setEl (α := List TIns) o7 (t := 58) (v := slv ((el a k)).length q10.1) (k := k) (j := 0) (off := q5.1.off + k * 1) (y := (el a k)) (q := q10) (Fy := F11) (by kernel_rfl) (by kernel_rfl) (by omega) (by kernel_rfl) (by kernel_rfl) (Nat.le_of_ble_eq_true (by kernel_rfl)) (by kernel_rfl) (fun _ _ _ => ⟨F11, o12.own, fun _ h => .inr h⟩) d14 o12.sub o12.young ?_)
  clear S; intro w N F16 q17 S up o15 d18 s19 n20
  clear up d18 o7 n20
  have l21 : (acc.set k (el a k)).length = (acc).length := List.length_set
  refine rd (nb (nt (rg ?_)))
  refine S.qg 3 [] [(4, .v (I ((k : Int) + 1)))] (.cons (Q_add (x := (k : Int)) (y := 1) ⟨by omega, by omega⟩) .nil) ?_; clear S; intro ac w β S
  refine (nt ?_)
  refine ⟨a.length - (k + 1), by omega, k + 1, (acc.set k (el a k)), (q5.1, q17), F16, _, _, _, rfl, ?_, ?_, S.z, o15⟩
  ·clear S; first | omega | (simp [*]; done) | (simp [*]; omega)
  ·clear S; rw [hacc]; exact set_step (by omega)
 ·have g22 := of_decide_eq_false h8
  refine wp_exit (ex_then (ex_then (ex_hit (nt (ws (rg ?_))))))
  refine S.qe 2 [] [(2, .v (slv a.length q5.1))] ?_; clear S; intro ac w β S
  exact (nt (wr (S.r [slv a.length q5.1] (ret1_of S (show a = acc by clear S; rw [hacc, take_all (by omega), show a.length - k = 0 by omega]; simp) (by rw [show a.length = (acc).length from (by rw [hacc]; simp; omega)]; rfl) o7))))

set_option maxRecDepth 100000 in
theorem c_laws_toInsSSS (w0 : World) (a : List (List (List TIns))) (pa : LP (List (List TIns))) (ha : GT.rd KK (Lt w0.heap.size) w0 a pa) : Calls Try.prog 16 [slv (a).length pa.1].toArray w0 (Ret1 NoB w0 (a : List (List (List TIns)))) := by
 refine Calls.walk (args := [slv (a).length pa.1]) NoB Try.func16 rfl rfl ?_
 intro ac β S
 have hlea : a.length ≤ 4194304 := LRd.le ha
 refine ws (rg ?_)
 refine S.qe 1 [] [] ?_; clear S; intro ac w β S
 refine (nt (ws (rg ?_)))
 refine S.qa 2 [] [(6, .v (I ((a).length : Int)))] ?_; clear S; intro ac w β S
 refine RG.op rfl (S.make (α := List (List TIns)) (m := (a).length) (by' := 24) (d := 7) (by kernel_rfl) (by omega) (show (a).length ≤ 4194304 by omega) ?_)
 clear S; intro ac w N q1 F2 S up o3 d4
 clear up d4
 refine S.qe 1 [] [(3, .v (slv ((a).length) q1.1))] ?_; clear S; intro ac w β S
 refine (nt (ws (ws (rg ?_))))
 refine S.qe 1 [] [(4, .v (I 0))] ?_; clear S; intro ac w β S
 refine (nt (wp_block ?_))
 refine wp_loop_down (fun mm ac w => ∃ (k : Nat) (acc : List (List (List TIns))) (q5 : GT.Ptr (List (List (List TIns)))) (F6 : Bl) (u : World) (N : Bl) (β : Nat → Nat), mm = a.length - k ∧ (k ≤ a.length) ∧ (acc = a.take k ++ List.replicate (a.length - k) (GT.dflt : List (List TIns))) ∧ St Try.prog Try.f16.ntmps w0 NoB u N β ⟨[(0, .v (slv (a).length pa.1)), (3, .v (slv a.length q5.1)), (4, .v (I (k : Int)))], []⟩ ac w ∧ Ow w0 NoB u N F6 acc q5) _ ⟨0, (List.replicate ((a).length) (GT.dflt : List (List TIns))), q1, F2, _, _, _, rfl, (by first | omega | (simp; done) | (simp; omega)), (by simp), S.z, o3⟩ ?_
 clear S o3
 rintro mm ac w ⟨k, acc, q5, F6, u, N, β, rfl, hk, hacc, S, o7⟩
 have hlacc : acc.length = a.length := by rw [hacc]; simp; omega
 refine ws (ws (rg ?_))
 refine S.qe 4 [] [(11, .v (B (decide ((k : Int) < ((a).length : Int)))))] ?_; clear S; intro ac w β S
 refine (nt (S.c (decide ((k : Int) < ((a).length : Int))) (fun h8 => ?_) (fun h8 => ?_)))
 ·have g9 := of_decide_eq_true h8
  refine wk (nt (ws (wp_block (rg ?_))))
  refine S.qb 6 [] [(14, .v (slv a.length q5.1)), (15, .v (I (k : Int))), (19, .v (slv ((el a k)).length (pa.2 k).1))] (.cons (Q_idx (S.arg ha) (l := (a).length) (k := k) (i := (k : Int)) rfl rfl (by omega) Try.underlying40 (by kernel_rfl)) (.cons (Q_el1 (S.arg ha) (t := 22) (k := k) (by omega) rfl (by kernel_rfl)) .nil)) ?_; clear S; intro ac w β S
  refine RG.op rfl (S.call1 (r := (el a k)) (d := 20) (c_laws_toInsSS w (el a k) (pa.2 k) (S.rd (LRd.el (S.arg ha) k (by omega)))) (by kernel_rfl) rfl ?_)
  clear S; intro ac w N q10 F11 S up o12 d13
  have d14 : Disj F6 F11 := fun b x y => d13 b (o7.sub b x) y
  replace o7 := o7.up up
  clear up d13
  refine S.qb 1 [] [(20, .v (slv ((el a k)).length q10.1)), (21, .v (pt q5.1.b (q5.1.off + k * 1)))] (.cons (Q_idx o7.rn (l := a.length) (k := k) (i := (k : Int)) (by rw [hacc]; simp; omega) rfl (by omega) Try.underlying47 (by kernel_rfl)) .nil) ?_; clear S; intro ac w β S
  refine RG.op rfl (S.setEl (α := List (List TIns)) o7 (t := 33) (v := slv ((el a k)).length q10.1) (k := k) (j := 0) (off := q5.1.off + k * 1) (y := (el a k)) (q := q10) (Fy := F11) (by kernel_rfl) (by kernel_rfl) (by omega) (by kernel_rfl) (by kernel_rfl) (Nat.le_of_ble_eq_true (by kernel_rfl)) (by kernel_rfl) (fun _ _ _ => ⟨F11, o12.own, fun _ h => .inr h⟩) d14 o12.sub o12.young ?_)
  clear S; intro w N F16 q17 S up o15 d18 s19 n20
  clear up d18 o7 n20
  have l21 : (acc.set k (el a k)).length = (acc).length := List.length_set
  refine rd (nb (nt (rg ?_)))
  refine S.qg 3 [] [(4, .v (I ((k : Int) + 1)))] (.cons (Q_add (x := (k : Int)) (y := 1) ⟨by omega, by omega⟩) .nil) ?_; clear S; intro ac w β S
  refine (nt ?_)
  refine ⟨a.length - (k + 1), by omega, k + 1, (acc.set k (el a k)), (q5.1, q17), F16, _, _, _, rfl, ?_, ?_, S.z, o15⟩
  ·clear S; first | omega | (simp [*]; done) | (simp [*]; omega)
  ·clear S; rw [hacc]; exact set_step (by omega)
 ·have g22 := of_decide_eq_false h8
  refine wp_exit (ex_then (ex_then (ex_hit (nt (ws (rg ?_))))))
  refine S.qe 2 [] [(2, .v (slv a.length q5.1))] ?_; clear S; intro ac w β S
  exact (nt (wr (S.r [slv a.length q5.1] (ret1_of S (show a = acc by clear S; rw [hacc, take_all (by omega), show a.length - k = 0 by omega]; simp) (by rw [show a.length = (acc).length from (by rw [hacc]; simp; omega)]; rfl) o7))))

theorem k0_spec_Brought {p : Prop} (h : p := by clear S; (unfold f_brought; (repeat' split) <;> first | rfl | omega | (exfalso; simp_all; omega))) : p := h
set_option maxRecDepth 100000 in
theorem c_spec_Brought (w0 : World) (n : Int) (a : Int) (b : Int) : Calls Try.prog 59 [I n, I a, I b].toArray w0 (fun e w' => e = .returned (I (f_brought n a b)) ∧ Chg NoB w0 w') := by
 refine Calls.walk (args := [I n, I a, I b]) NoB Try.func59 rfl rfl ?_
 intro ac β S
 refine ws (rg ?_)
 refine S.qe 1 [] [] ?_; clear S; intro ac w β S
 refine (nt (ws (ws (rg ?_))))
 refine S.qa 4 [] [(10, .v (B (decide (b < a))))] ?_; clear S; intro ac w β S
 rcases Bool.eq_false_or_eq_true (decide (b < a)) with h1 | h1 <;> rw [h1] at S
 ·have g2 := of_decide_eq_true h1
  refine S.qe 4 [10] [(14, .v (B true))] ?_; clear S; intro ac w β S
  refine (nt (S.c true (fun _ => ?_) (fun hx => by cases hx)))
  refine ws (rg ?_)
  refine S.qe 2 [] [(6, .v (I a))] ?_; clear S; intro ac w β S
  exact (nt (wr (rt (S.r [I a] ⟨retI k0_spec_Brought, S.chg⟩))))
 ·have g3 := of_decide_eq_false h1
  refine S.qe 4 [10] [(14, .v (B (decide (n < a))))] ?_; clear S; intro ac w β S
  refine (nt (S.c (decide (n < a)) (fun h4 => ?_) (fun h4 => ?_)))
  ·have g5 := of_decide_eq_true h4
   refine ws (rg ?_)
   refine S.qe 2 [] [(6, .v (I a))] ?_; clear S; intro ac w β S
   exact (nt (wr (rt (S.r [I a] ⟨retI k0_spec_Brought, S.chg⟩))))
  ·have g6 := of_decide_eq_false h4
   refine wk (nt (ws (ws (rg ?_))))
   refine S.qe 3 [] [(18, .v (B (decide (n > b))))] ?_; clear S; intro ac w β S
   refine (nt (S.c (decide (n > b)) (fun h7 => ?_) (fun h7 => ?_)))
   ·have g8 := of_decide_eq_true h7
    refine ws (rg ?_)
    refine S.qe 2 [] [(6, .v (I b))] ?_; clear S; intro ac w β S
    exact (nt (wr (rt (S.r [I b] ⟨retI k0_spec_Brought, S.chg⟩))))
   ·have g9 := of_decide_eq_false h7
    refine wk (nt (ws (rg ?_)))
    refine S.qe 2 [] [(6, .v (I n))] ?_; clear S; intro ac w β S
    exact (nt (wr (S.r [I n] ⟨retI k0_spec_Brought, S.chg⟩)))

set_option maxRecDepth 100000 in
theorem c_spec_MemNew (w0 : World) (n : Int) : Calls Try.prog 25 [I n].toArray w0 (Ret1 NoB w0 ((List.replicate (f_brought n 0 24).toNat (List.replicate 4 (0 : Int))) : List (List Int))) := by
 refine Calls.walk (args := [I n]) NoB Try.func25 rfl rfl ?_
 intro ac β S
 refine ws (rg ?_)
 refine S.qe 1 [] [] ?_; clear S; intro ac w β S
 refine (nt (ws (rg ?_)))
 refine RG.op rfl (S.bs0 (α := List Int) (d := 5) (by kernel_rfl) ?_)
 clear S; intro ac w N q1 F2 S up o3 d4
 clear up d4
 refine S.qe 1 [] [(3, .v (slv 0 q1.1))] ?_; clear S; intro ac w β S
 refine (nt (ws (ws (rg ?_))))
 refine S.qg 3 [] [(4, .v (I (f_brought n 0 24)))] (.cons (Q_call fun w hw => c_spec_Brought w n 0 24) .nil) ?_; clear S; intro ac w β S
 refine (nt (wp_block ?_))
 refine wp_loop_down (fun mm ac w => ∃ (i : Int) (acc : List (List Int)) (q5 : GT.Ptr (List (List Int))) (F6 : Bl) (u : World) (N : Bl) (β : Nat → Nat), mm = i.toNat ∧ (0 ≤ i ∧ i ≤ f_brought n 0 24) ∧ (acc = List.replicate (f_brought n 0 24 - i).toNat (List.replicate 4 0)) ∧ St Try.prog Try.f25.ntmps w0 NoB u N β ⟨[(3, .v (slv (acc).length q5.1)), (4, .v (I i))], []⟩ ac w ∧ Ow w0 NoB u N F6 acc q5) _ ⟨(f_brought n 0 24), ([] : List (List Int)), q1, F2, _, _, _, rfl, (by (have hb := brought_bd n); omega), (by (rw [show (f_brought n 0 24 - f_brought n 0 24).toNat = 0 by omega]; rfl)), S.z, o3⟩ ?_
 clear S o3
 rintro mm ac w ⟨i, acc, q5, F6, u, N, β, rfl, hi, hacc, S, o7⟩
 have hb := brought_bd n
 have hlacc : acc.length ≤ 24 := by rw [hacc, List.length_replicate]; omega
 refine ws (ws (rg ?_))
 refine S.qe 2 [] [(9, .v (B (decide (i > 0))))] ?_; clear S; intro ac w β S
 refine (nt (S.c (decide (i > 0)) (fun h8 => ?_) (fun h8 => ?_)))
 ·have g9 := of_decide_eq_true h8
  refine wk (nt (ws (wp_block (rg ?_))))
  refine S.qa 1 [] [(12, .v (slv (acc).length q5.1))] ?_; clear S; intro ac w β S
  refine RG.op rfl (S.make (α := Int) (m := 4) (by' := 8) (d := 13) (by kernel_rfl) (by omega) (show 4 ≤ 4194304 by omega) ?_)
  clear S; intro ac w N q10 F11 S up o12 d13
  have d14 : Disj F6 F11 := fun b x y => d13 b (o7.sub b x) y
  replace o7 := o7.up up
  clear up d13
  refine RG.op rfl (S.bs1 (α := List Int) (x := (List.replicate 4 (GT.dflt : Int))) (p := q10) o12.own o12.sub o12.young (d := 14) (by kernel_rfl) ?_)
  clear S; intro ac w N q15 F16 S up o17 d18
  have d19 : Disj F6 F16 := d18 _ d14 o7.sub
  replace o7 := o7.up up
  clear up d18
  refine RG.op rfl (S.appOwn (α := List Int) o7 o17 d19 (by' := 24) (d := 15) (lx := (acc).length) (ly := 1) rfl rfl (by kernel_rfl) (show _ ≤ 4194304 by simp only [List.length_append, List.length_cons, List.length_nil]; omega) ?_)
  clear S; intro ac w N q20 F21 S up o22 d23
  clear up d23
  refine S.qe 1 [] [(3, .v (slv ((acc ++ [(List.replicate 4 (GT.dflt : Int))])).length q20.1))] ?_; clear S; intro ac w β S
  refine (nb (nt (rg ?_)))
  refine S.qg 3 [] [(4, .v (I (i - 1)))] (.cons (Q_sub (x := i) (y := 1) ⟨by omega, by omega⟩) .nil) ?_; clear S; intro ac w β S
  refine (nt ?_)
  refine ⟨(i - 1).toNat, by omega, (i - 1), (acc ++ [(List.replicate 4 (GT.dflt : Int))]), q20, F21, _, _, _, rfl, ?_, ?_, S.z, o22⟩
  ·clear S; omega
  ·clear S; (rw [hacc]; exact (repl_next (by omega)).symm)
 ·have g24 := of_decide_eq_false h8
  refine wp_exit (ex_then (ex_then (ex_hit (nt (ws (rg ?_))))))
  refine S.qe 2 [] [(2, .v (slv (acc).length q5.1))] ?_; clear S; intro ac w β S
  exact (nt (wr (S.r [slv (acc).length q5.1] (ret1_of S (show (List.replicate (f_brought n 0 24).toNat (List.replicate 4 (0 : Int))) = acc by clear S; (rw [hacc, show i = 0 by omega, Int.sub_zero])) rfl o7))))

set_option maxRecDepth 100000 in
theorem c_spec_NoSlot (w0 : World)  : Calls Try.prog 60 [].toArray w0 (fun e w' => e = .returned (GT.val (⟨-1, 0⟩ : TSlot) ()) ∧ Chg NoB w0 w') := by
 refine Calls.walk (args := []) NoB Try.func60 rfl rfl ?_
 intro ac β S
 refine ws (rg ?_)
 refine S.qem 1 [] [(0, .p 0 0)] 1 [(0, Zc TSlot)] ?_; clear S; intro ac w β S
 refine (nt (ws (rg ?_)))
 refine S.qgm 2 [] [] (.cons (Q_sem (s := Instr.build 90 [(0, I (-1))].toArray) (v := .agg [I (-1), I 0].toArray) (fun w => by kernel_rfl)) .nil) 1 [(0, [I (-1), I 0])] ?_; clear S; intro ac w β S
 exact (nt (wr (S.r [GT.val (⟨(-1), 0⟩ : TSlot) ()] ⟨retV (p := ()) (by clear S; first | rfl | (simp [id, *]; done) | (simp [id, *]; omega) | (simp_all [id]; done) | (simp_all [id]; omega)), S.chg⟩)))

set_option maxRecDepth 100000 in
theorem c_spec_TableNew (w0 : World) (n : Int) : Calls Try.prog 24 [I n].toArray w0 (Ret1 NoB w0 ((List.replicate (f_brought n 0 24).toNat (⟨-1, 0⟩ : TSlot)) : List TSlot)) := by
 refine Calls.walk (args := [I n]) NoB Try.func24 rfl rfl ?_
 intro ac β S
 refine ws (rg ?_)
 refine S.qe 1 [] [] ?_; clear S; intro ac w β S
 refine (nt (ws (rg ?_)))
 refine RG.op rfl (S.bs0 (α := TSlot) (d := 5) (by kernel_rfl) ?_)
 clear S; intro ac w N q1 F2 S up o3 d4
 clear up d4
 refine S.qe 1 [] [(3, .v (slv 0 q1.1))] ?_; clear S; intro ac w β S
 refine (nt (ws (ws (rg ?_))))
 refine S.qg 3 [] [(4, .v (I (f_brought n 0 24)))] (.cons (Q_call fun w hw => c_spec_Brought w n 0 24) .nil) ?_; clear S; intro ac w β S
 refine (nt (wp_block ?_))
 refine wp_loop_down (fun mm ac w => ∃ (i : Int) (acc : List TSlot) (q5 : GT.Ptr (List TSlot)) (F6 : Bl) (u : World) (N : Bl) (β : Nat → Nat), mm = i.toNat ∧ (0 ≤ i ∧ i ≤ f_brought n 0 24) ∧ (acc = List.replicate (f_brought n 0 24 - i).toNat (⟨-1, 0⟩ : TSlot)) ∧ St Try.prog Try.f24.ntmps w0 NoB u N β ⟨[(3, .v (slv (acc).length q5.1)), (4, .v (I i))], []⟩ ac w ∧ Ow w0 NoB u N F6 acc q5) _ ⟨(f_brought n 0 24), ([] : List TSlot), q1, F2, _, _, _, rfl, (by (have hb := brought_bd n); omega), (by (rw [show (f_brought n 0 24 - f_brought n 0 24).toNat = 0 by omega]; rfl)), S.z, o3⟩ ?_
 clear S o3
 rintro mm ac w ⟨i, acc, q5, F6, u, N, β, rfl, hi, hacc, S, o7⟩
 have hb := brought_bd n
 have hlacc : acc.length ≤ 24 := by rw [hacc, List.length_replicate]; omega
 refine ws (ws (rg ?_))
 refine S.qe 2 [] [(9, .v (B (decide (i > 0))))] ?_; clear S; intro ac w β S
 refine (nt (S.c (decide (i > 0)) (fun h8 => ?_) (fun h8 => ?_)))
 ·have g9 := of_decide_eq_true h8
  refine wk (nt (ws (wp_block (rg ?_))))
  refine S.qb 2 [] [(12, .v (slv (acc).length q5.1)), (13, .v (GT.val ((⟨-1, 0⟩ : TSlot)) ()))] (.cons (Q_call fun w hw => c_spec_NoSlot w ) .nil) ?_; clear S; intro ac w β S
  refine RG.op rfl (S.bs1 (α := TSlot) (x := ((⟨-1, 0⟩ : TSlot))) (p := ()) (F := NoB) ((show RSlot ⟨-1, 0⟩ from ⟨⟨by decide, by decide⟩, ⟨by decide, by decide⟩⟩)) (fun b h => False.elim h) (fun b h => False.elim h) (d := 14) (by kernel_rfl) ?_)
  clear S; intro ac w N q10 F11 S up o12 d13
  have d14 : Disj F6 F11 := d13 _ (fun b _ h => False.elim h) o7.sub
  replace o7 := o7.up up
  clear up d13
  refine RG.op rfl (S.appFlat (α := TSlot) o7 (o12.rn) (fun _ _ h => h) (by' := 16) (d := 15) (lx := (acc).length) (ly := 1) rfl rfl (by kernel_rfl) (show _ ≤ 4194304 by simp only [List.length_append, List.length_cons, List.length_nil]; omega) ?_)
  clear S; intro ac w N q15 F16 S up o17 d18
  have d19 : Disj F11 F16 := d18 _ (Disj.symm d14) o12.sub
  replace o12 := o12.upF (Disj.symm d14) up
  clear up d18
  refine S.qe 1 [] [(3, .v (slv ((acc ++ [((⟨-1, 0⟩ : TSlot))])).length q15.1))] ?_; clear S; intro ac w β S
  refine (nb (nt (rg ?_)))
  refine S.qg 3 [] [(4, .v (I (i - 1)))] (.cons (Q_sub (x := i) (y := 1) ⟨by omega, by omega⟩) .nil) ?_; clear S; intro ac w β S
  refine (nt ?_)
  refine ⟨(i - 1).toNat, by omega, (i - 1), (acc ++ [((⟨-1, 0⟩ : TSlot))]), q15, F16, _, _, _, rfl, ?_, ?_, S.z, o17⟩
  ·clear S; omega
  ·clear S; (rw [hacc]; exact (repl_next (by omega)).symm)
 ·have g20 := of_decide_eq_false h8
  refine wp_exit (ex_then (ex_then (ex_hit (nt (ws (rg ?_))))))
  refine S.qe 2 [] [(2, .v (slv (acc).length q5.1))] ?_; clear S; intro ac w β S
  exact (nt (wr (S.r [slv (acc).length q5.1] (ret1_of S (show (List.replicate (f_brought n 0 24).toNat (⟨-1, 0⟩ : TSlot)) = acc by clear S; (rw [hacc, show i = 0 by omega, Int.sub_zero])) rfl o7))))

set_option maxRecDepth 100000 in
theorem c_spec_GuestNew (w0 : World) (p : List TIns) (pp : LP TIns) (hp : GT.rd KK (Lt w0.heap.size) w0 p pp) : Calls Try.prog 26 [slv (p).length pp.1].toArray w0 (Ret1 NoB w0 (f_guestNew p : TGuest)) := by
 refine Calls.walk (args := [slv (p).length pp.1]) NoB Try.func26 rfl rfl ?_
 intro ac β S
 have hlep : p.length ≤ 4194304 := LRd.le hp
 refine ws (rg ?_)
 refine S.qem 1 [] [(2, .p 0 0)] 1 [(0, Zc TGuest)] ?_; clear S; intro ac w β S
 refine (nt (ws (rg ?_)))
 refine RG.op rfl (S.bs0 (α := TIns) (d := 3) (by kernel_rfl) ?_)
 clear S; intro ac w N q1 F2 S up o3 d4
 clear up d4
 refine S.qa 1 [] [(3, .v (slv 0 q1.1)), (4, .v (slv (p).length pp.1))] ?_; clear S; intro ac w β S
 have b9 : (p).length ≤ 4194304 := LRd.le (S.arg hp)
 refine RG.op rfl (S.appFlat (α := TIns) o3 ((S.arg hp)) (fun _ _ h => h) (by' := 16) (d := 5) (lx := 0) (ly := (p).length) rfl rfl (by kernel_rfl) (show _ ≤ 4194304 by simp only [List.length_append, List.length_cons, List.length_nil]; omega) ?_)
 clear S; intro ac w N q5 F6 S up o7 d8
 clear up d8
 have b10 := (List.length_replicate : (List.replicate (f_brought 4 0 24).toNat (⟨-1, 0⟩ : TSlot)).length = (f_brought 4 0 24).toNat)
 refine RG.op rfl (S.call1 (r := (List.replicate (f_brought 4 0 24).toNat (⟨-1, 0⟩ : TSlot))) (d := 6) (c_spec_TableNew w 4) (by kernel_rfl) rfl ?_)
 clear S; intro ac w N q11 F12 S up o13 d14
 have d15 : Disj F6 F12 := fun b x y => d14 b (o7.sub b x) y
 replace o7 := o7.up up
 clear up d14
 have b16 := (List.length_replicate : (List.replicate (f_brought 4 0 24).toNat (⟨-1, 0⟩ : TSlot)).length = (f_brought 4 0 24).toNat)
 refine RG.op rfl (S.call1 (r := (List.replicate (f_brought 4 0 24).toNat (⟨-1, 0⟩ : TSlot))) (d := 7) (c_spec_TableNew w 4) (by kernel_rfl) rfl ?_)
 clear S; intro ac w N q17 F18 S up o19 d20
 have d21 : Disj F6 F18 := fun b x y => d20 b (o7.sub b x) y
 have d22 : Disj F12 F18 := fun b x y => d20 b (o13.sub b x) y
 replace o7 := o7.up up
 replace o13 := o13.up up
 clear up d20
 refine S.qgm 2 [] [] (.cons (Q_sem (s := Instr.build 64 [(0, slv ((([] : List TIns) ++ p)).length q5.1), (3, slv ((List.replicate (f_brought 4 0 24).toNat (⟨-1, 0⟩ : TSlot))).length q11.1), (4, slv ((List.replicate (f_brought 4 0 24).toNat (⟨-1, 0⟩ : TSlot))).length q17.1)].toArray) (v := .agg [slv ((([] : List TIns) ++ p)).length q5.1, I 0, I 0, slv ((List.replicate (f_brought 4 0 24).toNat (⟨-1, 0⟩ : TSlot))).length q11.1, slv ((List.replicate (f_brought 4 0 24).toNat (⟨-1, 0⟩ : TSlot))).length q17.1, I 0, I 0, B false, I 0, I 0, I 0, B false, I 0, B false, slv (([] : List Int)).length (GT.pdflt (α := List Int)).1].toArray) (fun w => by kernel_rfl)) .nil) 1 [(0, [slv ((([] : List TIns) ++ p)).length q5.1, I 0, I 0, slv ((List.replicate (f_brought 4 0 24).toNat (⟨-1, 0⟩ : TSlot))).length q11.1, slv ((List.replicate (f_brought 4 0 24).toNat (⟨-1, 0⟩ : TSlot))).length q17.1, I 0, I 0, B false, I 0, I 0, I 0, B false, I 0, B false, slv (([] : List Int)).length (GT.pdflt (α := List Int)).1])] ?_; clear S; intro ac w β S
 refine (nt (wr (S.r [GT.val (⟨(([] : List TIns) ++ p), 0, 0, (List.replicate (f_brought 4 0 24).toNat (⟨-1, 0⟩ : TSlot)), (List.replicate (f_brought 4 0 24).toNat (⟨-1, 0⟩ : TSlot)), (⟨0, 0, false⟩ : TCtl), 0, (⟨0, 0, false, 0⟩ : TExit), false, ([] : List Int)⟩ : TGuest) (⟨q5, q11, q17, (GT.pdflt (α := List Int))⟩ : PGuest)] ?_)))
 have o23 := S.nilOw (α := Int)
 have o24 := ow_Guest (x := (⟨(([] : List TIns) ++ p), 0, 0, (List.replicate (f_brought 4 0 24).toNat (⟨-1, 0⟩ : TSlot)), (List.replicate (f_brought 4 0 24).toNat (⟨-1, 0⟩ : TSlot)), (⟨0, 0, false⟩ : TCtl), 0, (⟨0, 0, false, 0⟩ : TExit), false, ([] : List Int)⟩ : TGuest)) (p := (⟨q5, q11, q17, (GT.pdflt (α := List Int))⟩ : PGuest)) o7 o13 o19 o23 d15 d21 (fun b _ h => False.elim h) d22 (fun b _ h => False.elim h) (fun b _ h => False.elim h) (show In64 0 from ⟨by decide, by decide⟩) (show In64 0 from ⟨by decide, by decide⟩) (show RCtl (⟨0, 0, false⟩ : TCtl) from ⟨(show In64 0 from ⟨by decide, by decide⟩), (show In64 0 from ⟨by decide, by decide⟩)⟩) (show In64 0 from ⟨by decide, by decide⟩) (show RExit (⟨0, 0, false, 0⟩ : TExit) from ⟨(show In64 0 from ⟨by decide, by decide⟩), (show In64 0 from ⟨by decide, by decide⟩), (show In64 0 from ⟨by decide, by decide⟩)⟩)
 exact ret1_of S (show f_guestNew p = (⟨(([] : List TIns) ++ p), 0, 0, (List.replicate (f_brought 4 0 24).toNat (⟨-1, 0⟩ : TSlot)), (List.replicate (f_brought 4 0 24).toNat (⟨-1, 0⟩ : TSlot)), (⟨0, 0, false⟩ : TCtl), 0, (⟨0, 0, false, 0⟩ : TExit), false, ([] : List Int)⟩ : TGuest) by clear S; (first | rfl | (simp [f_guestNew]; rfl))) rfl o24

set_option maxRecDepth 100000 in
theorem c_spec_KeptNew (w0 : World) (n : Int) : Calls Try.prog 27 [I n].toArray w0 (Ret1 NoB w0 (f_keptNew n : TKept)) := by
 refine Calls.walk (args := [I n]) NoB Try.func27 rfl rfl ?_
 intro ac β S
 have hb := brought_bd n
 refine ws (rg ?_)
 refine S.qem 1 [] [(2, .p 0 0)] 1 [(0, Zc TKept)] ?_; clear S; intro ac w β S
 refine (nt (ws (rg ?_)))
 refine S.qa 1 [] [(4, .v (I n))] ?_; clear S; intro ac w β S
 have b1 := (List.length_replicate : (List.replicate (f_brought n 0 24).toNat (⟨-1, 0⟩ : TSlot)).length = (f_brought n 0 24).toNat)
 refine RG.op rfl (S.call1 (r := (List.replicate (f_brought n 0 24).toNat (⟨-1, 0⟩ : TSlot))) (d := 5) (c_spec_TableNew w n) (by kernel_rfl) rfl ?_)
 clear S; intro ac w N q2 F3 S up o4 d5
 clear up d5
 refine S.qe 1 [] [(3, .v (slv ((List.replicate (f_brought n 0 24).toNat (⟨-1, 0⟩ : TSlot))).length q2.1))] ?_; clear S; intro ac w β S
 refine (nt (ws (rg ?_)))
 refine S.qa 2 [] [(7, .v (I (((List.replicate (f_brought n 0 24).toNat (⟨-1, 0⟩ : TSlot))).length : Int)))] ?_; clear S; intro ac w β S
 refine RG.op rfl (S.make (α := Bool) (m := ((List.replicate (f_brought n 0 24).toNat (⟨-1, 0⟩ : TSlot))).length) (by' := 1) (d := 8) (by kernel_rfl) (by omega) (show ((List.replicate (f_brought n 0 24).toNat (⟨-1, 0⟩ : TSlot))).length ≤ 4194304 by omega) ?_)
 clear S; intro ac w N q6 F7 S up o8 d9
 have d10 : Disj F3 F7 := fun b x y => d9 b (o4.sub b x) y
 replace o4 := o4.up up
 clear up d9
 replace S := S.z (σ' := ⟨[(2, .p 0 0), (3, .v (slv ((List.replicate (f_brought n 0 24).toNat (⟨-1, 0⟩ : TSlot))).length q2.1)), (7, .v (I (((List.replicate (f_brought n 0 24).toNat (⟨-1, 0⟩ : TSlot))).length : Int))), (8, .v (slv (((List.replicate (f_brought n 0 24).toNat (⟨-1, 0⟩ : TSlot))).length) q6.1))], [Zc TKept]⟩)
 replace S := S.cast (σ' := ⟨[(2, .p 0 0), (3, .v (slv ((List.replicate (f_brought n 0 24).toNat (⟨-1, 0⟩ : TSlot))).length q2.1)), (7, .v (I (((List.replicate (f_brought n 0 24).toNat (⟨-1, 0⟩ : TSlot))).length : Int))), (8, .v (slv ((List.replicate (((List.replicate (f_brought n 0 24).toNat (⟨-1, 0⟩ : TSlot))).length) (GT.dflt : Bool))).length q6.1))], [Zc TKept]⟩) (by rw [show ((List.replicate (((List.replicate (f_brought n 0 24).toNat (⟨-1, 0⟩ : TSlot))).length) (GT.dflt : Bool))).length = (((List.replicate (f_brought n 0 24).toNat (⟨-1, 0⟩ : TSlot))).length) from List.length_replicate])
 refine S.qgm 3 [] [] (.cons (Q_sem (s := Instr.build 67 [(0, slv ((List.replicate (((List.replicate (f_brought n 0 24).toNat (⟨-1, 0⟩ : TSlot))).length) (GT.dflt : Bool))).length q6.1), (1, slv ((List.replicate (f_brought n 0 24).toNat (⟨-1, 0⟩ : TSlot))).length q2.1)].toArray) (v := .agg [slv ((List.replicate (((List.replicate (f_brought n 0 24).toNat (⟨-1, 0⟩ : TSlot))).length) (GT.dflt : Bool))).length q6.1, slv ((List.replicate (f_brought n 0 24).toNat (⟨-1, 0⟩ : TSlot))).length q2.1].toArray) (fun w => by kernel_rfl)) .nil) 1 [(0, [slv ((List.replicate (((List.replicate (f_brought n 0 24).toNat (⟨-1, 0⟩ : TSlot))).length) (GT.dflt : Bool))).length q6.1, slv ((List.replicate (f_brought n 0 24).toNat (⟨-1, 0⟩ : TSlot))).length q2.1])] ?_; clear S; intro ac w β S
 refine (nt (wr (S.r [GT.val (⟨(List.replicate (((List.replicate (f_brought n 0 24).toNat (⟨-1, 0⟩ : TSlot))).length) (GT.dflt : Bool)), (List.replicate (f_brought n 0 24).toNat (⟨-1, 0⟩ : TSlot))⟩ : TKept) (⟨q6, q2⟩ : PKept)] ?_)))
 have o11 := ow_Kept (x := (⟨(List.replicate (((List.replicate (f_brought n 0 24).toNat (⟨-1, 0⟩ : TSlot))).length) (GT.dflt : Bool)), (List.replicate (f_brought n 0 24).toNat (⟨-1, 0⟩ : TSlot))⟩ : TKept)) (p := (⟨q6, q2⟩ : PKept)) o8 o4 (Disj.symm d10) 
 exact ret1_of S (show f_keptNew n = (⟨(List.replicate (((List.replicate (f_brought n 0 24).toNat (⟨-1, 0⟩ : TSlot))).length) (GT.dflt : Bool)), (List.replicate (f_brought n 0 24).toNat (⟨-1, 0⟩ : TSlot))⟩ : TKept) by clear S; (first | rfl | (unfold f_keptNew; rw [List.length_replicate]; rfl))) rfl o11

set_option maxRecDepth 100000 in
theorem c_spec_MonNew (w0 : World) (progs : List (List TIns)) (pprogs : LP (List TIns)) (hprogs : GT.rd KK (Lt w0.heap.size) w0 progs pprogs) : Calls Try.prog 6 [slv (progs).length pprogs.1].toArray w0 (Ret1 NoB w0 (f_monNew progs : TMon)) := by
 refine Calls.walk (args := [slv (progs).length pprogs.1]) NoB Try.func6 rfl rfl ?_
 intro ac β S
 have hleprogs : progs.length ≤ 4194304 := LRd.le hprogs
 refine ws (rg ?_)
 refine S.qem 1 [] [(2, .p 0 0)] 1 [(0, Zc TMon)] ?_; clear S; intro ac w β S
 refine (nt (ws ?_))
 let σ1 : Sy := ⟨[(0, .v (slv (progs).length pprogs.1)), (2, .p 0 0)], [Zc TMon]⟩
 obtain ⟨u0, N0, β0, S⟩ : ∃ u0 N0 β0, St Try.prog Try.f6.ntmps w0 NoB u0 N0 β0 σ1 ac w := ⟨_, _, _, S.z⟩
 refine wp_region_cut (fun ac w => ∃ q115 F116 q112 F113 q109 F110 u N β, St Try.prog Try.f6.ntmps w0 NoB u N β (σ1.dl [] [(3, .p 1 0)] 2 [(1, [slv ((List.replicate (f_brought 8 0 24).toNat (⟨-1, 0⟩ : TSlot))).length q109.1, slv ((List.replicate (f_brought 8 0 24).toNat (List.replicate 4 (0 : Int)))).length q112.1, slv 8 q115.1, slv (([] : List TGuest)).length (GT.pdflt (α := List TGuest)).1, slv (([] : List Int)).length (GT.pdflt (α := List Int)).1, I 0, I 0, slv (([] : List TKept)).length (GT.pdflt (α := List TKept)).1, I 0])]) ac w ∧ Ow w0 NoB u N F116 (List.replicate 8 (GT.dflt : Bool)) q115 ∧ Ow w0 NoB u N F113 (List.replicate (f_brought 8 0 24).toNat (List.replicate 4 (0 : Int))) q112 ∧ Ow w0 NoB u N F110 (List.replicate (f_brought 8 0 24).toNat (⟨-1, 0⟩ : TSlot)) q109 ∧ Disj F116 F113 ∧ Disj F116 F110 ∧ Disj F113 F110) ?_ ?_
 ·refine S.draw0 (f := 6) 5 rfl rfl ?_
  clear S; intro w S
  refine WD.nameW fun W hW => ?_
  refine WD.castW (l' := mkL 6 []) (by kernel_rfl) ?_
  have hK117 ac w q115 F116 q112 F113 q109 F110 u N β (S : St Try.prog Try.f6.ntmps w0 NoB u N β (σ1.dl [] [(3, .p 1 0)] 2 [(1, [slv ((List.replicate (f_brought 8 0 24).toNat (⟨-1, 0⟩ : TSlot))).length q109.1, slv ((List.replicate (f_brought 8 0 24).toNat (List.replicate 4 (0 : Int)))).length q112.1, slv 8 q115.1, slv (([] : List TGuest)).length (GT.pdflt (α := List TGuest)).1, slv (([] : List Int)).length (GT.pdflt (α := List Int)).1, I 0, I 0, slv (([] : List TKept)).length (GT.pdflt (α := List TKept)).1, I 0])]) ac w) (o114 : Ow w0 NoB u N F116 (List.replicate 8 (GT.dflt : Bool)) q115) (o111 : Ow w0 NoB u N F113 (List.replicate (f_brought 8 0 24).toNat (List.replicate 4 (0 : Int))) q112) (o108 : Ow w0 NoB u N F110 (List.replicate (f_brought 8 0 24).toNat (⟨-1, 0⟩ : TSlot)) q109) (d118 : Disj F116 F113) (d119 : Disj F116 F110) (d120 : Disj F113 F110) : W 0 (mkL 6 [0, 1, 2, 3, 4, 5]) ac w := by
   exact od hW ⟨rfl, q115, F116, q112, F113, q109, F110, _, _, _, S.z, o114, o111, o108, d118, d119, d120⟩
  have hK121 ac w q92 F93 q89 F90 q86 F87 u N β (S : St Try.prog Try.f6.ntmps w0 NoB u N β (σ1.dl [] [(3, .p 1 0), (8, .v (GT.val (⟨(List.replicate (f_brought 8 0 24).toNat (⟨-1, 0⟩ : TSlot)), (List.replicate (f_brought 8 0 24).toNat (List.replicate 4 (0 : Int))), (List.replicate 8 (GT.dflt : Bool)), ([] : List TGuest), ([] : List Int), 0, 0, ([] : List TKept), 0⟩ : TMon) (⟨q86, q89, q92, (GT.pdflt (α := List TGuest)), (GT.pdflt (α := List Int)), (GT.pdflt (α := List TKept))⟩ : PMon)))] 2 [(1, Zc TMon)]) ac w) (o91 : Ow w0 NoB u N F93 (List.replicate 8 (GT.dflt : Bool)) q92) (o88 : Ow w0 NoB u N F90 (List.replicate (f_brought 8 0 24).toNat (List.replicate 4 (0 : Int))) q89) (o85 : Ow w0 NoB u N F87 (List.replicate (f_brought 8 0 24).toNat (⟨-1, 0⟩ : TSlot)) q86) (d122 : Disj F93 F90) (d123 : Disj F93 F87) (d124 : Disj F90 F87) (hNN : NN N0 u0 N u) (hBB : BB σ1.bx.length β0 β) : W 1 (mkL 6 [0, 1, 2, 3, 4]) ac w := by
   exact o1 hW 5 (S.wl hW [] .nil fun _ _ _ S => hK117 _ _ q92 F93 q89 F90 q86 F87 _ _ _ S o91 o88 o85 d122 d123 d124)
  have hK125 ac w q92 F93 q89 F90 q86 F87 u N β (S : St Try.prog Try.f6.ntmps w0 NoB u N β (σ1.dl [] [(8, .v (GT.val (⟨(List.replicate (f_brought 8 0 24).toNat (⟨-1, 0⟩ : TSlot)), (List.replicate (f_brought 8 0 24).toNat (List.replicate 4 (0 : Int))), (List.replicate 8 (GT.dflt : Bool)), ([] : List TGuest), ([] : List Int), 0, 0, ([] : List TKept), 0⟩ : TMon) (⟨q86, q89, q92, (GT.pdflt (α := List TGuest)), (GT.pdflt (α := List Int)), (GT.pdflt (α := List TKept))⟩ : PMon)))] 1 []) ac w) (o91 : Ow w0 NoB u N F93 (List.replicate 8 (GT.dflt : Bool)) q92) (o88 : Ow w0 NoB u N F90 (List.replicate (f_brought 8 0 24).toNat (List.replicate 4 (0 : Int))) q89) (o85 : Ow w0 NoB u N F87 (List.replicate (f_brought 8 0 24).toNat (⟨-1, 0⟩ : TSlot)) q86) (d126 : Disj F93 F90) (d127 : Disj F93 F87) (d128 : Disj F90 F87) (hNN : NN N0 u0 N u) (hBB : BB σ1.bx.length β0 β) : W 2 (mkL 6 [0, 1, 2, 3]) ac w := by
   exact o1 hW 4 (S.wq hW hNN hBB [] .nil fun _ _ _ S hB => hK121 _ _ q92 F93 q89 F90 q86 F87 _ _ _ S o91 o88 o85 d126 d127 d128 hNN hB)
  have hK129 ac w q9 F10 q26 F27 q17 F18 u N β (S : St Try.prog Try.f6.ntmps w0 NoB u N β (σ1.dl [] [(3, .p 1 0), (5, .v (slv ((List.replicate (f_brought 8 0 24).toNat (⟨-1, 0⟩ : TSlot))).length q9.1)), (6, .v (slv ((List.replicate (f_brought 8 0 24).toNat (List.replicate 4 (0 : Int)))).length q26.1)), (7, .v (slv 8 q17.1))] 2 [(1, Zc TMon)]) ac w) (o8 : Ow w0 NoB u N F10 (List.replicate (f_brought 8 0 24).toNat (⟨-1, 0⟩ : TSlot)) q9) (o25 : Ow w0 NoB u N F27 (List.replicate (f_brought 8 0 24).toNat (List.replicate 4 (0 : Int))) q26) (o16 : Ow w0 NoB u N F18 (List.replicate 8 (GT.dflt : Bool)) q17) (d130 : Disj F10 F27) (d131 : Disj F10 F18) (d132 : Disj F27 F18) (hNN : NN N0 u0 N u) (hBB : BB σ1.bx.length β0 β) : W 2 (mkL 6 [0, 1, 2, 4]) ac w := by
   exact o1 hW 3 (S.wq hW hNN hBB [] (.cons (Q_sem (s := Instr.build 31 [(0, slv ((List.replicate (f_brought 8 0 24).toNat (⟨-1, 0⟩ : TSlot))).length q9.1), (1, slv ((List.replicate (f_brought 8 0 24).toNat (List.replicate 4 (0 : Int)))).length q26.1), (2, slv 8 q17.1)].toArray) (v := .agg [slv ((List.replicate (f_brought 8 0 24).toNat (⟨-1, 0⟩ : TSlot))).length q9.1, slv ((List.replicate (f_brought 8 0 24).toNat (List.replicate 4 (0 : Int)))).length q26.1, slv 8 q17.1, slv (([] : List TGuest)).length (GT.pdflt (α := List TGuest)).1, slv (([] : List Int)).length (GT.pdflt (α := List Int)).1, I 0, I 0, slv (([] : List TKept)).length (GT.pdflt (α := List TKept)).1, I 0].toArray) (fun w => by kernel_rfl)) .nil) fun _ _ _ S hB => hK121 _ _ q17 F18 q26 F27 q9 F10 _ _ _ S o16 o25 o8 (Disj.symm d132) (Disj.symm d131) (Disj.symm d130) hNN hB)
  have hK133 ac w q9 F10 q26 F27 q17 F18 u N β (S : St Try.prog Try.f6.ntmps w0 NoB u N β (σ1.dl [] [(5, .v (slv ((List.replicate (f_brought 8 0 24).toNat (⟨-1, 0⟩ : TSlot))).length q9.1)), (6, .v (slv ((List.replicate (f_brought 8 0 24).toNat (List.replicate 4 (0 : Int)))).length q26.1)), (7, .v (slv 8 q17.1))] 1 []) ac w) (o8 : Ow w0 NoB u N F10 (List.replicate (f_brought 8 0 24).toNat (⟨-1, 0⟩ : TSlot)) q9) (o25 : Ow w0 NoB u N F27 (List.replicate (f_brought 8 0 24).toNat (List.replicate 4 (0 : Int))) q26) (o16 : Ow w0 NoB u N F18 (List.replicate 8 (GT.dflt : Bool)) q17) (d134 : Disj F10 F27) (d135 : Disj F10 F18) (d136 : Disj F27 F18) (hNN : NN N0 u0 N u) (hBB : BB σ1.bx.length β0 β) : W 3 (mkL 6 [0, 1, 2]) ac w := by
   exact o2 hW 3 4 (S.wq hW hNN hBB [] (.cons (Q_sem (s := Instr.build 31 [(0, slv ((List.replicate (f_brought 8 0 24).toNat (⟨-1, 0⟩ : TSlot))).length q9.1), (1, slv ((List.replicate (f_brought 8 0 24).toNat (List.replicate 4 (0 : Int)))).length q26.1), (2, slv 8 q17.1)].toArray) (v := .agg [slv ((List.replicate (f_brought 8 0 24).toNat (⟨-1, 0⟩ : TSlot))).length q9.1, slv ((List.replicate (f_brought 8 0 24).toNat (List.replicate 4 (0 : Int)))).length q26.1, slv 8 q17.1, slv (([] : List TGuest)).length (GT.pdflt (α := List TGuest)).1, slv (([] : List Int)).length (GT.pdflt (α := List Int)).1, I 0, I 0, slv (([] : List TKept)).length (GT.pdflt (α := List TKept)).1, I 0].toArray) (fun w => by kernel_rfl)) .nil) fun _ _ _ S hB => hK125 _ _ q17 F18 q26 F27 q9 F10 _ _ _ S o16 o25 o8 (Disj.symm d136) (Disj.symm d135) (Disj.symm d134) hNN hB) (S.wq hW hNN hBB [] .nil fun _ _ _ S hB => hK129 _ _ q9 F10 q26 F27 q17 F18 _ _ _ S o8 o25 o16 d134 d135 d136 hNN hB)
  have hK137 ac w q9 F10 q26 F27 u N β (S : St Try.prog Try.f6.ntmps w0 NoB u N β (σ1.dl [] [(3, .p 1 0), (5, .v (slv ((List.replicate (f_brought 8 0 24).toNat (⟨-1, 0⟩ : TSlot))).length q9.1)), (6, .v (slv ((List.replicate (f_brought 8 0 24).toNat (List.replicate 4 (0 : Int)))).length q26.1))] 2 [(1, Zc TMon)]) ac w) (o8 : Ow w0 NoB u N F10 (List.replicate (f_brought 8 0 24).toNat (⟨-1, 0⟩ : TSlot)) q9) (o25 : Ow w0 NoB u N F27 (List.replicate (f_brought 8 0 24).toNat (List.replicate 4 (0 : Int))) q26) (d138 : Disj F10 F27) (hNN : NN N0 u0 N u) (hBB : BB σ1.bx.length β0 β) : W 3 (mkL 6 [0, 1, 4]) ac w := by
   refine o1 hW 2 ?_
   refine id (S.make (α := Bool) (m := 8) (by' := 1) (d := 7) (by kernel_rfl) (by omega) (show 8 ≤ 4194304 by omega) ?_)
   clear S; intro ac w N q139 F140 S up o141 d142
   have hb143 := fun b h => (⟨(up b (hNN b h).1).1, (up b (hNN b h).1).2.trans (hNN b h).2⟩ : _ ∧ _)
   refine WD.sc S hb143 hBB fun hC => ?_
   have d144 : Disj F10 F140 := fun b x y => d142 b (o8.sub b x) y
   have d145 : Disj F27 F140 := fun b x y => d142 b (o25.sub b x) y
   replace o8 := o8.up up
   replace o25 := o25.up up
   clear up d142
   exact S.wh hW [] hC fun _ S => hK129 _ _ q9 F10 q26 F27 q139 F140 _ _ _ S o8 o25 o141 d138 d144 d145 hb143 hBB
  have hK146 ac w q9 F10 q17 F18 u N β (S : St Try.prog Try.f6.ntmps w0 NoB u N β (σ1.dl [] [(3, .p 1 0), (5, .v (slv ((List.replicate (f_brought 8 0 24).toNat (⟨-1, 0⟩ : TSlot))).length q9.1)), (7, .v (slv 8 q17.1))] 2 [(1, Zc TMon)]) ac w) (o8 : Ow w0 NoB u N F10 (List.replicate (f_brought 8 0 24).toNat (⟨-1, 0⟩ : TSlot)) q9) (o16 : Ow w0 NoB u N F18 (List.replicate 8 (GT.dflt : Bool)) q17) (d147 : Disj F10 F18) (hNN : NN N0 u0 N u) (hBB : BB σ1.bx.length β0 β) : W 3 (mkL 6 [0, 2, 4]) ac w := by
   refine o1 hW 1 ?_
   refine id (S.call1 (r := (List.replicate (f_brought 8 0 24).toNat (List.replicate 4 (0 : Int)))) (d := 6) (c_spec_MemNew w 8) (by kernel_rfl) rfl ?_)
   clear S; intro ac w N q148 F149 S up o150 d151
   have hb152 := fun b h => (⟨(up b (hNN b h).1).1, (up b (hNN b h).1).2.trans (hNN b h).2⟩ : _ ∧ _)
   refine WD.sc S hb152 hBB fun hC => ?_
   have d153 : Disj F10 F149 := fun b x y => d151 b (o8.sub b x) y
   have d154 : Disj F18 F149 := fun b x y => d151 b (o16.sub b x) y
   replace o8 := o8.up up
   replace o16 := o16.up up
   clear up d151
   exact S.wh hW [] hC fun _ S => hK129 _ _ q9 F10 q148 F149 q17 F18 _ _ _ S o8 o150 o16 d153 d147 (Disj.symm d154) hb152 hBB
  have hK155 ac w q9 F10 q26 F27 u N β (S : St Try.prog Try.f6.ntmps w0 NoB u N β (σ1.dl [] [(5, .v (slv ((List.replicate (f_brought 8 0 24).toNat (⟨-1, 0⟩ : TSlot))).length q9.1)), (6, .v (slv ((List.replicate (f_brought 8 0 24).toNat (List.replicate 4 (0 : Int)))).length q26.1))] 1 []) ac w) (o8 : Ow w0 NoB u N F10 (List.replicate (f_brought 8 0 24).toNat (⟨-1, 0⟩ : TSlot)) q9) (o25 : Ow w0 NoB u N F27 (List.replicate (f_brought 8 0 24).toNat (List.replicate 4 (0 : Int))) q26) (d156 : Disj F10 F27) (hNN : NN N0 u0 N u) (hBB : BB σ1.bx.length β0 β) : W 4 (mkL 6 [0, 1]) ac w := by
   refine o2 hW 2 4 ?_ (S.wq hW hNN hBB [] .nil fun _ _ _ S hB => hK137 _ _ q9 F10 q26 F27 _ _ _ S o8 o25 d156 hNN hB)
   refine id (S.make (α := Bool) (m := 8) (by' := 1) (d := 7) (by kernel_rfl) (by omega) (show 8 ≤ 4194304 by omega) ?_)
   clear S; intro ac w N q157 F158 S up o159 d160
   have hb161 := fun b h => (⟨(up b (hNN b h).1).1, (up b (hNN b h).1).2.trans (hNN b h).2⟩ : _ ∧ _)
   refine WD.sc S hb161 hBB fun hC => ?_
   have d162 : Disj F10 F158 := fun b x y => d160 b (o8.sub b x) y
   have d163 : Disj F27 F158 := fun b x y => d160 b (o25.sub b x) y
   replace o8 := o8.up up
   replace o25 := o25.up up
   clear up d160
   exact S.wh hW [] hC fun _ S => hK133 _ _ q9 F10 q26 F27 q157 F158 _ _ _ S o8 o25 o159 d156 d162 d163 hb161 hBB
  have hK164 ac w q9 F10 q17 F18 u N β (S : St Try.prog Try.f6.ntmps w0 NoB u N β (σ1.dl [] [(5, .v (slv ((List.replicate (f_brought 8 0 24).toNat (⟨-1, 0⟩ : TSlot))).length q9.1)), (7, .v (slv 8 q17.1))] 1 []) ac w) (o8 : Ow w0 NoB u N F10 (List.replicate (f_brought 8 0 24).toNat (⟨-1, 0⟩ : TSlot)) q9) (o16 : Ow w0 NoB u N F18 (List.replicate 8 (GT.dflt : Bool)) q17) (d165 : Disj F10 F18) (hNN : NN N0 u0 N u) (hBB : BB σ1.bx.length β0 β) : W 4 (mkL 6 [0, 2]) ac w := by
   refine o2 hW 1 4 ?_ (S.wq hW hNN hBB [] .nil fun _ _ _ S hB => hK146 _ _ q9 F10 q17 F18 _ _ _ S o8 o16 d165 hNN hB)
   refine id (S.call1 (r := (List.replicate (f_brought 8 0 24).toNat (List.replicate 4 (0 : Int)))) (d := 6) (c_spec_MemNew w 8) (by kernel_rfl) rfl ?_)
   clear S; intro ac w N q166 F167 S up o168 d169
   have hb170 := fun b h => (⟨(up b (hNN b h).1).1, (up b (hNN b h).1).2.trans (hNN b h).2⟩ : _ ∧ _)
   refine WD.sc S hb170 hBB fun hC => ?_
   have d171 : Disj F10 F167 := fun b x y => d169 b (o8.sub b x) y
   have d172 : Disj F18 F167 := fun b x y => d169 b (o16.sub b x) y
   replace o8 := o8.up up
   replace o16 := o16.up up
   clear up d169
   exact S.wh hW [] hC fun _ S => hK133 _ _ q9 F10 q166 F167 q17 F18 _ _ _ S o8 o168 o16 d171 d165 (Disj.symm d172) hb170 hBB
  have hK173 ac w q9 F10 u N β (S : St Try.prog Try.f6.ntmps w0 NoB u N β (σ1.dl [] [(3, .p 1 0), (5, .v (slv ((List.replicate (f_brought 8 0 24).toNat (⟨-1, 0⟩ : TSlot))).length q9.1))] 2 [(1, Zc TMon)]) ac w) (o8 : Ow w0 NoB u N F10 (List.replicate (f_brought 8 0 24).toNat (⟨-1, 0⟩ : TSlot)) q9) (hNN : NN N0 u0 N u) (hBB : BB σ1.bx.length β0 β) : W 4 (mkL 6 [0, 4]) ac w := by
   refine o2 hW 1 2 ?_ ?_
   ·refine id (S.call1 (r := (List.replicate (f_brought 8 0 24).toNat (List.replicate 4 (0 : Int)))) (d := 6) (c_spec_MemNew w 8) (by kernel_rfl) rfl ?_)
    clear S; intro ac w N q174 F175 S up o176 d177
    have hb178 := fun b h => (⟨(up b (hNN b h).1).1, (up b (hNN b h).1).2.trans (hNN b h).2⟩ : _ ∧ _)
    refine WD.sc S hb178 hBB fun hC => ?_
    have d179 : Disj F10 F175 := fun b x y => d177 b (o8.sub b x) y
    replace o8 := o8.up up
    clear up d177
    exact S.wh hW [] hC fun _ S => hK137 _ _ q9 F10 q174 F175 _ _ _ S o8 o176 d179 hb178 hBB
   ·refine id (S.make (α := Bool) (m := 8) (by' := 1) (d := 7) (by kernel_rfl) (by omega) (show 8 ≤ 4194304 by omega) ?_)
    clear S; intro ac w N q180 F181 S up o182 d183
    have hb184 := fun b h => (⟨(up b (hNN b h).1).1, (up b (hNN b h).1).2.trans (hNN b h).2⟩ : _ ∧ _)
    refine WD.sc S hb184 hBB fun hC => ?_
    have d185 : Disj F10 F181 := fun b x y => d183 b (o8.sub b x) y
    replace o8 := o8.up up
    clear up d183
    exact S.wh hW [] hC fun _ S => hK146 _ _ q9 F10 q180 F181 _ _ _ S o8 o182 d185 hb184 hBB
  have hK186 ac w q17 F18 u N β (S : St Try.prog Try.f6.ntmps w0 NoB u N β (σ1.dl [] [(3, .p 1 0), (7, .v (slv 8 q17.1))] 2 [(1, Zc TMon)]) ac w) (o16 : Ow w0 NoB u N F18 (List.replicate 8 (GT.dflt : Bool)) q17) (hNN : NN N0 u0 N u) (hBB : BB σ1.bx.length β0 β) : W 4 (mkL 6 [2, 4]) ac w := by
   refine o1 hW 0 ?_
   have b187 := (List.length_replicate : (List.replicate (f_brought 8 0 24).toNat (⟨-1, 0⟩ : TSlot)).length = (f_brought 8 0 24).toNat)
   refine id (S.call1 (r := (List.replicate (f_brought 8 0 24).toNat (⟨-1, 0⟩ : TSlot))) (d := 5) (c_spec_TableNew w 8) (by kernel_rfl) rfl ?_)
   clear S; intro ac w N q188 F189 S up o190 d191
   have hb192 := fun b h => (⟨(up b (hNN b h).1).1, (up b (hNN b h).1).2.trans (hNN b h).2⟩ : _ ∧ _)
   refine WD.sc S hb192 hBB fun hC => ?_
   have d193 : Disj F18 F189 := fun b x y => d191 b (o16.sub b x) y
   replace o16 := o16.up up
   clear up d191
   exact S.wh hW [] hC fun _ S => hK146 _ _ q188 F189 q17 F18 _ _ _ S o190 o16 (Disj.symm d193) hb192 hBB
  have hK194 ac w q9 F10 u N β (S : St Try.prog Try.f6.ntmps w0 NoB u N β (σ1.dl [] [(5, .v (slv ((List.replicate (f_brought 8 0 24).toNat (⟨-1, 0⟩ : TSlot))).length q9.1))] 1 []) ac w) (o8 : Ow w0 NoB u N F10 (List.replicate (f_brought 8 0 24).toNat (⟨-1, 0⟩ : TSlot)) q9) (hNN : NN N0 u0 N u) (hBB : BB σ1.bx.length β0 β) : W 5 (mkL 6 [0]) ac w := by
   refine o3 hW 1 2 4 ?_ ?_ (S.wq hW hNN hBB [] .nil fun _ _ _ S hB => hK173 _ _ q9 F10 _ _ _ S o8 hNN hB)
   ·refine id (S.call1 (r := (List.replicate (f_brought 8 0 24).toNat (List.replicate 4 (0 : Int)))) (d := 6) (c_spec_MemNew w 8) (by kernel_rfl) rfl ?_)
    clear S; intro ac w N q195 F196 S up o197 d198
    have hb199 := fun b h => (⟨(up b (hNN b h).1).1, (up b (hNN b h).1).2.trans (hNN b h).2⟩ : _ ∧ _)
    refine WD.sc S hb199 hBB fun hC => ?_
    have d200 : Disj F10 F196 := fun b x y => d198 b (o8.sub b x) y
    replace o8 := o8.up up
    clear up d198
    exact S.wh hW [] hC fun _ S => hK155 _ _ q9 F10 q195 F196 _ _ _ S o8 o197 d200 hb199 hBB
   ·refine id (S.make (α := Bool) (m := 8) (by' := 1) (d := 7) (by kernel_rfl) (by omega) (show 8 ≤ 4194304 by omega) ?_)
    clear S; intro ac w N q201 F202 S up o203 d204
    have hb205 := fun b h => (⟨(up b (hNN b h).1).1, (up b (hNN b h).1).2.trans (hNN b h).2⟩ : _ ∧ _)
    refine WD.sc S hb205 hBB fun hC => ?_
    have d206 : Disj F10 F202 := fun b x y => d204 b (o8.sub b x) y
    replace o8 := o8.up up
    clear up d204
    exact S.wh hW [] hC fun _ S => hK164 _ _ q9 F10 q201 F202 _ _ _ S o8 o203 d206 hb205 hBB
  have hK207 ac w q17 F18 u N β (S : St Try.prog Try.f6.ntmps w0 NoB u N β (σ1.dl [] [(7, .v (slv 8 q17.1))] 1 []) ac w) (o16 : Ow w0 NoB u N F18 (List.replicate 8 (GT.dflt : Bool)) q17) (hNN : NN N0 u0 N u) (hBB : BB σ1.bx.length β0 β) : W 5 (mkL 6 [2]) ac w := by
   refine o2 hW 0 4 ?_ (S.wq hW hNN hBB [] .nil fun _ _ _ S hB => hK186 _ _ q17 F18 _ _ _ S o16 hNN hB)
   have b208 := (List.length_replicate : (List.replicate (f_brought 8 0 24).toNat (⟨-1, 0⟩ : TSlot)).length = (f_brought 8 0 24).toNat)
   refine id (S.call1 (r := (List.replicate (f_brought 8 0 24).toNat (⟨-1, 0⟩ : TSlot))) (d := 5) (c_spec_TableNew w 8) (by kernel_rfl) rfl ?_)
   clear S; intro ac w N q209 F210 S up o211 d212
   have hb213 := fun b h => (⟨(up b (hNN b h).1).1, (up b (hNN b h).1).2.trans (hNN b h).2⟩ : _ ∧ _)
   refine WD.sc S hb213 hBB fun hC => ?_
   have d214 : Disj F18 F210 := fun b x y => d212 b (o16.sub b x) y
   replace o16 := o16.up up
   clear up d212
   exact S.wh hW [] hC fun _ S => hK164 _ _ q209 F210 q17 F18 _ _ _ S o211 o16 (Disj.symm d214) hb213 hBB
  have hK215 ac w u N β (S : St Try.prog Try.f6.ntmps w0 NoB u N β (σ1.dl [] [(3, .p 1 0)] 2 [(1, Zc TMon)]) ac w) (hNN : NN N0 u0 N u) (hBB : BB σ1.bx.length β0 β) : W 5 (mkL 6 [4]) ac w := by
   refine o2 hW 0 2 ?_ ?_
   ·have b216 := (List.length_replicate : (List.replicate (f_brought 8 0 24).toNat (⟨-1, 0⟩ : TSlot)).length = (f_brought 8 0 24).toNat)
    refine id (S.call1 (r := (List.replicate (f_brought 8 0 24).toNat (⟨-1, 0⟩ : TSlot))) (d := 5) (c_spec_TableNew w 8) (by kernel_rfl) rfl ?_)
    clear S; intro ac w N q217 F218 S up o219 d220
    have hb221 := fun b h => (⟨(up b (hNN b h).1).1, (up b (hNN b h).1).2.trans (hNN b h).2⟩ : _ ∧ _)
    refine WD.sc S hb221 hBB fun hC => ?_
    clear up d220
    exact S.wh hW [] hC fun _ S => hK173 _ _ q217 F218 _ _ _ S o219 hb221 hBB
   ·refine id (S.make (α := Bool) (m := 8) (by' := 1) (d := 7) (by kernel_rfl) (by omega) (show 8 ≤ 4194304 by omega) ?_)
    clear S; intro ac w N q222 F223 S up o224 d225
    have hb226 := fun b h => (⟨(up b (hNN b h).1).1, (up b (hNN b h).1).2.trans (hNN b h).2⟩ : _ ∧ _)
    refine WD.sc S hb226 hBB fun hC => ?_
    clear up d225
    exact S.wh hW [] hC fun _ S => hK186 _ _ q222 F223 _ _ _ S o224 hb226 hBB
  have hNN : NN N0 u0 N0 u0 := fun b h => ⟨h, rfl⟩
  have hBB : BB σ1.bx.length β0 β0 := fun _ _ => rfl
  refine o3 hW 0 2 4 ?_ ?_ (S.wq hW hNN hBB [] .nil fun _ _ _ S hB => hK215 _ _ _ _ _ S hNN hB)
  ·have b227 := (List.length_replicate : (List.replicate (f_brought 8 0 24).toNat (⟨-1, 0⟩ : TSlot)).length = (f_brought 8 0 24).toNat)
   refine id (S.call1 (r := (List.replicate (f_brought 8 0 24).toNat (⟨-1, 0⟩ : TSlot))) (d := 5) (c_spec_TableNew w 8) (by kernel_rfl) rfl ?_)
   clear S; intro ac w N q228 F229 S up o230 d231
   have hb232 := fun b h => (⟨(up b (hNN b h).1).1, (up b (hNN b h).1).2.trans (hNN b h).2⟩ : _ ∧ _)
   refine WD.sc S hb232 hBB fun hC => ?_
   clear up d231
   exact S.wh hW [] hC fun _ S => hK194 _ _ q228 F229 _ _ _ S o230 hb232 hBB
  ·refine id (S.make (α := Bool) (m := 8) (by' := 1) (d := 7) (by kernel_rfl) (by omega) (show 8 ≤ 4194304 by omega) ?_)
   clear S; intro ac w N q233 F234 S up o235 d236
   have hb237 := fun b h => (⟨(up b (hNN b h).1).1, (up b (hNN b h).1).2.trans (hNN b h).2⟩ : _ ∧ _)
   refine WD.sc S hb237 hBB fun hC => ?_
   clear up d236
   exact S.wh hW [] hC fun _ S => hK207 _ _ q233 F234 _ _ _ S o235 hb237 hBB
 clear S
 rintro ac w ⟨q115, F116, q112, F113, q109, F110, u, N, β, S, o114, o111, o108, d238, d239, d240⟩
 refine id (nt (ws (ws (rg ?_))))
 refine S.qe 1 [] [(4, .v (I 0))] ?_; clear S; intro ac w β S
 refine (nt (wp_block ?_))
 have o247 := S.nilOw (α := TGuest)
 have o248 := S.nilOw (α := TKept)
 refine wp_loop_down (fun mm ac w => ∃ (k : Nat) (gs : List TGuest) (tb : List TKept) (q241 : GT.Ptr (List TGuest)) (F242 : Bl) (q244 : GT.Ptr (List TKept)) (F245 : Bl) (u : World) (N : Bl) (β : Nat → Nat), mm = progs.length - k ∧ (k ≤ progs.length) ∧ (k ≤ 2) ∧ (gs = ((progs.take 2).take k).map f_guestNew) ∧ (tb = ((progs.take 2).take k).map (fun _ => f_keptNew 4)) ∧ St Try.prog Try.f6.ntmps w0 NoB u N β ⟨[(0, .v (slv (progs).length pprogs.1)), (2, .p 0 0), (3, .p 1 0), (4, .v (I (k : Int)))], [Zc TMon, [slv ((List.replicate (f_brought 8 0 24).toNat (⟨-1, 0⟩ : TSlot))).length q109.1, slv ((List.replicate (f_brought 8 0 24).toNat (List.replicate 4 (0 : Int)))).length q112.1, slv 8 q115.1, slv (gs).length q241.1, slv (([] : List Int)).length (GT.pdflt (α := List Int)).1, I 0, I 0, slv (tb).length q244.1, I 0]]⟩ ac w ∧ Ow w0 NoB u N F242 gs q241 ∧ Ow w0 NoB u N F245 tb q244 ∧ Ow w0 NoB u N F110 (List.replicate (f_brought 8 0 24).toNat (⟨-1, 0⟩ : TSlot)) q109 ∧ Ow w0 NoB u N F113 (List.replicate (f_brought 8 0 24).toNat (List.replicate 4 (0 : Int))) q112 ∧ Ow w0 NoB u N F116 (List.replicate 8 (GT.dflt : Bool)) q115 ∧ Disj F242 F245 ∧ Disj F242 F110 ∧ Disj F242 F113 ∧ Disj F242 F116 ∧ Disj F245 F110 ∧ Disj F245 F113 ∧ Disj F245 F116) _ ⟨0, ([] : List TGuest), ([] : List TKept), (GT.pdflt (α := List TGuest)), NoB, (GT.pdflt (α := List TKept)), NoB, _, _, _, rfl, (by first | omega | (simp; done) | (simp; omega)), (by first | omega | (simp; done) | (simp; omega)), (by rfl), (by rfl), S.z, o247, o248, o108, o111, o114, (fun b _ h => False.elim h), (Disj.symm (fun b _ h => False.elim h)), (Disj.symm (fun b _ h => False.elim h)), (Disj.symm (fun b _ h => False.elim h)), (Disj.symm (fun b _ h => False.elim h)), (Disj.symm (fun b _ h => False.elim h)), (Disj.symm (fun b _ h => False.elim h))⟩ ?_
 clear S o108 o111 o114 o247 o248
 rintro mm ac w ⟨k, gs, tb, q241, F242, q244, F245, u, N, β, rfl, hk, hkm, hgs, htb, S, o243, o246, o108, o111, o114, d249, d250, d251, d252, d253, d254, d255⟩
 have hlgs : gs.length ≤ 2 := by rw [hgs, List.length_map, List.length_take]; omega
 have hltb : tb.length ≤ 2 := by rw [htb, List.length_map, List.length_take]; omega
 refine ws (ws (rg ?_))
 refine S.qa 5 [] [(13, .v (B (decide ((k : Int) < ((progs).length : Int)))))] ?_; clear S; intro ac w β S
 rcases Bool.eq_false_or_eq_true (decide ((k : Int) < ((progs).length : Int))) with h256 | h256 <;> rw [h256] at S
 ·have g257 := of_decide_eq_true h256
  refine S.qe 3 [13] [(16, .v (B (decide ((k : Int) < 2))))] ?_; clear S; intro ac w β S
  refine (nt (S.c (decide ((k : Int) < 2)) (fun h258 => ?_) (fun h258 => ?_)))
  ·have g259 := of_decide_eq_true h258
   refine wk (nt (ws (wp_block (ws ?_))))
   refine S.draw0 (f := 11) 8 rfl rfl ?_
   clear S; intro w S
   refine S.hq 0 [1, 0] [] [(19, .p 1 3)] .nil ?_; clear S; intro ac S
   refine S.hq 1 [1] [] [(20, .v (slv (gs).length q241.1))] .nil ?_; clear S; intro ac S
   refine S.hq 2 [6, 5, 4, 2] [] [(21, .v (slv (progs).length pprogs.1))] .nil ?_; clear S; intro ac S
   refine S.hq 3 [6, 5, 4, 3] [] [(22, .v (I (k : Int)))] .nil ?_; clear S; intro ac S
   refine S.hq 4 [6, 5, 4] [] [(23, .v (pt pprogs.1.b (pprogs.1.off + k * 1)))] (.cons (Q_idx (S.arg hprogs) (l := (progs).length) (k := k) (i := (k : Int)) rfl rfl (by omega) Try.underlying33 (by kernel_rfl)) .nil) ?_; clear S; intro ac S
   refine S.hq 5 [6, 5] [] [(24, .v (slv ((el progs k)).length (pprogs.2 k).1))] (.cons (Q_el1 (S.arg hprogs) (t := 58) (k := k) (by omega) rfl (by kernel_rfl)) .nil) ?_; clear S; intro ac S
   refine WD.one (i := 6) (by kernel_rfl) ?_
   refine id (S.call1 (r := f_guestNew (el progs k)) (d := 25) (c_spec_GuestNew w (el progs k) (pprogs.2 k) (S.rd (LRd.el (S.arg hprogs) k (by omega)))) (by kernel_rfl) rfl ?_)
   clear S; intro ac w N q260 F261 S up o262 d263
   refine WD.next S up (by kernel_rfl) ?_
   have d264 : Disj F242 F261 := fun b x y => d263 b (o243.sub b x) y
   have d265 : Disj F245 F261 := fun b x y => d263 b (o246.sub b x) y
   have d266 : Disj F110 F261 := fun b x y => d263 b (o108.sub b x) y
   have d267 : Disj F113 F261 := fun b x y => d263 b (o111.sub b x) y
   have d268 : Disj F116 F261 := fun b x y => d263 b (o114.sub b x) y
   replace o243 := o243.up up
   replace o246 := o246.up up
   replace o108 := o108.up up
   replace o111 := o111.up up
   replace o114 := o114.up up
   clear up d263
   have i272 : In64 (f_guestNew (el progs k)).acc := RGuest.acc (d := (f_guestNew (el progs k))) o262.rn
   have i273 : In64 (f_guestNew (el progs k)).pc := RGuest.pc (d := (f_guestNew (el progs k))) o262.rn
   have i280 : RCtl (f_guestNew (el progs k)).ctl := RGuest.ctl (d := (f_guestNew (el progs k))) o262.rn
   have i281 : In64 (f_guestNew (el progs k)).pend := RGuest.pend (d := (f_guestNew (el progs k))) o262.rn
   have i282 : RExit (f_guestNew (el progs k)).exit := RGuest.exit (d := (f_guestNew (el progs k))) o262.rn
   obtain ⟨F269, F274, F277, F283, o270, o275, o278, o284, s271, s276, s279, s285, d286, d287, d288, d289, d290, d291⟩ := sp_Guest o262
   refine WD.one (i := 7) (by kernel_rfl) ?_
   have o296 := ow_Guest (x := (f_guestNew (el progs k))) (p := q260) o270 o275 o278 o284 d286 d287 d288 d289 d290 d291 i272 i273 i280 i281 i282
   refine id (S.bs1 (α := TGuest) (x := (f_guestNew (el progs k))) (p := q260) o296.own o296.sub o296.young (d := 26) (by kernel_rfl) ?_)
   clear S; intro ac w N q292 F293 S up o294 d295
   refine WD.next S up (by kernel_rfl) ?_
   have d297 : Disj F242 F293 := d295 _ (Disj.symm (Disj.or (Disj.part (Disj.symm d264) s271) (Disj.or (Disj.part (Disj.symm d264) s276) (Disj.or (Disj.part (Disj.symm d264) s279) (Disj.or (Disj.part (Disj.symm d264) s285) Disj.nob))))) o243.sub
   have d298 : Disj F245 F293 := d295 _ (Disj.symm (Disj.or (Disj.part (Disj.symm d265) s271) (Disj.or (Disj.part (Disj.symm d265) s276) (Disj.or (Disj.part (Disj.symm d265) s279) (Disj.or (Disj.part (Disj.symm d265) s285) Disj.nob))))) o246.sub
   have d299 : Disj F110 F293 := d295 _ (Disj.symm (Disj.or (Disj.part (Disj.symm d266) s271) (Disj.or (Disj.part (Disj.symm d266) s276) (Disj.or (Disj.part (Disj.symm d266) s279) (Disj.or (Disj.part (Disj.symm d266) s285) Disj.nob))))) o108.sub
   have d300 : Disj F113 F293 := d295 _ (Disj.symm (Disj.or (Disj.part (Disj.symm d267) s271) (Disj.or (Disj.part (Disj.symm d267) s276) (Disj.or (Disj.part (Disj.symm d267) s279) (Disj.or (Disj.part (Disj.symm d267) s285) Disj.nob))))) o111.sub
   have d301 : Disj F116 F293 := d295 _ (Disj.symm (Disj.or (Disj.part (Disj.symm d268) s271) (Disj.or (Disj.part (Disj.symm d268) s276) (Disj.or (Disj.part (Disj.symm d268) s279) (Disj.or (Disj.part (Disj.symm d268) s285) Disj.nob))))) o114.sub
   replace o243 := o243.up up
   replace o246 := o246.up up
   replace o108 := o108.up up
   replace o111 := o111.up up
   replace o114 := o114.up up
   clear up d295
   refine WD.one (i := 8) (by kernel_rfl) ?_
   refine id (S.appOwn (α := TGuest) o243 o294 d297 (by' := 184) (d := 27) (lx := (gs).length) (ly := 1) rfl rfl (by kernel_rfl) (show _ ≤ 4194304 by simp only [List.length_append, List.length_cons, List.length_nil]; omega) ?_)
   clear S; intro ac w N q302 F303 S up o304 d305
   refine WD.last (by kernel_rfl) ?_
   have d306 : Disj F245 F303 := d305 _ (Disj.symm d249) d298 o246.sub
   have d307 : Disj F110 F303 := d305 _ (Disj.symm d250) d299 o108.sub
   have d308 : Disj F113 F303 := d305 _ (Disj.symm d251) d300 o111.sub
   have d309 : Disj F116 F303 := d305 _ (Disj.symm d252) d301 o114.sub
   replace o246 := o246.upF (Disj.symm d249) up
   replace o108 := o108.upF (Disj.symm d250) up
   replace o111 := o111.upF (Disj.symm d251) up
   replace o114 := o114.upF (Disj.symm d252) up
   clear up d305
   refine WD.one (i := 9) (by kernel_rfl) ?_
   refine S.stepq (i := 9) (keep := [0, 2, 3, 4, 27, 28]) (m := 2) (σ' := ⟨[(0, .v (slv (progs).length pprogs.1)), (2, .p 0 0), (3, .p 1 0), (4, .v (I (k : Int))), (27, .v (slv ((gs ++ [(f_guestNew (el progs k))])).length q302.1)), (28, .p 1 3)], [Zc TMon, [slv ((List.replicate (f_brought 8 0 24).toNat (⟨-1, 0⟩ : TSlot))).length q109.1, slv ((List.replicate (f_brought 8 0 24).toNat (List.replicate 4 (0 : Int)))).length q112.1, slv 8 q115.1, slv (gs).length q241.1, slv (([] : List Int)).length (GT.pdflt (α := List Int)).1, I 0, I 0, slv (tb).length q244.1, I 0]]⟩) .nil (by kernel_rfl) ?_
   clear S; intro ac w β S hβ
   refine WD.last (by kernel_rfl) ?_
   clear hβ
   refine WD.one (i := 10) (by kernel_rfl) ?_
   refine S.stepq (i := 10) (keep := [0, 2, 3, 4]) (m := 2) (σ' := ⟨[(0, .v (slv (progs).length pprogs.1)), (2, .p 0 0), (3, .p 1 0), (4, .v (I (k : Int)))], [Zc TMon, [slv ((List.replicate (f_brought 8 0 24).toNat (⟨-1, 0⟩ : TSlot))).length q109.1, slv ((List.replicate (f_brought 8 0 24).toNat (List.replicate 4 (0 : Int)))).length q112.1, slv 8 q115.1, slv ((gs ++ [(f_guestNew (el progs k))])).length q302.1, slv (([] : List Int)).length (GT.pdflt (α := List Int)).1, I 0, I 0, slv (tb).length q244.1, I 0]]⟩) .nil (by kernel_rfl) ?_
   clear S; intro ac w β S hβ
   refine WD.last (by kernel_rfl) ?_
   clear hβ
   refine WD.done (by kernel_rfl) ?_ _
   refine id (nt ?_)
   refine S.draw0 (f := 7) 4 rfl rfl ?_
   clear S; intro w S
   refine S.hq 0 [1, 0] [] [(29, .p 1 7)] .nil ?_; clear S; intro ac S
   refine S.hq 1 [1] [] [(30, .v (slv (tb).length q244.1))] .nil ?_; clear S; intro ac S
   refine WD.one (i := 2) (by kernel_rfl) ?_
   refine id (S.call1 (r := f_keptNew 4) (d := 31) (c_spec_KeptNew w 4) (by kernel_rfl) rfl ?_)
   clear S; intro ac w N q310 F311 S up o312 d313
   refine WD.next S up (by kernel_rfl) ?_
   have d314 : Disj F245 F311 := fun b x y => d313 b (o246.sub b x) y
   have d315 : Disj F110 F311 := fun b x y => d313 b (o108.sub b x) y
   have d316 : Disj F113 F311 := fun b x y => d313 b (o111.sub b x) y
   have d317 : Disj F116 F311 := fun b x y => d313 b (o114.sub b x) y
   have d318 : Disj F303 F311 := fun b x y => d313 b (o304.sub b x) y
   replace o246 := o246.up up
   replace o108 := o108.up up
   replace o111 := o111.up up
   replace o114 := o114.up up
   replace o304 := o304.up up
   clear up d313
   obtain ⟨F319, F322, o320, o323, s321, s324, d325⟩ := sp_Kept o312
   refine WD.one (i := 3) (by kernel_rfl) ?_
   have o330 := ow_Kept (x := (f_keptNew 4)) (p := q310) o320 o323 d325 
   refine id (S.bs1 (α := TKept) (x := (f_keptNew 4)) (p := q310) o330.own o330.sub o330.young (d := 32) (by kernel_rfl) ?_)
   clear S; intro ac w N q326 F327 S up o328 d329
   refine WD.next S up (by kernel_rfl) ?_
   have d331 : Disj F245 F327 := d329 _ (Disj.symm (Disj.or (Disj.part (Disj.symm d314) s321) (Disj.or (Disj.part (Disj.symm d314) s324) Disj.nob))) o246.sub
   have d332 : Disj F110 F327 := d329 _ (Disj.symm (Disj.or (Disj.part (Disj.symm d315) s321) (Disj.or (Disj.part (Disj.symm d315) s324) Disj.nob))) o108.sub
   have d333 : Disj F113 F327 := d329 _ (Disj.symm (Disj.or (Disj.part (Disj.symm d316) s321) (Disj.or (Disj.part (Disj.symm d316) s324) Disj.nob))) o111.sub
   have d334 : Disj F116 F327 := d329 _ (Disj.symm (Disj.or (Disj.part (Disj.symm d317) s321) (Disj.or (Disj.part (Disj.symm d317) s324) Disj.nob))) o114.sub
   have d335 : Disj F303 F327 := d329 _ (Disj.symm (Disj.or (Disj.part (Disj.symm d318) s321) (Disj.or (Disj.part (Disj.symm d318) s324) Disj.nob))) o304.sub
   replace o246 := o246.up up
   replace o108 := o108.up up
   replace o111 := o111.up up
   replace o114 := o114.up up
   replace o304 := o304.up up
   clear up d329
   refine WD.one (i := 4) (by kernel_rfl) ?_
   refine id (S.appOwn (α := TKept) o246 o328 d331 (by' := 48) (d := 33) (lx := (tb).length) (ly := 1) rfl rfl (by kernel_rfl) (show _ ≤ 4194304 by simp only [List.length_append, List.length_cons, List.length_nil]; omega) ?_)
   clear S; intro ac w N q336 F337 S up o338 d339
   refine WD.last (by kernel_rfl) ?_
   have d340 : Disj F110 F337 := d339 _ (Disj.symm d253) d332 o108.sub
   have d341 : Disj F113 F337 := d339 _ (Disj.symm d254) d333 o111.sub
   have d342 : Disj F116 F337 := d339 _ (Disj.symm d255) d334 o114.sub
   have d343 : Disj F303 F337 := d339 _ (Disj.symm d306) d335 o304.sub
   replace o108 := o108.upF (Disj.symm d253) up
   replace o111 := o111.upF (Disj.symm d254) up
   replace o114 := o114.upF (Disj.symm d255) up
   replace o304 := o304.upF (Disj.symm d306) up
   clear up d339
   refine WD.one (i := 5) (by kernel_rfl) ?_
   refine S.stepq (i := 5) (keep := [0, 2, 3, 4, 33, 34]) (m := 2) (σ' := ⟨[(0, .v (slv (progs).length pprogs.1)), (2, .p 0 0), (3, .p 1 0), (4, .v (I (k : Int))), (33, .v (slv ((tb ++ [(f_keptNew 4)])).length q336.1)), (34, .p 1 7)], [Zc TMon, [slv ((List.replicate (f_brought 8 0 24).toNat (⟨-1, 0⟩ : TSlot))).length q109.1, slv ((List.replicate (f_brought 8 0 24).toNat (List.replicate 4 (0 : Int)))).length q112.1, slv 8 q115.1, slv ((gs ++ [(f_guestNew (el progs k))])).length q302.1, slv (([] : List Int)).length (GT.pdflt (α := List Int)).1, I 0, I 0, slv (tb).length q244.1, I 0]]⟩) .nil (by kernel_rfl) ?_
   clear S; intro ac w β S hβ
   refine WD.last (by kernel_rfl) ?_
   clear hβ
   refine WD.one (i := 6) (by kernel_rfl) ?_
   refine S.stepq (i := 6) (keep := [0, 2, 3, 4]) (m := 2) (σ' := ⟨[(0, .v (slv (progs).length pprogs.1)), (2, .p 0 0), (3, .p 1 0), (4, .v (I (k : Int)))], [Zc TMon, [slv ((List.replicate (f_brought 8 0 24).toNat (⟨-1, 0⟩ : TSlot))).length q109.1, slv ((List.replicate (f_brought 8 0 24).toNat (List.replicate 4 (0 : Int)))).length q112.1, slv 8 q115.1, slv ((gs ++ [(f_guestNew (el progs k))])).length q302.1, slv (([] : List Int)).length (GT.pdflt (α := List Int)).1, I 0, I 0, slv ((tb ++ [(f_keptNew 4)])).length q336.1, I 0]]⟩) .nil (by kernel_rfl) ?_
   clear S; intro ac w β S hβ
   refine WD.last (by kernel_rfl) ?_
   clear hβ
   refine WD.done (by kernel_rfl) ?_ _
   refine id (nb (nt (rg ?_)))
   refine S.qg 3 [] [(4, .v (I ((k : Int) + 1)))] (.cons (Q_add (x := (k : Int)) (y := 1) ⟨by omega, by omega⟩) .nil) ?_; clear S; intro ac w β S
   refine (nt ?_)
   refine ⟨progs.length - (k + 1), by omega, k + 1, (gs ++ [(f_guestNew (el progs k))]), (tb ++ [(f_keptNew 4)]), q302, F303, q336, F337, _, _, _, rfl, ?_, ?_, ?_, ?_, S.z, o304, o338, o108, o111, o114, d343, (Disj.symm d307), (Disj.symm d308), (Disj.symm d309), (Disj.symm d340), (Disj.symm d341), (Disj.symm d342)⟩
   ·clear S; first | omega | (simp [*]; done) | (simp [*]; omega)
   ·clear S; first | omega | (simp [*]; done) | (simp [*]; omega)
   ·clear S; (first | (rw [map_take_step (by omega) (by omega), ← hgs]; done) | (rw [map_take_step (by omega) (by omega), ← hgs, el_take (by omega)]))
   ·clear S; (first | (rw [map_take_step (by omega) (by omega), ← htb]; done) | (rw [map_take_step (by omega) (by omega), ← htb, el_take (by omega)]))
  ·have g344 := of_decide_eq_false h258
   refine wp_exit (ex_then (ex_then (ex_hit (nt (ws (rg ?_))))))
   refine S.qem 2 [] [] 1 [(0, [slv ((List.replicate (f_brought 8 0 24).toNat (⟨-1, 0⟩ : TSlot))).length q109.1, slv ((List.replicate (f_brought 8 0 24).toNat (List.replicate 4 (0 : Int)))).length q112.1, slv 8 q115.1, slv (gs).length q241.1, slv (([] : List Int)).length (GT.pdflt (α := List Int)).1, I 0, I 0, slv (tb).length q244.1, I 0])] ?_; clear S; intro ac w β S
   refine (nt (wr (S.r [GT.val (⟨(List.replicate (f_brought 8 0 24).toNat (⟨-1, 0⟩ : TSlot)), (List.replicate (f_brought 8 0 24).toNat (List.replicate 4 (0 : Int))), (List.replicate 8 (GT.dflt : Bool)), gs, ([] : List Int), 0, 0, tb, 0⟩ : TMon) (⟨q109, q112, q115, q241, (GT.pdflt (α := List Int)), q244⟩ : PMon)] ?_)))
   have o345 := S.nilOw (α := Int)
   have o346 := ow_Mon (x := (⟨(List.replicate (f_brought 8 0 24).toNat (⟨-1, 0⟩ : TSlot)), (List.replicate (f_brought 8 0 24).toNat (List.replicate 4 (0 : Int))), (List.replicate 8 (GT.dflt : Bool)), gs, ([] : List Int), 0, 0, tb, 0⟩ : TMon)) (p := (⟨q109, q112, q115, q241, (GT.pdflt (α := List Int)), q244⟩ : PMon)) o108 o111 o114 o243 o345 o246 (Disj.symm d240) (Disj.symm d239) (Disj.symm d250) (fun b _ h => False.elim h) (Disj.symm d253) (Disj.symm d238) (Disj.symm d251) (fun b _ h => False.elim h) (Disj.symm d254) (Disj.symm d252) (fun b _ h => False.elim h) (Disj.symm d255) (fun b _ h => False.elim h) d249 (Disj.symm (fun b _ h => False.elim h)) (show In64 0 from ⟨by decide, by decide⟩) (show In64 0 from ⟨by decide, by decide⟩) (show In64 0 from ⟨by decide, by decide⟩)
   exact ret1_of S (show f_monNew progs = (⟨(List.replicate (f_brought 8 0 24).toNat (⟨-1, 0⟩ : TSlot)), (List.replicate (f_brought 8 0 24).toNat (List.replicate 4 (0 : Int))), (List.replicate 8 (GT.dflt : Bool)), gs, ([] : List Int), 0, 0, tb, 0⟩ : TMon) by clear S; (rw [hgs, htb, map_take_end (by omega), map_take_end (by omega)]; rfl)) rfl o346
 ·have g347 := of_decide_eq_false h256
  refine S.qe 3 [13] [(16, .v (B false))] ?_; clear S; intro ac w β S
  refine (nt (S.c false (fun hx => by cases hx) (fun _ => ?_)))
  refine wp_exit (ex_then (ex_then (ex_hit (nt (ws (rg ?_))))))
  refine S.qem 2 [] [] 1 [(0, [slv ((List.replicate (f_brought 8 0 24).toNat (⟨-1, 0⟩ : TSlot))).length q109.1, slv ((List.replicate (f_brought 8 0 24).toNat (List.replicate 4 (0 : Int)))).length q112.1, slv 8 q115.1, slv (gs).length q241.1, slv (([] : List Int)).length (GT.pdflt (α := List Int)).1, I 0, I 0, slv (tb).length q244.1, I 0])] ?_; clear S; intro ac w β S
  refine (nt (wr (S.r [GT.val (⟨(List.replicate (f_brought 8 0 24).toNat (⟨-1, 0⟩ : TSlot)), (List.replicate (f_brought 8 0 24).toNat (List.replicate 4 (0 : Int))), (List.replicate 8 (GT.dflt : Bool)), gs, ([] : List Int), 0, 0, tb, 0⟩ : TMon) (⟨q109, q112, q115, q241, (GT.pdflt (α := List Int)), q244⟩ : PMon)] ?_)))
  have o348 := S.nilOw (α := Int)
  have o349 := ow_Mon (x := (⟨(List.replicate (f_brought 8 0 24).toNat (⟨-1, 0⟩ : TSlot)), (List.replicate (f_brought 8 0 24).toNat (List.replicate 4 (0 : Int))), (List.replicate 8 (GT.dflt : Bool)), gs, ([] : List Int), 0, 0, tb, 0⟩ : TMon)) (p := (⟨q109, q112, q115, q241, (GT.pdflt (α := List Int)), q244⟩ : PMon)) o108 o111 o114 o243 o348 o246 (Disj.symm d240) (Disj.symm d239) (Disj.symm d250) (fun b _ h => False.elim h) (Disj.symm d253) (Disj.symm d238) (Disj.symm d251) (fun b _ h => False.elim h) (Disj.symm d254) (Disj.symm d252) (fun b _ h => False.elim h) (Disj.symm d255) (fun b _ h => False.elim h) d249 (Disj.symm (fun b _ h => False.elim h)) (show In64 0 from ⟨by decide, by decide⟩) (show In64 0 from ⟨by decide, by decide⟩) (show In64 0 from ⟨by decide, by decide⟩)
  exact ret1_of S (show f_monNew progs = (⟨(List.replicate (f_brought 8 0 24).toNat (⟨-1, 0⟩ : TSlot)), (List.replicate (f_brought 8 0 24).toNat (List.replicate 4 (0 : Int))), (List.replicate 8 (GT.dflt : Bool)), gs, ([] : List Int), 0, 0, tb, 0⟩ : TMon) by clear S; (rw [hgs, htb, map_take_end (by omega), map_take_end (by omega)]; rfl)) rfl o349

set_option maxRecDepth 100000 in
theorem c_spec_HostNew (w0 : World) (all : List (List (List TIns))) (pall : LP (List (List TIns))) (hall : GT.rd KK (Lt w0.heap.size) w0 all pall) : Calls Try.prog 15 [slv (all).length pall.1].toArray w0 (Ret1 NoB w0 (f_hostNew all : THost)) := by
 refine Calls.walk (args := [slv (all).length pall.1]) NoB Try.func15 rfl rfl ?_
 intro ac β S
 have hleall : all.length ≤ 4194304 := LRd.le hall
 refine ws (rg ?_)
 refine S.qem 1 [] [(2, .p 0 0)] 1 [(0, Zc THost)] ?_; clear S; intro ac w β S
 refine (nt (ws (rg ?_)))
 refine RG.op rfl (S.call1 (r := (List.replicate (f_brought 12 0 24).toNat (List.replicate 4 (0 : Int)))) (d := 5) (c_spec_MemNew w 12) (by kernel_rfl) rfl ?_)
 clear S; intro ac w N q1 F2 S up o3 d4
 clear up d4
 refine S.qgm 3 [] [(3, .p 1 0)] (.cons (Q_sem (s := Instr.build 45 [(0, slv ((List.replicate (f_brought 12 0 24).toNat (List.replicate 4 (0 : Int)))).length q1.1)].toArray) (v := .agg [slv ((List.replicate (f_brought 12 0 24).toNat (List.replicate 4 (0 : Int)))).length q1.1, slv (([] : List TMon)).length (GT.pdflt (α := List TMon)).1, slv (([] : List TEntry)).length (GT.pdflt (α := List TEntry)).1, slv (([] : List TEntry)).length (GT.pdflt (α := List TEntry)).1].toArray) (fun w => by kernel_rfl)) .nil) 2 [(1, [slv ((List.replicate (f_brought 12 0 24).toNat (List.replicate 4 (0 : Int)))).length q1.1, slv (([] : List TMon)).length (GT.pdflt (α := List TMon)).1, slv (([] : List TEntry)).length (GT.pdflt (α := List TEntry)).1, slv (([] : List TEntry)).length (GT.pdflt (α := List TEntry)).1])] ?_; clear S; intro ac w β S
 refine (nt (ws (ws (rg ?_))))
 refine S.qe 1 [] [(4, .v (I 0))] ?_; clear S; intro ac w β S
 refine (nt (wp_block ?_))
 have o8 := S.nilOw (α := TMon)
 refine wp_loop_down (fun mm ac w => ∃ (k : Nat) (ms : List TMon) (q5 : GT.Ptr (List TMon)) (F6 : Bl) (u : World) (N : Bl) (β : Nat → Nat), mm = all.length - k ∧ (k ≤ all.length) ∧ (k ≤ 3) ∧ (ms = ((all.take 3).take k).map f_monNew) ∧ St Try.prog Try.f15.ntmps w0 NoB u N β ⟨[(0, .v (slv (all).length pall.1)), (2, .p 0 0), (3, .p 1 0), (4, .v (I (k : Int)))], [Zc THost, [slv ((List.replicate (f_brought 12 0 24).toNat (List.replicate 4 (0 : Int)))).length q1.1, slv (ms).length q5.1, slv (([] : List TEntry)).length (GT.pdflt (α := List TEntry)).1, slv (([] : List TEntry)).length (GT.pdflt (α := List TEntry)).1]]⟩ ac w ∧ Ow w0 NoB u N F6 ms q5 ∧ Ow w0 NoB u N F2 (List.replicate (f_brought 12 0 24).toNat (List.replicate 4 (0 : Int))) q1 ∧ Disj F6 F2) _ ⟨0, ([] : List TMon), (GT.pdflt (α := List TMon)), NoB, _, _, _, rfl, (by first | omega | (simp; done) | (simp; omega)), (by first | omega | (simp; done) | (simp; omega)), (by rfl), S.z, o8, o3, (Disj.symm (fun b _ h => False.elim h))⟩ ?_
 clear S o3 o8
 rintro mm ac w ⟨k, ms, q5, F6, u, N, β, rfl, hk, hkm, hms, S, o7, o3, d9⟩
 have hlms : ms.length ≤ 3 := by rw [hms, List.length_map, List.length_take]; omega
 refine ws (ws (rg ?_))
 refine S.qa 5 [] [(11, .v (B (decide ((k : Int) < ((all).length : Int)))))] ?_; clear S; intro ac w β S
 rcases Bool.eq_false_or_eq_true (decide ((k : Int) < ((all).length : Int))) with h10 | h10 <;> rw [h10] at S
 ·have g11 := of_decide_eq_true h10
  refine S.qe 3 [11] [(14, .v (B (decide ((k : Int) < 3))))] ?_; clear S; intro ac w β S
  refine (nt (S.c (decide ((k : Int) < 3)) (fun h12 => ?_) (fun h12 => ?_)))
  ·have g13 := of_decide_eq_true h12
   refine wk (nt (ws (wp_block ?_)))
   refine S.draw0 (f := 11) 8 rfl rfl ?_
   clear S; intro w S
   refine S.hq 0 [1, 0] [] [(17, .p 1 1)] .nil ?_; clear S; intro ac S
   refine S.hq 1 [1] [] [(18, .v (slv (ms).length q5.1))] .nil ?_; clear S; intro ac S
   refine S.hq 2 [6, 5, 4, 2] [] [(19, .v (slv (all).length pall.1))] .nil ?_; clear S; intro ac S
   refine S.hq 3 [6, 5, 4, 3] [] [(20, .v (I (k : Int)))] .nil ?_; clear S; intro ac S
   refine S.hq 4 [6, 5, 4] [] [(21, .v (pt pall.1.b (pall.1.off + k * 1)))] (.cons (Q_idx (S.arg hall) (l := (all).length) (k := k) (i := (k : Int)) rfl rfl (by omega) Try.underlying47 (by kernel_rfl)) .nil) ?_; clear S; intro ac S
   refine S.hq 5 [6, 5] [] [(22, .v (slv ((el all k)).length (pall.2 k).1))] (.cons (Q_el1 (S.arg hall) (t := 33) (k := k) (by omega) rfl (by kernel_rfl)) .nil) ?_; clear S; intro ac S
   refine WD.one (i := 6) (by kernel_rfl) ?_
   refine id (S.call1 (r := f_monNew (el all k)) (d := 23) (c_spec_MonNew w (el all k) (pall.2 k) (S.rd (LRd.el (S.arg hall) k (by omega)))) (by kernel_rfl) rfl ?_)
   clear S; intro ac w N q14 F15 S up o16 d17
   refine WD.next S up (by kernel_rfl) ?_
   have d18 : Disj F6 F15 := fun b x y => d17 b (o7.sub b x) y
   have d19 : Disj F2 F15 := fun b x y => d17 b (o3.sub b x) y
   replace o7 := o7.up up
   replace o3 := o3.up up
   clear up d17
   have i35 : In64 (f_monNew (el all k)).pend := RMon.pend (d := (f_monNew (el all k))) o16.rn
   have i36 : In64 (f_monNew (el all k)).traps := RMon.traps (d := (f_monNew (el all k))) o16.rn
   have i40 : In64 (f_monNew (el all k)).owned := RMon.owned (d := (f_monNew (el all k))) o16.rn
   obtain ⟨F20, F23, F26, F29, F32, F37, o21, o24, o27, o30, o33, o38, s22, s25, s28, s31, s34, s39, d41, d42, d43, d44, d45, d46, d47, d48, d49, d50, d51, d52, d53, d54, d55⟩ := sp_Mon o16
   refine WD.one (i := 7) (by kernel_rfl) ?_
   have o60 := ow_Mon (x := (f_monNew (el all k))) (p := q14) o21 o24 o27 o30 o33 o38 d41 d42 d43 d44 d45 d46 d47 d48 d49 d50 d51 d52 d53 d54 d55 i35 i36 i40
   refine id (S.bs1 (α := TMon) (x := (f_monNew (el all k))) (p := q14) o60.own o60.sub o60.young (d := 24) (by kernel_rfl) ?_)
   clear S; intro ac w N q56 F57 S up o58 d59
   refine WD.next S up (by kernel_rfl) ?_
   have d61 : Disj F6 F57 := d59 _ (Disj.symm (Disj.or (Disj.part (Disj.symm d18) s22) (Disj.or (Disj.part (Disj.symm d18) s25) (Disj.or (Disj.part (Disj.symm d18) s28) (Disj.or (Disj.part (Disj.symm d18) s31) (Disj.or (Disj.part (Disj.symm d18) s34) (Disj.or (Disj.part (Disj.symm d18) s39) Disj.nob))))))) o7.sub
   have d62 : Disj F2 F57 := d59 _ (Disj.symm (Disj.or (Disj.part (Disj.symm d19) s22) (Disj.or (Disj.part (Disj.symm d19) s25) (Disj.or (Disj.part (Disj.symm d19) s28) (Disj.or (Disj.part (Disj.symm d19) s31) (Disj.or (Disj.part (Disj.symm d19) s34) (Disj.or (Disj.part (Disj.symm d19) s39) Disj.nob))))))) o3.sub
   replace o7 := o7.up up
   replace o3 := o3.up up
   clear up d59
   refine WD.one (i := 8) (by kernel_rfl) ?_
   refine id (S.appOwn (α := TMon) o7 o58 d61 (by' := 168) (d := 25) (lx := (ms).length) (ly := 1) rfl rfl (by kernel_rfl) (show _ ≤ 4194304 by simp only [List.length_append, List.length_cons, List.length_nil]; omega) ?_)
   clear S; intro ac w N q63 F64 S up o65 d66
   refine WD.last (by kernel_rfl) ?_
   have d67 : Disj F2 F64 := d66 _ (Disj.symm d9) d62 o3.sub
   replace o3 := o3.upF (Disj.symm d9) up
   clear up d66
   refine WD.one (i := 9) (by kernel_rfl) ?_
   refine S.stepq (i := 9) (keep := [0, 2, 3, 4, 25, 26]) (m := 2) (σ' := ⟨[(0, .v (slv (all).length pall.1)), (2, .p 0 0), (3, .p 1 0), (4, .v (I (k : Int))), (25, .v (slv ((ms ++ [(f_monNew (el all k))])).length q63.1)), (26, .p 1 1)], [Zc THost, [slv ((List.replicate (f_brought 12 0 24).toNat (List.replicate 4 (0 : Int)))).length q1.1, slv (ms).length q5.1, slv (([] : List TEntry)).length (GT.pdflt (α := List TEntry)).1, slv (([] : List TEntry)).length (GT.pdflt (α := List TEntry)).1]]⟩) .nil (by kernel_rfl) ?_
   clear S; intro ac w β S hβ
   refine WD.last (by kernel_rfl) ?_
   clear hβ
   refine WD.one (i := 10) (by kernel_rfl) ?_
   refine S.stepq (i := 10) (keep := [0, 2, 3, 4]) (m := 2) (σ' := ⟨[(0, .v (slv (all).length pall.1)), (2, .p 0 0), (3, .p 1 0), (4, .v (I (k : Int)))], [Zc THost, [slv ((List.replicate (f_brought 12 0 24).toNat (List.replicate 4 (0 : Int)))).length q1.1, slv ((ms ++ [(f_monNew (el all k))])).length q63.1, slv (([] : List TEntry)).length (GT.pdflt (α := List TEntry)).1, slv (([] : List TEntry)).length (GT.pdflt (α := List TEntry)).1]]⟩) .nil (by kernel_rfl) ?_
   clear S; intro ac w β S hβ
   refine WD.last (by kernel_rfl) ?_
   clear hβ
   refine WD.done (by kernel_rfl) ?_ _
   refine id (nb (nt (rg ?_)))
   refine S.qg 3 [] [(4, .v (I ((k : Int) + 1)))] (.cons (Q_add (x := (k : Int)) (y := 1) ⟨by omega, by omega⟩) .nil) ?_; clear S; intro ac w β S
   refine (nt ?_)
   refine ⟨all.length - (k + 1), by omega, k + 1, (ms ++ [(f_monNew (el all k))]), q63, F64, _, _, _, rfl, ?_, ?_, ?_, S.z, o65, o3, (Disj.symm d67)⟩
   ·clear S; first | omega | (simp [*]; done) | (simp [*]; omega)
   ·clear S; first | omega | (simp [*]; done) | (simp [*]; omega)
   ·clear S; (first | (rw [map_take_step (by omega) (by omega), ← hms]; done) | (rw [map_take_step (by omega) (by omega), ← hms, el_take (by omega)]))
  ·have g68 := of_decide_eq_false h12
   refine wp_exit (ex_then (ex_then (ex_hit (nt (ws (rg ?_))))))
   refine S.qem 2 [] [] 1 [(0, [slv ((List.replicate (f_brought 12 0 24).toNat (List.replicate 4 (0 : Int)))).length q1.1, slv (ms).length q5.1, slv (([] : List TEntry)).length (GT.pdflt (α := List TEntry)).1, slv (([] : List TEntry)).length (GT.pdflt (α := List TEntry)).1])] ?_; clear S; intro ac w β S
   refine (nt (wr (S.r [GT.val (⟨(List.replicate (f_brought 12 0 24).toNat (List.replicate 4 (0 : Int))), ms, ([] : List TEntry), ([] : List TEntry)⟩ : THost) (⟨q1, q5, (GT.pdflt (α := List TEntry)), (GT.pdflt (α := List TEntry))⟩ : PHost)] ?_)))
   have o69 := S.nilOw (α := TEntry)
   have o70 := S.nilOw (α := TEntry)
   have o71 := ow_Host (x := (⟨(List.replicate (f_brought 12 0 24).toNat (List.replicate 4 (0 : Int))), ms, ([] : List TEntry), ([] : List TEntry)⟩ : THost)) (p := (⟨q1, q5, (GT.pdflt (α := List TEntry)), (GT.pdflt (α := List TEntry))⟩ : PHost)) o3 o7 o69 o70 (Disj.symm d9) (fun b _ h => False.elim h) (fun b _ h => False.elim h) (fun b _ h => False.elim h) (fun b _ h => False.elim h) (fun b _ h => False.elim h) 
   exact ret1_of S (show f_hostNew all = (⟨(List.replicate (f_brought 12 0 24).toNat (List.replicate 4 (0 : Int))), ms, ([] : List TEntry), ([] : List TEntry)⟩ : THost) by clear S; (rw [hms, map_take_end (by omega)]; rfl)) rfl o71
 ·have g72 := of_decide_eq_false h10
  refine S.qe 3 [11] [(14, .v (B false))] ?_; clear S; intro ac w β S
  refine (nt (S.c false (fun hx => by cases hx) (fun _ => ?_)))
  refine wp_exit (ex_then (ex_then (ex_hit (nt (ws (rg ?_))))))
  refine S.qem 2 [] [] 1 [(0, [slv ((List.replicate (f_brought 12 0 24).toNat (List.replicate 4 (0 : Int)))).length q1.1, slv (ms).length q5.1, slv (([] : List TEntry)).length (GT.pdflt (α := List TEntry)).1, slv (([] : List TEntry)).length (GT.pdflt (α := List TEntry)).1])] ?_; clear S; intro ac w β S
  refine (nt (wr (S.r [GT.val (⟨(List.replicate (f_brought 12 0 24).toNat (List.replicate 4 (0 : Int))), ms, ([] : List TEntry), ([] : List TEntry)⟩ : THost) (⟨q1, q5, (GT.pdflt (α := List TEntry)), (GT.pdflt (α := List TEntry))⟩ : PHost)] ?_)))
  have o73 := S.nilOw (α := TEntry)
  have o74 := S.nilOw (α := TEntry)
  have o75 := ow_Host (x := (⟨(List.replicate (f_brought 12 0 24).toNat (List.replicate 4 (0 : Int))), ms, ([] : List TEntry), ([] : List TEntry)⟩ : THost)) (p := (⟨q1, q5, (GT.pdflt (α := List TEntry)), (GT.pdflt (α := List TEntry))⟩ : PHost)) o3 o7 o73 o74 (Disj.symm d9) (fun b _ h => False.elim h) (fun b _ h => False.elim h) (fun b _ h => False.elim h) (fun b _ h => False.elim h) (fun b _ h => False.elim h) 
  exact ret1_of S (show f_hostNew all = (⟨(List.replicate (f_brought 12 0 24).toNat (List.replicate 4 (0 : Int))), ms, ([] : List TEntry), ([] : List TEntry)⟩ : THost) by clear S; (rw [hms, map_take_end (by omega)]; rfl)) rfl o75

theorem k0_impl_Brought {p : Prop} (h : p := by clear S; ((have hb := brought_bd n); subst pre0 pre1; unfold f_brought at *; (repeat' split at *) <;> omega)) : p := h
set_option maxRecDepth 100000 in
theorem c_impl_Brought (w0 : World) (n : Int) (a : Int) (b : Int) (pre0 : a = 0) (pre1 : b = 24) : Calls Try.prog 64 [I n, I a, I b].toArray w0 (fun e w' => e = .returned (I ((f_brought n 0 24).toNat : Int)) ∧ Chg NoB w0 w') := by
 refine Calls.walk (args := [I n, I a, I b]) NoB Try.func64 rfl rfl ?_
 intro ac β S
 refine ws (rg ?_)
 refine S.qe 1 [] [] ?_; clear S; intro ac w β S
 refine (nt (ws (ws (rg ?_))))
 refine S.qa 4 [] [(10, .v (B (decide (n < a))))] ?_; clear S; intro ac w β S
 rcases Bool.eq_false_or_eq_true (decide (n < a)) with h1 | h1 <;> rw [h1] at S
 ·have g2 := of_decide_eq_true h1
  refine S.qe 4 [10] [(14, .v (B true))] ?_; clear S; intro ac w β S
  refine (nt (S.c true (fun _ => ?_) (fun hx => by cases hx)))
  refine ws (rg ?_)
  refine S.qe 2 [] [(6, .v (I a))] ?_; clear S; intro ac w β S
  exact (nt (wr (rt (S.r [I a] ⟨retI k0_impl_Brought, S.chg⟩))))
 ·have g3 := of_decide_eq_false h1
  refine S.qe 4 [10] [(14, .v (B (decide (b < a))))] ?_; clear S; intro ac w β S
  refine (nt (S.c (decide (b < a)) (fun h4 => ?_) (fun h4 => ?_)))
  ·have g5 := of_decide_eq_true h4
   refine ws (rg ?_)
   refine S.qe 2 [] [(6, .v (I a))] ?_; clear S; intro ac w β S
   exact (nt (wr (rt (S.r [I a] ⟨retI k0_impl_Brought, S.chg⟩))))
  ·have g6 := of_decide_eq_false h4
   refine wk (nt (ws (rg ?_)))
   refine S.qe 4 [] [(6, .v (I (if b < n then b else n)))] ?_; clear S; intro ac w β S
   exact (nt (wr (S.r [I (if b < n then b else n)] ⟨retI k0_impl_Brought, S.chg⟩)))

set_option maxRecDepth 100000 in
theorem c_impl_MemNew (w0 : World) (pages : Int) : Calls Try.prog 30 [I pages].toArray w0 (Ret1 NoB w0 ((List.replicate (f_brought pages 0 24).toNat (List.replicate 4 (0 : Int))) : List (List Int))) := by
 refine Calls.walk (args := [I pages]) NoB Try.func30 rfl rfl ?_
 intro ac β S
 refine ws (rg ?_)
 refine S.qe 1 [] [] ?_; clear S; intro ac w β S
 refine (nt (ws (rg ?_)))
 refine RG.op rfl (S.bs0 (α := List Int) (d := 5) (by kernel_rfl) ?_)
 clear S; intro ac w N q1 F2 S up o3 d4
 clear up d4
 refine S.qe 1 [] [(3, .v (slv 0 q1.1))] ?_; clear S; intro ac w β S
 refine (nt (ws (ws (rg ?_))))
 refine S.qe 1 [] [(4, .v (I 0))] ?_; clear S; intro ac w β S
 refine (nt (wp_block ?_))
 refine wp_loop_down (fun mm ac w => ∃ (k : Nat) (acc : List (List Int)) (q5 : GT.Ptr (List (List Int))) (F6 : Bl) (u : World) (N : Bl) (β : Nat → Nat), mm = (f_brought pages 0 24).toNat - k ∧ (k ≤ (f_brought pages 0 24).toNat) ∧ (acc = List.replicate k (List.replicate 4 (0 : Int))) ∧ St Try.prog Try.f30.ntmps w0 NoB u N β ⟨[(0, .v (I pages)), (3, .v (slv (acc).length q5.1)), (4, .v (I (k : Int)))], []⟩ ac w ∧ Ow w0 NoB u N F6 acc q5) _ ⟨0, ([] : List (List Int)), q1, F2, _, _, _, rfl, (by first | omega | (simp; done) | (simp; omega)), (by rfl), S.z, o3⟩ ?_
 clear S o3
 rintro mm ac w ⟨k, acc, q5, F6, u, N, β, rfl, hk, hacc, S, o7⟩
 have hb := brought_bd pages
 have hlacc : acc.length = k := by rw [hacc, List.length_replicate]
 refine ws (ws (rg ?_))
 refine S.qg 4 [] [(9, .v (B (decide ((k : Int) < (((f_brought pages 0 24).toNat : Int))))))] (.cons (Q_call fun w hw => c_impl_Brought w pages 0 24 (by omega) (by omega)) .nil) ?_; clear S; intro ac w β S
 refine (nt (S.c (decide ((k : Int) < (((f_brought pages 0 24).toNat : Int)))) (fun h8 => ?_) (fun h8 => ?_)))
 ·have g9 := of_decide_eq_true h8
  refine wk (nt (ws (wp_block (rg ?_))))
  refine S.qa 1 [] [(12, .v (slv (acc).length q5.1))] ?_; clear S; intro ac w β S
  refine RG.op rfl (S.make (α := Int) (m := 4) (by' := 8) (d := 13) (by kernel_rfl) (by omega) (show 4 ≤ 4194304 by omega) ?_)
  clear S; intro ac w N q10 F11 S up o12 d13
  have d14 : Disj F6 F11 := fun b x y => d13 b (o7.sub b x) y
  replace o7 := o7.up up
  clear up d13
  refine RG.op rfl (S.bs1 (α := List Int) (x := (List.replicate 4 (GT.dflt : Int))) (p := q10) o12.own o12.sub o12.young (d := 14) (by kernel_rfl) ?_)
  clear S; intro ac w N q15 F16 S up o17 d18
  have d19 : Disj F6 F16 := d18 _ d14 o7.sub
  replace o7 := o7.up up
  clear up d18
  refine RG.op rfl (S.appOwn (α := List Int) o7 o17 d19 (by' := 24) (d := 15) (lx := (acc).length) (ly := 1) rfl rfl (by kernel_rfl) (show _ ≤ 4194304 by simp only [List.length_append, List.length_cons, List.length_nil]; omega) ?_)
  clear S; intro ac w N q20 F21 S up o22 d23
  clear up d23
  refine S.qe 1 [] [(3, .v (slv ((acc ++ [(List.replicate 4 (GT.dflt : Int))])).length q20.1))] ?_; clear S; intro ac w β S
  refine (nb (nt (rg ?_)))
  refine S.qg 3 [] [(4, .v (I ((k : Int) + 1)))] (.cons (Q_add (x := (k : Int)) (y := 1) ⟨by omega, by omega⟩) .nil) ?_; clear S; intro ac w β S
  refine (nt ?_)
  refine ⟨(f_brought pages 0 24).toNat - (k + 1), by omega, k + 1, (acc ++ [(List.replicate 4 (GT.dflt : Int))]), q20, F21, _, _, _, rfl, ?_, ?_, S.z, o22⟩
  ·clear S; first | omega | (simp [*]; done) | (simp [*]; omega)
  ·clear S; (rw [hacc]; exact (repl_next rfl).symm)
 ·have g24 := of_decide_eq_false h8
  refine wp_exit (ex_then (ex_then (ex_hit (nt (ws (rg ?_))))))
  refine S.qe 2 [] [(2, .v (slv (acc).length q5.1))] ?_; clear S; intro ac w β S
  exact (nt (wr (S.r [slv (acc).length q5.1] (ret1_of S (show (List.replicate (f_brought pages 0 24).toNat (List.replicate 4 (0 : Int))) = acc by clear S; (rw [hacc, show k = (f_brought pages 0 24).toNat by omega])) rfl o7))))

set_option maxRecDepth 100000 in
theorem c_impl_NoSlot (w0 : World)  : Calls Try.prog 63 [].toArray w0 (fun e w' => e = .returned (GT.val (⟨-1, 0⟩ : TSlot) ()) ∧ Chg NoB w0 w') := by
 refine Calls.walk (args := []) NoB Try.func63 rfl rfl ?_
 intro ac β S
 refine ws (rg ?_)
 refine S.qem 1 [] [(0, .p 0 0)] 1 [(0, Zc TSlot)] ?_; clear S; intro ac w β S
 refine (nt (ws (rg ?_)))
 refine S.qgm 2 [] [] (.cons (Q_sem (s := Instr.build 90 [(0, I (-1))].toArray) (v := .agg [I (-1), I 0].toArray) (fun w => by kernel_rfl)) .nil) 1 [(0, [I (-1), I 0])] ?_; clear S; intro ac w β S
 exact (nt (wr (S.r [GT.val (⟨(-1), 0⟩ : TSlot) ()] ⟨retV (p := ()) (by clear S; first | rfl | (simp [id, *]; done) | (simp [id, *]; omega) | (simp_all [id]; done) | (simp_all [id]; omega)), S.chg⟩)))

set_option maxRecDepth 100000 in
theorem c_math_bits_Mul64 (w0 : World) (x : Int) (y : Int) (pre0 : x = 1) (pre1 : 0 ≤ y) (pre2 : y ≤ 24) : Calls Try.prog 76 [.int .u64 x, .int .u64 y].toArray w0 (fun e w' => e = .returned (.tuple #[.int .u64 0, .int .u64 y]) ∧ Chg NoB w0 w') := by
 refine Calls.walk (args := [.int .u64 x, .int .u64 y]) NoB Try.func76 rfl rfl ?_
 intro ac β S
 refine ws (rg ?_)
 refine S.qe 2 [] [] ?_; clear S; intro ac w β S
 refine (nt (ws (rg ?_)))
 refine S.qg 3 [] [(6, .v (.int .u64 (uand x 4294967295)))] (.cons (Q_uand (x := x) (y := 4294967295)) .nil) ?_; clear S; intro ac w β S
 refine (nt (ws (rg ?_)))
 refine S.qg 3 [] [(7, .v (.int .u64 (ushr x 32)))] (.cons (Q_ushr (yk := .u64) (x := x) (y := 32) (by omega)) .nil) ?_; clear S; intro ac w β S
 refine (nt (ws (rg ?_)))
 refine S.qg 3 [] [(8, .v (.int .u64 (uand y 4294967295)))] (.cons (Q_uand (x := y) (y := 4294967295)) .nil) ?_; clear S; intro ac w β S
 refine (nt (ws (rg ?_)))
 refine S.qg 3 [] [(9, .v (.int .u64 (ushr y 32)))] (.cons (Q_ushr (yk := .u64) (x := y) (y := 32) (by omega)) .nil) ?_; clear S; intro ac w β S
 refine (nt (ws (rg ?_)))
 refine S.qg 4 [] [(10, .v (.int .u64 (umul (uand x 4294967295) (uand y 4294967295))))] (.cons (Q_umul (x := (uand x 4294967295)) (y := (uand y 4294967295))) .nil) ?_; clear S; intro ac w β S
 refine (nt (ws (rg ?_)))
 refine S.qg 7 [] [(11, .v (.int .u64 (uadd (umul (ushr x 32) (uand y 4294967295)) (ushr (umul (uand x 4294967295) (uand y 4294967295)) 32))))] (.cons (Q_umul (x := (ushr x 32)) (y := (uand y 4294967295))) (.cons (Q_ushr (yk := .u64) (x := (umul (uand x 4294967295) (uand y 4294967295))) (y := 32) (by omega)) (.cons (Q_uadd (x := (umul (ushr x 32) (uand y 4294967295))) (y := (ushr (umul (uand x 4294967295) (uand y 4294967295)) 32))) .nil))) ?_; clear S; intro ac w β S
 refine (nt (ws (rg ?_)))
 refine S.qg 3 [] [(12, .v (.int .u64 (uand (uadd (umul (ushr x 32) (uand y 4294967295)) (ushr (umul (uand x 4294967295) (uand y 4294967295)) 32)) 4294967295)))] (.cons (Q_uand (x := (uadd (umul (ushr x 32) (uand y 4294967295)) (ushr (umul (uand x 4294967295) (uand y 4294967295)) 32))) (y := 4294967295)) .nil) ?_; clear S; intro ac w β S
 refine (nt (ws (rg ?_)))
 refine S.qg 3 [] [(13, .v (.int .u64 (ushr (uadd (umul (ushr x 32) (uand y 4294967295)) (ushr (umul (uand x 4294967295) (uand y 4294967295)) 32)) 32)))] (.cons (Q_ushr (yk := .u64) (x := (uadd (umul (ushr x 32) (uand y 4294967295)) (ushr (umul (uand x 4294967295) (uand y 4294967295)) 32))) (y := 32) (by omega)) .nil) ?_; clear S; intro ac w β S
 refine (nt (ws (rg ?_)))
 refine S.qg 6 [] [(12, .v (.int .u64 (uadd (uand (uadd (umul (ushr x 32) (uand y 4294967295)) (ushr (umul (uand x 4294967295) (uand y 4294967295)) 32)) 4294967295) (umul (uand x 4294967295) (ushr y 32)))))] (.cons (Q_umul (x := (uand x 4294967295)) (y := (ushr y 32))) (.cons (Q_uadd (x := (uand (uadd (umul (ushr x 32) (uand y 4294967295)) (ushr (umul (uand x 4294967295) (uand y 4294967295)) 32)) 4294967295)) (y := (umul (uand x 4294967295) (ushr y 32)))) .nil)) ?_; clear S; intro ac w β S
 refine (nt (ws (rg ?_)))
 refine S.qg 9 [] [(4, .v (.int .u64 (uadd (uadd (umul (ushr x 32) (ushr y 32)) (ushr (uadd (umul (ushr x 32) (uand y 4294967295)) (ushr (umul (uand x 4294967295) (uand y 4294967295)) 32)) 32)) (ushr (uadd (uand (uadd (umul (ushr x 32) (uand y 4294967295)) (ushr (umul (uand x 4294967295) (uand y 4294967295)) 32)) 4294967295) (umul (uand x 4294967295) (ushr y 32))) 32))))] (.cons (Q_umul (x := (ushr x 32)) (y := (ushr y 32))) (.cons (Q_uadd (x := (umul (ushr x 32) (ushr y 32))) (y := (ushr (uadd (umul (ushr x 32) (uand y 4294967295)) (ushr (umul (uand x 4294967295) (uand y 4294967295)) 32)) 32))) (.cons (Q_ushr (yk := .u64) (x := (uadd (uand (uadd (umul (ushr x 32) (uand y 4294967295)) (ushr (umul (uand x 4294967295) (uand y 4294967295)) 32)) 4294967295) (umul (uand x 4294967295) (ushr y 32)))) (y := 32) (by omega)) (.cons (Q_uadd (x := (uadd (umul (ushr x 32) (ushr y 32)) (ushr (uadd (umul (ushr x 32) (uand y 4294967295)) (ushr (umul (uand x 4294967295) (uand y 4294967295)) 32)) 32))) (y := (ushr (uadd (uand (uadd (umul (ushr x 32) (uand y 4294967295)) (ushr (umul (uand x 4294967295) (uand y 4294967295)) 32)) 4294967295) (umul (uand x 4294967295) (ushr y 32))) 32))) .nil)))) ?_; clear S; intro ac w β S
 refine (nt (ws (rg ?_)))
 refine S.qg 4 [] [(5, .v (.int .u64 (umul x y)))] (.cons (Q_umul (x := x) (y := y)) .nil) ?_; clear S; intro ac w β S
 exact (nt (wr (S.r [.int .u64 (uadd (uadd (umul (ushr x 32) (ushr y 32)) (ushr (uadd (umul (ushr x 32) (uand y 4294967295)) (ushr (umul (uand x 4294967295) (uand y 4294967295)) 32)) 32)) (ushr (uadd (uand (uadd (umul (ushr x 32) (uand y 4294967295)) (ushr (umul (uand x 4294967295) (uand y 4294967295)) 32)) 4294967295) (umul (uand x 4294967295) (ushr y 32))) 32)), .int .u64 (umul x y)] ⟨ret2v (congrArg (Value.int .u64) (show (uadd (uadd (umul (ushr x 32) (ushr y 32)) (ushr (uadd (umul (ushr x 32) (uand y 4294967295)) (ushr (umul (uand x 4294967295) (uand y 4294967295)) 32)) 32)) (ushr (uadd (uand (uadd (umul (ushr x 32) (uand y 4294967295)) (ushr (umul (uand x 4294967295) (uand y 4294967295)) 32)) 4294967295) (umul (uand x 4294967295) (ushr y 32))) 32)) = 0 by clear S; (subst pre0; exact mulHi pre1 pre2))) (congrArg (Value.int .u64) (show (umul x y) = y by clear S; (subst pre0; exact mulLo pre1 pre2))), S.chg⟩)))

set_option maxRecDepth 100000 in
theorem c_math_bits_Mul (w0 : World) (x : Int) (y : Int) (pre0 : x = 1) (pre1 : 0 ≤ y) (pre2 : y ≤ 24) : Calls Try.prog 72 [.int .u64 x, .int .u64 y].toArray w0 (fun e w' => e = .returned (.tuple #[.int .u64 0, .int .u64 y]) ∧ Chg NoB w0 w') := by
 refine Calls.walk (args := [.int .u64 x, .int .u64 y]) NoB Try.func72 rfl rfl ?_
 intro ac β S
 refine ws (rg ?_)
 refine S.qe 2 [] [] ?_; clear S; intro ac w β S
 refine (nt (ws (S.c false (fun hx => by cases hx) (fun _ => ?_))))
 refine wk (nt (ws (rg ?_)))
 refine S.qg 8 [] [(8, .v (.int .u64 0)), (9, .v (.int .u64 y))] (.cons (Q_call fun w hw => c_math_bits_Mul64 w x y (by omega) (by omega) (by omega)) .nil) ?_; clear S; intro ac w β S
 refine (nt (ws (rg ?_)))
 refine S.qe 4 [] [(4, .v (.int .u64 0)), (5, .v (.int .u64 y))] ?_; clear S; intro ac w β S
 exact (nt (wr (S.r [.int .u64 0, .int .u64 y] ⟨ret2v (congrArg (Value.int .u64) (show 0 = 0 by clear S; rfl)) (congrArg (Value.int .u64) (show y = y by clear S; rfl)), S.chg⟩)))

set_option maxRecDepth 100000 in
theorem c_slices_Repeat___impl_Slot_impl_Slot_ (w0 : World) (x : List TSlot) (px : LP TSlot) (hx : GT.rd KK (Lt w0.heap.size) w0 x px) (count : Nat) (pre0 : x.length = 1) (pre1 : count ≤ 24) : Calls Try.prog 62 [slv (x).length px.1, I (count : Int)].toArray w0 (Ret1 NoB w0 ((List.replicate count (el x 0)) : List TSlot)) := by
 refine Calls.walk (args := [slv (x).length px.1, I (count : Int)]) NoB Try.func62 rfl rfl ?_
 intro ac β S
 have hlex : x.length ≤ 4194304 := LRd.le hx
 refine ws (rg ?_)
 refine S.qe 1 [] [] ?_; clear S; intro ac w β S
 refine (nt (ws (ws (rg ?_))))
 refine S.qe 2 [] [(10, .v (B (decide ((count : Int) < 0))))] ?_; clear S; intro ac w β S
 refine (nt (S.c (decide ((count : Int) < 0)) (fun h1 => ?_) (fun h1 => ?_)))
 ·have g2 := of_decide_eq_true h1
  exfalso; clear S; omega
 ·have g3 := of_decide_eq_false h1
  refine wk (nt (ws (rg ?_)))
  refine S.qg 11 [] [(5, .v (.int .u64 0)), (6, .v (.int .u64 ((count : Int))))] (.cons (Q_convu (s := 3) (d := 105) (x := ((x).length : Int)) Try.underlying3 Try.underlying105 (by omega) (by omega)) (.cons (Q_convu (s := 3) (d := 105) (x := (count : Int)) Try.underlying3 Try.underlying105 (by omega) (by omega)) (.cons (Q_call fun w hw => c_math_bits_Mul w ((x).length : Int) (count : Int) (by omega) (by omega) (by omega)) .nil))) ?_; clear S; intro ac w β S
  refine (nt (ws (ws (rg ?_))))
  refine S.qe 6 [] [(26, .v (B (decide (((count : Int)) > 9223372036854775807))))] ?_; clear S; intro ac w β S
  refine (nt (S.c (decide (((count : Int)) > 9223372036854775807)) (fun h4 => ?_) (fun h4 => ?_)))
  ·have g5 := of_decide_eq_true h4
   exfalso; clear S; omega
  ·have g6 := of_decide_eq_false h4
   refine wk (nt (ws (rg ?_)))
   refine S.qb 2 [] [(29, .v (I ((count : Int))))] (.cons (Q_convi (s := 105) (d := 3) (x := ((count : Int))) Try.underlying105 Try.underlying3 (by omega) (by omega)) .nil) ?_; clear S; intro ac w β S
   refine RG.op rfl (S.make (α := TSlot) (m := count) (by' := 16) (d := 30) (by kernel_rfl) (by omega) (show count ≤ 4194304 by omega) ?_)
   clear S; intro ac w N q7 F8 S up o9 d10
   clear up d10
   refine S.qe 1 [] [(7, .v (slv count q7.1))] ?_; clear S; intro ac w β S
   refine (nt (ws (rg ?_)))
   refine S.qa 2 [] [(31, .v (slv count q7.1)), (32, .v (slv (x).length px.1))] ?_; clear S; intro ac w β S
   have l13 : count = ((List.replicate count (GT.dflt : TSlot))).length := (by simp)
   refine RG.op rfl (S.copy0 (d := 33) o9 (S.arg hx) (fun _ _ _ _ _ h => h) count ((x).length) (by simp) rfl (by kernel_rfl) ?_)
   clear S; intro ac w N p11 S up o12
   clear up o9
   have l14 : ((((List.replicate count (GT.dflt : TSlot))).take 0 ++ (x).take (min ((x).length) count : Nat) ++ ((List.replicate count (GT.dflt : TSlot))).drop (0 + (min ((x).length) count : Nat)))).length = ((List.replicate count (GT.dflt : TSlot))).length := mid_len (by omega) (by omega)
   refine S.qe 1 [] [(8, .v (I ((min ((x).length) count : Nat) : Int)))] ?_; clear S; intro ac w β S
   refine (nt (ws (wp_block ?_)))
   refine wp_loop_down (fun mm ac w => ∃ (n : Nat) (acc : List TSlot) (q15 : GT.Ptr (List TSlot)) (F16 : Bl) (u : World) (N : Bl) (β : Nat → Nat), mm = count - n ∧ (n ≤ count) ∧ (acc.length = count) ∧ (0 < count → 0 < n) ∧ (acc.take n = List.replicate n (el x 0)) ∧ St Try.prog Try.f62.ntmps w0 NoB u N β ⟨[(7, .v (slv count q15.1)), (8, .v (I (n : Int)))], []⟩ ac w ∧ Ow w0 NoB u N F16 acc q15) _ ⟨(min x.length count : Nat), (((List.replicate count (GT.dflt : TSlot))).take 0 ++ (x).take (min ((x).length) count : Nat) ++ ((List.replicate count (GT.dflt : TSlot))).drop (0 + (min ((x).length) count : Nat))), ((q7.1, p11) : LP TSlot), F8, _, _, _, rfl, (by omega), (by (simp; omega)), (by omega), (by (exact rep_first pre0 (by simp))), S.z, o12⟩ ?_
   clear S o12
   rintro mm ac w ⟨n, acc, q15, F16, u, N, β, rfl, hn, hl, h1, ht, S, o17⟩
   refine ws (ws (rg ?_))
   refine S.qe 4 [] [(37, .v (B (decide ((n : Int) < (count : Int)))))] ?_; clear S; intro ac w β S
   refine (nt (S.c (decide ((n : Int) < (count : Int))) (fun h18 => ?_) (fun h18 => ?_)))
   ·have g19 := of_decide_eq_true h18
    refine wk (nt (wp_block ?_))
    let σ22 : Sy := ⟨[(7, .v (slv count q15.1)), (8, .v (I (n : Int))), (37, .v (B (decide ((n : Int) < (count : Int)))))], []⟩
    obtain ⟨u0, N0, β0, S, o17⟩ : ∃ u0 N0 β0, St Try.prog Try.f62.ntmps w0 NoB u0 N0 β0 σ22 ac w ∧ Ow w0 NoB u0 N0 F16 acc q15 := ⟨_, _, _, S.z, o17⟩
    have l23 : ((((acc).drop n).take ((acc).length - n))).length = (acc).length - n := by first | (simp; done) | (simp; omega)
    have l24 : (((acc).take n)).length = n - 0 := by first | (simp; done) | (simp; omega)
    refine wp_region_cut (fun ac w => ∃ q30 F31 u N β, St Try.prog Try.f62.ntmps w0 NoB u N β (σ22.dl [37] [(7, .v (slv count q30.1)), (8, .v (I ((n : Int) + ((min n ((acc).length - n : Nat) : Nat) : Int))))] 0 []) ac w ∧ Ow w0 NoB u N F31 ((acc).take n ++ (((acc).take n)).take (min n ((acc).length - n : Nat) : Nat) ++ (acc).drop (n + (min n ((acc).length - n : Nat) : Nat))) q30) ?_ ?_
    ·refine S.draw0 (f := 10) 7 rfl rfl ?_
     clear S; intro w S
     refine S.hq 1 [3, 1] [] [(39, .v (slv count q15.1))] .nil ?_
     clear S; intro ac S
     refine S.hq 2 [3, 2] [] [(40, .v (I (n : Int)))] .nil ?_
     clear S; intro ac S
     refine S.hq 3 [3] [] [(41, .v (slv ((acc).length - n : Nat) ((q15.1).sl n 2)))] (.cons (Q_slice o17.rn (l := count) (a := n) (b := (acc).length) (by omega) (.inr rfl) (.inl ⟨rfl, rfl⟩) (by omega) (by omega) Try.underlying24 (by kernel_rfl)) .nil) ?_
     clear S; intro ac S
     refine S.hq 4 [6, 4] [] [(42, .v (slv count q15.1))] .nil ?_
     clear S; intro ac S
     refine S.hq 5 [6, 5] [] [(43, .v (I (n : Int)))] .nil ?_
     clear S; intro ac S
     refine S.hq 6 [6] [] [(44, .v (slv n ((q15.1).sl 0 2)))] (.cons (Q_slice o17.rn (l := count) (a := 0) (b := n) (by omega) (.inl ⟨rfl, rfl⟩) (.inr rfl) (by omega) (by omega) Try.underlying24 (by kernel_rfl)) .nil) ?_
     clear S; intro ac S
     refine WD.nameW fun W hW => ?_
     refine WD.castW (l' := mkL 10 [1, 2, 3, 4, 5, 6]) (by kernel_rfl) ?_
     have hK32 ac w q30 F31 u N β (S : St Try.prog Try.f62.ntmps w0 NoB u N β (σ22.dl [37] [(7, .v (slv count q30.1)), (8, .v (I ((n : Int) + ((min n ((acc).length - n : Nat) : Nat) : Int))))] 0 []) ac w) (o29 : Ow w0 NoB u N F31 ((acc).take n ++ (((acc).take n)).take (min n ((acc).length - n : Nat) : Nat) ++ (acc).drop (n + (min n ((acc).length - n : Nat) : Nat))) q30) : W 0 (mkL 10 [0, 1, 2, 3, 4, 5, 6, 7, 8, 9]) ac w := by
      exact od hW ⟨rfl, q30, F31, _, _, _, S.z, o29⟩
     have hK33 ac w q30 F31 u N β (S : St Try.prog Try.f62.ntmps w0 NoB u N β (σ22.dl [37] [(7, .v (slv count q30.1)), (38, .v (I (n : Int))), (45, .v (I ((min n ((acc).length - n : Nat) : Nat) : Int)))] 0 []) ac w) (o29 : Ow w0 NoB u N F31 ((acc).take n ++ (((acc).take n)).take (min n ((acc).length - n : Nat) : Nat) ++ (acc).drop (n + (min n ((acc).length - n : Nat) : Nat))) q30) : W 2 (mkL 10 [0, 1, 2, 3, 4, 5, 6, 7]) ac w := by
      exact o1 hW 8 (S.wl hW [9] (.cons (Q_add (x := (n : Int)) (y := ((min n ((acc).length - n : Nat) : Nat) : Int)) ⟨by omega, by omega⟩) .nil) fun _ _ _ S => hK32 _ _ q30 F31 _ _ _ S o29)
     have hK34 ac w u N β (S : St Try.prog Try.f62.ntmps w0 NoB u N β (σ22.dl [37] [(38, .v (I (n : Int))), (41, .v (slv ((acc).length - n : Nat) ((q15.1).sl n 2))), (44, .v (slv n ((q15.1).sl 0 2)))] 0 []) ac w) (o17 : Ow w0 NoB u N F16 acc q15) (hNN : NN N0 u0 N u) (hBB : BB σ22.bx.length β0 β) : W 3 (mkL 10 [0, 1, 2, 3, 4, 5, 6]) ac w := by
      refine o1 hW 7 ?_
      have l37 : count = (acc).length := (by omega)
      refine id (S.copyL (d := 45) o17 (show GT.rd KK _ _ ((acc).take n) (((q15.1).sl 0 2, fun i => q15.2 (0 + i)) : LP TSlot) from rd_sl o17.rn (a := 0) (b := n) (by omega) (by omega)) (fun _ _ _ _ _ h => h) n ((acc).length - n : Nat) n (by omega) (by omega) (by simp; omega) (by kernel_rfl) ?_)
      clear S; intro ac w N p35 S up o36
      refine WD.sl fun hC => ?_
      clear up o17
      have l38 : (((acc).take n ++ (((acc).take n)).take (min n ((acc).length - n : Nat) : Nat) ++ (acc).drop (n + (min n ((acc).length - n : Nat) : Nat)))).length = (acc).length := mid_len (by omega) (by omega)
      exact S.wh hW [] hC fun _ S => hK33 _ _ ((q15.1, p35) : LP TSlot) F16 _ _ _ S o36
     rw [hW]
     exact S.wh hW [0] (fun _ => S.rcx) fun _ S => hK34 _ _ _ _ _ S o17 (fun _ h => ⟨h, rfl⟩) (fun _ _ => rfl)
    clear S o17
    rintro ac w ⟨q30, F31, u, N, β, S, o29⟩
    refine id (nb (nt ?_))
    refine ⟨count - (n + (min n (acc.length - n) : Nat)), by omega, (n + (min n (acc.length - n) : Nat)), ((acc).take n ++ (((acc).take n)).take (min n ((acc).length - n : Nat) : Nat) ++ (acc).drop (n + (min n ((acc).length - n : Nat) : Nat))), q30, F31, _, _, _, rfl, ?_, ?_, ?_, ?_, S.z, o29⟩
    ·clear S; omega
    ·clear S; (rw [mid_len (by omega) (by omega)]; exact hl)
    ·clear S; omega
    ·clear S; exact rep_step (by omega) (by omega) ht
   ·have g39 := of_decide_eq_false h18
    refine wp_exit (ex_then (ex_then (ex_hit (nt (ws (rg ?_))))))
    refine S.qe 2 [] [(4, .v (slv count q15.1))] ?_; clear S; intro ac w β S
    exact (nt (wr (S.r [slv count q15.1] (ret1_of S (show (List.replicate count (el x 0)) = acc by clear S; exact (rep_end hl (by omega) hn ht).symm) (by rw [show count = (acc).length from (by omega)]; rfl) o17))))

set_option maxRecDepth 100000 in
theorem c_impl_TableNew (w0 : World) (n : Int) : Calls Try.prog 29 [I n].toArray w0 (Ret1 NoB w0 ((List.replicate (f_brought n 0 24).toNat (⟨-1, 0⟩ : TSlot)) : List TSlot)) := by
 refine Calls.walk (args := [I n]) NoB Try.func29 rfl rfl ?_
 intro ac β S
 have hb := brought_bd n
 refine ws (rg ?_)
 refine S.qe 1 [] [] ?_; clear S; intro ac w β S
 refine (nt (ws (rg ?_)))
 refine S.qb 1 [] [(3, .v (GT.val ((⟨-1, 0⟩ : TSlot)) ()))] (.cons (Q_call fun w hw => c_impl_NoSlot w ) .nil) ?_; clear S; intro ac w β S
 refine RG.op rfl (S.bs1 (α := TSlot) (x := ((⟨-1, 0⟩ : TSlot))) (p := ()) (F := NoB) ((show RSlot ⟨-1, 0⟩ from ⟨⟨by decide, by decide⟩, ⟨by decide, by decide⟩⟩)) (fun b h => False.elim h) (fun b h => False.elim h) (d := 4) (by kernel_rfl) ?_)
 clear S; intro ac w N q1 F2 S up o3 d4
 clear up d4
 refine S.qb 2 [] [(4, .v (slv 1 q1.1)), (6, .v (I (((f_brought n 0 24).toNat : Int))))] (.cons (Q_call fun w hw => c_impl_Brought w n 0 24 (by omega) (by omega)) .nil) ?_; clear S; intro ac w β S
 refine RG.op rfl (S.call1 (r := (List.replicate ((f_brought n 0 24).toNat) (el ([((⟨-1, 0⟩ : TSlot))]) 0))) (d := 7) (c_slices_Repeat___impl_Slot_impl_Slot_ w ([((⟨-1, 0⟩ : TSlot))]) q1 (S.rd o3.rn) ((f_brought n 0 24).toNat) (by first | omega | rfl) (by first | omega | rfl)) (by kernel_rfl) rfl ?_)
 clear S; intro ac w N q5 F6 S up o7 d8
 have d9 : Disj F2 F6 := fun b x y => d8 b (o3.sub b x) y
 replace o3 := o3.up up
 clear up d8
 refine S.qe 1 [] [(2, .v (slv ((List.replicate ((f_brought n 0 24).toNat) (el ([((⟨-1, 0⟩ : TSlot))]) 0))).length q5.1))] ?_; clear S; intro ac w β S
 exact (nt (wr (S.r [slv ((List.replicate ((f_brought n 0 24).toNat) (el ([((⟨-1, 0⟩ : TSlot))]) 0))).length q5.1] (ret1_of S (show (List.replicate (f_brought n 0 24).toNat (⟨-1, 0⟩ : TSlot)) = (List.replicate ((f_brought n 0 24).toNat) (el ([((⟨-1, 0⟩ : TSlot))]) 0)) by clear S; rfl) rfl o7))))

set_option maxRecDepth 100000 in
theorem c_impl_copyProg (w0 : World) (l : List TIns) (pl : LP TIns) (hl : GT.rd KK (Lt w0.heap.size) w0 l pl) : Calls Try.prog 65 [slv (l).length pl.1].toArray w0 (Ret1 NoB w0 (l : List TIns)) := by
 refine Calls.walk (args := [slv (l).length pl.1]) NoB Try.func65 rfl rfl ?_
 intro ac β S
 have hlel : l.length ≤ 4194304 := LRd.le hl
 refine ws (rg ?_)
 refine S.qe 1 [] [] ?_; clear S; intro ac w β S
 refine (nt (ws (rg ?_)))
 refine RG.op rfl (S.bs0 (α := TIns) (d := 3) (by kernel_rfl) ?_)
 clear S; intro ac w N q1 F2 S up o3 d4
 clear up d4
 refine S.qa 1 [] [(3, .v (slv 0 q1.1)), (4, .v (slv (l).length pl.1))] ?_; clear S; intro ac w β S
 have b9 : (l).length ≤ 4194304 := LRd.le (S.arg hl)
 refine RG.op rfl (S.appFlat (α := TIns) o3 ((S.arg hl)) (fun _ _ h => h) (by' := 16) (d := 5) (lx := 0) (ly := (l).length) rfl rfl (by kernel_rfl) (show _ ≤ 4194304 by simp only [List.length_append, List.length_cons, List.length_nil]; omega) ?_)
 clear S; intro ac w N q5 F6 S up o7 d8
 clear up d8
 refine S.qe 1 [] [(2, .v (slv ((([] : List TIns) ++ l)).length q5.1))] ?_; clear S; intro ac w β S
 exact (nt (wr (S.r [slv ((([] : List TIns) ++ l)).length q5.1] (ret1_of S (show l = (([] : List TIns) ++ l) by clear S; simp) rfl o7))))

set_option maxRecDepth 100000 in
theorem c_impl_GuestNew (w0 : World) (p : List TIns) (pp : LP TIns) (hp : GT.rd KK (Lt w0.heap.size) w0 p pp) : Calls Try.prog 31 [slv (p).length pp.1].toArray w0 (Ret1 NoB w0 (f_guestNew p : TGuest)) := by
 refine Calls.walk (args := [slv (p).length pp.1]) NoB Try.func31 rfl rfl ?_
 intro ac β S
 have hlep : p.length ≤ 4194304 := LRd.le hp
 refine ws (rg ?_)
 refine S.qem 1 [] [(2, .p 0 0)] 1 [(0, Zc TGuest)] ?_; clear S; intro ac w β S
 refine (nt (ws (rg ?_)))
 refine S.qa 1 [] [(3, .v (slv (p).length pp.1))] ?_; clear S; intro ac w β S
 refine RG.op rfl (S.call1 (r := p) (d := 4) (c_impl_copyProg w p pp (S.rd (S.arg hp))) (by kernel_rfl) rfl ?_)
 clear S; intro ac w N q1 F2 S up o3 d4
 clear up d4
 refine RG.op rfl (S.call1 (r := (List.replicate (f_brought 4 0 24).toNat (⟨-1, 0⟩ : TSlot))) (d := 5) (c_impl_TableNew w 4) (by kernel_rfl) rfl ?_)
 clear S; intro ac w N q5 F6 S up o7 d8
 have d9 : Disj F2 F6 := fun b x y => d8 b (o3.sub b x) y
 replace o3 := o3.up up
 clear up d8
 refine RG.op rfl (S.call1 (r := (List.replicate (f_brought 4 0 24).toNat (⟨-1, 0⟩ : TSlot))) (d := 6) (c_impl_TableNew w 4) (by kernel_rfl) rfl ?_)
 clear S; intro ac w N q10 F11 S up o12 d13
 have d14 : Disj F2 F11 := fun b x y => d13 b (o3.sub b x) y
 have d15 : Disj F6 F11 := fun b x y => d13 b (o7.sub b x) y
 replace o3 := o3.up up
 replace o7 := o7.up up
 clear up d13
 refine S.qgm 2 [] [] (.cons (Q_sem (s := Instr.build 64 [(0, slv (p).length q1.1), (3, slv ((List.replicate (f_brought 4 0 24).toNat (⟨-1, 0⟩ : TSlot))).length q5.1), (4, slv ((List.replicate (f_brought 4 0 24).toNat (⟨-1, 0⟩ : TSlot))).length q10.1)].toArray) (v := .agg [slv (p).length q1.1, I 0, I 0, slv ((List.replicate (f_brought 4 0 24).toNat (⟨-1, 0⟩ : TSlot))).length q5.1, slv ((List.replicate (f_brought 4 0 24).toNat (⟨-1, 0⟩ : TSlot))).length q10.1, I 0, I 0, B false, I 0, I 0, I 0, B false, I 0, B false, slv (([] : List Int)).length (GT.pdflt (α := List Int)).1].toArray) (fun w => by kernel_rfl)) .nil) 1 [(0, [slv (p).length q1.1, I 0, I 0, slv ((List.replicate (f_brought 4 0 24).toNat (⟨-1, 0⟩ : TSlot))).length q5.1, slv ((List.replicate (f_brought 4 0 24).toNat (⟨-1, 0⟩ : TSlot))).length q10.1, I 0, I 0, B false, I 0, I 0, I 0, B false, I 0, B false, slv (([] : List Int)).length (GT.pdflt (α := List Int)).1])] ?_; clear S; intro ac w β S
 refine (nt (wr (S.r [GT.val (⟨p, 0, 0, (List.replicate (f_brought 4 0 24).toNat (⟨-1, 0⟩ : TSlot)), (List.replicate (f_brought 4 0 24).toNat (⟨-1, 0⟩ : TSlot)), (⟨0, 0, false⟩ : TCtl), 0, (⟨0, 0, false, 0⟩ : TExit), false, ([] : List Int)⟩ : TGuest) (⟨q1, q5, q10, (GT.pdflt (α := List Int))⟩ : PGuest)] ?_)))
 have o16 := S.nilOw (α := Int)
 have o17 := ow_Guest (x := (⟨p, 0, 0, (List.replicate (f_brought 4 0 24).toNat (⟨-1, 0⟩ : TSlot)), (List.replicate (f_brought 4 0 24).toNat (⟨-1, 0⟩ : TSlot)), (⟨0, 0, false⟩ : TCtl), 0, (⟨0, 0, false, 0⟩ : TExit), false, ([] : List Int)⟩ : TGuest)) (p := (⟨q1, q5, q10, (GT.pdflt (α := List Int))⟩ : PGuest)) o3 o7 o12 o16 d9 d14 (fun b _ h => False.elim h) d15 (fun b _ h => False.elim h) (fun b _ h => False.elim h) (show In64 0 from ⟨by decide, by decide⟩) (show In64 0 from ⟨by decide, by decide⟩) (show RCtl (⟨0, 0, false⟩ : TCtl) from ⟨(show In64 0 from ⟨by decide, by decide⟩), (show In64 0 from ⟨by decide, by decide⟩)⟩) (show In64 0 from ⟨by decide, by decide⟩) (show RExit (⟨0, 0, false, 0⟩ : TExit) from ⟨(show In64 0 from ⟨by decide, by decide⟩), (show In64 0 from ⟨by decide, by decide⟩), (show In64 0 from ⟨by decide, by decide⟩)⟩)
 exact ret1_of S (show f_guestNew p = (⟨p, 0, 0, (List.replicate (f_brought 4 0 24).toNat (⟨-1, 0⟩ : TSlot)), (List.replicate (f_brought 4 0 24).toNat (⟨-1, 0⟩ : TSlot)), (⟨0, 0, false⟩ : TCtl), 0, (⟨0, 0, false, 0⟩ : TExit), false, ([] : List Int)⟩ : TGuest) by clear S; (first | rfl | (simp [f_guestNew]; rfl))) rfl o17

set_option maxRecDepth 100000 in
theorem c_impl_KeptNew (w0 : World) (n : Int) : Calls Try.prog 32 [I n].toArray w0 (Ret1 NoB w0 (f_keptNew n : TKept)) := by
 refine Calls.walk (args := [I n]) NoB Try.func32 rfl rfl ?_
 intro ac β S
 have hb := brought_bd n
 refine ws (rg ?_)
 refine S.qem 1 [] [(2, .p 0 0)] 1 [(0, Zc TKept)] ?_; clear S; intro ac w β S
 refine (nt (ws ?_))
 let σ1 : Sy := ⟨[(0, .v (I n)), (2, .p 0 0)], [Zc TKept]⟩
 obtain ⟨u0, N0, β0, S⟩ : ∃ u0 N0 β0, St Try.prog Try.f32.ntmps w0 NoB u0 N0 β0 σ1 ac w := ⟨_, _, _, S.z⟩
 refine wp_region_cut (fun ac w => ∃ q37 F38 q40 F41 u N β, St Try.prog Try.f32.ntmps w0 NoB u N β (σ1.dl [0] [] 1 [(0, [slv ((List.replicate ((f_brought n 0 24).toNat) (GT.dflt : Bool))).length q37.1, slv ((List.replicate (f_brought n 0 24).toNat (⟨-1, 0⟩ : TSlot))).length q40.1])]) ac w ∧ Ow w0 NoB u N F38 (List.replicate ((f_brought n 0 24).toNat) (GT.dflt : Bool)) q37 ∧ Ow w0 NoB u N F41 (List.replicate (f_brought n 0 24).toNat (⟨-1, 0⟩ : TSlot)) q40 ∧ Disj F38 F41) ?_ ?_
 ·refine S.draw0 (f := 7) 6 rfl rfl ?_
  clear S; intro w S
  refine S.hq 0 [0] [] [(3, .v (I n))] .nil ?_
  clear S; intro ac S
  refine S.hq 3 [3] [] [(6, .v (I n))] .nil ?_
  clear S; intro ac S
  refine WD.nameW fun W hW => ?_
  refine WD.castW (l' := mkL 7 [0, 3]) (by kernel_rfl) ?_
  have hK42 ac w q37 F38 q40 F41 u N β (S : St Try.prog Try.f32.ntmps w0 NoB u N β (σ1.dl [0] [] 1 [(0, [slv ((List.replicate ((f_brought n 0 24).toNat) (GT.dflt : Bool))).length q37.1, slv ((List.replicate (f_brought n 0 24).toNat (⟨-1, 0⟩ : TSlot))).length q40.1])]) ac w) (o36 : Ow w0 NoB u N F38 (List.replicate ((f_brought n 0 24).toNat) (GT.dflt : Bool)) q37) (o39 : Ow w0 NoB u N F41 (List.replicate (f_brought n 0 24).toNat (⟨-1, 0⟩ : TSlot)) q40) (d43 : Disj F38 F41) : W 0 (mkL 7 [0, 1, 2, 3, 4, 5, 6]) ac w := by
   exact od hW ⟨rfl, q37, F38, q40, F41, _, _, _, S.z, o36, o39, d43⟩
  have hK44 ac w q31 F32 q34 F35 u N β (S : St Try.prog Try.f32.ntmps w0 NoB u N β (σ1.dl [0] [(8, .v (GT.val (⟨(List.replicate ((f_brought n 0 24).toNat) (GT.dflt : Bool)), (List.replicate (f_brought n 0 24).toNat (⟨-1, 0⟩ : TSlot))⟩ : TKept) (⟨q31, q34⟩ : PKept)))] 1 []) ac w) (o30 : Ow w0 NoB u N F32 (List.replicate ((f_brought n 0 24).toNat) (GT.dflt : Bool)) q31) (o33 : Ow w0 NoB u N F35 (List.replicate (f_brought n 0 24).toNat (⟨-1, 0⟩ : TSlot)) q34) (d45 : Disj F32 F35) (hNN : NN N0 u0 N u) (hBB : BB σ1.bx.length β0 β) : W 1 (mkL 7 [0, 1, 2, 3, 4, 5]) ac w := by
   exact o1 hW 6 (S.wl hW [] .nil fun _ _ _ S => hK42 _ _ q31 F32 q34 F35 _ _ _ S o30 o33 d45)
  have hK46 ac w q8 F9 q16 F17 u N β (S : St Try.prog Try.f32.ntmps w0 NoB u N β (σ1.dl [0] [(5, .v (slv ((List.replicate ((f_brought n 0 24).toNat) (GT.dflt : Bool))).length q8.1)), (7, .v (slv ((List.replicate (f_brought n 0 24).toNat (⟨-1, 0⟩ : TSlot))).length q16.1))] 1 []) ac w) (o7 : Ow w0 NoB u N F9 (List.replicate ((f_brought n 0 24).toNat) (GT.dflt : Bool)) q8) (o15 : Ow w0 NoB u N F17 (List.replicate (f_brought n 0 24).toNat (⟨-1, 0⟩ : TSlot)) q16) (d47 : Disj F9 F17) (hNN : NN N0 u0 N u) (hBB : BB σ1.bx.length β0 β) : W 2 (mkL 7 [0, 1, 2, 3, 4]) ac w := by
   exact o1 hW 5 (S.wq hW hNN hBB [] (.cons (Q_sem (s := Instr.build 67 [(0, slv ((List.replicate ((f_brought n 0 24).toNat) (GT.dflt : Bool))).length q8.1), (1, slv ((List.replicate (f_brought n 0 24).toNat (⟨-1, 0⟩ : TSlot))).length q16.1)].toArray) (v := .agg [slv ((List.replicate ((f_brought n 0 24).toNat) (GT.dflt : Bool))).length q8.1, slv ((List.replicate (f_brought n 0 24).toNat (⟨-1, 0⟩ : TSlot))).length q16.1].toArray) (fun w => by kernel_rfl)) .nil) fun _ _ _ S hB => hK44 _ _ q8 F9 q16 F17 _ _ _ S o7 o15 d47 hNN hB)
  have hK48 ac w q8 F9 u N β (S : St Try.prog Try.f32.ntmps w0 NoB u N β (σ1.dl [0] [(5, .v (slv ((List.replicate ((f_brought n 0 24).toNat) (GT.dflt : Bool))).length q8.1)), (6, .v (I n))] 1 []) ac w) (o7 : Ow w0 NoB u N F9 (List.replicate ((f_brought n 0 24).toNat) (GT.dflt : Bool)) q8) (hNN : NN N0 u0 N u) (hBB : BB σ1.bx.length β0 β) : W 3 (mkL 7 [0, 1, 2, 3]) ac w := by
   refine o1 hW 4 ?_
   refine id (S.call1 (r := (List.replicate (f_brought n 0 24).toNat (⟨-1, 0⟩ : TSlot))) (d := 7) (c_impl_TableNew w n) (by kernel_rfl) rfl ?_)
   clear S; intro ac w N q49 F50 S up o51 d52
   have hb53 := fun b h => (⟨(up b (hNN b h).1).1, (up b (hNN b h).1).2.trans (hNN b h).2⟩ : _ ∧ _)
   refine WD.sc S hb53 hBB fun hC => ?_
   have d54 : Disj F9 F50 := fun b x y => d52 b (o7.sub b x) y
   replace o7 := o7.up up
   clear up d52
   exact S.wh hW [] hC fun _ S => hK46 _ _ q8 F9 q49 F50 _ _ _ S o7 o51 d54 hb53 hBB
  have hK55 ac w q16 F17 u N β (S : St Try.prog Try.f32.ntmps w0 NoB u N β (σ1.dl [0] [(4, .v (I (((f_brought n 0 24).toNat : Int)))), (7, .v (slv ((List.replicate (f_brought n 0 24).toNat (⟨-1, 0⟩ : TSlot))).length q16.1))] 1 []) ac w) (o15 : Ow w0 NoB u N F17 (List.replicate (f_brought n 0 24).toNat (⟨-1, 0⟩ : TSlot)) q16) (hNN : NN N0 u0 N u) (hBB : BB σ1.bx.length β0 β) : W 3 (mkL 7 [0, 1, 3, 4]) ac w := by
   refine o1 hW 2 ?_
   refine id (S.make (α := Bool) (m := (f_brought n 0 24).toNat) (by' := 1) (d := 5) (by kernel_rfl) (by omega) (show (f_brought n 0 24).toNat ≤ 4194304 by omega) ?_)
   clear S; intro ac w N q56 F57 S up o58 d59
   have hb60 := fun b h => (⟨(up b (hNN b h).1).1, (up b (hNN b h).1).2.trans (hNN b h).2⟩ : _ ∧ _)
   refine WD.sc S hb60 hBB fun hC => ?_
   have d61 : Disj F17 F57 := fun b x y => d59 b (o15.sub b x) y
   replace o15 := o15.up up
   clear up d59
   replace S := S.z (σ' := ⟨[(2, .p 0 0), (4, .v (I (((f_brought n 0 24).toNat : Int)))), (5, .v (slv ((f_brought n 0 24).toNat) q56.1)), (7, .v (slv ((List.replicate (f_brought n 0 24).toNat (⟨-1, 0⟩ : TSlot))).length q16.1))], [Zc TKept]⟩)
   replace S := S.cast (σ' := ⟨[(2, .p 0 0), (4, .v (I (((f_brought n 0 24).toNat : Int)))), (5, .v (slv ((List.replicate ((f_brought n 0 24).toNat) (GT.dflt : Bool))).length q56.1)), (7, .v (slv ((List.replicate (f_brought n 0 24).toNat (⟨-1, 0⟩ : TSlot))).length q16.1))], [Zc TKept]⟩) (by rw [show ((List.replicate ((f_brought n 0 24).toNat) (GT.dflt : Bool))).length = ((f_brought n 0 24).toNat) from List.length_replicate])
   exact S.wh hW [] hC fun _ S => hK46 _ _ q56 F57 q16 F17 _ _ _ S o58 o15 (Disj.symm d61) hb60 hBB
  have hK62 ac w u N β (S : St Try.prog Try.f32.ntmps w0 NoB u N β (σ1.dl [0] [(4, .v (I (((f_brought n 0 24).toNat : Int)))), (6, .v (I n))] 1 []) ac w) (hNN : NN N0 u0 N u) (hBB : BB σ1.bx.length β0 β) : W 4 (mkL 7 [0, 1, 3]) ac w := by
   refine o2 hW 2 4 ?_ ?_
   ·refine id (S.make (α := Bool) (m := (f_brought n 0 24).toNat) (by' := 1) (d := 5) (by kernel_rfl) (by omega) (show (f_brought n 0 24).toNat ≤ 4194304 by omega) ?_)
    clear S; intro ac w N q63 F64 S up o65 d66
    have hb67 := fun b h => (⟨(up b (hNN b h).1).1, (up b (hNN b h).1).2.trans (hNN b h).2⟩ : _ ∧ _)
    refine WD.sc S hb67 hBB fun hC => ?_
    clear up d66
    replace S := S.z (σ' := ⟨[(2, .p 0 0), (4, .v (I (((f_brought n 0 24).toNat : Int)))), (5, .v (slv ((f_brought n 0 24).toNat) q63.1)), (6, .v (I n))], [Zc TKept]⟩)
    replace S := S.cast (σ' := ⟨[(2, .p 0 0), (4, .v (I (((f_brought n 0 24).toNat : Int)))), (5, .v (slv ((List.replicate ((f_brought n 0 24).toNat) (GT.dflt : Bool))).length q63.1)), (6, .v (I n))], [Zc TKept]⟩) (by rw [show ((List.replicate ((f_brought n 0 24).toNat) (GT.dflt : Bool))).length = ((f_brought n 0 24).toNat) from List.length_replicate])
    exact S.wh hW [] hC fun _ S => hK48 _ _ q63 F64 _ _ _ S o65 hb67 hBB
   ·refine id (S.call1 (r := (List.replicate (f_brought n 0 24).toNat (⟨-1, 0⟩ : TSlot))) (d := 7) (c_impl_TableNew w n) (by kernel_rfl) rfl ?_)
    clear S; intro ac w N q68 F69 S up o70 d71
    have hb72 := fun b h => (⟨(up b (hNN b h).1).1, (up b (hNN b h).1).2.trans (hNN b h).2⟩ : _ ∧ _)
    refine WD.sc S hb72 hBB fun hC => ?_
    clear up d71
    exact S.wh hW [] hC fun _ S => hK55 _ _ q68 F69 _ _ _ S o70 hb72 hBB
  have hNN : NN N0 u0 N0 u0 := fun b h => ⟨h, rfl⟩
  have hBB : BB σ1.bx.length β0 β0 := fun _ _ => rfl
  exact o1 hW 1 (S.wq hW hNN hBB [] (.cons (Q_call fun w hw => c_impl_Brought w n 0 24 (by omega) (by omega)) .nil) fun _ _ _ S hB => hK62 _ _ _ _ _ S hNN hB)
 clear S
 rintro ac w ⟨q37, F38, q40, F41, u, N, β, S, o36, o39, d73⟩
 refine id (nt (wr (S.r [GT.val (⟨(List.replicate ((f_brought n 0 24).toNat) (GT.dflt : Bool)), (List.replicate (f_brought n 0 24).toNat (⟨-1, 0⟩ : TSlot))⟩ : TKept) (⟨q37, q40⟩ : PKept)] ?_)))
 have o74 := ow_Kept (x := (⟨(List.replicate ((f_brought n 0 24).toNat) (GT.dflt : Bool)), (List.replicate (f_brought n 0 24).toNat (⟨-1, 0⟩ : TSlot))⟩ : TKept)) (p := (⟨q37, q40⟩ : PKept)) o36 o39 d73 
 exact ret1_of S (show f_keptNew n = (⟨(List.replicate ((f_brought n 0 24).toNat) (GT.dflt : Bool)), (List.replicate (f_brought n 0 24).toNat (⟨-1, 0⟩ : TSlot))⟩ : TKept) by clear S; (first | rfl | (unfold f_keptNew; rw [List.length_replicate]; rfl))) rfl o74

set_option maxRecDepth 100000 in
theorem c_impl_MonNew (w0 : World) (progs : List (List TIns)) (pprogs : LP (List TIns)) (hprogs : GT.rd KK (Lt w0.heap.size) w0 progs pprogs) : Calls Try.prog 8 [slv (progs).length pprogs.1].toArray w0 (Ret1 NoB w0 (f_monNew progs : TMon)) := by
 refine Calls.walk (args := [slv (progs).length pprogs.1]) NoB Try.func8 rfl rfl ?_
 intro ac β S
 have hleprogs : progs.length ≤ 4194304 := LRd.le hprogs
 refine ws (rg ?_)
 refine S.qem 1 [] [(2, .p 0 0)] 1 [(0, Zc TMon)] ?_; clear S; intro ac w β S
 refine (nt (ws ?_))
 let σ1 : Sy := ⟨[(0, .v (slv (progs).length pprogs.1)), (2, .p 0 0)], [Zc TMon]⟩
 obtain ⟨u0, N0, β0, S⟩ : ∃ u0 N0 β0, St Try.prog Try.f8.ntmps w0 NoB u0 N0 β0 σ1 ac w := ⟨_, _, _, S.z⟩
 refine wp_region_cut (fun ac w => ∃ q111 F112 q108 F109 q105 F106 u N β, St Try.prog Try.f8.ntmps w0 NoB u N β (σ1.dl [] [(3, .p 1 0)] 2 [(1, [slv ((List.replicate (f_brought 8 0 24).toNat (⟨-1, 0⟩ : TSlot))).length q105.1, slv ((List.replicate (f_brought 8 0 24).toNat (List.replicate 4 (0 : Int)))).length q108.1, slv 8 q111.1, slv (([] : List TGuest)).length (GT.pdflt (α := List TGuest)).1, slv (([] : List Int)).length (GT.pdflt (α := List Int)).1, I 0, I 0, slv (([] : List TKept)).length (GT.pdflt (α := List TKept)).1, I 0])]) ac w ∧ Ow w0 NoB u N F112 (List.replicate 8 (GT.dflt : Bool)) q111 ∧ Ow w0 NoB u N F109 (List.replicate (f_brought 8 0 24).toNat (List.replicate 4 (0 : Int))) q108 ∧ Ow w0 NoB u N F106 (List.replicate (f_brought 8 0 24).toNat (⟨-1, 0⟩ : TSlot)) q105 ∧ Disj F112 F109 ∧ Disj F112 F106 ∧ Disj F109 F106) ?_ ?_
 ·refine S.draw0 (f := 6) 5 rfl rfl ?_
  clear S; intro w S
  refine WD.nameW fun W hW => ?_
  refine WD.castW (l' := mkL 6 []) (by kernel_rfl) ?_
  have hK113 ac w q111 F112 q108 F109 q105 F106 u N β (S : St Try.prog Try.f8.ntmps w0 NoB u N β (σ1.dl [] [(3, .p 1 0)] 2 [(1, [slv ((List.replicate (f_brought 8 0 24).toNat (⟨-1, 0⟩ : TSlot))).length q105.1, slv ((List.replicate (f_brought 8 0 24).toNat (List.replicate 4 (0 : Int)))).length q108.1, slv 8 q111.1, slv (([] : List TGuest)).length (GT.pdflt (α := List TGuest)).1, slv (([] : List Int)).length (GT.pdflt (α := List Int)).1, I 0, I 0, slv (([] : List TKept)).length (GT.pdflt (α := List TKept)).1, I 0])]) ac w) (o110 : Ow w0 NoB u N F112 (List.replicate 8 (GT.dflt : Bool)) q111) (o107 : Ow w0 NoB u N F109 (List.replicate (f_brought 8 0 24).toNat (List.replicate 4 (0 : Int))) q108) (o104 : Ow w0 NoB u N F106 (List.replicate (f_brought 8 0 24).toNat (⟨-1, 0⟩ : TSlot)) q105) (d114 : Disj F112 F109) (d115 : Disj F112 F106) (d116 : Disj F109 F106) : W 0 (mkL 6 [0, 1, 2, 3, 4, 5]) ac w := by
   exact od hW ⟨rfl, q111, F112, q108, F109, q105, F106, _, _, _, S.z, o110, o107, o104, d114, d115, d116⟩
  have hK117 ac w q88 F89 q85 F86 q82 F83 u N β (S : St Try.prog Try.f8.ntmps w0 NoB u N β (σ1.dl [] [(3, .p 1 0), (9, .v (GT.val (⟨(List.replicate (f_brought 8 0 24).toNat (⟨-1, 0⟩ : TSlot)), (List.replicate (f_brought 8 0 24).toNat (List.replicate 4 (0 : Int))), (List.replicate 8 (GT.dflt : Bool)), ([] : List TGuest), ([] : List Int), 0, 0, ([] : List TKept), 0⟩ : TMon) (⟨q82, q85, q88, (GT.pdflt (α := List TGuest)), (GT.pdflt (α := List Int)), (GT.pdflt (α := List TKept))⟩ : PMon)))] 2 [(1, Zc TMon)]) ac w) (o87 : Ow w0 NoB u N F89 (List.replicate 8 (GT.dflt : Bool)) q88) (o84 : Ow w0 NoB u N F86 (List.replicate (f_brought 8 0 24).toNat (List.replicate 4 (0 : Int))) q85) (o81 : Ow w0 NoB u N F83 (List.replicate (f_brought 8 0 24).toNat (⟨-1, 0⟩ : TSlot)) q82) (d118 : Disj F89 F86) (d119 : Disj F89 F83) (d120 : Disj F86 F83) (hNN : NN N0 u0 N u) (hBB : BB σ1.bx.length β0 β) : W 1 (mkL 6 [0, 1, 2, 3, 4]) ac w := by
   exact o1 hW 5 (S.wl hW [] .nil fun _ _ _ S => hK113 _ _ q88 F89 q85 F86 q82 F83 _ _ _ S o87 o84 o81 d118 d119 d120)
  have hK121 ac w q88 F89 q85 F86 q82 F83 u N β (S : St Try.prog Try.f8.ntmps w0 NoB u N β (σ1.dl [] [(9, .v (GT.val (⟨(List.replicate (f_brought 8 0 24).toNat (⟨-1, 0⟩ : TSlot)), (List.replicate (f_brought 8 0 24).toNat (List.replicate 4 (0 : Int))), (List.replicate 8 (GT.dflt : Bool)), ([] : List TGuest), ([] : List Int), 0, 0, ([] : List TKept), 0⟩ : TMon) (⟨q82, q85, q88, (GT.pdflt (α := List TGuest)), (GT.pdflt (α := List Int)), (GT.pdflt (α := List TKept))⟩ : PMon)))] 1 []) ac w) (o87 : Ow w0 NoB u N F89 (List.replicate 8 (GT.dflt : Bool)) q88) (o84 : Ow w0 NoB u N F86 (List.replicate (f_brought 8 0 24).toNat (List.replicate 4 (0 : Int))) q85) (o81 : Ow w0 NoB u N F83 (List.replicate (f_brought 8 0 24).toNat (⟨-1, 0⟩ : TSlot)) q82) (d122 : Disj F89 F86) (d123 : Disj F89 F83) (d124 : Disj F86 F83) (hNN : NN N0 u0 N u) (hBB : BB σ1.bx.length β0 β) : W 2 (mkL 6 [0, 1, 2, 3]) ac w := by
   exact o1 hW 4 (S.wq hW hNN hBB [] .nil fun _ _ _ S hB => hK117 _ _ q88 F89 q85 F86 q82 F83 _ _ _ S o87 o84 o81 d122 d123 d124 hNN hB)
  have hK125 ac w q8 F9 q25 F26 q16 F17 u N β (S : St Try.prog Try.f8.ntmps w0 NoB u N β (σ1.dl [] [(3, .p 1 0), (6, .v (slv ((List.replicate (f_brought 8 0 24).toNat (⟨-1, 0⟩ : TSlot))).length q8.1)), (7, .v (slv ((List.replicate (f_brought 8 0 24).toNat (List.replicate 4 (0 : Int)))).length q25.1)), (8, .v (slv 8 q16.1))] 2 [(1, Zc TMon)]) ac w) (o7 : Ow w0 NoB u N F9 (List.replicate (f_brought 8 0 24).toNat (⟨-1, 0⟩ : TSlot)) q8) (o24 : Ow w0 NoB u N F26 (List.replicate (f_brought 8 0 24).toNat (List.replicate 4 (0 : Int))) q25) (o15 : Ow w0 NoB u N F17 (List.replicate 8 (GT.dflt : Bool)) q16) (d126 : Disj F9 F26) (d127 : Disj F9 F17) (d128 : Disj F26 F17) (hNN : NN N0 u0 N u) (hBB : BB σ1.bx.length β0 β) : W 2 (mkL 6 [0, 1, 2, 4]) ac w := by
   exact o1 hW 3 (S.wq hW hNN hBB [] (.cons (Q_sem (s := Instr.build 31 [(0, slv ((List.replicate (f_brought 8 0 24).toNat (⟨-1, 0⟩ : TSlot))).length q8.1), (1, slv ((List.replicate (f_brought 8 0 24).toNat (List.replicate 4 (0 : Int)))).length q25.1), (2, slv 8 q16.1)].toArray) (v := .agg [slv ((List.replicate (f_brought 8 0 24).toNat (⟨-1, 0⟩ : TSlot))).length q8.1, slv ((List.replicate (f_brought 8 0 24).toNat (List.replicate 4 (0 : Int)))).length q25.1, slv 8 q16.1, slv (([] : List TGuest)).length (GT.pdflt (α := List TGuest)).1, slv (([] : List Int)).length (GT.pdflt (α := List Int)).1, I 0, I 0, slv (([] : List TKept)).length (GT.pdflt (α := List TKept)).1, I 0].toArray) (fun w => by kernel_rfl)) .nil) fun _ _ _ S hB => hK117 _ _ q16 F17 q25 F26 q8 F9 _ _ _ S o15 o24 o7 (Disj.symm d128) (Disj.symm d127) (Disj.symm d126) hNN hB)
  have hK129 ac w q8 F9 q25 F26 q16 F17 u N β (S : St Try.prog Try.f8.ntmps w0 NoB u N β (σ1.dl [] [(6, .v (slv ((List.replicate (f_brought 8 0 24).toNat (⟨-1, 0⟩ : TSlot))).length q8.1)), (7, .v (slv ((List.replicate (f_brought 8 0 24).toNat (List.replicate 4 (0 : Int)))).length q25.1)), (8, .v (slv 8 q16.1))] 1 []) ac w) (o7 : Ow w0 NoB u N F9 (List.replicate (f_brought 8 0 24).toNat (⟨-1, 0⟩ : TSlot)) q8) (o24 : Ow w0 NoB u N F26 (List.replicate (f_brought 8 0 24).toNat (List.replicate 4 (0 : Int))) q25) (o15 : Ow w0 NoB u N F17 (List.replicate 8 (GT.dflt : Bool)) q16) (d130 : Disj F9 F26) (d131 : Disj F9 F17) (d132 : Disj F26 F17) (hNN : NN N0 u0 N u) (hBB : BB σ1.bx.length β0 β) : W 3 (mkL 6 [0, 1, 2]) ac w := by
   exact o2 hW 3 4 (S.wq hW hNN hBB [] (.cons (Q_sem (s := Instr.build 31 [(0, slv ((List.replicate (f_brought 8 0 24).toNat (⟨-1, 0⟩ : TSlot))).length q8.1), (1, slv ((List.replicate (f_brought 8 0 24).toNat (List.replicate 4 (0 : Int)))).length q25.1), (2, slv 8 q16.1)].toArray) (v := .agg [slv ((List.replicate (f_brought 8 0 24).toNat (⟨-1, 0⟩ : TSlot))).length q8.1, slv ((List.replicate (f_brought 8 0 24).toNat (List.replicate 4 (0 : Int)))).length q25.1, slv 8 q16.1, slv (([] : List TGuest)).length (GT.pdflt (α := List TGuest)).1, slv (([] : List Int)).length (GT.pdflt (α := List Int)).1, I 0, I 0, slv (([] : List TKept)).length (GT.pdflt (α := List TKept)).1, I 0].toArray) (fun w => by kernel_rfl)) .nil) fun _ _ _ S hB => hK121 _ _ q16 F17 q25 F26 q8 F9 _ _ _ S o15 o24 o7 (Disj.symm d132) (Disj.symm d131) (Disj.symm d130) hNN hB) (S.wq hW hNN hBB [] .nil fun _ _ _ S hB => hK125 _ _ q8 F9 q25 F26 q16 F17 _ _ _ S o7 o24 o15 d130 d131 d132 hNN hB)
  have hK133 ac w q8 F9 q25 F26 u N β (S : St Try.prog Try.f8.ntmps w0 NoB u N β (σ1.dl [] [(3, .p 1 0), (6, .v (slv ((List.replicate (f_brought 8 0 24).toNat (⟨-1, 0⟩ : TSlot))).length q8.1)), (7, .v (slv ((List.replicate (f_brought 8 0 24).toNat (List.replicate 4 (0 : Int)))).length q25.1))] 2 [(1, Zc TMon)]) ac w) (o7 : Ow w0 NoB u N F9 (List.replicate (f_brought 8 0 24).toNat (⟨-1, 0⟩ : TSlot)) q8) (o24 : Ow w0 NoB u N F26 (List.replicate (f_brought 8 0 24).toNat (List.replicate 4 (0 : Int))) q25) (d134 : Disj F9 F26) (hNN : NN N0 u0 N u) (hBB : BB σ1.bx.length β0 β) : W 3 (mkL 6 [0, 1, 4]) ac w := by
   refine o1 hW 2 ?_
   refine id (S.make (α := Bool) (m := 8) (by' := 1) (d := 8) (by kernel_rfl) (by omega) (show 8 ≤ 4194304 by omega) ?_)
   clear S; intro ac w N q135 F136 S up o137 d138
   have hb139 := fun b h => (⟨(up b (hNN b h).1).1, (up b (hNN b h).1).2.trans (hNN b h).2⟩ : _ ∧ _)
   refine WD.sc S hb139 hBB fun hC => ?_
   have d140 : Disj F9 F136 := fun b x y => d138 b (o7.sub b x) y
   have d141 : Disj F26 F136 := fun b x y => d138 b (o24.sub b x) y
   replace o7 := o7.up up
   replace o24 := o24.up up
   clear up d138
   exact S.wh hW [] hC fun _ S => hK125 _ _ q8 F9 q25 F26 q135 F136 _ _ _ S o7 o24 o137 d134 d140 d141 hb139 hBB
  have hK142 ac w q8 F9 q16 F17 u N β (S : St Try.prog Try.f8.ntmps w0 NoB u N β (σ1.dl [] [(3, .p 1 0), (6, .v (slv ((List.replicate (f_brought 8 0 24).toNat (⟨-1, 0⟩ : TSlot))).length q8.1)), (8, .v (slv 8 q16.1))] 2 [(1, Zc TMon)]) ac w) (o7 : Ow w0 NoB u N F9 (List.replicate (f_brought 8 0 24).toNat (⟨-1, 0⟩ : TSlot)) q8) (o15 : Ow w0 NoB u N F17 (List.replicate 8 (GT.dflt : Bool)) q16) (d143 : Disj F9 F17) (hNN : NN N0 u0 N u) (hBB : BB σ1.bx.length β0 β) : W 3 (mkL 6 [0, 2, 4]) ac w := by
   refine o1 hW 1 ?_
   refine id (S.call1 (r := (List.replicate (f_brought 8 0 24).toNat (List.replicate 4 (0 : Int)))) (d := 7) (c_impl_MemNew w 8) (by kernel_rfl) rfl ?_)
   clear S; intro ac w N q144 F145 S up o146 d147
   have hb148 := fun b h => (⟨(up b (hNN b h).1).1, (up b (hNN b h).1).2.trans (hNN b h).2⟩ : _ ∧ _)
   refine WD.sc S hb148 hBB fun hC => ?_
   have d149 : Disj F9 F145 := fun b x y => d147 b (o7.sub b x) y
   have d150 : Disj F17 F145 := fun b x y => d147 b (o15.sub b x) y
   replace o7 := o7.up up
   replace o15 := o15.up up
   clear up d147
   exact S.wh hW [] hC fun _ S => hK125 _ _ q8 F9 q144 F145 q16 F17 _ _ _ S o7 o146 o15 d149 d143 (Disj.symm d150) hb148 hBB
  have hK151 ac w q8 F9 q25 F26 u N β (S : St Try.prog Try.f8.ntmps w0 NoB u N β (σ1.dl [] [(6, .v (slv ((List.replicate (f_brought 8 0 24).toNat (⟨-1, 0⟩ : TSlot))).length q8.1)), (7, .v (slv ((List.replicate (f_brought 8 0 24).toNat (List.replicate 4 (0 : Int)))).length q25.1))] 1 []) ac w) (o7 : Ow w0 NoB u N F9 (List.replicate (f_brought 8 0 24).toNat (⟨-1, 0⟩ : TSlot)) q8) (o24 : Ow w0 NoB u N F26 (List.replicate (f_brought 8 0 24).toNat (List.replicate 4 (0 : Int))) q25) (d152 : Disj F9 F26) (hNN : NN N0 u0 N u) (hBB : BB σ1.bx.length β0 β) : W 4 (mkL 6 [0, 1]) ac w := by
   refine o2 hW 2 4 ?_ (S.wq hW hNN hBB [] .nil fun _ _ _ S hB => hK133 _ _ q8 F9 q25 F26 _ _ _ S o7 o24 d152 hNN hB)
   refine id (S.make (α := Bool) (m := 8) (by' := 1) (d := 8) (by kernel_rfl) (by omega) (show 8 ≤ 4194304 by omega) ?_)
   clear S; intro ac w N q153 F154 S up o155 d156
   have hb157 := fun b h => (⟨(up b (hNN b h).1).1, (up b (hNN b h).1).2.trans (hNN b h).2⟩ : _ ∧ _)
   refine WD.sc S hb157 hBB fun hC => ?_
   have d158 : Disj F9 F154 := fun b x y => d156 b (o7.sub b x) y
   have d159 : Disj F26 F154 := fun b x y => d156 b (o24.sub b x) y
   replace o7 := o7.up up
   replace o24 := o24.up up
   clear up d156
   exact S.wh hW [] hC fun _ S => hK129 _ _ q8 F9 q25 F26 q153 F154 _ _ _ S o7 o24 o155 d152 d158 d159 hb157 hBB
  have hK160 ac w q8 F9 q16 F17 u N β (S : St Try.prog Try.f8.ntmps w0 NoB u N β (σ1.dl [] [(6, .v (slv ((List.replicate (f_brought 8 0 24).toNat (⟨-1, 0⟩ : TSlot))).length q8.1)), (8, .v (slv 8 q16.1))] 1 []) ac w) (o7 : Ow w0 NoB u N F9 (List.replicate (f_brought 8 0 24).toNat (⟨-1, 0⟩ : TSlot)) q8) (o15 : Ow w0 NoB u N F17 (List.replicate 8 (GT.dflt : Bool)) q16) (d161 : Disj F9 F17) (hNN : NN N0 u0 N u) (hBB : BB σ1.bx.length β0 β) : W 4 (mkL 6 [0, 2]) ac w := by
   refine o2 hW 1 4 ?_ (S.wq hW hNN hBB [] .nil fun _ _ _ S hB => hK142 _ _ q8 F9 q16 F17 _ _ _ S o7 o15 d161 hNN hB)
   refine id (S.call1 (r := (List.replicate (f_brought 8 0 24).toNat (List.replicate 4 (0 : Int)))) (d := 7) (c_impl_MemNew w 8) (by kernel_rfl) rfl ?_)
   clear S; intro ac w N q162 F163 S up o164 d165
   have hb166 := fun b h => (⟨(up b (hNN b h).1).1, (up b (hNN b h).1).2.trans (hNN b h).2⟩ : _ ∧ _)
   refine WD.sc S hb166 hBB fun hC => ?_
   have d167 : Disj F9 F163 := fun b x y => d165 b (o7.sub b x) y
   have d168 : Disj F17 F163 := fun b x y => d165 b (o15.sub b x) y
   replace o7 := o7.up up
   replace o15 := o15.up up
   clear up d165
   exact S.wh hW [] hC fun _ S => hK129 _ _ q8 F9 q162 F163 q16 F17 _ _ _ S o7 o164 o15 d167 d161 (Disj.symm d168) hb166 hBB
  have hK169 ac w q8 F9 u N β (S : St Try.prog Try.f8.ntmps w0 NoB u N β (σ1.dl [] [(3, .p 1 0), (6, .v (slv ((List.replicate (f_brought 8 0 24).toNat (⟨-1, 0⟩ : TSlot))).length q8.1))] 2 [(1, Zc TMon)]) ac w) (o7 : Ow w0 NoB u N F9 (List.replicate (f_brought 8 0 24).toNat (⟨-1, 0⟩ : TSlot)) q8) (hNN : NN N0 u0 N u) (hBB : BB σ1.bx.length β0 β) : W 4 (mkL 6 [0, 4]) ac w := by
   refine o2 hW 1 2 ?_ ?_
   ·refine id (S.call1 (r := (List.replicate (f_brought 8 0 24).toNat (List.replicate 4 (0 : Int)))) (d := 7) (c_impl_MemNew w 8) (by kernel_rfl) rfl ?_)
    clear S; intro ac w N q170 F171 S up o172 d173
    have hb174 := fun b h => (⟨(up b (hNN b h).1).1, (up b (hNN b h).1).2.trans (hNN b h).2⟩ : _ ∧ _)
    refine WD.sc S hb174 hBB fun hC => ?_
    have d175 : Disj F9 F171 := fun b x y => d173 b (o7.sub b x) y
    replace o7 := o7.up up
    clear up d173
    exact S.wh hW [] hC fun _ S => hK133 _ _ q8 F9 q170 F171 _ _ _ S o7 o172 d175 hb174 hBB
   ·refine id (S.make (α := Bool) (m := 8) (by' := 1) (d := 8) (by kernel_rfl) (by omega) (show 8 ≤ 4194304 by omega) ?_)
    clear S; intro ac w N q176 F177 S up o178 d179
    have hb180 := fun b h => (⟨(up b (hNN b h).1).1, (up b (hNN b h).1).2.trans (hNN b h).2⟩ : _ ∧ _)
    refine WD.sc S hb180 hBB fun hC => ?_
    have d181 : Disj F9 F177 := fun b x y => d179 b (o7.sub b x) y
    replace o7 := o7.up up
    clear up d179
    exact S.wh hW [] hC fun _ S => hK142 _ _ q8 F9 q176 F177 _ _ _ S o7 o178 d181 hb180 hBB
  have hK182 ac w q16 F17 u N β (S : St Try.prog Try.f8.ntmps w0 NoB u N β (σ1.dl [] [(3, .p 1 0), (8, .v (slv 8 q16.1))] 2 [(1, Zc TMon)]) ac w) (o15 : Ow w0 NoB u N F17 (List.replicate 8 (GT.dflt : Bool)) q16) (hNN : NN N0 u0 N u) (hBB : BB σ1.bx.length β0 β) : W 4 (mkL 6 [2, 4]) ac w := by
   refine o1 hW 0 ?_
   refine id (S.call1 (r := (List.replicate (f_brought 8 0 24).toNat (⟨-1, 0⟩ : TSlot))) (d := 6) (c_impl_TableNew w 8) (by kernel_rfl) rfl ?_)
   clear S; intro ac w N q183 F184 S up o185 d186
   have hb187 := fun b h => (⟨(up b (hNN b h).1).1, (up b (hNN b h).1).2.trans (hNN b h).2⟩ : _ ∧ _)
   refine WD.sc S hb187 hBB fun hC => ?_
   have d188 : Disj F17 F184 := fun b x y => d186 b (o15.sub b x) y
   replace o15 := o15.up up
   clear up d186
   exact S.wh hW [] hC fun _ S => hK142 _ _ q183 F184 q16 F17 _ _ _ S o185 o15 (Disj.symm d188) hb187 hBB
  have hK189 ac w q8 F9 u N β (S : St Try.prog Try.f8.ntmps w0 NoB u N β (σ1.dl [] [(6, .v (slv ((List.replicate (f_brought 8 0 24).toNat (⟨-1, 0⟩ : TSlot))).length q8.1))] 1 []) ac w) (o7 : Ow w0 NoB u N F9 (List.replicate (f_brought 8 0 24).toNat (⟨-1, 0⟩ : TSlot)) q8) (hNN : NN N0 u0 N u) (hBB : BB σ1.bx.length β0 β) : W 5 (mkL 6 [0]) ac w := by
   refine o3 hW 1 2 4 ?_ ?_ (S.wq hW hNN hBB [] .nil fun _ _ _ S hB => hK169 _ _ q8 F9 _ _ _ S o7 hNN hB)
   ·refine id (S.call1 (r := (List.replicate (f_brought 8 0 24).toNat (List.replicate 4 (0 : Int)))) (d := 7) (c_impl_MemNew w 8) (by kernel_rfl) rfl ?_)
    clear S; intro ac w N q190 F191 S up o192 d193
    have hb194 := fun b h => (⟨(up b (hNN b h).1).1, (up b (hNN b h).1).2.trans (hNN b h).2⟩ : _ ∧ _)
    refine WD.sc S hb194 hBB fun hC => ?_
    have d195 : Disj F9 F191 := fun b x y => d193 b (o7.sub b x) y
    replace o7 := o7.up up
    clear up d193
    exact S.wh hW [] hC fun _ S => hK151 _ _ q8 F9 q190 F191 _ _ _ S o7 o192 d195 hb194 hBB
   ·refine id (S.make (α := Bool) (m := 8) (by' := 1) (d := 8) (by kernel_rfl) (by omega) (show 8 ≤ 4194304 by omega) ?_)
    clear S; intro ac w N q196 F197 S up o198 d199
    have hb200 := fun b h => (⟨(up b (hNN b h).1).1, (up b (hNN b h).1).2.trans (hNN b h).2⟩ : _ ∧ _)
    refine WD.sc S hb200 hBB fun hC => ?_
    have d201 : Disj F9 F197 := fun b x y => d199 b (o7.sub b x) y
    replace o7 := o7.up up
    clear up d199
    exact S.wh hW [] hC fun _ S => hK160 _ _ q8 F9 q196 F197 _ _ _ S o7 o198 d201 hb200 hBB
  have hK202 ac w q16 F17 u N β (S : St Try.prog Try.f8.ntmps w0 NoB u N β (σ1.dl [] [(8, .v (slv 8 q16.1))] 1 []) ac w) (o15 : Ow w0 NoB u N F17 (List.replicate 8 (GT.dflt : Bool)) q16) (hNN : NN N0 u0 N u) (hBB : BB σ1.bx.length β0 β) : W 5 (mkL 6 [2]) ac w := by
   refine o2 hW 0 4 ?_ (S.wq hW hNN hBB [] .nil fun _ _ _ S hB => hK182 _ _ q16 F17 _ _ _ S o15 hNN hB)
   refine id (S.call1 (r := (List.replicate (f_brought 8 0 24).toNat (⟨-1, 0⟩ : TSlot))) (d := 6) (c_impl_TableNew w 8) (by kernel_rfl) rfl ?_)
   clear S; intro ac w N q203 F204 S up o205 d206
   have hb207 := fun b h => (⟨(up b (hNN b h).1).1, (up b (hNN b h).1).2.trans (hNN b h).2⟩ : _ ∧ _)
   refine WD.sc S hb207 hBB fun hC => ?_
   have d208 : Disj F17 F204 := fun b x y => d206 b (o15.sub b x) y
   replace o15 := o15.up up
   clear up d206
   exact S.wh hW [] hC fun _ S => hK160 _ _ q203 F204 q16 F17 _ _ _ S o205 o15 (Disj.symm d208) hb207 hBB
  have hK209 ac w u N β (S : St Try.prog Try.f8.ntmps w0 NoB u N β (σ1.dl [] [(3, .p 1 0)] 2 [(1, Zc TMon)]) ac w) (hNN : NN N0 u0 N u) (hBB : BB σ1.bx.length β0 β) : W 5 (mkL 6 [4]) ac w := by
   refine o2 hW 0 2 ?_ ?_
   ·refine id (S.call1 (r := (List.replicate (f_brought 8 0 24).toNat (⟨-1, 0⟩ : TSlot))) (d := 6) (c_impl_TableNew w 8) (by kernel_rfl) rfl ?_)
    clear S; intro ac w N q210 F211 S up o212 d213
    have hb214 := fun b h => (⟨(up b (hNN b h).1).1, (up b (hNN b h).1).2.trans (hNN b h).2⟩ : _ ∧ _)
    refine WD.sc S hb214 hBB fun hC => ?_
    clear up d213
    exact S.wh hW [] hC fun _ S => hK169 _ _ q210 F211 _ _ _ S o212 hb214 hBB
   ·refine id (S.make (α := Bool) (m := 8) (by' := 1) (d := 8) (by kernel_rfl) (by omega) (show 8 ≤ 4194304 by omega) ?_)
    clear S; intro ac w N q215 F216 S up o217 d218
    have hb219 := fun b h => (⟨(up b (hNN b h).1).1, (up b (hNN b h).1).2.trans (hNN b h).2⟩ : _ ∧ _)
    refine WD.sc S hb219 hBB fun hC => ?_
    clear up d218
    exact S.wh hW [] hC fun _ S => hK182 _ _ q215 F216 _ _ _ S o217 hb219 hBB
  have hNN : NN N0 u0 N0 u0 := fun b h => ⟨h, rfl⟩
  have hBB : BB σ1.bx.length β0 β0 := fun _ _ => rfl
  refine o3 hW 0 2 4 ?_ ?_ (S.wq hW hNN hBB [] .nil fun _ _ _ S hB => hK209 _ _ _ _ _ S hNN hB)
  ·refine id (S.call1 (r := (List.replicate (f_brought 8 0 24).toNat (⟨-1, 0⟩ : TSlot))) (d := 6) (c_impl_TableNew w 8) (by kernel_rfl) rfl ?_)
   clear S; intro ac w N q220 F221 S up o222 d223
   have hb224 := fun b h => (⟨(up b (hNN b h).1).1, (up b (hNN b h).1).2.trans (hNN b h).2⟩ : _ ∧ _)
   refine WD.sc S hb224 hBB fun hC => ?_
   clear up d223
   exact S.wh hW [] hC fun _ S => hK189 _ _ q220 F221 _ _ _ S o222 hb224 hBB
  ·refine id (S.make (α := Bool) (m := 8) (by' := 1) (d := 8) (by kernel_rfl) (by omega) (show 8 ≤ 4194304 by omega) ?_)
   clear S; intro ac w N q225 F226 S up o227 d228
   have hb229 := fun b h => (⟨(up b (hNN b h).1).1, (up b (hNN b h).1).2.trans (hNN b h).2⟩ : _ ∧ _)
   refine WD.sc S hb229 hBB fun hC => ?_
   clear up d228
   exact S.wh hW [] hC fun _ S => hK202 _ _ q225 F226 _ _ _ S o227 hb229 hBB
 clear S
 rintro ac w ⟨q111, F112, q108, F109, q105, F106, u, N, β, S, o110, o107, o104, d230, d231, d232⟩
 refine id (nt (ws (ws (rg ?_))))
 have l233 : (((progs).take (((if 2 < ((progs).length : Int) then 2 else ((progs).length : Int))).toNat))).length = ((if 2 < ((progs).length : Int) then 2 else ((progs).length : Int))).toNat - 0 := by first | (simp; done) | (simp; omega)
 refine S.qg 7 [] [(14, .v (slv ((if 2 < ((progs).length : Int) then 2 else ((progs).length : Int))).toNat ((pprogs.1).sl 0 1))), (15, .v (I (((if 2 < ((progs).length : Int) then 2 else ((progs).length : Int))).toNat : Int))), (16, .v (I 0))] (.cons (Q_slice (hi := some (I (if 2 < ((progs).length : Int) then 2 else ((progs).length : Int)))) (S.arg hprogs) (l := (progs).length) (a := 0) (b := ((if 2 < ((progs).length : Int) then 2 else ((progs).length : Int))).toNat) rfl (.inl ⟨rfl, rfl⟩) (.inr (congrArg (fun z => some (I z)) (show (if 2 < ((progs).length : Int) then 2 else ((progs).length : Int)) = ((((if 2 < ((progs).length : Int) then 2 else ((progs).length : Int))).toNat : Nat) : Int) by omega))) (by omega) (by omega) Try.underlying33 (by kernel_rfl)) .nil) ?_; clear S; intro ac w β S
 refine (nt (wp_block ?_))
 have o240 := S.nilOw (α := TGuest)
 have o241 := S.nilOw (α := TKept)
 refine wp_loop_down (fun mm ac w => ∃ (k : Nat) (gs : List TGuest) (tb : List TKept) (q234 : GT.Ptr (List TGuest)) (F235 : Bl) (q237 : GT.Ptr (List TKept)) (F238 : Bl) (u : World) (N : Bl) (β : Nat → Nat), mm = progs.length - k ∧ (k ≤ progs.length) ∧ (k ≤ 2) ∧ (gs = ((progs.take 2).take k).map f_guestNew) ∧ (tb = ((progs.take 2).take k).map (fun _ => f_keptNew 4)) ∧ St Try.prog Try.f8.ntmps w0 NoB u N β ⟨[(2, .p 0 0), (3, .p 1 0), (14, .v (slv ((if 2 < ((progs).length : Int) then 2 else ((progs).length : Int))).toNat ((pprogs.1).sl 0 1))), (15, .v (I (((if 2 < ((progs).length : Int) then 2 else ((progs).length : Int))).toNat : Int))), (16, .v (I (k : Int)))], [Zc TMon, [slv ((List.replicate (f_brought 8 0 24).toNat (⟨-1, 0⟩ : TSlot))).length q105.1, slv ((List.replicate (f_brought 8 0 24).toNat (List.replicate 4 (0 : Int)))).length q108.1, slv 8 q111.1, slv (gs).length q234.1, slv (([] : List Int)).length (GT.pdflt (α := List Int)).1, I 0, I 0, slv (tb).length q237.1, I 0]]⟩ ac w ∧ Ow w0 NoB u N F235 gs q234 ∧ Ow w0 NoB u N F238 tb q237 ∧ Ow w0 NoB u N F106 (List.replicate (f_brought 8 0 24).toNat (⟨-1, 0⟩ : TSlot)) q105 ∧ Ow w0 NoB u N F109 (List.replicate (f_brought 8 0 24).toNat (List.replicate 4 (0 : Int))) q108 ∧ Ow w0 NoB u N F112 (List.replicate 8 (GT.dflt : Bool)) q111 ∧ Disj F235 F238 ∧ Disj F235 F106 ∧ Disj F235 F109 ∧ Disj F235 F112 ∧ Disj F238 F106 ∧ Disj F238 F109 ∧ Disj F238 F112) _ ⟨0, ([] : List TGuest), ([] : List TKept), (GT.pdflt (α := List TGuest)), NoB, (GT.pdflt (α := List TKept)), NoB, _, _, _, rfl, (by first | omega | (simp; done) | (simp; omega)), (by first | omega | (simp; done) | (simp; omega)), (by rfl), (by rfl), S.z, o240, o241, o104, o107, o110, (fun b _ h => False.elim h), (Disj.symm (fun b _ h => False.elim h)), (Disj.symm (fun b _ h => False.elim h)), (Disj.symm (fun b _ h => False.elim h)), (Disj.symm (fun b _ h => False.elim h)), (Disj.symm (fun b _ h => False.elim h)), (Disj.symm (fun b _ h => False.elim h))⟩ ?_
 clear S o104 o107 o110 o240 o241
 rintro mm ac w ⟨k, gs, tb, q234, F235, q237, F238, u, N, β, rfl, hk, hkm, hgs, htb, S, o236, o239, o104, o107, o110, d242, d243, d244, d245, d246, d247, d248⟩
 have hlgs : gs.length ≤ 2 := by rw [hgs, List.length_map, List.length_take]; omega
 have hltb : tb.length ≤ 2 := by rw [htb, List.length_map, List.length_take]; omega
 refine ws (rg ?_)
 refine S.qe 1 [] [(17, .v (B (decide ((k : Int) < (((if 2 < ((progs).length : Int) then 2 else ((progs).length : Int))).toNat : Int)))))] ?_; clear S; intro ac w β S
 refine (nt (ws (S.c (decide ((k : Int) < (((if 2 < ((progs).length : Int) then 2 else ((progs).length : Int))).toNat : Int))) (fun h249 => ?_) (fun h249 => ?_))))
 ·have g250 := of_decide_eq_true h249
  refine wk (nt (ws (wp_block (ws (rg ?_)))))
  refine S.qg 3 [] [(5, .v (slv ((el ((progs).take (((if 2 < ((progs).length : Int) then 2 else ((progs).length : Int))).toNat)) k)).length (((pprogs.1).sl 0 1, fun i => pprogs.2 (0 + i)).2 k).1))] (.cons (Q_idx (show GT.rd KK _ _ ((progs).take (((if 2 < ((progs).length : Int) then 2 else ((progs).length : Int))).toNat)) (((pprogs.1).sl 0 1, fun i => pprogs.2 (0 + i)) : LP (List TIns)) from rd_sl (S.arg hprogs) (a := 0) (b := ((if 2 < ((progs).length : Int) then 2 else ((progs).length : Int))).toNat) (by omega) (by omega)) (l := ((if 2 < ((progs).length : Int) then 2 else ((progs).length : Int))).toNat) (k := k) (i := (k : Int)) (by omega) rfl (by omega) Try.underlying33 (by kernel_rfl)) (.cons (Q_el1 (show GT.rd KK _ _ ((progs).take (((if 2 < ((progs).length : Int) then 2 else ((progs).length : Int))).toNat)) (((pprogs.1).sl 0 1, fun i => pprogs.2 (0 + i)) : LP (List TIns)) from rd_sl (S.arg hprogs) (a := 0) (b := ((if 2 < ((progs).length : Int) then 2 else ((progs).length : Int))).toNat) (by omega) (by omega)) (t := 58) (k := k) (by omega) rfl (by kernel_rfl)) .nil)) ?_; clear S; intro ac w β S
  refine (nt (ws ?_))
  refine S.draw0 (f := 8) 5 rfl rfl ?_
  clear S; intro w S
  refine S.hq 0 [1, 0] [] [(20, .p 1 3)] .nil ?_; clear S; intro ac S
  refine S.hq 1 [1] [] [(21, .v (slv (gs).length q234.1))] .nil ?_; clear S; intro ac S
  refine S.hq 2 [3, 2] [] [(22, .v (slv ((el ((progs).take (((if 2 < ((progs).length : Int) then 2 else ((progs).length : Int))).toNat)) k)).length (((pprogs.1).sl 0 1, fun i => pprogs.2 (0 + i)).2 k).1))] .nil ?_; clear S; intro ac S
  refine WD.one (i := 3) (by kernel_rfl) ?_
  refine id (S.call1 (r := f_guestNew (el ((progs).take (((if 2 < ((progs).length : Int) then 2 else ((progs).length : Int))).toNat)) k)) (d := 23) (c_impl_GuestNew w (el ((progs).take (((if 2 < ((progs).length : Int) then 2 else ((progs).length : Int))).toNat)) k) (((pprogs.1).sl 0 1, fun i => pprogs.2 (0 + i)).2 k) (S.rd (LRd.el (show GT.rd KK _ _ ((progs).take (((if 2 < ((progs).length : Int) then 2 else ((progs).length : Int))).toNat)) (((pprogs.1).sl 0 1, fun i => pprogs.2 (0 + i)) : LP (List TIns)) from rd_sl (S.arg hprogs) (a := 0) (b := ((if 2 < ((progs).length : Int) then 2 else ((progs).length : Int))).toNat) (by omega) (by omega)) k (by omega)))) (by kernel_rfl) rfl ?_)
  clear S; intro ac w N q251 F252 S up o253 d254
  refine WD.next S up (by kernel_rfl) ?_
  have d255 : Disj F235 F252 := fun b x y => d254 b (o236.sub b x) y
  have d256 : Disj F238 F252 := fun b x y => d254 b (o239.sub b x) y
  have d257 : Disj F106 F252 := fun b x y => d254 b (o104.sub b x) y
  have d258 : Disj F109 F252 := fun b x y => d254 b (o107.sub b x) y
  have d259 : Disj F112 F252 := fun b x y => d254 b (o110.sub b x) y
  replace o236 := o236.up up
  replace o239 := o239.up up
  replace o104 := o104.up up
  replace o107 := o107.up up
  replace o110 := o110.up up
  clear up d254
  have i263 : In64 (f_guestNew (el ((progs).take (((if 2 < ((progs).length : Int) then 2 else ((progs).length : Int))).toNat)) k)).acc := RGuest.acc (d := (f_guestNew (el ((progs).take (((if 2 < ((progs).length : Int) then 2 else ((progs).length : Int))).toNat)) k))) o253.rn
  have i264 : In64 (f_guestNew (el ((progs).take (((if 2 < ((progs).length : Int) then 2 else ((progs).length : Int))).toNat)) k)).pc := RGuest.pc (d := (f_guestNew (el ((progs).take (((if 2 < ((progs).length : Int) then 2 else ((progs).length : Int))).toNat)) k))) o253.rn
  have i271 : RCtl (f_guestNew (el ((progs).take (((if 2 < ((progs).length : Int) then 2 else ((progs).length : Int))).toNat)) k)).ctl := RGuest.ctl (d := (f_guestNew (el ((progs).take (((if 2 < ((progs).length : Int) then 2 else ((progs).length : Int))).toNat)) k))) o253.rn
  have i272 : In64 (f_guestNew (el ((progs).take (((if 2 < ((progs).length : Int) then 2 else ((progs).length : Int))).toNat)) k)).pend := RGuest.pend (d := (f_guestNew (el ((progs).take (((if 2 < ((progs).length : Int) then 2 else ((progs).length : Int))).toNat)) k))) o253.rn
  have i273 : RExit (f_guestNew (el ((progs).take (((if 2 < ((progs).length : Int) then 2 else ((progs).length : Int))).toNat)) k)).exit := RGuest.exit (d := (f_guestNew (el ((progs).take (((if 2 < ((progs).length : Int) then 2 else ((progs).length : Int))).toNat)) k))) o253.rn
  obtain ⟨F260, F265, F268, F274, o261, o266, o269, o275, s262, s267, s270, s276, d277, d278, d279, d280, d281, d282⟩ := sp_Guest o253
  refine WD.one (i := 4) (by kernel_rfl) ?_
  have o287 := ow_Guest (x := (f_guestNew (el ((progs).take (((if 2 < ((progs).length : Int) then 2 else ((progs).length : Int))).toNat)) k))) (p := q251) o261 o266 o269 o275 d277 d278 d279 d280 d281 d282 i263 i264 i271 i272 i273
  refine id (S.bs1 (α := TGuest) (x := (f_guestNew (el ((progs).take (((if 2 < ((progs).length : Int) then 2 else ((progs).length : Int))).toNat)) k))) (p := q251) o287.own o287.sub o287.young (d := 24) (by kernel_rfl) ?_)
  clear S; intro ac w N q283 F284 S up o285 d286
  refine WD.next S up (by kernel_rfl) ?_
  have d288 : Disj F235 F284 := d286 _ (Disj.symm (Disj.or (Disj.part (Disj.symm d255) s262) (Disj.or (Disj.part (Disj.symm d255) s267) (Disj.or (Disj.part (Disj.symm d255) s270) (Disj.or (Disj.part (Disj.symm d255) s276) Disj.nob))))) o236.sub
  have d289 : Disj F238 F284 := d286 _ (Disj.symm (Disj.or (Disj.part (Disj.symm d256) s262) (Disj.or (Disj.part (Disj.symm d256) s267) (Disj.or (Disj.part (Disj.symm d256) s270) (Disj.or (Disj.part (Disj.symm d256) s276) Disj.nob))))) o239.sub
  have d290 : Disj F106 F284 := d286 _ (Disj.symm (Disj.or (Disj.part (Disj.symm d257) s262) (Disj.or (Disj.part (Disj.symm d257) s267) (Disj.or (Disj.part (Disj.symm d257) s270) (Disj.or (Disj.part (Disj.symm d257) s276) Disj.nob))))) o104.sub
  have d291 : Disj F109 F284 := d286 _ (Disj.symm (Disj.or (Disj.part (Disj.symm d258) s262) (Disj.or (Disj.part (Disj.symm d258) s267) (Disj.or (Disj.part (Disj.symm d258) s270) (Disj.or (Disj.part (Disj.symm d258) s276) Disj.nob))))) o107.sub
  have d292 : Disj F112 F284 := d286 _ (Disj.symm (Disj.or (Disj.part (Disj.symm d259) s262) (Disj.or (Disj.part (Disj.symm d259) s267) (Disj.or (Disj.part (Disj.symm d259) s270) (Disj.or (Disj.part (Disj.symm d259) s276) Disj.nob))))) o110.sub
  replace o236 := o236.up up
  replace o239 := o239.up up
  replace o104 := o104.up up
  replace o107 := o107.up up
  replace o110 := o110.up up
  clear up d286
  refine WD.one (i := 5) (by kernel_rfl) ?_
  refine id (S.appOwn (α := TGuest) o236 o285 d288 (by' := 184) (d := 25) (lx := (gs).length) (ly := 1) rfl rfl (by kernel_rfl) (show _ ≤ 4194304 by simp only [List.length_append, List.length_cons, List.length_nil]; omega) ?_)
  clear S; intro ac w N q293 F294 S up o295 d296
  refine WD.last (by kernel_rfl) ?_
  have d297 : Disj F238 F294 := d296 _ (Disj.symm d242) d289 o239.sub
  have d298 : Disj F106 F294 := d296 _ (Disj.symm d243) d290 o104.sub
  have d299 : Disj F109 F294 := d296 _ (Disj.symm d244) d291 o107.sub
  have d300 : Disj F112 F294 := d296 _ (Disj.symm d245) d292 o110.sub
  replace o239 := o239.upF (Disj.symm d242) up
  replace o104 := o104.upF (Disj.symm d243) up
  replace o107 := o107.upF (Disj.symm d244) up
  replace o110 := o110.upF (Disj.symm d245) up
  clear up d296
  refine WD.one (i := 6) (by kernel_rfl) ?_
  refine S.stepq (i := 6) (keep := [2, 3, 14, 15, 16, 25, 26]) (m := 2) (σ' := ⟨[(2, .p 0 0), (3, .p 1 0), (14, .v (slv ((if 2 < ((progs).length : Int) then 2 else ((progs).length : Int))).toNat ((pprogs.1).sl 0 1))), (15, .v (I (((if 2 < ((progs).length : Int) then 2 else ((progs).length : Int))).toNat : Int))), (16, .v (I (k : Int))), (25, .v (slv ((gs ++ [(f_guestNew (el ((progs).take (((if 2 < ((progs).length : Int) then 2 else ((progs).length : Int))).toNat)) k))])).length q293.1)), (26, .p 1 3)], [Zc TMon, [slv ((List.replicate (f_brought 8 0 24).toNat (⟨-1, 0⟩ : TSlot))).length q105.1, slv ((List.replicate (f_brought 8 0 24).toNat (List.replicate 4 (0 : Int)))).length q108.1, slv 8 q111.1, slv (gs).length q234.1, slv (([] : List Int)).length (GT.pdflt (α := List Int)).1, I 0, I 0, slv (tb).length q237.1, I 0]]⟩) .nil (by kernel_rfl) ?_
  clear S; intro ac w β S hβ
  refine WD.last (by kernel_rfl) ?_
  clear hβ
  refine WD.one (i := 7) (by kernel_rfl) ?_
  refine S.stepq (i := 7) (keep := [2, 3, 14, 15, 16]) (m := 2) (σ' := ⟨[(2, .p 0 0), (3, .p 1 0), (14, .v (slv ((if 2 < ((progs).length : Int) then 2 else ((progs).length : Int))).toNat ((pprogs.1).sl 0 1))), (15, .v (I (((if 2 < ((progs).length : Int) then 2 else ((progs).length : Int))).toNat : Int))), (16, .v (I (k : Int)))], [Zc TMon, [slv ((List.replicate (f_brought 8 0 24).toNat (⟨-1, 0⟩ : TSlot))).length q105.1, slv ((List.replicate (f_brought 8 0 24).toNat (List.replicate 4 (0 : Int)))).length q108.1, slv 8 q111.1, slv ((gs ++ [(f_guestNew (el ((progs).take (((if 2 < ((progs).length : Int) then 2 else ((progs).length : Int))).toNat)) k))])).length q293.1, slv (([] : List Int)).length (GT.pdflt (α := List Int)).1, I 0, I 0, slv (tb).length q237.1, I 0]]⟩) .nil (by kernel_rfl) ?_
  clear S; intro ac w β S hβ
  refine WD.last (by kernel_rfl) ?_
  clear hβ
  refine WD.done (by kernel_rfl) ?_ _
  refine id (nt ?_)
  refine S.draw0 (f := 7) 4 rfl rfl ?_
  clear S; intro w S
  refine S.hq 0 [1, 0] [] [(27, .p 1 7)] .nil ?_; clear S; intro ac S
  refine S.hq 1 [1] [] [(28, .v (slv (tb).length q237.1))] .nil ?_; clear S; intro ac S
  refine WD.one (i := 2) (by kernel_rfl) ?_
  refine id (S.call1 (r := f_keptNew 4) (d := 29) (c_impl_KeptNew w 4) (by kernel_rfl) rfl ?_)
  clear S; intro ac w N q301 F302 S up o303 d304
  refine WD.next S up (by kernel_rfl) ?_
  have d305 : Disj F238 F302 := fun b x y => d304 b (o239.sub b x) y
  have d306 : Disj F106 F302 := fun b x y => d304 b (o104.sub b x) y
  have d307 : Disj F109 F302 := fun b x y => d304 b (o107.sub b x) y
  have d308 : Disj F112 F302 := fun b x y => d304 b (o110.sub b x) y
  have d309 : Disj F294 F302 := fun b x y => d304 b (o295.sub b x) y
  replace o239 := o239.up up
  replace o104 := o104.up up
  replace o107 := o107.up up
  replace o110 := o110.up up
  replace o295 := o295.up up
  clear up d304
  obtain ⟨F310, F313, o311, o314, s312, s315, d316⟩ := sp_Kept o303
  refine WD.one (i := 3) (by kernel_rfl) ?_
  have o321 := ow_Kept (x := (f_keptNew 4)) (p := q301) o311 o314 d316 
  refine id (S.bs1 (α := TKept) (x := (f_keptNew 4)) (p := q301) o321.own o321.sub o321.young (d := 30) (by kernel_rfl) ?_)
  clear S; intro ac w N q317 F318 S up o319 d320
  refine WD.next S up (by kernel_rfl) ?_
  have d322 : Disj F238 F318 := d320 _ (Disj.symm (Disj.or (Disj.part (Disj.symm d305) s312) (Disj.or (Disj.part (Disj.symm d305) s315) Disj.nob))) o239.sub
  have d323 : Disj F106 F318 := d320 _ (Disj.symm (Disj.or (Disj.part (Disj.symm d306) s312) (Disj.or (Disj.part (Disj.symm d306) s315) Disj.nob))) o104.sub
  have d324 : Disj F109 F318 := d320 _ (Disj.symm (Disj.or (Disj.part (Disj.symm d307) s312) (Disj.or (Disj.part (Disj.symm d307) s315) Disj.nob))) o107.sub
  have d325 : Disj F112 F318 := d320 _ (Disj.symm (Disj.or (Disj.part (Disj.symm d308) s312) (Disj.or (Disj.part (Disj.symm d308) s315) Disj.nob))) o110.sub
  have d326 : Disj F294 F318 := d320 _ (Disj.symm (Disj.or (Disj.part (Disj.symm d309) s312) (Disj.or (Disj.part (Disj.symm d309) s315) Disj.nob))) o295.sub
  replace o239 := o239.up up
  replace o104 := o104.up up
  replace o107 := o107.up up
  replace o110 := o110.up up
  replace o295 := o295.up up
  clear up d320
  refine WD.one (i := 4) (by kernel_rfl) ?_
  refine id (S.appOwn (α := TKept) o239 o319 d322 (by' := 48) (d := 31) (lx := (tb).length) (ly := 1) rfl rfl (by kernel_rfl) (show _ ≤ 4194304 by simp only [List.length_append, List.length_cons, List.length_nil]; omega) ?_)
  clear S; intro ac w N q327 F328 S up o329 d330
  refine WD.last (by kernel_rfl) ?_
  have d331 : Disj F106 F328 := d330 _ (Disj.symm d246) d323 o104.sub
  have d332 : Disj F109 F328 := d330 _ (Disj.symm d247) d324 o107.sub
  have d333 : Disj F112 F328 := d330 _ (Disj.symm d248) d325 o110.sub
  have d334 : Disj F294 F328 := d330 _ (Disj.symm d297) d326 o295.sub
  replace o104 := o104.upF (Disj.symm d246) up
  replace o107 := o107.upF (Disj.symm d247) up
  replace o110 := o110.upF (Disj.symm d248) up
  replace o295 := o295.upF (Disj.symm d297) up
  clear up d330
  refine WD.one (i := 5) (by kernel_rfl) ?_
  refine S.stepq (i := 5) (keep := [2, 3, 14, 15, 16, 31, 32]) (m := 2) (σ' := ⟨[(2, .p 0 0), (3, .p 1 0), (14, .v (slv ((if 2 < ((progs).length : Int) then 2 else ((progs).length : Int))).toNat ((pprogs.1).sl 0 1))), (15, .v (I (((if 2 < ((progs).length : Int) then 2 else ((progs).length : Int))).toNat : Int))), (16, .v (I (k : Int))), (31, .v (slv ((tb ++ [(f_keptNew 4)])).length q327.1)), (32, .p 1 7)], [Zc TMon, [slv ((List.replicate (f_brought 8 0 24).toNat (⟨-1, 0⟩ : TSlot))).length q105.1, slv ((List.replicate (f_brought 8 0 24).toNat (List.replicate 4 (0 : Int)))).length q108.1, slv 8 q111.1, slv ((gs ++ [(f_guestNew (el ((progs).take (((if 2 < ((progs).length : Int) then 2 else ((progs).length : Int))).toNat)) k))])).length q293.1, slv (([] : List Int)).length (GT.pdflt (α := List Int)).1, I 0, I 0, slv (tb).length q237.1, I 0]]⟩) .nil (by kernel_rfl) ?_
  clear S; intro ac w β S hβ
  refine WD.last (by kernel_rfl) ?_
  clear hβ
  refine WD.one (i := 6) (by kernel_rfl) ?_
  refine S.stepq (i := 6) (keep := [2, 3, 14, 15, 16]) (m := 2) (σ' := ⟨[(2, .p 0 0), (3, .p 1 0), (14, .v (slv ((if 2 < ((progs).length : Int) then 2 else ((progs).length : Int))).toNat ((pprogs.1).sl 0 1))), (15, .v (I (((if 2 < ((progs).length : Int) then 2 else ((progs).length : Int))).toNat : Int))), (16, .v (I (k : Int)))], [Zc TMon, [slv ((List.replicate (f_brought 8 0 24).toNat (⟨-1, 0⟩ : TSlot))).length q105.1, slv ((List.replicate (f_brought 8 0 24).toNat (List.replicate 4 (0 : Int)))).length q108.1, slv 8 q111.1, slv ((gs ++ [(f_guestNew (el ((progs).take (((if 2 < ((progs).length : Int) then 2 else ((progs).length : Int))).toNat)) k))])).length q293.1, slv (([] : List Int)).length (GT.pdflt (α := List Int)).1, I 0, I 0, slv ((tb ++ [(f_keptNew 4)])).length q327.1, I 0]]⟩) .nil (by kernel_rfl) ?_
  clear S; intro ac w β S hβ
  refine WD.last (by kernel_rfl) ?_
  clear hβ
  refine WD.done (by kernel_rfl) ?_ _
  refine id (nb (nt (rg ?_)))
  refine S.qg 2 [] [(16, .v (I ((k : Int) + 1)))] (.cons (Q_add (x := (k : Int)) (y := 1) ⟨by omega, by omega⟩) .nil) ?_; clear S; intro ac w β S
  refine (nt ?_)
  refine ⟨progs.length - (k + 1), by omega, k + 1, (gs ++ [(f_guestNew (el ((progs).take (((if 2 < ((progs).length : Int) then 2 else ((progs).length : Int))).toNat)) k))]), (tb ++ [(f_keptNew 4)]), q293, F294, q327, F328, _, _, _, rfl, ?_, ?_, ?_, ?_, S.z, o295, o329, o104, o107, o110, d334, (Disj.symm d298), (Disj.symm d299), (Disj.symm d300), (Disj.symm d331), (Disj.symm d332), (Disj.symm d333)⟩
  ·clear S; first | omega | (simp [*]; done) | (simp [*]; omega)
  ·clear S; first | omega | (simp [*]; done) | (simp [*]; omega)
  ·clear S; (first | (rw [map_take_step (by omega) (by omega), ← hgs]; done) | (rw [map_take_step (by omega) (by omega), ← hgs, el_take (by omega)]))
  ·clear S; (first | (rw [map_take_step (by omega) (by omega), ← htb]; done) | (rw [map_take_step (by omega) (by omega), ← htb, el_take (by omega)]))
 ·have g335 := of_decide_eq_false h249
  refine wp_exit (ex_then (ex_then (ex_hit (nt (ws (rg ?_))))))
  refine S.qem 2 [] [] 1 [(0, [slv ((List.replicate (f_brought 8 0 24).toNat (⟨-1, 0⟩ : TSlot))).length q105.1, slv ((List.replicate (f_brought 8 0 24).toNat (List.replicate 4 (0 : Int)))).length q108.1, slv 8 q111.1, slv (gs).length q234.1, slv (([] : List Int)).length (GT.pdflt (α := List Int)).1, I 0, I 0, slv (tb).length q237.1, I 0])] ?_; clear S; intro ac w β S
  refine (nt (wr (S.r [GT.val (⟨(List.replicate (f_brought 8 0 24).toNat (⟨-1, 0⟩ : TSlot)), (List.replicate (f_brought 8 0 24).toNat (List.replicate 4 (0 : Int))), (List.replicate 8 (GT.dflt : Bool)), gs, ([] : List Int), 0, 0, tb, 0⟩ : TMon) (⟨q105, q108, q111, q234, (GT.pdflt (α := List Int)), q237⟩ : PMon)] ?_)))
  have o336 := S.nilOw (α := Int)
  have o337 := ow_Mon (x := (⟨(List.replicate (f_brought 8 0 24).toNat (⟨-1, 0⟩ : TSlot)), (List.replicate (f_brought 8 0 24).toNat (List.replicate 4 (0 : Int))), (List.replicate 8 (GT.dflt : Bool)), gs, ([] : List Int), 0, 0, tb, 0⟩ : TMon)) (p := (⟨q105, q108, q111, q234, (GT.pdflt (α := List Int)), q237⟩ : PMon)) o104 o107 o110 o236 o336 o239 (Disj.symm d232) (Disj.symm d231) (Disj.symm d243) (fun b _ h => False.elim h) (Disj.symm d246) (Disj.symm d230) (Disj.symm d244) (fun b _ h => False.elim h) (Disj.symm d247) (Disj.symm d245) (fun b _ h => False.elim h) (Disj.symm d248) (fun b _ h => False.elim h) d242 (Disj.symm (fun b _ h => False.elim h)) (show In64 0 from ⟨by decide, by decide⟩) (show In64 0 from ⟨by decide, by decide⟩) (show In64 0 from ⟨by decide, by decide⟩)
  exact ret1_of S (show f_monNew progs = (⟨(List.replicate (f_brought 8 0 24).toNat (⟨-1, 0⟩ : TSlot)), (List.replicate (f_brought 8 0 24).toNat (List.replicate 4 (0 : Int))), (List.replicate 8 (GT.dflt : Bool)), gs, ([] : List Int), 0, 0, tb, 0⟩ : TMon) by clear S; (rw [hgs, htb, map_take_end (by omega), map_take_end (by omega)]; rfl)) rfl o337

set_option maxRecDepth 100000 in
theorem c_impl_HostNew (w0 : World) (all : List (List (List TIns))) (pall : LP (List (List TIns))) (hall : GT.rd KK (Lt w0.heap.size) w0 all pall) : Calls Try.prog 17 [slv (all).length pall.1].toArray w0 (Ret1 NoB w0 (f_hostNew all : THost)) := by
 refine Calls.walk (args := [slv (all).length pall.1]) NoB Try.func17 rfl rfl ?_
 intro ac β S
 have hleall : all.length ≤ 4194304 := LRd.le hall
 refine ws (rg ?_)
 refine S.qem 1 [] [(2, .p 0 0)] 1 [(0, Zc THost)] ?_; clear S; intro ac w β S
 refine (nt (ws (rg ?_)))
 refine RG.op rfl (S.call1 (r := (List.replicate (f_brought 12 0 24).toNat (List.replicate 4 (0 : Int)))) (d := 6) (c_impl_MemNew w 12) (by kernel_rfl) rfl ?_)
 clear S; intro ac w N q1 F2 S up o3 d4
 clear up d4
 refine S.qgm 3 [] [(3, .p 1 0)] (.cons (Q_sem (s := Instr.build 45 [(0, slv ((List.replicate (f_brought 12 0 24).toNat (List.replicate 4 (0 : Int)))).length q1.1)].toArray) (v := .agg [slv ((List.replicate (f_brought 12 0 24).toNat (List.replicate 4 (0 : Int)))).length q1.1, slv (([] : List TMon)).length (GT.pdflt (α := List TMon)).1, slv (([] : List TEntry)).length (GT.pdflt (α := List TEntry)).1, slv (([] : List TEntry)).length (GT.pdflt (α := List TEntry)).1].toArray) (fun w => by kernel_rfl)) .nil) 2 [(1, [slv ((List.replicate (f_brought 12 0 24).toNat (List.replicate 4 (0 : Int)))).length q1.1, slv (([] : List TMon)).length (GT.pdflt (α := List TMon)).1, slv (([] : List TEntry)).length (GT.pdflt (α := List TEntry)).1, slv (([] : List TEntry)).length (GT.pdflt (α := List TEntry)).1])] ?_; clear S; intro ac w β S
 refine (nt (ws (ws (rg ?_))))
 have l5 : (((all).take (((if 3 < ((all).length : Int) then 3 else ((all).length : Int))).toNat))).length = ((if 3 < ((all).length : Int) then 3 else ((all).length : Int))).toNat - 0 := by first | (simp; done) | (simp; omega)
 refine S.qg 7 [] [(12, .v (slv ((if 3 < ((all).length : Int) then 3 else ((all).length : Int))).toNat ((pall.1).sl 0 1))), (13, .v (I (((if 3 < ((all).length : Int) then 3 else ((all).length : Int))).toNat : Int))), (14, .v (I 0))] (.cons (Q_slice (hi := some (I (if 3 < ((all).length : Int) then 3 else ((all).length : Int)))) (S.arg hall) (l := (all).length) (a := 0) (b := ((if 3 < ((all).length : Int) then 3 else ((all).length : Int))).toNat) rfl (.inl ⟨rfl, rfl⟩) (.inr (congrArg (fun z => some (I z)) (show (if 3 < ((all).length : Int) then 3 else ((all).length : Int)) = ((((if 3 < ((all).length : Int) then 3 else ((all).length : Int))).toNat : Nat) : Int) by omega))) (by omega) (by omega) Try.underlying47 (by kernel_rfl)) .nil) ?_; clear S; intro ac w β S
 refine (nt (wp_block ?_))
 have o9 := S.nilOw (α := TMon)
 refine wp_loop_down (fun mm ac w => ∃ (k : Nat) (ms : List TMon) (q6 : GT.Ptr (List TMon)) (F7 : Bl) (u : World) (N : Bl) (β : Nat → Nat), mm = all.length - k ∧ (k ≤ all.length) ∧ (k ≤ 3) ∧ (ms = ((all.take 3).take k).map f_monNew) ∧ St Try.prog Try.f17.ntmps w0 NoB u N β ⟨[(2, .p 0 0), (3, .p 1 0), (12, .v (slv ((if 3 < ((all).length : Int) then 3 else ((all).length : Int))).toNat ((pall.1).sl 0 1))), (13, .v (I (((if 3 < ((all).length : Int) then 3 else ((all).length : Int))).toNat : Int))), (14, .v (I (k : Int)))], [Zc THost, [slv ((List.replicate (f_brought 12 0 24).toNat (List.replicate 4 (0 : Int)))).length q1.1, slv (ms).length q6.1, slv (([] : List TEntry)).length (GT.pdflt (α := List TEntry)).1, slv (([] : List TEntry)).length (GT.pdflt (α := List TEntry)).1]]⟩ ac w ∧ Ow w0 NoB u N F7 ms q6 ∧ Ow w0 NoB u N F2 (List.replicate (f_brought 12 0 24).toNat (List.replicate 4 (0 : Int))) q1 ∧ Disj F7 F2) _ ⟨0, ([] : List TMon), (GT.pdflt (α := List TMon)), NoB, _, _, _, rfl, (by first | omega | (simp; done) | (simp; omega)), (by first | omega | (simp; done) | (simp; omega)), (by rfl), S.z, o9, o3, (Disj.symm (fun b _ h => False.elim h))⟩ ?_
 clear S o3 o9
 rintro mm ac w ⟨k, ms, q6, F7, u, N, β, rfl, hk, hkm, hms, S, o8, o3, d10⟩
 have hlms : ms.length ≤ 3 := by rw [hms, List.length_map, List.length_take]; omega
 refine ws (rg ?_)
 refine S.qe 1 [] [(15, .v (B (decide ((k : Int) < (((if 3 < ((all).length : Int) then 3 else ((all).length : Int))).toNat : Int)))))] ?_; clear S; intro ac w β S
 refine (nt (ws (S.c (decide ((k : Int) < (((if 3 < ((all).length : Int) then 3 else ((all).length : Int))).toNat : Int))) (fun h11 => ?_) (fun h11 => ?_))))
 ·have g12 := of_decide_eq_true h11
  refine wk (nt (ws (wp_block (ws (rg ?_)))))
  refine S.qg 3 [] [(5, .v (slv ((el ((all).take (((if 3 < ((all).length : Int) then 3 else ((all).length : Int))).toNat)) k)).length (((pall.1).sl 0 1, fun i => pall.2 (0 + i)).2 k).1))] (.cons (Q_idx (show GT.rd KK _ _ ((all).take (((if 3 < ((all).length : Int) then 3 else ((all).length : Int))).toNat)) (((pall.1).sl 0 1, fun i => pall.2 (0 + i)) : LP (List (List TIns))) from rd_sl (S.arg hall) (a := 0) (b := ((if 3 < ((all).length : Int) then 3 else ((all).length : Int))).toNat) (by omega) (by omega)) (l := ((if 3 < ((all).length : Int) then 3 else ((all).length : Int))).toNat) (k := k) (i := (k : Int)) (by omega) rfl (by omega) Try.underlying47 (by kernel_rfl)) (.cons (Q_el1 (show GT.rd KK _ _ ((all).take (((if 3 < ((all).length : Int) then 3 else ((all).length : Int))).toNat)) (((pall.1).sl 0 1, fun i => pall.2 (0 + i)) : LP (List (List TIns))) from rd_sl (S.arg hall) (a := 0) (b := ((if 3 < ((all).length : Int) then 3 else ((all).length : Int))).toNat) (by omega) (by omega)) (t := 33) (k := k) (by omega) rfl (by kernel_rfl)) .nil)) ?_; clear S; intro ac w β S
  refine (nt ?_)
  refine S.draw0 (f := 8) 5 rfl rfl ?_
  clear S; intro w S
  refine S.hq 0 [1, 0] [] [(18, .p 1 1)] .nil ?_; clear S; intro ac S
  refine S.hq 1 [1] [] [(19, .v (slv (ms).length q6.1))] .nil ?_; clear S; intro ac S
  refine S.hq 2 [3, 2] [] [(20, .v (slv ((el ((all).take (((if 3 < ((all).length : Int) then 3 else ((all).length : Int))).toNat)) k)).length (((pall.1).sl 0 1, fun i => pall.2 (0 + i)).2 k).1))] .nil ?_; clear S; intro ac S
  refine WD.one (i := 3) (by kernel_rfl) ?_
  refine id (S.call1 (r := f_monNew (el ((all).take (((if 3 < ((all).length : Int) then 3 else ((all).length : Int))).toNat)) k)) (d := 21) (c_impl_MonNew w (el ((all).take (((if 3 < ((all).length : Int) then 3 else ((all).length : Int))).toNat)) k) (((pall.1).sl 0 1, fun i => pall.2 (0 + i)).2 k) (S.rd (LRd.el (show GT.rd KK _ _ ((all).take (((if 3 < ((all).length : Int) then 3 else ((all).length : Int))).toNat)) (((pall.1).sl 0 1, fun i => pall.2 (0 + i)) : LP (List (List TIns))) from rd_sl (S.arg hall) (a := 0) (b := ((if 3 < ((all).length : Int) then 3 else ((all).length : Int))).toNat) (by omega) (by omega)) k (by omega)))) (by kernel_rfl) rfl ?_)
  clear S; intro ac w N q13 F14 S up o15 d16
  refine WD.next S up (by kernel_rfl) ?_
  have d17 : Disj F7 F14 := fun b x y => d16 b (o8.sub b x) y
  have d18 : Disj F2 F14 := fun b x y => d16 b (o3.sub b x) y
  replace o8 := o8.up up
  replace o3 := o3.up up
  clear up d16
  have i34 : In64 (f_monNew (el ((all).take (((if 3 < ((all).length : Int) then 3 else ((all).length : Int))).toNat)) k)).pend := RMon.pend (d := (f_monNew (el ((all).take (((if 3 < ((all).length : Int) then 3 else ((all).length : Int))).toNat)) k))) o15.rn
  have i35 : In64 (f_monNew (el ((all).take (((if 3 < ((all).length : Int) then 3 else ((all).length : Int))).toNat)) k)).traps := RMon.traps (d := (f_monNew (el ((all).take (((if 3 < ((all).length : Int) then 3 else ((all).length : Int))).toNat)) k))) o15.rn
  have i39 : In64 (f_monNew (el ((all).take (((if 3 < ((all).length : Int) then 3 else ((all).length : Int))).toNat)) k)).owned := RMon.owned (d := (f_monNew (el ((all).take (((if 3 < ((all).length : Int) then 3 else ((all).length : Int))).toNat)) k))) o15.rn
  obtain ⟨F19, F22, F25, F28, F31, F36, o20, o23, o26, o29, o32, o37, s21, s24, s27, s30, s33, s38, d40, d41, d42, d43, d44, d45, d46, d47, d48, d49, d50, d51, d52, d53, d54⟩ := sp_Mon o15
  refine WD.one (i := 4) (by kernel_rfl) ?_
  have o59 := ow_Mon (x := (f_monNew (el ((all).take (((if 3 < ((all).length : Int) then 3 else ((all).length : Int))).toNat)) k))) (p := q13) o20 o23 o26 o29 o32 o37 d40 d41 d42 d43 d44 d45 d46 d47 d48 d49 d50 d51 d52 d53 d54 i34 i35 i39
  refine id (S.bs1 (α := TMon) (x := (f_monNew (el ((all).take (((if 3 < ((all).length : Int) then 3 else ((all).length : Int))).toNat)) k))) (p := q13) o59.own o59.sub o59.young (d := 22) (by kernel_rfl) ?_)
  clear S; intro ac w N q55 F56 S up o57 d58
  refine WD.next S up (by kernel_rfl) ?_
  have d60 : Disj F7 F56 := d58 _ (Disj.symm (Disj.or (Disj.part (Disj.symm d17) s21) (Disj.or (Disj.part (Disj.symm d17) s24) (Disj.or (Disj.part (Disj.symm d17) s27) (Disj.or (Disj.part (Disj.symm d17) s30) (Disj.or (Disj.part (Disj.symm d17) s33) (Disj.or (Disj.part (Disj.symm d17) s38) Disj.nob))))))) o8.sub
  have d61 : Disj F2 F56 := d58 _ (Disj.symm (Disj.or (Disj.part (Disj.symm d18) s21) (Disj.or (Disj.part (Disj.symm d18) s24) (Disj.or (Disj.part (Disj.symm d18) s27) (Disj.or (Disj.part (Disj.symm d18) s30) (Disj.or (Disj.part (Disj.symm d18) s33) (Disj.or (Disj.part (Disj.symm d18) s38) Disj.nob))))))) o3.sub
  replace o8 := o8.up up
  replace o3 := o3.up up
  clear up d58
  refine WD.one (i := 5) (by kernel_rfl) ?_
  refine id (S.appOwn (α := TMon) o8 o57 d60 (by' := 168) (d := 23) (lx := (ms).length) (ly := 1) rfl rfl (by kernel_rfl) (show _ ≤ 4194304 by simp only [List.length_append, List.length_cons, List.length_nil]; omega) ?_)
  clear S; intro ac w N q62 F63 S up o64 d65
  refine WD.last (by kernel_rfl) ?_
  have d66 : Disj F2 F63 := d65 _ (Disj.symm d10) d61 o3.sub
  replace o3 := o3.upF (Disj.symm d10) up
  clear up d65
  refine WD.one (i := 6) (by kernel_rfl) ?_
  refine S.stepq (i := 6) (keep := [2, 3, 12, 13, 14, 23, 24]) (m := 2) (σ' := ⟨[(2, .p 0 0), (3, .p 1 0), (12, .v (slv ((if 3 < ((all).length : Int) then 3 else ((all).length : Int))).toNat ((pall.1).sl 0 1))), (13, .v (I (((if 3 < ((all).length : Int) then 3 else ((all).length : Int))).toNat : Int))), (14, .v (I (k : Int))), (23, .v (slv ((ms ++ [(f_monNew (el ((all).take (((if 3 < ((all).length : Int) then 3 else ((all).length : Int))).toNat)) k))])).length q62.1)), (24, .p 1 1)], [Zc THost, [slv ((List.replicate (f_brought 12 0 24).toNat (List.replicate 4 (0 : Int)))).length q1.1, slv (ms).length q6.1, slv (([] : List TEntry)).length (GT.pdflt (α := List TEntry)).1, slv (([] : List TEntry)).length (GT.pdflt (α := List TEntry)).1]]⟩) .nil (by kernel_rfl) ?_
  clear S; intro ac w β S hβ
  refine WD.last (by kernel_rfl) ?_
  clear hβ
  refine WD.one (i := 7) (by kernel_rfl) ?_
  refine S.stepq (i := 7) (keep := [2, 3, 12, 13, 14]) (m := 2) (σ' := ⟨[(2, .p 0 0), (3, .p 1 0), (12, .v (slv ((if 3 < ((all).length : Int) then 3 else ((all).length : Int))).toNat ((pall.1).sl 0 1))), (13, .v (I (((if 3 < ((all).length : Int) then 3 else ((all).length : Int))).toNat : Int))), (14, .v (I (k : Int)))], [Zc THost, [slv ((List.replicate (f_brought 12 0 24).toNat (List.replicate 4 (0 : Int)))).length q1.1, slv ((ms ++ [(f_monNew (el ((all).take (((if 3 < ((all).length : Int) then 3 else ((all).length : Int))).toNat)) k))])).length q62.1, slv (([] : List TEntry)).length (GT.pdflt (α := List TEntry)).1, slv (([] : List TEntry)).length (GT.pdflt (α := List TEntry)).1]]⟩) .nil (by kernel_rfl) ?_
  clear S; intro ac w β S hβ
  refine WD.last (by kernel_rfl) ?_
  clear hβ
  refine WD.done (by kernel_rfl) ?_ _
  refine id (nb (nt (rg ?_)))
  refine S.qg 2 [] [(14, .v (I ((k : Int) + 1)))] (.cons (Q_add (x := (k : Int)) (y := 1) ⟨by omega, by omega⟩) .nil) ?_; clear S; intro ac w β S
  refine (nt ?_)
  refine ⟨all.length - (k + 1), by omega, k + 1, (ms ++ [(f_monNew (el ((all).take (((if 3 < ((all).length : Int) then 3 else ((all).length : Int))).toNat)) k))]), q62, F63, _, _, _, rfl, ?_, ?_, ?_, S.z, o64, o3, (Disj.symm d66)⟩
  ·clear S; first | omega | (simp [*]; done) | (simp [*]; omega)
  ·clear S; first | omega | (simp [*]; done) | (simp [*]; omega)
  ·clear S; (first | (rw [map_take_step (by omega) (by omega), ← hms]; done) | (rw [map_take_step (by omega) (by omega), ← hms, el_take (by omega)]))
 ·have g67 := of_decide_eq_false h11
  refine wp_exit (ex_then (ex_then (ex_hit (nt (ws (rg ?_))))))
  refine S.qem 2 [] [] 1 [(0, [slv ((List.replicate (f_brought 12 0 24).toNat (List.replicate 4 (0 : Int)))).length q1.1, slv (ms).length q6.1, slv (([] : List TEntry)).length (GT.pdflt (α := List TEntry)).1, slv (([] : List TEntry)).length (GT.pdflt (α := List TEntry)).1])] ?_; clear S; intro ac w β S
  refine (nt (wr (S.r [GT.val (⟨(List.replicate (f_brought 12 0 24).toNat (List.replicate 4 (0 : Int))), ms, ([] : List TEntry), ([] : List TEntry)⟩ : THost) (⟨q1, q6, (GT.pdflt (α := List TEntry)), (GT.pdflt (α := List TEntry))⟩ : PHost)] ?_)))
  have o68 := S.nilOw (α := TEntry)
  have o69 := S.nilOw (α := TEntry)
  have o70 := ow_Host (x := (⟨(List.replicate (f_brought 12 0 24).toNat (List.replicate 4 (0 : Int))), ms, ([] : List TEntry), ([] : List TEntry)⟩ : THost)) (p := (⟨q1, q6, (GT.pdflt (α := List TEntry)), (GT.pdflt (α := List TEntry))⟩ : PHost)) o3 o8 o68 o69 (Disj.symm d10) (fun b _ h => False.elim h) (fun b _ h => False.elim h) (fun b _ h => False.elim h) (fun b _ h => False.elim h) (fun b _ h => False.elim h) 
  exact ret1_of S (show f_hostNew all = (⟨(List.replicate (f_brought 12 0 24).toNat (List.replicate 4 (0 : Int))), ms, ([] : List TEntry), ([] : List TEntry)⟩ : THost) by clear S; (rw [hms, map_take_end (by omega)]; rfl)) rfl o70

theorem k0_laws_eqIntS {p : Prop} (h : p := by clear S; first | (simp; intro e; subst e; simp_all; done) | (simp; rw [take_all (by omega), take_all (by omega)] at he; exact he) | (simp; exact take_ne (by simp_all))) : p := h
set_option maxRecDepth 100000 in
theorem c_laws_eqIntS (w0 : World) (a : List Int) (pa : LP Int) (ha : GT.rd KK (Lt w0.heap.size) w0 a pa) (b : List Int) (pb : LP Int) (hb : GT.rd KK (Lt w0.heap.size) w0 b pb) : Calls Try.prog 37 [slv (a).length pa.1, slv (b).length pb.1].toArray w0 (fun e w' => e = .returned (B (decide (a = b))) ∧ Chg NoB w0 w') := by
 refine Calls.walk (args := [slv (a).length pa.1, slv (b).length pb.1]) NoB Try.func37 rfl rfl ?_
 intro ac β S
 have hlea : a.length ≤ 4194304 := LRd.le ha
 have hleb : b.length ≤ 4194304 := LRd.le hb
 refine ws (rg ?_)
 refine S.qe 1 [] [] ?_; clear S; intro ac w β S
 refine (nt (ws (ws (rg ?_))))
 refine S.qe 5 [] [(10, .v (B (((a).length : Int) != ((b).length : Int))))] ?_; clear S; intro ac w β S
 refine (nt (S.c (((a).length : Int) != ((b).length : Int)) (fun h1 => ?_) (fun h1 => ?_)))
 ·have g2 : ¬ (((a).length : Int) = ((b).length : Int)) := bne_iff_ne.1 h1
  refine ws (rg ?_)
  refine S.qe 1 [] [(4, .v (B false))] ?_; clear S; intro ac w β S
  exact (nt (wr (rt (S.r [B false] ⟨retB k0_laws_eqIntS, S.chg⟩))))
 ·have g3 : ((a).length : Int) = ((b).length : Int) := ne_f h1
  refine wk (nt (ws (ws (rg ?_))))
  refine S.qe 1 [] [(5, .v (I 0))] ?_; clear S; intro ac w β S
  refine (nt (wp_block ?_))
  refine wp_loop_down (fun mm ac w => ∃ (k : Nat)  (u : World) (N : Bl) (β : Nat → Nat), mm = a.length - k ∧ (k ≤ a.length) ∧ (a.length = b.length) ∧ (a.take k = b.take k) ∧ St Try.prog Try.f37.ntmps w0 NoB u N β ⟨[(0, .v (slv (a).length pa.1)), (1, .v (slv (b).length pb.1)), (5, .v (I (k : Int)))], []⟩ ac w) _ ⟨0, _, _, _, rfl, (by first | omega | (simp; done) | (simp; omega)), (by first | omega | (simp; done) | (simp; omega)), (by simp), S.z⟩ ?_
  clear S
  rintro mm ac w ⟨k, u, N, β, rfl, hk, hab, he, S⟩
  refine ws (ws (rg ?_))
  refine S.qe 4 [] [(14, .v (B (decide ((k : Int) < ((a).length : Int)))))] ?_; clear S; intro ac w β S
  refine (nt (S.c (decide ((k : Int) < ((a).length : Int))) (fun h4 => ?_) (fun h4 => ?_)))
  ·have g5 := of_decide_eq_true h4
   refine wk (nt (ws (wp_block (ws ?_))))
   refine S.drawn (keep := [0, 1, 5, 25]) (m := 0) (σ' := ⟨[(0, .v (slv (a).length pa.1)), (1, .v (slv (b).length pb.1)), (5, .v (I (k : Int))), (25, .v (B ((el a k) != (el b k))))], []⟩) (.cons (Q_idx (S.arg ha) (l := (a).length) (k := k) (i := (k : Int)) rfl rfl (by omega) Try.underlying28 (by kernel_rfl)) (.cons (Q_el1 (S.arg ha) (t := 3) (k := k) (by omega) rfl (by kernel_rfl)) (.cons (Q_idx (S.arg hb) (l := (b).length) (k := k) (i := (k : Int)) rfl rfl (by omega) Try.underlying28 (by kernel_rfl)) (.cons (Q_el1 (S.arg hb) (t := 3) (k := k) (by omega) rfl (by kernel_rfl)) .nil)))) rfl (by kernel_rfl) (by kernel_rfl) ?_
   clear S; intro ac w S
   refine id (nt (S.c ((el a k) != (el b k)) (fun h6 => ?_) (fun h6 => ?_)))
   ·have g7 : ¬ ((el a k) = (el b k)) := bne_iff_ne.1 h6
    refine ws (rg ?_)
    refine S.qe 1 [] [(4, .v (B false))] ?_; clear S; intro ac w β S
    exact (nt (wr (rb (rt (rt (rb (rt (S.r [B false] ⟨retB k0_laws_eqIntS, S.chg⟩))))))))
   ·have g8 : (el a k) = (el b k) := ne_f h6
    refine wk (nb (nt (rg ?_)))
    refine S.qg 3 [] [(5, .v (I ((k : Int) + 1)))] (.cons (Q_add (x := (k : Int)) (y := 1) ⟨by omega, by omega⟩) .nil) ?_; clear S; intro ac w β S
    refine (nt ?_)
    refine ⟨a.length - (k + 1), by omega, k + 1, _, _, _, rfl, ?_, ?_, ?_, S.z⟩
    ·clear S; first | omega | (simp [*]; done) | (simp [*]; omega)
    ·clear S; first | omega | (simp [*]; done) | (simp [*]; omega)
    ·clear S; exact take_eq_step (by omega) (by omega) he (by simp_all)
  ·have g9 := of_decide_eq_false h4
   refine wp_exit (ex_then (ex_then (ex_hit (nt (ws (rg ?_))))))
   refine S.qe 1 [] [(4, .v (B true))] ?_; clear S; intro ac w β S
   exact (nt (wr (S.r [B true] ⟨retB k0_laws_eqIntS, S.chg⟩)))

theorem k0_laws_eqIntSS {p : Prop} (h : p := by clear S; first | (simp; intro e; subst e; simp_all; done) | (simp; rw [take_all (by omega), take_all (by omega)] at he; exact he) | (simp; exact take_ne (by simp_all))) : p := h
set_option maxRecDepth 100000 in
theorem c_laws_eqIntSS (w0 : World) (a : List (List Int)) (pa : LP (List Int)) (ha : GT.rd KK (Lt w0.heap.size) w0 a pa) (b : List (List Int)) (pb : LP (List Int)) (hb : GT.rd KK (Lt w0.heap.size) w0 b pb) : Calls Try.prog 34 [slv (a).length pa.1, slv (b).length pb.1].toArray w0 (fun e w' => e = .returned (B (decide (a = b))) ∧ Chg NoB w0 w') := by
 refine Calls.walk (args := [slv (a).length pa.1, slv (b).length pb.1]) NoB Try.func34 rfl rfl ?_
 intro ac β S
 have hlea : a.length ≤ 4194304 := LRd.le ha
 have hleb : b.length ≤ 4194304 := LRd.le hb
 refine ws (rg ?_)
 refine S.qe 1 [] [] ?_; clear S; intro ac w β S
 refine (nt (ws (ws (rg ?_))))
 refine S.qe 5 [] [(10, .v (B (((a).length : Int) != ((b).length : Int))))] ?_; clear S; intro ac w β S
 refine (nt (S.c (((a).length : Int) != ((b).length : Int)) (fun h1 => ?_) (fun h1 => ?_)))
 ·have g2 : ¬ (((a).length : Int) = ((b).length : Int)) := bne_iff_ne.1 h1
  refine ws (rg ?_)
  refine S.qe 1 [] [(4, .v (B false))] ?_; clear S; intro ac w β S
  exact (nt (wr (rt (S.r [B false] ⟨retB k0_laws_eqIntSS, S.chg⟩))))
 ·have g3 : ((a).length : Int) = ((b).length : Int) := ne_f h1
  refine wk (nt (ws (ws (rg ?_))))
  refine S.qe 1 [] [(5, .v (I 0))] ?_; clear S; intro ac w β S
  refine (nt (wp_block ?_))
  refine wp_loop_down (fun mm ac w => ∃ (k : Nat)  (u : World) (N : Bl) (β : Nat → Nat), mm = a.length - k ∧ (k ≤ a.length) ∧ (a.length = b.length) ∧ (a.take k = b.take k) ∧ St Try.prog Try.f34.ntmps w0 NoB u N β ⟨[(0, .v (slv (a).length pa.1)), (1, .v (slv (b).length pb.1)), (5, .v (I (k : Int)))], []⟩ ac w) _ ⟨0, _, _, _, rfl, (by first | omega | (simp; done) | (simp; omega)), (by first | omega | (simp; done) | (simp; omega)), (by simp), S.z⟩ ?_
  clear S
  rintro mm ac w ⟨k, u, N, β, rfl, hk, hab, he, S⟩
  refine ws (ws (rg ?_))
  refine S.qe 4 [] [(14, .v (B (decide ((k : Int) < ((a).length : Int)))))] ?_; clear S; intro ac w β S
  refine (nt (S.c (decide ((k : Int) < ((a).length : Int))) (fun h4 => ?_) (fun h4 => ?_)))
  ·have g5 := of_decide_eq_true h4
   refine wk (nt (ws (wp_block (ws ?_))))
   refine S.drawn (keep := [0, 1, 5, 26]) (m := 0) (σ' := ⟨[(0, .v (slv (a).length pa.1)), (1, .v (slv (b).length pb.1)), (5, .v (I (k : Int))), (26, .v (B (!(decide ((el a k) = (el b k))))))], []⟩) (.cons (Q_idx (S.arg ha) (l := (a).length) (k := k) (i := (k : Int)) rfl rfl (by omega) Try.underlying25 (by kernel_rfl)) (.cons (Q_el1 (S.arg ha) (t := 28) (k := k) (by omega) rfl (by kernel_rfl)) (.cons (Q_idx (S.arg hb) (l := (b).length) (k := k) (i := (k : Int)) rfl rfl (by omega) Try.underlying25 (by kernel_rfl)) (.cons (Q_el1 (S.arg hb) (t := 28) (k := k) (by omega) rfl (by kernel_rfl)) (.cons (Q_call fun w hw => c_laws_eqIntS w (el a k) (pa.2 k) (rd_of (LRd.el (S.arg ha) k (by omega)) hw) (el b k) (pb.2 k) (rd_of (LRd.el (S.arg hb) k (by omega)) hw)) .nil))))) rfl (by kernel_rfl) (by kernel_rfl) ?_
   clear S; intro ac w S
   refine id (nt (S.c (!(decide ((el a k) = (el b k)))) (fun h6 => ?_) (fun h6 => ?_)))
   ·have h7 := not_t h6
    have g8 := of_decide_eq_false h7
    refine ws (rg ?_)
    refine S.qe 1 [] [(4, .v (B false))] ?_; clear S; intro ac w β S
    exact (nt (wr (rb (rt (rt (rb (rt (S.r [B false] ⟨retB k0_laws_eqIntSS, S.chg⟩))))))))
   ·have h9 := not_f h6
    have g10 := of_decide_eq_true h9
    refine wk (nb (nt (rg ?_)))
    refine S.qg 3 [] [(5, .v (I ((k : Int) + 1)))] (.cons (Q_add (x := (k : Int)) (y := 1) ⟨by omega, by omega⟩) .nil) ?_; clear S; intro ac w β S
    refine (nt ?_)
    refine ⟨a.length - (k + 1), by omega, k + 1, _, _, _, rfl, ?_, ?_, ?_, S.z⟩
    ·clear S; first | omega | (simp [*]; done) | (simp [*]; omega)
    ·clear S; first | omega | (simp [*]; done) | (simp [*]; omega)
    ·clear S; exact take_eq_step (by omega) (by omega) he (by simp_all)
  ·have g11 := of_decide_eq_false h4
   refine wp_exit (ex_then (ex_then (ex_hit (nt (ws (rg ?_))))))
   refine S.qe 1 [] [(4, .v (B true))] ?_; clear S; intro ac w β S
   exact (nt (wr (S.r [B true] ⟨retB k0_laws_eqIntSS, S.chg⟩)))

theorem k0_laws_eqSlot {p : Prop} (h : p := by clear S; first | (simp [TSlot.ext_iff, *]; done) | (simp_all [TSlot.ext_iff]; done)) : p := h
set_option maxRecDepth 100000 in
theorem c_laws_eqSlot (w0 : World) (a : TSlot) (b : TSlot) : Calls Try.prog 66 [GT.val a (), GT.val b ()].toArray w0 (fun e w' => e = .returned (B (decide (a = b))) ∧ Chg NoB w0 w') := by
 refine Calls.walk (args := [GT.val a (), GT.val b ()]) NoB Try.func66 rfl rfl ?_
 intro ac β S
 refine ws (rg ?_)
 refine S.qem 3 [] [(2, .p 0 0), (3, .p 1 0)] 2 [(0, GT.cells a ()), (1, GT.cells b ())] ?_; clear S; intro ac w β S
 refine (nt (ws (ws (rg ?_))))
 refine S.qe 5 [] [(9, .v (B (a.page != b.page)))] ?_; clear S; intro ac w β S
 refine (nt (S.c (a.page != b.page) (fun h1 => ?_) (fun h1 => ?_)))
 ·have g2 : ¬ (a.page = b.page) := bne_iff_ne.1 h1
  refine ws (rg ?_)
  refine S.qe 1 [] [(4, .v (B false))] ?_; clear S; intro ac w β S
  exact (nt (wr (rt (S.r [B false] ⟨retB k0_laws_eqSlot, S.chg⟩))))
 ·have g3 : a.page = b.page := ne_f h1
  refine wk (nt (ws (ws (rg ?_))))
  refine S.qem 5 [] [(14, .v (B (a.rights != b.rights)))] 0 [] ?_; clear S; intro ac w β S
  refine (nt (S.c (a.rights != b.rights) (fun h4 => ?_) (fun h4 => ?_)))
  ·have g5 : ¬ (a.rights = b.rights) := bne_iff_ne.1 h4
   refine ws (rg ?_)
   refine S.qe 1 [] [(4, .v (B false))] ?_; clear S; intro ac w β S
   exact (nt (wr (rt (S.r [B false] ⟨retB k0_laws_eqSlot, S.chg⟩))))
  ·have g6 : a.rights = b.rights := ne_f h4
   refine wk (nt (ws (rg ?_)))
   refine S.qe 1 [] [(4, .v (B true))] ?_; clear S; intro ac w β S
   exact (nt (wr (S.r [B true] ⟨retB k0_laws_eqSlot, S.chg⟩)))

theorem k0_laws_eqSlotS {p : Prop} (h : p := by clear S; first | (simp; intro e; subst e; simp_all; done) | (simp; rw [take_all (by omega), take_all (by omega)] at he; exact he) | (simp; exact take_ne (by simp_all))) : p := h
set_option maxRecDepth 100000 in
theorem c_laws_eqSlotS (w0 : World) (a : List TSlot) (pa : LP TSlot) (ha : GT.rd KK (Lt w0.heap.size) w0 a pa) (b : List TSlot) (pb : LP TSlot) (hb : GT.rd KK (Lt w0.heap.size) w0 b pb) : Calls Try.prog 33 [slv (a).length pa.1, slv (b).length pb.1].toArray w0 (fun e w' => e = .returned (B (decide (a = b))) ∧ Chg NoB w0 w') := by
 refine Calls.walk (args := [slv (a).length pa.1, slv (b).length pb.1]) NoB Try.func33 rfl rfl ?_
 intro ac β S
 have hlea : a.length ≤ 4194304 := LRd.le ha
 have hleb : b.length ≤ 4194304 := LRd.le hb
 refine ws (rg ?_)
 refine S.qe 1 [] [] ?_; clear S; intro ac w β S
 refine (nt (ws (ws (rg ?_))))
 refine S.qe 5 [] [(10, .v (B (((a).length : Int) != ((b).length : Int))))] ?_; clear S; intro ac w β S
 refine (nt (S.c (((a).length : Int) != ((b).length : Int)) (fun h1 => ?_) (fun h1 => ?_)))
 ·have g2 : ¬ (((a).length : Int) = ((b).length : Int)) := bne_iff_ne.1 h1
  refine ws (rg ?_)
  refine S.qe 1 [] [(4, .v (B false))] ?_; clear S; intro ac w β S
  exact (nt (wr (rt (S.r [B false] ⟨retB k0_laws_eqSlotS, S.chg⟩))))
 ·have g3 : ((a).length : Int) = ((b).length : Int) := ne_f h1
  refine wk (nt (ws (ws (rg ?_))))
  refine S.qe 1 [] [(5, .v (I 0))] ?_; clear S; intro ac w β S
  refine (nt (wp_block ?_))
  refine wp_loop_down (fun mm ac w => ∃ (k : Nat)  (u : World) (N : Bl) (β : Nat → Nat), mm = a.length - k ∧ (k ≤ a.length) ∧ (a.length = b.length) ∧ (a.take k = b.take k) ∧ St Try.prog Try.f33.ntmps w0 NoB u N β ⟨[(0, .v (slv (a).length pa.1)), (1, .v (slv (b).length pb.1)), (5, .v (I (k : Int)))], []⟩ ac w) _ ⟨0, _, _, _, rfl, (by first | omega | (simp; done) | (simp; omega)), (by first | omega | (simp; done) | (simp; omega)), (by simp), S.z⟩ ?_
  clear S
  rintro mm ac w ⟨k, u, N, β, rfl, hk, hab, he, S⟩
  refine ws (ws (rg ?_))
  refine S.qe 4 [] [(14, .v (B (decide ((k : Int) < ((a).length : Int)))))] ?_; clear S; intro ac w β S
  refine (nt (S.c (decide ((k : Int) < ((a).length : Int))) (fun h4 => ?_) (fun h4 => ?_)))
  ·have g5 := of_decide_eq_true h4
   refine wk (nt (ws (wp_block (ws ?_))))
   refine S.drawn (keep := [0, 1, 5, 26]) (m := 0) (σ' := ⟨[(0, .v (slv (a).length pa.1)), (1, .v (slv (b).length pb.1)), (5, .v (I (k : Int))), (26, .v (B (!(decide ((el a k) = (el b k))))))], []⟩) (.cons (Q_idx (S.arg ha) (l := (a).length) (k := k) (i := (k : Int)) rfl rfl (by omega) Try.underlying24 (by kernel_rfl)) (.cons (Q_el (S.arg ha) (t := 90) (k := k) (by omega) rfl (by kernel_rfl) (by kernel_rfl)) (.cons (Q_idx (S.arg hb) (l := (b).length) (k := k) (i := (k : Int)) rfl rfl (by omega) Try.underlying24 (by kernel_rfl)) (.cons (Q_el (S.arg hb) (t := 90) (k := k) (by omega) rfl (by kernel_rfl) (by kernel_rfl)) (.cons (Q_call fun w hw => c_laws_eqSlot w (el a k) (el b k)) .nil))))) rfl (by kernel_rfl) (by kernel_rfl) ?_
   clear S; intro ac w S
   refine id (nt (S.c (!(decide ((el a k) = (el b k)))) (fun h6 => ?_) (fun h6 => ?_)))
   ·have h7 := not_t h6
    have g8 := of_decide_eq_false h7
    refine ws (rg ?_)
    refine S.qe 1 [] [(4, .v (B false))] ?_; clear S; intro ac w β S
    exact (nt (wr (rb (rt (rt (rb (rt (S.r [B false] ⟨retB k0_laws_eqSlotS, S.chg⟩))))))))
   ·have h9 := not_f h6
    have g10 := of_decide_eq_true h9
    refine wk (nb (nt (rg ?_)))
    refine S.qg 3 [] [(5, .v (I ((k : Int) + 1)))] (.cons (Q_add (x := (k : Int)) (y := 1) ⟨by omega, by omega⟩) .nil) ?_; clear S; intro ac w β S
    refine (nt ?_)
    refine ⟨a.length - (k + 1), by omega, k + 1, _, _, _, rfl, ?_, ?_, ?_, S.z⟩
    ·clear S; first | omega | (simp [*]; done) | (simp [*]; omega)
    ·clear S; first | omega | (simp [*]; done) | (simp [*]; omega)
    ·clear S; exact take_eq_step (by omega) (by omega) he (by simp_all)
  ·have g11 := of_decide_eq_false h4
   refine wp_exit (ex_then (ex_then (ex_hit (nt (ws (rg ?_))))))
   refine S.qe 1 [] [(4, .v (B true))] ?_; clear S; intro ac w β S
   exact (nt (wr (S.r [B true] ⟨retB k0_laws_eqSlotS, S.chg⟩)))

theorem k0_laws_eqBoolS {p : Prop} (h : p := by clear S; first | (simp; intro e; subst e; simp_all; done) | (simp; rw [take_all (by omega), take_all (by omega)] at he; exact he) | (simp; exact take_ne (by simp_all))) : p := h
set_option maxRecDepth 100000 in
theorem c_laws_eqBoolS (w0 : World) (a : List Bool) (pa : LP Bool) (ha : GT.rd KK (Lt w0.heap.size) w0 a pa) (b : List Bool) (pb : LP Bool) (hb : GT.rd KK (Lt w0.heap.size) w0 b pb) : Calls Try.prog 35 [slv (a).length pa.1, slv (b).length pb.1].toArray w0 (fun e w' => e = .returned (B (decide (a = b))) ∧ Chg NoB w0 w') := by
 refine Calls.walk (args := [slv (a).length pa.1, slv (b).length pb.1]) NoB Try.func35 rfl rfl ?_
 intro ac β S
 have hlea : a.length ≤ 4194304 := LRd.le ha
 have hleb : b.length ≤ 4194304 := LRd.le hb
 refine ws (rg ?_)
 refine S.qe 1 [] [] ?_; clear S; intro ac w β S
 refine (nt (ws (ws (rg ?_))))
 refine S.qe 5 [] [(10, .v (B (((a).length : Int) != ((b).length : Int))))] ?_; clear S; intro ac w β S
 refine (nt (S.c (((a).length : Int) != ((b).length : Int)) (fun h1 => ?_) (fun h1 => ?_)))
 ·have g2 : ¬ (((a).length : Int) = ((b).length : Int)) := bne_iff_ne.1 h1
  refine ws (rg ?_)
  refine S.qe 1 [] [(4, .v (B false))] ?_; clear S; intro ac w β S
  exact (nt (wr (rt (S.r [B false] ⟨retB k0_laws_eqBoolS, S.chg⟩))))
 ·have g3 : ((a).length : Int) = ((b).length : Int) := ne_f h1
  refine wk (nt (ws (ws (rg ?_))))
  refine S.qe 1 [] [(5, .v (I 0))] ?_; clear S; intro ac w β S
  refine (nt (wp_block ?_))
  refine wp_loop_down (fun mm ac w => ∃ (k : Nat)  (u : World) (N : Bl) (β : Nat → Nat), mm = a.length - k ∧ (k ≤ a.length) ∧ (a.length = b.length) ∧ (a.take k = b.take k) ∧ St Try.prog Try.f35.ntmps w0 NoB u N β ⟨[(0, .v (slv (a).length pa.1)), (1, .v (slv (b).length pb.1)), (5, .v (I (k : Int)))], []⟩ ac w) _ ⟨0, _, _, _, rfl, (by first | omega | (simp; done) | (simp; omega)), (by first | omega | (simp; done) | (simp; omega)), (by simp), S.z⟩ ?_
  clear S
  rintro mm ac w ⟨k, u, N, β, rfl, hk, hab, he, S⟩
  refine ws (ws (rg ?_))
  refine S.qe 4 [] [(14, .v (B (decide ((k : Int) < ((a).length : Int)))))] ?_; clear S; intro ac w β S
  refine (nt (S.c (decide ((k : Int) < ((a).length : Int))) (fun h4 => ?_) (fun h4 => ?_)))
  ·have g5 := of_decide_eq_true h4
   refine wk (nt (ws (wp_block (ws ?_))))
   refine S.drawn (keep := [0, 1, 5, 25]) (m := 0) (σ' := ⟨[(0, .v (slv (a).length pa.1)), (1, .v (slv (b).length pb.1)), (5, .v (I (k : Int))), (25, .v (B (!((el a k) == (el b k)))))], []⟩) (.cons (Q_idx (S.arg ha) (l := (a).length) (k := k) (i := (k : Int)) rfl rfl (by omega) Try.underlying26 (by kernel_rfl)) (.cons (Q_el1 (S.arg ha) (t := 4) (k := k) (by omega) rfl (by kernel_rfl)) (.cons (Q_idx (S.arg hb) (l := (b).length) (k := k) (i := (k : Int)) rfl rfl (by omega) Try.underlying26 (by kernel_rfl)) (.cons (Q_el1 (S.arg hb) (t := 4) (k := k) (by omega) rfl (by kernel_rfl)) .nil)))) rfl (by kernel_rfl) (by kernel_rfl) ?_
   clear S; intro ac w S
   refine id (nt (S.c (!((el a k) == (el b k))) (fun h6 => ?_) (fun h6 => ?_)))
   ·have h7 := not_t h6
    have g8 : ¬ ((el a k) = (el b k)) := ne_of_beq_false h7
    refine ws (rg ?_)
    refine S.qe 1 [] [(4, .v (B false))] ?_; clear S; intro ac w β S
    exact (nt (wr (rb (rt (rt (rb (rt (S.r [B false] ⟨retB k0_laws_eqBoolS, S.chg⟩))))))))
   ·have h9 := not_f h6
    have g10 : (el a k) = (el b k) := eq_of_beq h9
    refine wk (nb (nt (rg ?_)))
    refine S.qg 3 [] [(5, .v (I ((k : Int) + 1)))] (.cons (Q_add (x := (k : Int)) (y := 1) ⟨by omega, by omega⟩) .nil) ?_; clear S; intro ac w β S
    refine (nt ?_)
    refine ⟨a.length - (k + 1), by omega, k + 1, _, _, _, rfl, ?_, ?_, ?_, S.z⟩
    ·clear S; first | omega | (simp [*]; done) | (simp [*]; omega)
    ·clear S; first | omega | (simp [*]; done) | (simp [*]; omega)
    ·clear S; exact take_eq_step (by omega) (by omega) he (by simp_all)
  ·have g11 := of_decide_eq_false h4
   refine wp_exit (ex_then (ex_then (ex_hit (nt (ws (rg ?_))))))
   refine S.qe 1 [] [(4, .v (B true))] ?_; clear S; intro ac w β S
   exact (nt (wr (S.r [B true] ⟨retB k0_laws_eqBoolS, S.chg⟩)))

theorem k0_laws_eqIns {p : Prop} (h : p := by clear S; first | (simp [TIns.ext_iff, *]; done) | (simp_all [TIns.ext_iff]; done)) : p := h
set_option maxRecDepth 100000 in
theorem c_laws_eqIns (w0 : World) (a : TIns) (b : TIns) : Calls Try.prog 69 [GT.val a (), GT.val b ()].toArray w0 (fun e w' => e = .returned (B (decide (a = b))) ∧ Chg NoB w0 w') := by
 refine Calls.walk (args := [GT.val a (), GT.val b ()]) NoB Try.func69 rfl rfl ?_
 intro ac β S
 refine ws (rg ?_)
 refine S.qem 3 [] [(2, .p 0 0), (3, .p 1 0)] 2 [(0, GT.cells a ()), (1, GT.cells b ())] ?_; clear S; intro ac w β S
 refine (nt (ws (ws (rg ?_))))
 refine S.qe 5 [] [(9, .v (B (a.opc != b.opc)))] ?_; clear S; intro ac w β S
 refine (nt (S.c (a.opc != b.opc) (fun h1 => ?_) (fun h1 => ?_)))
 ·have g2 : ¬ (a.opc = b.opc) := bne_iff_ne.1 h1
  refine ws (rg ?_)
  refine S.qe 1 [] [(4, .v (B false))] ?_; clear S; intro ac w β S
  exact (nt (wr (rt (S.r [B false] ⟨retB k0_laws_eqIns, S.chg⟩))))
 ·have g3 : a.opc = b.opc := ne_f h1
  refine wk (nt (ws (ws (rg ?_))))
  refine S.qem 5 [] [(14, .v (B (a.x != b.x)))] 0 [] ?_; clear S; intro ac w β S
  refine (nt (S.c (a.x != b.x) (fun h4 => ?_) (fun h4 => ?_)))
  ·have g5 : ¬ (a.x = b.x) := bne_iff_ne.1 h4
   refine ws (rg ?_)
   refine S.qe 1 [] [(4, .v (B false))] ?_; clear S; intro ac w β S
   exact (nt (wr (rt (S.r [B false] ⟨retB k0_laws_eqIns, S.chg⟩))))
  ·have g6 : a.x = b.x := ne_f h4
   refine wk (nt (ws (rg ?_)))
   refine S.qe 1 [] [(4, .v (B true))] ?_; clear S; intro ac w β S
   exact (nt (wr (S.r [B true] ⟨retB k0_laws_eqIns, S.chg⟩)))

theorem k0_laws_eqInsS {p : Prop} (h : p := by clear S; first | (simp; intro e; subst e; simp_all; done) | (simp; rw [take_all (by omega), take_all (by omega)] at he; exact he) | (simp; exact take_ne (by simp_all))) : p := h
set_option maxRecDepth 100000 in
theorem c_laws_eqInsS (w0 : World) (a : List TIns) (pa : LP TIns) (ha : GT.rd KK (Lt w0.heap.size) w0 a pa) (b : List TIns) (pb : LP TIns) (hb : GT.rd KK (Lt w0.heap.size) w0 b pb) : Calls Try.prog 39 [slv (a).length pa.1, slv (b).length pb.1].toArray w0 (fun e w' => e = .returned (B (decide (a = b))) ∧ Chg NoB w0 w') := by
 refine Calls.walk (args := [slv (a).length pa.1, slv (b).length pb.1]) NoB Try.func39 rfl rfl ?_
 intro ac β S
 have hlea : a.length ≤ 4194304 := LRd.le ha
 have hleb : b.length ≤ 4194304 := LRd.le hb
 refine ws (rg ?_)
 refine S.qe 1 [] [] ?_; clear S; intro ac w β S
 refine (nt (ws (ws (rg ?_))))
 refine S.qe 5 [] [(10, .v (B (((a).length : Int) != ((b).length : Int))))] ?_; clear S; intro ac w β S
 refine (nt (S.c (((a).length : Int) != ((b).length : Int)) (fun h1 => ?_) (fun h1 => ?_)))
 ·have g2 : ¬ (((a).length : Int) = ((b).length : Int)) := bne_iff_ne.1 h1
  refine ws (rg ?_)
  refine S.qe 1 [] [(4, .v (B false))] ?_; clear S; intro ac w β S
  exact (nt (wr (rt (S.r [B false] ⟨retB k0_laws_eqInsS, S.chg⟩))))
 ·have g3 : ((a).length : Int) = ((b).length : Int) := ne_f h1
  refine wk (nt (ws (ws (rg ?_))))
  refine S.qe 1 [] [(5, .v (I 0))] ?_; clear S; intro ac w β S
  refine (nt (wp_block ?_))
  refine wp_loop_down (fun mm ac w => ∃ (k : Nat)  (u : World) (N : Bl) (β : Nat → Nat), mm = a.length - k ∧ (k ≤ a.length) ∧ (a.length = b.length) ∧ (a.take k = b.take k) ∧ St Try.prog Try.f39.ntmps w0 NoB u N β ⟨[(0, .v (slv (a).length pa.1)), (1, .v (slv (b).length pb.1)), (5, .v (I (k : Int)))], []⟩ ac w) _ ⟨0, _, _, _, rfl, (by first | omega | (simp; done) | (simp; omega)), (by first | omega | (simp; done) | (simp; omega)), (by simp), S.z⟩ ?_
  clear S
  rintro mm ac w ⟨k, u, N, β, rfl, hk, hab, he, S⟩
  refine ws (ws (rg ?_))
  refine S.qe 4 [] [(14, .v (B (decide ((k : Int) < ((a).length : Int)))))] ?_; clear S; intro ac w β S
  refine (nt (S.c (decide ((k : Int) < ((a).length : Int))) (fun h4 => ?_) (fun h4 => ?_)))
  ·have g5 := of_decide_eq_true h4
   refine wk (nt (ws (wp_block (ws ?_))))
   refine S.drawn (keep := [0, 1, 5, 26]) (m := 0) (σ' := ⟨[(0, .v (slv (a).length pa.1)), (1, .v (slv (b).length pb.1)), (5, .v (I (k : Int))), (26, .v (B (!(decide ((el a k) = (el b k))))))], []⟩) (.cons (Q_idx (S.arg ha) (l := (a).length) (k := k) (i := (k : Int)) rfl rfl (by omega) Try.underlying58 (by kernel_rfl)) (.cons (Q_el (S.arg ha) (t := 93) (k := k) (by omega) rfl (by kernel_rfl) (by kernel_rfl)) (.cons (Q_idx (S.arg hb) (l := (b).length) (k := k) (i := (k : Int)) rfl rfl (by omega) Try.underlying58 (by kernel_rfl)) (.cons (Q_el (S.arg hb) (t := 93) (k := k) (by omega) rfl (by kernel_rfl) (by kernel_rfl)) (.cons (Q_call fun w hw => c_laws_eqIns w (el a k) (el b k)) .nil))))) rfl (by kernel_rfl) (by kernel_rfl) ?_
   clear S; intro ac w S
   refine id (nt (S.c (!(decide ((el a k) = (el b k)))) (fun h6 => ?_) (fun h6 => ?_)))
   ·have h7 := not_t h6
    have g8 := of_decide_eq_false h7
    refine ws (rg ?_)
    refine S.qe 1 [] [(4, .v (B false))] ?_; clear S; intro ac w β S
    exact (nt (wr (rb (rt (rt (rb (rt (S.r [B false] ⟨retB k0_laws_eqInsS, S.chg⟩))))))))
   ·have h9 := not_f h6
    have g10 := of_decide_eq_true h9
    refine wk (nb (nt (rg ?_)))
    refine S.qg 3 [] [(5, .v (I ((k : Int) + 1)))] (.cons (Q_add (x := (k : Int)) (y := 1) ⟨by omega, by omega⟩) .nil) ?_; clear S; intro ac w β S
    refine (nt ?_)
    refine ⟨a.length - (k + 1), by omega, k + 1, _, _, _, rfl, ?_, ?_, ?_, S.z⟩
    ·clear S; first | omega | (simp [*]; done) | (simp [*]; omega)
    ·clear S; first | omega | (simp [*]; done) | (simp [*]; omega)
    ·clear S; exact take_eq_step (by omega) (by omega) he (by simp_all)
  ·have g11 := of_decide_eq_false h4
   refine wp_exit (ex_then (ex_then (ex_hit (nt (ws (rg ?_))))))
   refine S.qe 1 [] [(4, .v (B true))] ?_; clear S; intro ac w β S
   exact (nt (wr (S.r [B true] ⟨retB k0_laws_eqInsS, S.chg⟩)))

theorem k0_laws_eqCtl {p : Prop} (h : p := by clear S; first | (simp [TCtl.ext_iff, *]; done) | (simp_all [TCtl.ext_iff]; done)) : p := h
set_option maxRecDepth 100000 in
theorem c_laws_eqCtl (w0 : World) (a : TCtl) (b : TCtl) : Calls Try.prog 73 [GT.val a (), GT.val b ()].toArray w0 (fun e w' => e = .returned (B (decide (a = b))) ∧ Chg NoB w0 w') := by
 refine Calls.walk (args := [GT.val a (), GT.val b ()]) NoB Try.func73 rfl rfl ?_
 intro ac β S
 refine ws (rg ?_)
 refine S.qem 3 [] [(2, .p 0 0), (3, .p 1 0)] 2 [(0, GT.cells a ()), (1, GT.cells b ())] ?_; clear S; intro ac w β S
 refine (nt (ws (ws (rg ?_))))
 refine S.qe 5 [] [(9, .v (B (a.traps != b.traps)))] ?_; clear S; intro ac w β S
 refine (nt (S.c (a.traps != b.traps) (fun h1 => ?_) (fun h1 => ?_)))
 ·have g2 : ¬ (a.traps = b.traps) := bne_iff_ne.1 h1
  refine ws (rg ?_)
  refine S.qe 1 [] [(4, .v (B false))] ?_; clear S; intro ac w β S
  exact (nt (wr (rt (S.r [B false] ⟨retB k0_laws_eqCtl, S.chg⟩))))
 ·have g3 : a.traps = b.traps := ne_f h1
  refine wk (nt (ws (ws (rg ?_))))
  refine S.qe 5 [] [(14, .v (B (a.post != b.post)))] ?_; clear S; intro ac w β S
  refine (nt (S.c (a.post != b.post) (fun h4 => ?_) (fun h4 => ?_)))
  ·have g5 : ¬ (a.post = b.post) := bne_iff_ne.1 h4
   refine ws (rg ?_)
   refine S.qe 1 [] [(4, .v (B false))] ?_; clear S; intro ac w β S
   exact (nt (wr (rt (S.r [B false] ⟨retB k0_laws_eqCtl, S.chg⟩))))
  ·have g6 : a.post = b.post := ne_f h4
   refine wk (nt (ws (ws (rg ?_))))
   refine S.qem 5 [] [(19, .v (B (!(a.opn == b.opn))))] 0 [] ?_; clear S; intro ac w β S
   refine (nt (S.c (!(a.opn == b.opn)) (fun h7 => ?_) (fun h7 => ?_)))
   ·have h8 := not_t h7
    have g9 : ¬ (a.opn = b.opn) := ne_of_beq_false h8
    refine ws (rg ?_)
    refine S.qe 1 [] [(4, .v (B false))] ?_; clear S; intro ac w β S
    exact (nt (wr (rt (S.r [B false] ⟨retB k0_laws_eqCtl, S.chg⟩))))
   ·have h10 := not_f h7
    have g11 : a.opn = b.opn := eq_of_beq h10
    refine wk (nt (ws (rg ?_)))
    refine S.qe 1 [] [(4, .v (B true))] ?_; clear S; intro ac w β S
    exact (nt (wr (S.r [B true] ⟨retB k0_laws_eqCtl, S.chg⟩)))

theorem k0_laws_eqExit {p : Prop} (h : p := by clear S; first | (simp [TExit.ext_iff, *]; done) | (simp_all [TExit.ext_iff]; done)) : p := h
set_option maxRecDepth 100000 in
theorem c_laws_eqExit (w0 : World) (a : TExit) (b : TExit) : Calls Try.prog 74 [GT.val a (), GT.val b ()].toArray w0 (fun e w' => e = .returned (B (decide (a = b))) ∧ Chg NoB w0 w') := by
 refine Calls.walk (args := [GT.val a (), GT.val b ()]) NoB Try.func74 rfl rfl ?_
 intro ac β S
 refine ws (rg ?_)
 refine S.qem 3 [] [(2, .p 0 0), (3, .p 1 0)] 2 [(0, GT.cells a ()), (1, GT.cells b ())] ?_; clear S; intro ac w β S
 refine (nt (ws (ws (rg ?_))))
 refine S.qe 5 [] [(9, .v (B (a.kind != b.kind)))] ?_; clear S; intro ac w β S
 refine (nt (S.c (a.kind != b.kind) (fun h1 => ?_) (fun h1 => ?_)))
 ·have g2 : ¬ (a.kind = b.kind) := bne_iff_ne.1 h1
  refine ws (rg ?_)
  refine S.qe 1 [] [(4, .v (B false))] ?_; clear S; intro ac w β S
  exact (nt (wr (rt (S.r [B false] ⟨retB k0_laws_eqExit, S.chg⟩))))
 ·have g3 : a.kind = b.kind := ne_f h1
  refine wk (nt (ws (ws (rg ?_))))
  refine S.qe 5 [] [(14, .v (B (a.page != b.page)))] ?_; clear S; intro ac w β S
  refine (nt (S.c (a.page != b.page) (fun h4 => ?_) (fun h4 => ?_)))
  ·have g5 : ¬ (a.page = b.page) := bne_iff_ne.1 h4
   refine ws (rg ?_)
   refine S.qe 1 [] [(4, .v (B false))] ?_; clear S; intro ac w β S
   exact (nt (wr (rt (S.r [B false] ⟨retB k0_laws_eqExit, S.chg⟩))))
  ·have g6 : a.page = b.page := ne_f h4
   refine wk (nt (ws (ws (rg ?_))))
   refine S.qe 5 [] [(19, .v (B (!(a.wr == b.wr))))] ?_; clear S; intro ac w β S
   refine (nt (S.c (!(a.wr == b.wr)) (fun h7 => ?_) (fun h7 => ?_)))
   ·have h8 := not_t h7
    have g9 : ¬ (a.wr = b.wr) := ne_of_beq_false h8
    refine ws (rg ?_)
    refine S.qe 1 [] [(4, .v (B false))] ?_; clear S; intro ac w β S
    exact (nt (wr (rt (S.r [B false] ⟨retB k0_laws_eqExit, S.chg⟩))))
   ·have h10 := not_f h7
    have g11 : a.wr = b.wr := eq_of_beq h10
    refine wk (nt (ws (ws (rg ?_))))
    refine S.qem 5 [] [(24, .v (B (a.n != b.n)))] 0 [] ?_; clear S; intro ac w β S
    refine (nt (S.c (a.n != b.n) (fun h12 => ?_) (fun h12 => ?_)))
    ·have g13 : ¬ (a.n = b.n) := bne_iff_ne.1 h12
     refine ws (rg ?_)
     refine S.qe 1 [] [(4, .v (B false))] ?_; clear S; intro ac w β S
     exact (nt (wr (rt (S.r [B false] ⟨retB k0_laws_eqExit, S.chg⟩))))
    ·have g14 : a.n = b.n := ne_f h12
     refine wk (nt (ws (rg ?_)))
     refine S.qe 1 [] [(4, .v (B true))] ?_; clear S; intro ac w β S
     exact (nt (wr (S.r [B true] ⟨retB k0_laws_eqExit, S.chg⟩)))

theorem k0_laws_eqGuest {p : Prop} (h : p := by clear S; first | (simp [TGuest.ext_iff, *]; done) | (simp_all [TGuest.ext_iff]; done)) : p := h
set_option maxRecDepth 100000 in
theorem c_laws_eqGuest (w0 : World) (a : TGuest) (pa : PGuest) (ha : GT.rd KK (Lt w0.heap.size) w0 a pa) (b : TGuest) (pb : PGuest) (hb : GT.rd KK (Lt w0.heap.size) w0 b pb) : Calls Try.prog 67 [GT.val a pa, GT.val b pb].toArray w0 (fun e w' => e = .returned (B (decide (a = b))) ∧ Chg NoB w0 w') := by
 refine Calls.walk (args := [GT.val a pa, GT.val b pb]) NoB Try.func67 rfl rfl ?_
 intro ac β S
 have hlea_prog : a.prog.length ≤ 4194304 := LRd.le (RGuest.prog (d := a) ha)
 have hlea_written : a.written.length ≤ 4194304 := LRd.le (RGuest.written (d := a) ha)
 have hlea_live : a.live.length ≤ 4194304 := LRd.le (RGuest.live (d := a) ha)
 have hlea_seen : a.seen.length ≤ 4194304 := LRd.le (RGuest.seen (d := a) ha)
 have hleb_prog : b.prog.length ≤ 4194304 := LRd.le (RGuest.prog (d := b) hb)
 have hleb_written : b.written.length ≤ 4194304 := LRd.le (RGuest.written (d := b) hb)
 have hleb_live : b.live.length ≤ 4194304 := LRd.le (RGuest.live (d := b) hb)
 have hleb_seen : b.seen.length ≤ 4194304 := LRd.le (RGuest.seen (d := b) hb)
 refine ws (rg ?_)
 refine S.qem 3 [] [(2, .p 0 0), (3, .p 1 0)] 2 [(0, GT.cells a pa), (1, GT.cells b pb)] ?_; clear S; intro ac w β S
 refine (nt (ws (ws (rg ?_))))
 refine S.qg 6 [] [(10, .v (B (!(decide (a.prog = b.prog)))))] (.cons (Q_call fun w hw => c_laws_eqInsS w a.prog pa.prog (rd_of (RGuest.prog (d := a) (S.arg ha)) hw) b.prog pb.prog (rd_of (RGuest.prog (d := b) (S.arg hb)) hw)) .nil) ?_; clear S; intro ac w β S
 refine (nt (S.c (!(decide (a.prog = b.prog))) (fun h1 => ?_) (fun h1 => ?_)))
 ·have h2 := not_t h1
  have g3 := of_decide_eq_false h2
  refine ws (rg ?_)
  refine S.qe 1 [] [(4, .v (B false))] ?_; clear S; intro ac w β S
  exact (nt (wr (rt (S.r [B false] ⟨retB k0_laws_eqGuest, S.chg⟩))))
 ·have h4 := not_f h1
  have g5 := of_decide_eq_true h4
  refine wk (nt (ws (ws (rg ?_))))
  refine S.qe 5 [] [(15, .v (B (a.acc != b.acc)))] ?_; clear S; intro ac w β S
  refine (nt (S.c (a.acc != b.acc) (fun h6 => ?_) (fun h6 => ?_)))
  ·have g7 : ¬ (a.acc = b.acc) := bne_iff_ne.1 h6
   refine ws (rg ?_)
   refine S.qe 1 [] [(4, .v (B false))] ?_; clear S; intro ac w β S
   exact (nt (wr (rt (S.r [B false] ⟨retB k0_laws_eqGuest, S.chg⟩))))
  ·have g8 : a.acc = b.acc := ne_f h6
   refine wk (nt (ws (ws (rg ?_))))
   refine S.qe 5 [] [(20, .v (B (a.pc != b.pc)))] ?_; clear S; intro ac w β S
   refine (nt (S.c (a.pc != b.pc) (fun h9 => ?_) (fun h9 => ?_)))
   ·have g10 : ¬ (a.pc = b.pc) := bne_iff_ne.1 h9
    refine ws (rg ?_)
    refine S.qe 1 [] [(4, .v (B false))] ?_; clear S; intro ac w β S
    exact (nt (wr (rt (S.r [B false] ⟨retB k0_laws_eqGuest, S.chg⟩))))
   ·have g11 : a.pc = b.pc := ne_f h9
    refine wk (nt (ws (ws (rg ?_))))
    refine S.qg 6 [] [(26, .v (B (!(decide (a.written = b.written)))))] (.cons (Q_call fun w hw => c_laws_eqSlotS w a.written pa.written (rd_of (RGuest.written (d := a) (S.arg ha)) hw) b.written pb.written (rd_of (RGuest.written (d := b) (S.arg hb)) hw)) .nil) ?_; clear S; intro ac w β S
    refine (nt (S.c (!(decide (a.written = b.written))) (fun h12 => ?_) (fun h12 => ?_)))
    ·have h13 := not_t h12
     have g14 := of_decide_eq_false h13
     refine ws (rg ?_)
     refine S.qe 1 [] [(4, .v (B false))] ?_; clear S; intro ac w β S
     exact (nt (wr (rt (S.r [B false] ⟨retB k0_laws_eqGuest, S.chg⟩))))
    ·have h15 := not_f h12
     have g16 := of_decide_eq_true h15
     refine wk (nt (ws (ws (rg ?_))))
     refine S.qg 6 [] [(32, .v (B (!(decide (a.live = b.live)))))] (.cons (Q_call fun w hw => c_laws_eqSlotS w a.live pa.live (rd_of (RGuest.live (d := a) (S.arg ha)) hw) b.live pb.live (rd_of (RGuest.live (d := b) (S.arg hb)) hw)) .nil) ?_; clear S; intro ac w β S
     refine (nt (S.c (!(decide (a.live = b.live))) (fun h17 => ?_) (fun h17 => ?_)))
     ·have h18 := not_t h17
      have g19 := of_decide_eq_false h18
      refine ws (rg ?_)
      refine S.qe 1 [] [(4, .v (B false))] ?_; clear S; intro ac w β S
      exact (nt (wr (rt (S.r [B false] ⟨retB k0_laws_eqGuest, S.chg⟩))))
     ·have h20 := not_f h17
      have g21 := of_decide_eq_true h20
      refine wk (nt (ws (ws (rg ?_))))
      refine S.qg 6 [] [(38, .v (B (!(decide (a.ctl = b.ctl)))))] (.cons (Q_call fun w hw => c_laws_eqCtl w a.ctl b.ctl) .nil) ?_; clear S; intro ac w β S
      refine (nt (S.c (!(decide (a.ctl = b.ctl))) (fun h22 => ?_) (fun h22 => ?_)))
      ·have h23 := not_t h22
       have g24 := of_decide_eq_false h23
       refine ws (rg ?_)
       refine S.qe 1 [] [(4, .v (B false))] ?_; clear S; intro ac w β S
       exact (nt (wr (rt (S.r [B false] ⟨retB k0_laws_eqGuest, S.chg⟩))))
      ·have h25 := not_f h22
       have g26 := of_decide_eq_true h25
       refine wk (nt (ws (ws (rg ?_))))
       refine S.qe 5 [] [(43, .v (B (a.pend != b.pend)))] ?_; clear S; intro ac w β S
       refine (nt (S.c (a.pend != b.pend) (fun h27 => ?_) (fun h27 => ?_)))
       ·have g28 : ¬ (a.pend = b.pend) := bne_iff_ne.1 h27
        refine ws (rg ?_)
        refine S.qe 1 [] [(4, .v (B false))] ?_; clear S; intro ac w β S
        exact (nt (wr (rt (S.r [B false] ⟨retB k0_laws_eqGuest, S.chg⟩))))
       ·have g29 : a.pend = b.pend := ne_f h27
        refine wk (nt (ws (ws (rg ?_))))
        refine S.qg 6 [] [(49, .v (B (!(decide (a.exit = b.exit)))))] (.cons (Q_call fun w hw => c_laws_eqExit w a.exit b.exit) .nil) ?_; clear S; intro ac w β S
        refine (nt (S.c (!(decide (a.exit = b.exit))) (fun h30 => ?_) (fun h30 => ?_)))
        ·have h31 := not_t h30
         have g32 := of_decide_eq_false h31
         refine ws (rg ?_)
         refine S.qe 1 [] [(4, .v (B false))] ?_; clear S; intro ac w β S
         exact (nt (wr (rt (S.r [B false] ⟨retB k0_laws_eqGuest, S.chg⟩))))
        ·have h33 := not_f h30
         have g34 := of_decide_eq_true h33
         refine wk (nt (ws (ws (rg ?_))))
         refine S.qe 5 [] [(54, .v (B (!(a.halted == b.halted))))] ?_; clear S; intro ac w β S
         refine (nt (S.c (!(a.halted == b.halted)) (fun h35 => ?_) (fun h35 => ?_)))
         ·have h36 := not_t h35
          have g37 : ¬ (a.halted = b.halted) := ne_of_beq_false h36
          refine ws (rg ?_)
          refine S.qe 1 [0, 1, 2, 3, 10, 15, 20, 26, 32, 38, 43, 49, 54] [(4, .v (B false))] ?_; clear S; intro ac w β S
          exact (nt (wr (rt (S.r [B false] ⟨retB k0_laws_eqGuest, S.chg⟩))))
         ·have h38 := not_f h35
          have g39 : a.halted = b.halted := eq_of_beq h38
          refine wk (nt (ws (ws (rg ?_))))
          refine S.qgm 6 [0, 1, 2, 3, 10, 15, 20, 26, 32, 38, 43, 49, 54] [(60, .v (B (!(decide (a.seen = b.seen)))))] (.cons (Q_call fun w hw => c_laws_eqIntS w a.seen pa.seen (rd_of (RGuest.seen (d := a) (S.arg ha)) hw) b.seen pb.seen (rd_of (RGuest.seen (d := b) (S.arg hb)) hw)) .nil) 0 [] ?_; clear S; intro ac w β S
          refine (nt (S.c (!(decide (a.seen = b.seen))) (fun h40 => ?_) (fun h40 => ?_)))
          ·have h41 := not_t h40
           have g42 := of_decide_eq_false h41
           refine ws (rg ?_)
           refine S.qe 1 [] [(4, .v (B false))] ?_; clear S; intro ac w β S
           exact (nt (wr (rt (S.r [B false] ⟨retB k0_laws_eqGuest, S.chg⟩))))
          ·have h43 := not_f h40
           have g44 := of_decide_eq_true h43
           refine wk (nt (ws (rg ?_)))
           refine S.qe 1 [] [(4, .v (B true))] ?_; clear S; intro ac w β S
           exact (nt (wr (S.r [B true] ⟨retB k0_laws_eqGuest, S.chg⟩)))

theorem k0_laws_eqGuestS {p : Prop} (h : p := by clear S; first | (simp; intro e; subst e; simp_all; done) | (simp; rw [take_all (by omega), take_all (by omega)] at he; exact he) | (simp; exact take_ne (by simp_all))) : p := h
set_option maxRecDepth 100000 in
theorem c_laws_eqGuestS (w0 : World) (a : List TGuest) (pa : LP TGuest) (ha : GT.rd KK (Lt w0.heap.size) w0 a pa) (b : List TGuest) (pb : LP TGuest) (hb : GT.rd KK (Lt w0.heap.size) w0 b pb) : Calls Try.prog 36 [slv (a).length pa.1, slv (b).length pb.1].toArray w0 (fun e w' => e = .returned (B (decide (a = b))) ∧ Chg NoB w0 w') := by
 refine Calls.walk (args := [slv (a).length pa.1, slv (b).length pb.1]) NoB Try.func36 rfl rfl ?_
 intro ac β S
 have hlea : a.length ≤ 4194304 := LRd.le ha
 have hleb : b.length ≤ 4194304 := LRd.le hb
 refine ws (rg ?_)
 refine S.qe 1 [] [] ?_; clear S; intro ac w β S
 refine (nt (ws (ws (rg ?_))))
 refine S.qe 5 [] [(10, .v (B (((a).length : Int) != ((b).length : Int))))] ?_; clear S; intro ac w β S
 refine (nt (S.c (((a).length : Int) != ((b).length : Int)) (fun h1 => ?_) (fun h1 => ?_)))
 ·have g2 : ¬ (((a).length : Int) = ((b).length : Int)) := bne_iff_ne.1 h1
  refine ws (rg ?_)
  refine S.qe 1 [] [(4, .v (B false))] ?_; clear S; intro ac w β S
  exact (nt (wr (rt (S.r [B false] ⟨retB k0_laws_eqGuestS, S.chg⟩))))
 ·have g3 : ((a).length : Int) = ((b).length : Int) := ne_f h1
  refine wk (nt (ws (ws (rg ?_))))
  refine S.qe 1 [] [(5, .v (I 0))] ?_; clear S; intro ac w β S
  refine (nt (wp_block ?_))
  refine wp_loop_down (fun mm ac w => ∃ (k : Nat)  (u : World) (N : Bl) (β : Nat → Nat), mm = a.length - k ∧ (k ≤ a.length) ∧ (a.length = b.length) ∧ (a.take k = b.take k) ∧ St Try.prog Try.f36.ntmps w0 NoB u N β ⟨[(0, .v (slv (a).length pa.1)), (1, .v (slv (b).length pb.1)), (5, .v (I (k : Int)))], []⟩ ac w) _ ⟨0, _, _, _, rfl, (by first | omega | (simp; done) | (simp; omega)), (by first | omega | (simp; done) | (simp; omega)), (by simp), S.z⟩ ?_
  clear S
  rintro mm ac w ⟨k, u, N, β, rfl, hk, hab, he, S⟩
  refine ws (ws (rg ?_))
  refine S.qe 4 [] [(14, .v (B (decide ((k : Int) < ((a).length : Int)))))] ?_; clear S; intro ac w β S
  refine (nt (S.c (decide ((k : Int) < ((a).length : Int))) (fun h4 => ?_) (fun h4 => ?_)))
  ·have g5 := of_decide_eq_true h4
   refine wk (nt (ws (wp_block (ws ?_))))
   refine S.drawn (keep := [0, 1, 5, 26]) (m := 0) (σ' := ⟨[(0, .v (slv (a).length pa.1)), (1, .v (slv (b).length pb.1)), (5, .v (I (k : Int))), (26, .v (B (!(decide ((el a k) = (el b k))))))], []⟩) (.cons (Q_idx (S.arg ha) (l := (a).length) (k := k) (i := (k : Int)) rfl rfl (by omega) Try.underlying27 (by kernel_rfl)) (.cons (Q_el (S.arg ha) (t := 64) (k := k) (by omega) rfl (by kernel_rfl) (by kernel_rfl)) (.cons (Q_idx (S.arg hb) (l := (b).length) (k := k) (i := (k : Int)) rfl rfl (by omega) Try.underlying27 (by kernel_rfl)) (.cons (Q_el (S.arg hb) (t := 64) (k := k) (by omega) rfl (by kernel_rfl) (by kernel_rfl)) (.cons (Q_call fun w hw => c_laws_eqGuest w (el a k) (pa.2 k) (rd_of (LRd.el (S.arg ha) k (by omega)) hw) (el b k) (pb.2 k) (rd_of (LRd.el (S.arg hb) k (by omega)) hw)) .nil))))) rfl (by kernel_rfl) (by kernel_rfl) ?_
   clear S; intro ac w S
   refine id (nt (S.c (!(decide ((el a k) = (el b k)))) (fun h6 => ?_) (fun h6 => ?_)))
   ·have h7 := not_t h6
    have g8 := of_decide_eq_false h7
    refine ws (rg ?_)
    refine S.qe 1 [] [(4, .v (B false))] ?_; clear S; intro ac w β S
    exact (nt (wr (rb (rt (rt (rb (rt (S.r [B false] ⟨retB k0_laws_eqGuestS, S.chg⟩))))))))
   ·have h9 := not_f h6
    have g10 := of_decide_eq_true h9
    refine wk (nb (nt (rg ?_)))
    refine S.qg 3 [] [(5, .v (I ((k : Int) + 1)))] (.cons (Q_add (x := (k : Int)) (y := 1) ⟨by omega, by omega⟩) .nil) ?_; clear S; intro ac w β S
    refine (nt ?_)
    refine ⟨a.length - (k + 1), by omega, k + 1, _, _, _, rfl, ?_, ?_, ?_, S.z⟩
    ·clear S; first | omega | (simp [*]; done) | (simp [*]; omega)
    ·clear S; first | omega | (simp [*]; done) | (simp [*]; omega)
    ·clear S; exact take_eq_step (by omega) (by omega) he (by simp_all)
  ·have g11 := of_decide_eq_false h4
   refine wp_exit (ex_then (ex_then (ex_hit (nt (ws (rg ?_))))))
   refine S.qe 1 [] [(4, .v (B true))] ?_; clear S; intro ac w β S
   exact (nt (wr (S.r [B true] ⟨retB k0_laws_eqGuestS, S.chg⟩)))

theorem k0_laws_eqKept {p : Prop} (h : p := by clear S; first | (simp [TKept.ext_iff, *]; done) | (simp_all [TKept.ext_iff]; done)) : p := h
set_option maxRecDepth 100000 in
theorem c_laws_eqKept (w0 : World) (a : TKept) (pa : PKept) (ha : GT.rd KK (Lt w0.heap.size) w0 a pa) (b : TKept) (pb : PKept) (hb : GT.rd KK (Lt w0.heap.size) w0 b pb) : Calls Try.prog 68 [GT.val a pa, GT.val b pb].toArray w0 (fun e w' => e = .returned (B (decide (a = b))) ∧ Chg NoB w0 w') := by
 refine Calls.walk (args := [GT.val a pa, GT.val b pb]) NoB Try.func68 rfl rfl ?_
 intro ac β S
 have hlea_known : a.known.length ≤ 4194304 := LRd.le (RKept.known (d := a) ha)
 have hlea_slots : a.slots.length ≤ 4194304 := LRd.le (RKept.slots (d := a) ha)
 have hleb_known : b.known.length ≤ 4194304 := LRd.le (RKept.known (d := b) hb)
 have hleb_slots : b.slots.length ≤ 4194304 := LRd.le (RKept.slots (d := b) hb)
 refine ws (rg ?_)
 refine S.qem 3 [] [(2, .p 0 0), (3, .p 1 0)] 2 [(0, GT.cells a pa), (1, GT.cells b pb)] ?_; clear S; intro ac w β S
 refine (nt (ws (ws (rg ?_))))
 refine S.qg 6 [] [(10, .v (B (!(decide (a.known = b.known)))))] (.cons (Q_call fun w hw => c_laws_eqBoolS w a.known pa.known (rd_of (RKept.known (d := a) (S.arg ha)) hw) b.known pb.known (rd_of (RKept.known (d := b) (S.arg hb)) hw)) .nil) ?_; clear S; intro ac w β S
 refine (nt (S.c (!(decide (a.known = b.known))) (fun h1 => ?_) (fun h1 => ?_)))
 ·have h2 := not_t h1
  have g3 := of_decide_eq_false h2
  refine ws (rg ?_)
  refine S.qe 1 [] [(4, .v (B false))] ?_; clear S; intro ac w β S
  exact (nt (wr (rt (S.r [B false] ⟨retB k0_laws_eqKept, S.chg⟩))))
 ·have h4 := not_f h1
  have g5 := of_decide_eq_true h4
  refine wk (nt (ws (ws (rg ?_))))
  refine S.qgm 6 [] [(16, .v (B (!(decide (a.slots = b.slots)))))] (.cons (Q_call fun w hw => c_laws_eqSlotS w a.slots pa.slots (rd_of (RKept.slots (d := a) (S.arg ha)) hw) b.slots pb.slots (rd_of (RKept.slots (d := b) (S.arg hb)) hw)) .nil) 0 [] ?_; clear S; intro ac w β S
  refine (nt (S.c (!(decide (a.slots = b.slots))) (fun h6 => ?_) (fun h6 => ?_)))
  ·have h7 := not_t h6
   have g8 := of_decide_eq_false h7
   refine ws (rg ?_)
   refine S.qe 1 [] [(4, .v (B false))] ?_; clear S; intro ac w β S
   exact (nt (wr (rt (S.r [B false] ⟨retB k0_laws_eqKept, S.chg⟩))))
  ·have h9 := not_f h6
   have g10 := of_decide_eq_true h9
   refine wk (nt (ws (rg ?_)))
   refine S.qe 1 [] [(4, .v (B true))] ?_; clear S; intro ac w β S
   exact (nt (wr (S.r [B true] ⟨retB k0_laws_eqKept, S.chg⟩)))

theorem k0_laws_eqKeptS {p : Prop} (h : p := by clear S; first | (simp; intro e; subst e; simp_all; done) | (simp; rw [take_all (by omega), take_all (by omega)] at he; exact he) | (simp; exact take_ne (by simp_all))) : p := h
set_option maxRecDepth 100000 in
theorem c_laws_eqKeptS (w0 : World) (a : List TKept) (pa : LP TKept) (ha : GT.rd KK (Lt w0.heap.size) w0 a pa) (b : List TKept) (pb : LP TKept) (hb : GT.rd KK (Lt w0.heap.size) w0 b pb) : Calls Try.prog 38 [slv (a).length pa.1, slv (b).length pb.1].toArray w0 (fun e w' => e = .returned (B (decide (a = b))) ∧ Chg NoB w0 w') := by
 refine Calls.walk (args := [slv (a).length pa.1, slv (b).length pb.1]) NoB Try.func38 rfl rfl ?_
 intro ac β S
 have hlea : a.length ≤ 4194304 := LRd.le ha
 have hleb : b.length ≤ 4194304 := LRd.le hb
 refine ws (rg ?_)
 refine S.qe 1 [] [] ?_; clear S; intro ac w β S
 refine (nt (ws (ws (rg ?_))))
 refine S.qe 5 [] [(10, .v (B (((a).length : Int) != ((b).length : Int))))] ?_; clear S; intro ac w β S
 refine (nt (S.c (((a).length : Int) != ((b).length : Int)) (fun h1 => ?_) (fun h1 => ?_)))
 ·have g2 : ¬ (((a).length : Int) = ((b).length : Int)) := bne_iff_ne.1 h1
  refine ws (rg ?_)
  refine S.qe 1 [] [(4, .v (B false))] ?_; clear S; intro ac w β S
  exact (nt (wr (rt (S.r [B false] ⟨retB k0_laws_eqKeptS, S.chg⟩))))
 ·have g3 : ((a).length : Int) = ((b).length : Int) := ne_f h1
  refine wk (nt (ws (ws (rg ?_))))
  refine S.qe 1 [] [(5, .v (I 0))] ?_; clear S; intro ac w β S
  refine (nt (wp_block ?_))
  refine wp_loop_down (fun mm ac w => ∃ (k : Nat)  (u : World) (N : Bl) (β : Nat → Nat), mm = a.length - k ∧ (k ≤ a.length) ∧ (a.length = b.length) ∧ (a.take k = b.take k) ∧ St Try.prog Try.f38.ntmps w0 NoB u N β ⟨[(0, .v (slv (a).length pa.1)), (1, .v (slv (b).length pb.1)), (5, .v (I (k : Int)))], []⟩ ac w) _ ⟨0, _, _, _, rfl, (by first | omega | (simp; done) | (simp; omega)), (by first | omega | (simp; done) | (simp; omega)), (by simp), S.z⟩ ?_
  clear S
  rintro mm ac w ⟨k, u, N, β, rfl, hk, hab, he, S⟩
  refine ws (ws (rg ?_))
  refine S.qe 4 [] [(14, .v (B (decide ((k : Int) < ((a).length : Int)))))] ?_; clear S; intro ac w β S
  refine (nt (S.c (decide ((k : Int) < ((a).length : Int))) (fun h4 => ?_) (fun h4 => ?_)))
  ·have g5 := of_decide_eq_true h4
   refine wk (nt (ws (wp_block (ws ?_))))
   refine S.drawn (keep := [0, 1, 5, 26]) (m := 0) (σ' := ⟨[(0, .v (slv (a).length pa.1)), (1, .v (slv (b).length pb.1)), (5, .v (I (k : Int))), (26, .v (B (!(decide ((el a k) = (el b k))))))], []⟩) (.cons (Q_idx (S.arg ha) (l := (a).length) (k := k) (i := (k : Int)) rfl rfl (by omega) Try.underlying29 (by kernel_rfl)) (.cons (Q_el (S.arg ha) (t := 67) (k := k) (by omega) rfl (by kernel_rfl) (by kernel_rfl)) (.cons (Q_idx (S.arg hb) (l := (b).length) (k := k) (i := (k : Int)) rfl rfl (by omega) Try.underlying29 (by kernel_rfl)) (.cons (Q_el (S.arg hb) (t := 67) (k := k) (by omega) rfl (by kernel_rfl) (by kernel_rfl)) (.cons (Q_call fun w hw => c_laws_eqKept w (el a k) (pa.2 k) (rd_of (LRd.el (S.arg ha) k (by omega)) hw) (el b k) (pb.2 k) (rd_of (LRd.el (S.arg hb) k (by omega)) hw)) .nil))))) rfl (by kernel_rfl) (by kernel_rfl) ?_
   clear S; intro ac w S
   refine id (nt (S.c (!(decide ((el a k) = (el b k)))) (fun h6 => ?_) (fun h6 => ?_)))
   ·have h7 := not_t h6
    have g8 := of_decide_eq_false h7
    refine ws (rg ?_)
    refine S.qe 1 [] [(4, .v (B false))] ?_; clear S; intro ac w β S
    exact (nt (wr (rb (rt (rt (rb (rt (S.r [B false] ⟨retB k0_laws_eqKeptS, S.chg⟩))))))))
   ·have h9 := not_f h6
    have g10 := of_decide_eq_true h9
    refine wk (nb (nt (rg ?_)))
    refine S.qg 3 [] [(5, .v (I ((k : Int) + 1)))] (.cons (Q_add (x := (k : Int)) (y := 1) ⟨by omega, by omega⟩) .nil) ?_; clear S; intro ac w β S
    refine (nt ?_)
    refine ⟨a.length - (k + 1), by omega, k + 1, _, _, _, rfl, ?_, ?_, ?_, S.z⟩
    ·clear S; first | omega | (simp [*]; done) | (simp [*]; omega)
    ·clear S; first | omega | (simp [*]; done) | (simp [*]; omega)
    ·clear S; exact take_eq_step (by omega) (by omega) he (by simp_all)
  ·have g11 := of_decide_eq_false h4
   refine wp_exit (ex_then (ex_then (ex_hit (nt (ws (rg ?_))))))
   refine S.qe 1 [] [(4, .v (B true))] ?_; clear S; intro ac w β S
   exact (nt (wr (S.r [B true] ⟨retB k0_laws_eqKeptS, S.chg⟩)))

end Go.Proofs.Ytdnjbneoaejcgaa
