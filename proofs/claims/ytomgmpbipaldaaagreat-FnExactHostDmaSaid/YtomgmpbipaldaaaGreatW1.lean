/- The walks: what each function that the laws reach computes (part 1). -/
import Derived.Test.YtomgmpbipaldaaaGreatMarks
import Derived.Test.YtomgmpbipaldaaaGreatCore9
import Derived.Test.YtomgmpbipaldaaaGreatEq
import Derived.Test.YtomgmpbipaldaaaGreatSz
import Derived.Test.YtomgmpbipaldaaaGreatOw
import Derived.Test.YtomgmpbipaldaaaGreatSpec3
import Derived.Test.YtomgmpbipaldaaaGreatDrawO
import Derived.Test.YtomgmpbipaldaaaGreatMk
import Derived.Test.YtomgmpbipaldaaaGreatSpec4
import Derived.Test.YtomgmpbipaldaaaGreatSlice
import Derived.Test.YtomgmpbipaldaaaGreatPt
import Derived.Test.YtomgmpbipaldaaaGreatSpec5
import Derived.Test.YtomgmpbipaldaaaGreatShort
import Derived.Test.YtomgmpbipaldaaaGreatClo
import Derived.Test.YtomgmpbipaldaaaGreatDag
import Derived.Test.YtomgmpbipaldaaaGreatSpec6
import Derived.Test.YtomgmpbipaldaaaGreatSpec7
import Derived.Test.YtomgmpbipaldaaaGreatHp
import Derived.Test.YtomgmpbipaldaaaGreatRun
import Derived.Test.YtomgmpbipaldaaaGreatRun2
import Derived.Test.YtomgmpbipaldaaaGreatSpec10
import Derived.Test.YtomgmpbipaldaaaGreatSpec11
import Derived.Test.YtomgmpbipaldaaaGreatSpec12
import Derived.Test.YtomgmpbipaldaaaGreatProg
import Derived.KernelRfl
namespace Go.Proofs.YtomgmpbipaldaaaGreat
open Go
set_option linter.unusedVariables false
set_option linter.unusedSimpArgs false
set_option maxRecDepth 100000
set_option maxHeartbeats 2000000

theorem c_laws_szIntS (w0 : World) (a : List Int) (pa : LP Int) (ha : GT.rd KR (Lt w0.heap.size) w0 a pa) (left : Int) (pre0 : -1 ≤ left) (pre1 : left ≤ 4194304) : Calls Tryz.prog 49 [slv a.length pa.1, I left].toArray w0 (fun e w' => e = .returned (I (f_sz (SZ.sz a) left)) ∧ Chg NoB w0 w') := by
 refine Calls.run NoB Tryz.func49 ?_
 intro ac β S
 have hz := szl_Int a
 have hb0 := f_sz_cs (SZ.sz a) left
 have hlea : a.length ≤ 9223372036854775807 := LRd.le ha
 refine S.gd 21 (.cons (qm left (a.length : Int)) .nil) (decide ((left - (a.length : Int)) < 0)) (fun ac w β h1 g2 S => ?_) (fun ac w β h1 g2 S => ?_)
 ·exact S.gf 7 .nil [I (-1)] (retI (by clear S; omega))
 exact S.gf 10 .nil [I (left - (a.length : Int))] (retI (by clear S; omega))

theorem k0_laws_szIntSS {p : Prop} (h : p := by clear S; (first | omega | (have hall := szsum_all (xs := a) (k := k) (by omega); omega) | (have hs1 := szsum_take (xs := a) (k := k) (by omega); have hs2 := szsum_take_le a (k + 1); omega))) : p := h
theorem c_laws_szIntSS (w0 : World) (a : List (List Int)) (pa : LP (List Int)) (ha : GT.rd KR (Lt w0.heap.size) w0 a pa) (left : Int) (pre0 : -1 ≤ left) (pre1 : left ≤ 4194304) : Calls Tryz.prog 20 [slv a.length pa.1, I left].toArray w0 (fun e w' => e = .returned (I (f_sz (SZ.sz a) left)) ∧ Chg NoB w0 w') := by
 refine Calls.run NoB Tryz.func20 ?_
 intro ac β S
 have hz := sz_list a
 have hb0 := f_sz_cs (SZ.sz a) left
 have hlea : a.length ≤ 9223372036854775807 := LRd.le ha
 refine S.gd 21 (.cons (qm left (a.length : Int)) .nil) (decide ((left - (a.length : Int)) < 0)) (fun ac w β h1 g2 S => ?_) (fun ac w β h1 g2 S => ?_)
 ·exact S.gf 7 .nil [I (-1)] (retI k0_laws_szIntSS)
 refine S.go 10 .nil fun ac w β S => ?_
 refine lp (fun mm ac w => ∃ (k : Nat) (l : Int)  (u : _) (N : _) (β : _), mm = a.length - k ∧ (k ≤ a.length) ∧ (l = left - a.length - szsum (a.take k)) ∧ (0 ≤ l) ∧ St Tryz.prog Tryz.f20.ntmps w0 NoB u N β ⟨[(0, .v (slv a.length pa.1)), (1, .v (I l)), (5, .v (I (k : Int)))], []⟩ ac w) _ ⟨0, (left - (a.length : Int)), _, _, _, rfl, o0, (by simp [szsum_nil]), o0, S.z⟩ ?_
 clear S
 rintro f3 mm hf4 ac w ⟨k, l, u, N, β, rfl, hk, hl, hl0, S⟩
 refine S.rs fun S => ?_
 have hle2 := szsum_take_le a k
 refine S.gd 9 .nil (decide ((k : Int) < (a.length : Int))) (fun ac w β h5 g6 S => ?_) (fun ac w β h5 g6 S => ?_)
 ·have b7 := f_sz_cs (SZ.sz (el a k)) l
  refine S.gd 22 (.cons (qn (S.arg ha) k Tryz.underlying22) (.cons (qx (S.arg ha) 61 k) (.cons (Q_call fun w hw => c_laws_szIntS w (el a k) (pa.2 k) (rd_of (LRd.el (S.arg ha) k (by omega)) hw) l (by omega) (by omega)) .nil))) (decide ((f_sz (SZ.sz (el a k)) l) < 0)) (fun ac w β h8 g9 S => ?_) (fun ac w β h8 g9 S => ?_)
  ·exact S.gf 7 .nil [I (-1)] (retI k0_laws_szIntSS)
  refine S.ge 9 (.cons (qp (k : Int) 1) .nil) f3 fun ac w β S => hf4.of (a.length - (k + 1)) _ _ (by omega) ⟨k + 1, (f_sz (SZ.sz (el a k)) l), _, _, _, rfl, ?_, ?_, ?_, S.z⟩
  ·exact oz
  ·clear S; (rw [szsum_take (by omega)]; omega)
  ·clear S; omega
 exact S.gf 13 .nil [I l] (retI k0_laws_szIntSS)

theorem c_laws_szSlotS (w0 : World) (a : List TSlot) (pa : LP TSlot) (ha : GT.rd KR (Lt w0.heap.size) w0 a pa) (left : Int) (pre0 : -1 ≤ left) (pre1 : left ≤ 4194304) : Calls Tryz.prog 92 [slv a.length pa.1, I left].toArray w0 (fun e w' => e = .returned (I (f_sz (SZ.sz a) left)) ∧ Chg NoB w0 w') := by
 refine Calls.run NoB Tryz.func92 ?_
 intro ac β S
 have hz := szl_TSlot a
 have hb0 := f_sz_cs (SZ.sz a) left
 have hlea : a.length ≤ 9223372036854775807 := LRd.le ha
 refine S.gd 21 (.cons (qm left (a.length : Int)) .nil) (decide ((left - (a.length : Int)) < 0)) (fun ac w β h1 g2 S => ?_) (fun ac w β h1 g2 S => ?_)
 ·exact S.gf 7 .nil [I (-1)] (retI (by clear S; omega))
 exact S.gf 10 .nil [I (left - (a.length : Int))] (retI (by clear S; omega))

theorem c_laws_szBoolS (w0 : World) (a : List Bool) (pa : LP Bool) (ha : GT.rd KR (Lt w0.heap.size) w0 a pa) (left : Int) (pre0 : -1 ≤ left) (pre1 : left ≤ 4194304) : Calls Tryz.prog 93 [slv a.length pa.1, I left].toArray w0 (fun e w' => e = .returned (I (f_sz (SZ.sz a) left)) ∧ Chg NoB w0 w') := by
 refine Calls.run NoB Tryz.func93 ?_
 intro ac β S
 have hz := szl_Bool a
 have hb0 := f_sz_cs (SZ.sz a) left
 have hlea : a.length ≤ 9223372036854775807 := LRd.le ha
 refine S.gd 21 (.cons (qm left (a.length : Int)) .nil) (decide ((left - (a.length : Int)) < 0)) (fun ac w β h1 g2 S => ?_) (fun ac w β h1 g2 S => ?_)
 ·exact S.gf 7 .nil [I (-1)] (retI (by clear S; omega))
 exact S.gf 10 .nil [I (left - (a.length : Int))] (retI (by clear S; omega))

theorem c_laws_szInsS (w0 : World) (a : List TIns) (pa : LP TIns) (ha : GT.rd KR (Lt w0.heap.size) w0 a pa) (left : Int) (pre0 : -1 ≤ left) (pre1 : left ≤ 4194304) : Calls Tryz.prog 166 [slv a.length pa.1, I left].toArray w0 (fun e w' => e = .returned (I (f_sz (SZ.sz a) left)) ∧ Chg NoB w0 w') := by
 refine Calls.run NoB Tryz.func166 ?_
 intro ac β S
 have hz := szl_TIns a
 have hb0 := f_sz_cs (SZ.sz a) left
 have hlea : a.length ≤ 9223372036854775807 := LRd.le ha
 refine S.gd 21 (.cons (qm left (a.length : Int)) .nil) (decide ((left - (a.length : Int)) < 0)) (fun ac w β h1 g2 S => ?_) (fun ac w β h1 g2 S => ?_)
 ·exact S.gf 7 .nil [I (-1)] (retI (by clear S; omega))
 exact S.gf 10 .nil [I (left - (a.length : Int))] (retI (by clear S; omega))

theorem c_laws_szGuest (w0 : World) (a : TGuest) (pa : PGuest) (ha : GT.rd KR (Lt w0.heap.size) w0 a pa) (left : Int) (pre0 : -1 ≤ left) (pre1 : left ≤ 4194304) : Calls Tryz.prog 133 [GT.val a pa, I left].toArray w0 (fun e w' => e = .returned (I (f_sz (SZ.sz a) left)) ∧ Chg NoB w0 w') := by
 refine Calls.run NoB Tryz.func133 ?_
 intro ac β S
 have hz := sz_Guest a
 have hb0 := f_sz_cs (SZ.sz a) left
 have b1 := f_sz_cs (SZ.sz a.prog) left
 refine S.gd 22 (.cons (Q_call fun w hw => c_laws_szInsS w a.prog pa.prog (rd_of (RGuest.prog (d := a) (S.arg ha)) hw) left (by omega) (by omega)) .nil) (decide ((f_sz (SZ.sz a.prog) left) < 0)) (fun ac w β h2 g3 S => ?_) (fun ac w β h2 g3 S => ?_)
 ·exact S.gf 7 .nil [I (-1)] (retI (by clear S; omega))
 have b4 := f_sz_cs (SZ.sz a.written) (f_sz (SZ.sz a.prog) left)
 refine S.gd 19 (.cons (Q_call fun w hw => c_laws_szSlotS w a.written pa.written (rd_of (RGuest.written (d := a) (S.arg ha)) hw) (f_sz (SZ.sz a.prog) left) (by omega) (by omega)) .nil) (decide ((f_sz (SZ.sz a.written) (f_sz (SZ.sz a.prog) left)) < 0)) (fun ac w β h5 g6 S => ?_) (fun ac w β h5 g6 S => ?_)
 ·exact S.gf 7 .nil [I (-1)] (retI (by clear S; omega))
 have b7 := f_sz_cs (SZ.sz a.live) (f_sz (SZ.sz a.written) (f_sz (SZ.sz a.prog) left))
 refine S.gd 19 (.cons (Q_call fun w hw => c_laws_szSlotS w a.live pa.live (rd_of (RGuest.live (d := a) (S.arg ha)) hw) (f_sz (SZ.sz a.written) (f_sz (SZ.sz a.prog) left)) (by omega) (by omega)) .nil) (decide ((f_sz (SZ.sz a.live) (f_sz (SZ.sz a.written) (f_sz (SZ.sz a.prog) left))) < 0)) (fun ac w β h8 g9 S => ?_) (fun ac w β h8 g9 S => ?_)
 ·exact S.gf 7 .nil [I (-1)] (retI (by clear S; omega))
 have b10 := f_sz_cs (SZ.sz a.seen) (f_sz (SZ.sz a.live) (f_sz (SZ.sz a.written) (f_sz (SZ.sz a.prog) left)))
 refine S.gd 19 (.cons (Q_call fun w hw => c_laws_szIntS w a.seen pa.seen (rd_of (RGuest.seen (d := a) (S.arg ha)) hw) (f_sz (SZ.sz a.live) (f_sz (SZ.sz a.written) (f_sz (SZ.sz a.prog) left))) (by omega) (by omega)) .nil) (decide ((f_sz (SZ.sz a.seen) (f_sz (SZ.sz a.live) (f_sz (SZ.sz a.written) (f_sz (SZ.sz a.prog) left)))) < 0)) (fun ac w β h11 g12 S => ?_) (fun ac w β h11 g12 S => ?_)
 ·exact S.gf 7 .nil [I (-1)] (retI (by clear S; omega))
 exact S.gf 10 .nil [I (f_sz (SZ.sz a.seen) (f_sz (SZ.sz a.live) (f_sz (SZ.sz a.written) (f_sz (SZ.sz a.prog) left))))] (retI (by clear S; omega))

theorem k0_laws_szGuestS {p : Prop} (h : p := by clear S; (first | omega | (have hall := szsum_all (xs := a) (k := k) (by omega); omega) | (have hs1 := szsum_take (xs := a) (k := k) (by omega); have hs2 := szsum_take_le a (k + 1); omega))) : p := h
theorem c_laws_szGuestS (w0 : World) (a : List TGuest) (pa : LP TGuest) (ha : GT.rd KR (Lt w0.heap.size) w0 a pa) (left : Int) (pre0 : -1 ≤ left) (pre1 : left ≤ 4194304) : Calls Tryz.prog 94 [slv a.length pa.1, I left].toArray w0 (fun e w' => e = .returned (I (f_sz (SZ.sz a) left)) ∧ Chg NoB w0 w') := by
 refine Calls.run NoB Tryz.func94 ?_
 intro ac β S
 have hz := sz_list a
 have hb0 := f_sz_cs (SZ.sz a) left
 have hlea : a.length ≤ 9223372036854775807 := LRd.le ha
 refine S.gd 21 (.cons (qm left (a.length : Int)) .nil) (decide ((left - (a.length : Int)) < 0)) (fun ac w β h1 g2 S => ?_) (fun ac w β h1 g2 S => ?_)
 ·exact S.gf 7 .nil [I (-1)] (retI k0_laws_szGuestS)
 refine S.go 10 .nil fun ac w β S => ?_
 refine lp (fun mm ac w => ∃ (k : Nat) (l : Int)  (u : _) (N : _) (β : _), mm = a.length - k ∧ (k ≤ a.length) ∧ (l = left - a.length - szsum (a.take k)) ∧ (0 ≤ l) ∧ St Tryz.prog Tryz.f94.ntmps w0 NoB u N β ⟨[(0, .v (slv a.length pa.1)), (1, .v (I l)), (5, .v (I (k : Int)))], []⟩ ac w) _ ⟨0, (left - (a.length : Int)), _, _, _, rfl, o0, (by simp [szsum_nil]), o0, S.z⟩ ?_
 clear S
 rintro f3 mm hf4 ac w ⟨k, l, u, N, β, rfl, hk, hl, hl0, S⟩
 refine S.rs fun S => ?_
 have hle2 := szsum_take_le a k
 refine S.gd 9 .nil (decide ((k : Int) < (a.length : Int))) (fun ac w β h5 g6 S => ?_) (fun ac w β h5 g6 S => ?_)
 ·have b7 := f_sz_cs (SZ.sz (el a k)) l
  refine S.gd 22 (.cons (qn (S.arg ha) k Tryz.underlying65) (.cons (qs (S.arg ha) 151 k) (.cons (Q_call fun w hw => c_laws_szGuest w (el a k) (pa.2 k) (rd_of (LRd.el (S.arg ha) k (by omega)) hw) l (by omega) (by omega)) .nil))) (decide ((f_sz (SZ.sz (el a k)) l) < 0)) (fun ac w β h8 g9 S => ?_) (fun ac w β h8 g9 S => ?_)
  ·exact S.gf 7 .nil [I (-1)] (retI k0_laws_szGuestS)
  refine S.ge 9 (.cons (qp (k : Int) 1) .nil) f3 fun ac w β S => hf4.of (a.length - (k + 1)) _ _ (by omega) ⟨k + 1, (f_sz (SZ.sz (el a k)) l), _, _, _, rfl, ?_, ?_, ?_, S.z⟩
  ·exact oz
  ·clear S; (rw [szsum_take (by omega)]; omega)
  ·clear S; omega
 exact S.gf 13 .nil [I l] (retI k0_laws_szGuestS)

theorem c_laws_szKept (w0 : World) (a : TKept) (pa : PKept) (ha : GT.rd KR (Lt w0.heap.size) w0 a pa) (left : Int) (pre0 : -1 ≤ left) (pre1 : left ≤ 4194304) : Calls Tryz.prog 134 [GT.val a pa, I left].toArray w0 (fun e w' => e = .returned (I (f_sz (SZ.sz a) left)) ∧ Chg NoB w0 w') := by
 refine Calls.run NoB Tryz.func134 ?_
 intro ac β S
 have hz := sz_Kept a
 have hb0 := f_sz_cs (SZ.sz a) left
 have b1 := f_sz_cs (SZ.sz a.known) left
 refine S.gd 22 (.cons (Q_call fun w hw => c_laws_szBoolS w a.known pa.known (rd_of (RKept.known (d := a) (S.arg ha)) hw) left (by omega) (by omega)) .nil) (decide ((f_sz (SZ.sz a.known) left) < 0)) (fun ac w β h2 g3 S => ?_) (fun ac w β h2 g3 S => ?_)
 ·exact S.gf 7 .nil [I (-1)] (retI (by clear S; omega))
 have b4 := f_sz_cs (SZ.sz a.slots) (f_sz (SZ.sz a.known) left)
 refine S.gd 19 (.cons (Q_call fun w hw => c_laws_szSlotS w a.slots pa.slots (rd_of (RKept.slots (d := a) (S.arg ha)) hw) (f_sz (SZ.sz a.known) left) (by omega) (by omega)) .nil) (decide ((f_sz (SZ.sz a.slots) (f_sz (SZ.sz a.known) left)) < 0)) (fun ac w β h5 g6 S => ?_) (fun ac w β h5 g6 S => ?_)
 ·exact S.gf 7 .nil [I (-1)] (retI (by clear S; omega))
 exact S.gf 10 .nil [I (f_sz (SZ.sz a.slots) (f_sz (SZ.sz a.known) left))] (retI (by clear S; omega))

theorem k0_laws_szKeptS {p : Prop} (h : p := by clear S; (first | omega | (have hall := szsum_all (xs := a) (k := k) (by omega); omega) | (have hs1 := szsum_take (xs := a) (k := k) (by omega); have hs2 := szsum_take_le a (k + 1); omega))) : p := h
theorem c_laws_szKeptS (w0 : World) (a : List TKept) (pa : LP TKept) (ha : GT.rd KR (Lt w0.heap.size) w0 a pa) (left : Int) (pre0 : -1 ≤ left) (pre1 : left ≤ 4194304) : Calls Tryz.prog 95 [slv a.length pa.1, I left].toArray w0 (fun e w' => e = .returned (I (f_sz (SZ.sz a) left)) ∧ Chg NoB w0 w') := by
 refine Calls.run NoB Tryz.func95 ?_
 intro ac β S
 have hz := sz_list a
 have hb0 := f_sz_cs (SZ.sz a) left
 have hlea : a.length ≤ 9223372036854775807 := LRd.le ha
 refine S.gd 21 (.cons (qm left (a.length : Int)) .nil) (decide ((left - (a.length : Int)) < 0)) (fun ac w β h1 g2 S => ?_) (fun ac w β h1 g2 S => ?_)
 ·exact S.gf 7 .nil [I (-1)] (retI k0_laws_szKeptS)
 refine S.go 10 .nil fun ac w β S => ?_
 refine lp (fun mm ac w => ∃ (k : Nat) (l : Int)  (u : _) (N : _) (β : _), mm = a.length - k ∧ (k ≤ a.length) ∧ (l = left - a.length - szsum (a.take k)) ∧ (0 ≤ l) ∧ St Tryz.prog Tryz.f95.ntmps w0 NoB u N β ⟨[(0, .v (slv a.length pa.1)), (1, .v (I l)), (5, .v (I (k : Int)))], []⟩ ac w) _ ⟨0, (left - (a.length : Int)), _, _, _, rfl, o0, (by simp [szsum_nil]), o0, S.z⟩ ?_
 clear S
 rintro f3 mm hf4 ac w ⟨k, l, u, N, β, rfl, hk, hl, hl0, S⟩
 refine S.rs fun S => ?_
 have hle2 := szsum_take_le a k
 refine S.gd 9 .nil (decide ((k : Int) < (a.length : Int))) (fun ac w β h5 g6 S => ?_) (fun ac w β h5 g6 S => ?_)
 ·have b7 := f_sz_cs (SZ.sz (el a k)) l
  refine S.gd 22 (.cons (qn (S.arg ha) k Tryz.underlying66) (.cons (qs (S.arg ha) 154 k) (.cons (Q_call fun w hw => c_laws_szKept w (el a k) (pa.2 k) (rd_of (LRd.el (S.arg ha) k (by omega)) hw) l (by omega) (by omega)) .nil))) (decide ((f_sz (SZ.sz (el a k)) l) < 0)) (fun ac w β h8 g9 S => ?_) (fun ac w β h8 g9 S => ?_)
  ·exact S.gf 7 .nil [I (-1)] (retI k0_laws_szKeptS)
  refine S.ge 9 (.cons (qp (k : Int) 1) .nil) f3 fun ac w β S => hf4.of (a.length - (k + 1)) _ _ (by omega) ⟨k + 1, (f_sz (SZ.sz (el a k)) l), _, _, _, rfl, ?_, ?_, ?_, S.z⟩
  ·exact oz
  ·clear S; (rw [szsum_take (by omega)]; omega)
  ·clear S; omega
 exact S.gf 13 .nil [I l] (retI k0_laws_szKeptS)

theorem c_laws_szMon (w0 : World) (a : TMon) (pa : PMon) (ha : GT.rd KR (Lt w0.heap.size) w0 a pa) (left : Int) (pre0 : -1 ≤ left) (pre1 : left ≤ 4194304) : Calls Tryz.prog 50 [GT.val a pa, I left].toArray w0 (fun e w' => e = .returned (I (f_sz (SZ.sz a) left)) ∧ Chg NoB w0 w') := by
 refine Calls.run NoB Tryz.func50 ?_
 intro ac β S
 have hz := sz_Mon a
 have hb0 := f_sz_cs (SZ.sz a) left
 have b1 := f_sz_cs (SZ.sz a.outer) left
 refine S.gd 22 (.cons (Q_call fun w hw => c_laws_szSlotS w a.outer pa.outer (rd_of (RMon.outer (d := a) (S.arg ha)) hw) left (by omega) (by omega)) .nil) (decide ((f_sz (SZ.sz a.outer) left) < 0)) (fun ac w β h2 g3 S => ?_) (fun ac w β h2 g3 S => ?_)
 ·exact S.gf 7 .nil [I (-1)] (retI (by clear S; omega))
 have b4 := f_sz_cs (SZ.sz a.out) (f_sz (SZ.sz a.outer) left)
 refine S.gd 19 (.cons (Q_call fun w hw => c_laws_szIntSS w a.out pa.out (rd_of (RMon.out (d := a) (S.arg ha)) hw) (f_sz (SZ.sz a.outer) left) (by omega) (by omega)) .nil) (decide ((f_sz (SZ.sz a.out) (f_sz (SZ.sz a.outer) left)) < 0)) (fun ac w β h5 g6 S => ?_) (fun ac w β h5 g6 S => ?_)
 ·exact S.gf 7 .nil [I (-1)] (retI (by clear S; omega))
 have b7 := f_sz_cs (SZ.sz a.dirty) (f_sz (SZ.sz a.out) (f_sz (SZ.sz a.outer) left))
 refine S.gd 19 (.cons (Q_call fun w hw => c_laws_szBoolS w a.dirty pa.dirty (rd_of (RMon.dirty (d := a) (S.arg ha)) hw) (f_sz (SZ.sz a.out) (f_sz (SZ.sz a.outer) left)) (by omega) (by omega)) .nil) (decide ((f_sz (SZ.sz a.dirty) (f_sz (SZ.sz a.out) (f_sz (SZ.sz a.outer) left))) < 0)) (fun ac w β h8 g9 S => ?_) (fun ac w β h8 g9 S => ?_)
 ·exact S.gf 7 .nil [I (-1)] (retI (by clear S; omega))
 have b10 := f_sz_cs (SZ.sz a.guests) (f_sz (SZ.sz a.dirty) (f_sz (SZ.sz a.out) (f_sz (SZ.sz a.outer) left)))
 refine S.gd 19 (.cons (Q_call fun w hw => c_laws_szGuestS w a.guests pa.guests (rd_of (RMon.guests (d := a) (S.arg ha)) hw) (f_sz (SZ.sz a.dirty) (f_sz (SZ.sz a.out) (f_sz (SZ.sz a.outer) left))) (by omega) (by omega)) .nil) (decide ((f_sz (SZ.sz a.guests) (f_sz (SZ.sz a.dirty) (f_sz (SZ.sz a.out) (f_sz (SZ.sz a.outer) left)))) < 0)) (fun ac w β h11 g12 S => ?_) (fun ac w β h11 g12 S => ?_)
 ·exact S.gf 7 .nil [I (-1)] (retI (by clear S; omega))
 have b13 := f_sz_cs (SZ.sz a.outs) (f_sz (SZ.sz a.guests) (f_sz (SZ.sz a.dirty) (f_sz (SZ.sz a.out) (f_sz (SZ.sz a.outer) left))))
 refine S.gd 19 (.cons (Q_call fun w hw => c_laws_szIntS w a.outs pa.outs (rd_of (RMon.outs (d := a) (S.arg ha)) hw) (f_sz (SZ.sz a.guests) (f_sz (SZ.sz a.dirty) (f_sz (SZ.sz a.out) (f_sz (SZ.sz a.outer) left)))) (by omega) (by omega)) .nil) (decide ((f_sz (SZ.sz a.outs) (f_sz (SZ.sz a.guests) (f_sz (SZ.sz a.dirty) (f_sz (SZ.sz a.out) (f_sz (SZ.sz a.outer) left))))) < 0)) (fun ac w β h14 g15 S => ?_) (fun ac w β h14 g15 S => ?_)
 ·exact S.gf 7 .nil [I (-1)] (retI (by clear S; omega))
 have b16 := f_sz_cs (SZ.sz a.tables) (f_sz (SZ.sz a.outs) (f_sz (SZ.sz a.guests) (f_sz (SZ.sz a.dirty) (f_sz (SZ.sz a.out) (f_sz (SZ.sz a.outer) left)))))
 refine S.gd 19 (.cons (Q_call fun w hw => c_laws_szKeptS w a.tables pa.tables (rd_of (RMon.tables (d := a) (S.arg ha)) hw) (f_sz (SZ.sz a.outs) (f_sz (SZ.sz a.guests) (f_sz (SZ.sz a.dirty) (f_sz (SZ.sz a.out) (f_sz (SZ.sz a.outer) left))))) (by omega) (by omega)) .nil) (decide ((f_sz (SZ.sz a.tables) (f_sz (SZ.sz a.outs) (f_sz (SZ.sz a.guests) (f_sz (SZ.sz a.dirty) (f_sz (SZ.sz a.out) (f_sz (SZ.sz a.outer) left)))))) < 0)) (fun ac w β h17 g18 S => ?_) (fun ac w β h17 g18 S => ?_)
 ·exact S.gf 7 .nil [I (-1)] (retI (by clear S; omega))
 exact S.gf 10 .nil [I (f_sz (SZ.sz a.tables) (f_sz (SZ.sz a.outs) (f_sz (SZ.sz a.guests) (f_sz (SZ.sz a.dirty) (f_sz (SZ.sz a.out) (f_sz (SZ.sz a.outer) left))))))] (retI (by clear S; omega))

theorem k0_laws_szMonS {p : Prop} (h : p := by clear S; (first | omega | (have hall := szsum_all (xs := a) (k := k) (by omega); omega) | (have hs1 := szsum_take (xs := a) (k := k) (by omega); have hs2 := szsum_take_le a (k + 1); omega))) : p := h
theorem c_laws_szMonS (w0 : World) (a : List TMon) (pa : LP TMon) (ha : GT.rd KR (Lt w0.heap.size) w0 a pa) (left : Int) (pre0 : -1 ≤ left) (pre1 : left ≤ 4194304) : Calls Tryz.prog 21 [slv a.length pa.1, I left].toArray w0 (fun e w' => e = .returned (I (f_sz (SZ.sz a) left)) ∧ Chg NoB w0 w') := by
 refine Calls.run NoB Tryz.func21 ?_
 intro ac β S
 have hz := sz_list a
 have hb0 := f_sz_cs (SZ.sz a) left
 have hlea : a.length ≤ 9223372036854775807 := LRd.le ha
 refine S.gd 21 (.cons (qm left (a.length : Int)) .nil) (decide ((left - (a.length : Int)) < 0)) (fun ac w β h1 g2 S => ?_) (fun ac w β h1 g2 S => ?_)
 ·exact S.gf 7 .nil [I (-1)] (retI k0_laws_szMonS)
 refine S.go 10 .nil fun ac w β S => ?_
 refine lp (fun mm ac w => ∃ (k : Nat) (l : Int)  (u : _) (N : _) (β : _), mm = a.length - k ∧ (k ≤ a.length) ∧ (l = left - a.length - szsum (a.take k)) ∧ (0 ≤ l) ∧ St Tryz.prog Tryz.f21.ntmps w0 NoB u N β ⟨[(0, .v (slv a.length pa.1)), (1, .v (I l)), (5, .v (I (k : Int)))], []⟩ ac w) _ ⟨0, (left - (a.length : Int)), _, _, _, rfl, o0, (by simp [szsum_nil]), o0, S.z⟩ ?_
 clear S
 rintro f3 mm hf4 ac w ⟨k, l, u, N, β, rfl, hk, hl, hl0, S⟩
 refine S.rs fun S => ?_
 have hle2 := szsum_take_le a k
 refine S.gd 9 .nil (decide ((k : Int) < (a.length : Int))) (fun ac w β h5 g6 S => ?_) (fun ac w β h5 g6 S => ?_)
 ·have b7 := f_sz_cs (SZ.sz (el a k)) l
  refine S.gd 22 (.cons (qn (S.arg ha) k Tryz.underlying23) (.cons (qs (S.arg ha) 68 k) (.cons (Q_call fun w hw => c_laws_szMon w (el a k) (pa.2 k) (rd_of (LRd.el (S.arg ha) k (by omega)) hw) l (by omega) (by omega)) .nil))) (decide ((f_sz (SZ.sz (el a k)) l) < 0)) (fun ac w β h8 g9 S => ?_) (fun ac w β h8 g9 S => ?_)
  ·exact S.gf 7 .nil [I (-1)] (retI k0_laws_szMonS)
  refine S.ge 9 (.cons (qp (k : Int) 1) .nil) f3 fun ac w β S => hf4.of (a.length - (k + 1)) _ _ (by omega) ⟨k + 1, (f_sz (SZ.sz (el a k)) l), _, _, _, rfl, ?_, ?_, ?_, S.z⟩
  ·exact oz
  ·clear S; (rw [szsum_take (by omega)]; omega)
  ·clear S; omega
 exact S.gf 13 .nil [I l] (retI k0_laws_szMonS)

theorem c_laws_szEntryS (w0 : World) (a : List TEntry) (pa : LP TEntry) (ha : GT.rd KR (Lt w0.heap.size) w0 a pa) (left : Int) (pre0 : -1 ≤ left) (pre1 : left ≤ 4194304) : Calls Tryz.prog 22 [slv a.length pa.1, I left].toArray w0 (fun e w' => e = .returned (I (f_sz (SZ.sz a) left)) ∧ Chg NoB w0 w') := by
 refine Calls.run NoB Tryz.func22 ?_
 intro ac β S
 have hz := szl_TEntry a
 have hb0 := f_sz_cs (SZ.sz a) left
 have hlea : a.length ≤ 9223372036854775807 := LRd.le ha
 refine S.gd 21 (.cons (qm left (a.length : Int)) .nil) (decide ((left - (a.length : Int)) < 0)) (fun ac w β h1 g2 S => ?_) (fun ac w β h1 g2 S => ?_)
 ·exact S.gf 7 .nil [I (-1)] (retI (by clear S; omega))
 exact S.gf 10 .nil [I (left - (a.length : Int))] (retI (by clear S; omega))

theorem c_laws_szHost (w0 : World) (a : THost) (pa : PHost) (ha : GT.rd KR (Lt w0.heap.size) w0 a pa) (left : Int) (pre0 : -1 ≤ left) (pre1 : left ≤ 4194304) : Calls Tryz.prog 7 [GT.val a pa, I left].toArray w0 (fun e w' => e = .returned (I (f_sz (SZ.sz a) left)) ∧ Chg NoB w0 w') := by
 refine Calls.run NoB Tryz.func7 ?_
 intro ac β S
 have hz := sz_Host a
 have hb0 := f_sz_cs (SZ.sz a) left
 have b1 := f_sz_cs (SZ.sz a.mem) left
 refine S.gd 22 (.cons (Q_call fun w hw => c_laws_szIntSS w a.mem pa.mem (rd_of (RHost.mem (d := a) (S.arg ha)) hw) left (by omega) (by omega)) .nil) (decide ((f_sz (SZ.sz a.mem) left) < 0)) (fun ac w β h2 g3 S => ?_) (fun ac w β h2 g3 S => ?_)
 ·exact S.gf 7 .nil [I (-1)] (retI (by clear S; omega))
 have b4 := f_sz_cs (SZ.sz a.mons) (f_sz (SZ.sz a.mem) left)
 refine S.gd 19 (.cons (Q_call fun w hw => c_laws_szMonS w a.mons pa.mons (rd_of (RHost.mons (d := a) (S.arg ha)) hw) (f_sz (SZ.sz a.mem) left) (by omega) (by omega)) .nil) (decide ((f_sz (SZ.sz a.mons) (f_sz (SZ.sz a.mem) left)) < 0)) (fun ac w β h5 g6 S => ?_) (fun ac w β h5 g6 S => ?_)
 ·exact S.gf 7 .nil [I (-1)] (retI (by clear S; omega))
 have b7 := f_sz_cs (SZ.sz a.buf) (f_sz (SZ.sz a.mons) (f_sz (SZ.sz a.mem) left))
 refine S.gd 19 (.cons (Q_call fun w hw => c_laws_szEntryS w a.buf pa.buf (rd_of (RHost.buf (d := a) (S.arg ha)) hw) (f_sz (SZ.sz a.mons) (f_sz (SZ.sz a.mem) left)) (by omega) (by omega)) .nil) (decide ((f_sz (SZ.sz a.buf) (f_sz (SZ.sz a.mons) (f_sz (SZ.sz a.mem) left))) < 0)) (fun ac w β h8 g9 S => ?_) (fun ac w β h8 g9 S => ?_)
 ·exact S.gf 7 .nil [I (-1)] (retI (by clear S; omega))
 have b10 := f_sz_cs (SZ.sz a.iobuf) (f_sz (SZ.sz a.buf) (f_sz (SZ.sz a.mons) (f_sz (SZ.sz a.mem) left)))
 refine S.gd 19 (.cons (Q_call fun w hw => c_laws_szEntryS w a.iobuf pa.iobuf (rd_of (RHost.iobuf (d := a) (S.arg ha)) hw) (f_sz (SZ.sz a.buf) (f_sz (SZ.sz a.mons) (f_sz (SZ.sz a.mem) left))) (by omega) (by omega)) .nil) (decide ((f_sz (SZ.sz a.iobuf) (f_sz (SZ.sz a.buf) (f_sz (SZ.sz a.mons) (f_sz (SZ.sz a.mem) left)))) < 0)) (fun ac w β h11 g12 S => ?_) (fun ac w β h11 g12 S => ?_)
 ·exact S.gf 7 .nil [I (-1)] (retI (by clear S; omega))
 exact S.gf 10 .nil [I (f_sz (SZ.sz a.iobuf) (f_sz (SZ.sz a.buf) (f_sz (SZ.sz a.mons) (f_sz (SZ.sz a.mem) left))))] (retI (by clear S; omega))

theorem c_laws_toIntS (w0 : World) (a : List Int) (pa : LP Int) (ha : RD w0 a pa) : Calls Tryz.prog 62 [slv a.length pa.1].toArray w0 (Ret1 NoB w0 (a : List Int)) := by
 refine Calls.run NoB Tryz.func62 ?_
 intro ac β S
 have hlea : a.length ≤ 4194304 := LRd.le ha
 refine S.go 9 .nil fun ac w β S => S.Mk (α := Int) (m := a.length) (by' := 8) (d := 7) (by omega) (show a.length ≤ 4194304 by omega) fun ac w N q1 F2 S up o3 d4 => ?_
 clear up d4
 refine S.go 10 .nil fun ac w β S => ?_
 refine lp (fun mm ac w => ∃ (k : Nat) (acc : List Int) (q5 : _) (F6 : _) (u : _) (N : _) (β : _), mm = a.length - k ∧ (k ≤ a.length) ∧ (acc = a.take k ++ List.replicate (a.length - k) (GT.dflt : Int)) ∧ St Tryz.prog Tryz.f62.ntmps w0 NoB u N β ⟨[(0, .v (slv a.length pa.1)), (3, .v (slv a.length q5.1)), (4, .v (I (k : Int)))], []⟩ ac w ∧ Ow w0 NoB u N F6 acc q5) _ ⟨0, (List.replicate a.length (GT.dflt : Int)), q1, F2, _, _, _, rfl, o0, (by simp), S.z, o3⟩ ?_
 clear S o3
 rintro f8 mm hf9 ac w ⟨k, acc, q5, F6, u, N, β, rfl, hk, hacc, S, o7⟩
 refine S.rs fun S => ?_
 have hlacc : acc.length = a.length := by rw [hacc]; simp; omega
 refine S.gd 9 .nil (decide ((k : Int) < (a.length : Int))) (fun ac w β h10 g11 S => ?_) (fun ac w β h10 g11 S => ?_)
 ·refine S.go 13 (.cons (qn (S.arg ha) k Tryz.underlying61) (.cons (qx (S.arg ha) 3 k) (.cons (Q_idx o7.rn (l := a.length) (k := k) (i := (k : Int)) (by rw [hacc]; simp; omega) rfl (by omega) Tryz.underlying61 (by kernel_rfl)) .nil))) fun ac w β S => S.SF (α := Int) o7 (t := 3) (k := k) (j := 0) (off := q5.1.off + k * 1) (v := I (el a k)) (y := (el a k)) (q := ()) (fun _ _ _ => ⟨NoB, (LRd.el (S.arg ha) k (by omega)), fun _ h => False.elim h⟩) fun w N F13 q14 S up o12 d15 s16 n17 => ?_
  clear up d15 o7 n17
  have l18 : (acc.set k (el a k)).length = acc.length := List.length_set
  refine S.ge 8 (.cons (qp (k : Int) 1) .nil) f8 fun ac w β S => hf9.of (a.length - (k + 1)) _ _ (by omega) ⟨k + 1, (acc.set k (el a k)), (q5.1, q14), F13, _, _, _, rfl, ?_, ?_, S.z, o12⟩
  ·exact oz
  ·clear S; rw [hacc]; exact set_step (by omega)
 refine S.gr 13 .nil [slv a.length q5.1] fun ac w β S => ?_
 exact ret1_of S (show a = acc by clear S; rw [hacc, take_all (by omega), show a.length - k = 0 by omega]; simp) (by rw [show a.length = acc.length from (by rw [hacc]; simp; omega)]; rfl) o7

theorem c_laws_toIntSS (w0 : World) (a : List (List Int)) (pa : LP (List Int)) (ha : RD w0 a pa) : Calls Tryz.prog 25 [slv a.length pa.1].toArray w0 (Ret1 NoB w0 (a : List (List Int))) := by
 refine Calls.run NoB Tryz.func25 ?_
 intro ac β S
 have hlea : a.length ≤ 4194304 := LRd.le ha
 refine S.go 9 .nil fun ac w β S => S.Mk (α := List Int) (m := a.length) (by' := 24) (d := 7) (by omega) (show a.length ≤ 4194304 by omega) fun ac w N q1 F2 S up o3 d4 => ?_
 clear up d4
 refine S.go 10 .nil fun ac w β S => ?_
 refine lp (fun mm ac w => ∃ (k : Nat) (acc : List (List Int)) (q5 : _) (F6 : _) (u : _) (N : _) (β : _), mm = a.length - k ∧ (k ≤ a.length) ∧ (acc = a.take k ++ List.replicate (a.length - k) (GT.dflt : List Int)) ∧ St Tryz.prog Tryz.f25.ntmps w0 NoB u N β ⟨[(0, .v (slv a.length pa.1)), (3, .v (slv a.length q5.1)), (4, .v (I (k : Int)))], []⟩ ac w ∧ Ow w0 NoB u N F6 acc q5) _ ⟨0, (List.replicate a.length (GT.dflt : List Int)), q1, F2, _, _, _, rfl, o0, (by simp), S.z, o3⟩ ?_
 clear S o3
 rintro f8 mm hf9 ac w ⟨k, acc, q5, F6, u, N, β, rfl, hk, hacc, S, o7⟩
 refine S.rs fun S => ?_
 have hlacc : acc.length = a.length := by rw [hacc]; simp; omega
 refine S.gd 9 .nil (decide ((k : Int) < (a.length : Int))) (fun ac w β h10 g11 S => ?_) (fun ac w β h10 g11 S => ?_)
 ·refine S.go 12 (.cons (qn (S.arg ha) k Tryz.underlying22) (.cons (qx (S.arg ha) 61 k) .nil)) fun ac w β S => S.K1 (r := (el a k)) (d := 20) (c_laws_toIntS w (el a k) (pa.2 k) (S.rd (LRd.el (S.arg ha) k (by omega)))) fun ac w N q12 F13 S up o14 d15 => ?_
  have d16 := Disj.w d15 o7.sub
  replace o7 := o7.up up
  clear up d15
  refine S.go 1 (.cons (Q_idx o7.rn (l := a.length) (k := k) (i := (k : Int)) (by rw [hacc]; simp; omega) rfl (by omega) Tryz.underlying22 (by kernel_rfl)) .nil) fun ac w β S => S.SV (α := List Int) o7 (t := 61) (k := k) (off := q5.1.off + k * 1) o14 d16 fun w N F18 q19 S up o17 d20 s21 n22 => ?_
  clear up d20 o7 n22
  have l23 : (acc.set k (el a k)).length = acc.length := List.length_set
  refine S.ge 8 (.cons (qp (k : Int) 1) .nil) f8 fun ac w β S => hf9.of (a.length - (k + 1)) _ _ (by omega) ⟨k + 1, (acc.set k (el a k)), (q5.1, q19), F18, _, _, _, rfl, ?_, ?_, S.z, o17⟩
  ·exact oz
  ·clear S; rw [hacc]; exact set_step (by omega)
 refine S.gr 13 .nil [slv a.length q5.1] fun ac w β S => ?_
 exact ret1_of S (show a = acc by clear S; rw [hacc, take_all (by omega), show a.length - k = 0 by omega]; simp) (by rw [show a.length = acc.length from (by rw [hacc]; simp; omega)]; rfl) o7

theorem c_laws_toSlot (w0 : World) (a : TSlot) : Calls Tryz.prog 147 [GT.val a ()].toArray w0 (fun e w' => e = .returned (GT.val a ()) ∧ Chg NoB w0 w') := by
 refine Calls.run NoB Tryz.func147 ?_
 intro ac β S
 exact S.gf 34 .nil [GT.val (⟨a.page, a.rights⟩ : TSlot) ()] (retV (p := ()) (by clear S; first | rfl | (simp [a, *]; done) | (simp [a, *]; omega) | (simp_all [a]; done) | (simp_all [a]; omega)))

theorem c_laws_toSlotS (w0 : World) (a : List TSlot) (pa : LP TSlot) (ha : RD w0 a pa) : Calls Tryz.prog 109 [slv a.length pa.1].toArray w0 (Ret1 NoB w0 (a : List TSlot)) := by
 refine Calls.run NoB Tryz.func109 ?_
 intro ac β S
 have hlea : a.length ≤ 4194304 := LRd.le ha
 refine S.go 9 .nil fun ac w β S => S.Mk (α := TSlot) (m := a.length) (by' := 16) (d := 7) (by omega) (show a.length ≤ 4194304 by omega) fun ac w N q1 F2 S up o3 d4 => ?_
 clear up d4
 refine S.go 10 .nil fun ac w β S => ?_
 refine lp (fun mm ac w => ∃ (k : Nat) (acc : List TSlot) (q5 : _) (F6 : _) (u : _) (N : _) (β : _), mm = a.length - k ∧ (k ≤ a.length) ∧ (acc = a.take k ++ List.replicate (a.length - k) (GT.dflt : TSlot)) ∧ St Tryz.prog Tryz.f109.ntmps w0 NoB u N β ⟨[(0, .v (slv a.length pa.1)), (3, .v (slv a.length q5.1)), (4, .v (I (k : Int)))], []⟩ ac w ∧ Ow w0 NoB u N F6 acc q5) _ ⟨0, (List.replicate a.length (GT.dflt : TSlot)), q1, F2, _, _, _, rfl, o0, (by simp), S.z, o3⟩ ?_
 clear S o3
 rintro f8 mm hf9 ac w ⟨k, acc, q5, F6, u, N, β, rfl, hk, hacc, S, o7⟩
 refine S.rs fun S => ?_
 have hlacc : acc.length = a.length := by rw [hacc]; simp; omega
 refine S.gd 9 .nil (decide ((k : Int) < (a.length : Int))) (fun ac w β h10 g11 S => ?_) (fun ac w β h10 g11 S => ?_)
 ·have e12 : RSlot (el acc k) := (LRd.el o7.rn k (by omega))
  refine S.go 14 (.cons (qn (S.arg ha) k Tryz.underlying63) (.cons (qs (S.arg ha) 166 k) (.cons (Q_call fun w hw => c_laws_toSlot w (el a k)) (.cons (Q_idx o7.rn (l := a.length) (k := k) (i := (k : Int)) (by rw [hacc]; simp; omega) rfl (by omega) Tryz.underlying69 (by kernel_rfl)) .nil)))) fun ac w β S => S.SF (α := TSlot) o7 (t := 92) (k := k) (j := 0) (off := q5.1.off + k * 2) (v := GT.val (el a k) ()) (y := (el a k)) (q := ()) (fun _ _ _ => ⟨NoB, (LRd.el (S.arg ha) k (by omega)), fun _ h => False.elim h⟩) fun w N F14 q15 S up o13 d16 s17 n18 => ?_
  clear up d16 o7 n18
  have l19 : (acc.set k (el a k)).length = acc.length := List.length_set
  refine S.ge 8 (.cons (qp (k : Int) 1) .nil) f8 fun ac w β S => hf9.of (a.length - (k + 1)) _ _ (by omega) ⟨k + 1, (acc.set k (el a k)), (q5.1, q15), F14, _, _, _, rfl, ?_, ?_, S.z, o13⟩
  ·exact oz
  ·clear S; rw [hacc]; exact set_step (by omega)
 refine S.gr 13 .nil [slv a.length q5.1] fun ac w β S => ?_
 exact ret1_of S (show a = acc by clear S; rw [hacc, take_all (by omega), show a.length - k = 0 by omega]; simp) (by rw [show a.length = acc.length from (by rw [hacc]; simp; omega)]; rfl) o7

theorem c_laws_toBoolS (w0 : World) (a : List Bool) (pa : LP Bool) (ha : RD w0 a pa) : Calls Tryz.prog 110 [slv a.length pa.1].toArray w0 (Ret1 NoB w0 (a : List Bool)) := by
 refine Calls.run NoB Tryz.func110 ?_
 intro ac β S
 have hlea : a.length ≤ 4194304 := LRd.le ha
 refine S.go 9 .nil fun ac w β S => S.Mk (α := Bool) (m := a.length) (by' := 1) (d := 7) (by omega) (show a.length ≤ 4194304 by omega) fun ac w N q1 F2 S up o3 d4 => ?_
 clear up d4
 refine S.go 10 .nil fun ac w β S => ?_
 refine lp (fun mm ac w => ∃ (k : Nat) (acc : List Bool) (q5 : _) (F6 : _) (u : _) (N : _) (β : _), mm = a.length - k ∧ (k ≤ a.length) ∧ (acc = a.take k ++ List.replicate (a.length - k) (GT.dflt : Bool)) ∧ St Tryz.prog Tryz.f110.ntmps w0 NoB u N β ⟨[(0, .v (slv a.length pa.1)), (3, .v (slv a.length q5.1)), (4, .v (I (k : Int)))], []⟩ ac w ∧ Ow w0 NoB u N F6 acc q5) _ ⟨0, (List.replicate a.length (GT.dflt : Bool)), q1, F2, _, _, _, rfl, o0, (by simp), S.z, o3⟩ ?_
 clear S o3
 rintro f8 mm hf9 ac w ⟨k, acc, q5, F6, u, N, β, rfl, hk, hacc, S, o7⟩
 refine S.rs fun S => ?_
 have hlacc : acc.length = a.length := by rw [hacc]; simp; omega
 refine S.gd 9 .nil (decide ((k : Int) < (a.length : Int))) (fun ac w β h10 g11 S => ?_) (fun ac w β h10 g11 S => ?_)
 ·refine S.go 13 (.cons (qn (S.arg ha) k Tryz.underlying64) (.cons (qx (S.arg ha) 4 k) (.cons (Q_idx o7.rn (l := a.length) (k := k) (i := (k : Int)) (by rw [hacc]; simp; omega) rfl (by omega) Tryz.underlying64 (by kernel_rfl)) .nil))) fun ac w β S => S.SF (α := Bool) o7 (t := 4) (k := k) (j := 0) (off := q5.1.off + k * 1) (v := B (el a k)) (y := (el a k)) (q := ()) (fun _ _ _ => ⟨NoB, trivial, fun _ h => False.elim h⟩) fun w N F13 q14 S up o12 d15 s16 n17 => ?_
  clear up d15 o7 n17
  have l18 : (acc.set k (el a k)).length = acc.length := List.length_set
  refine S.ge 8 (.cons (qp (k : Int) 1) .nil) f8 fun ac w β S => hf9.of (a.length - (k + 1)) _ _ (by omega) ⟨k + 1, (acc.set k (el a k)), (q5.1, q14), F13, _, _, _, rfl, ?_, ?_, S.z, o12⟩
  ·exact oz
  ·clear S; rw [hacc]; exact set_step (by omega)
 refine S.gr 13 .nil [slv a.length q5.1] fun ac w β S => ?_
 exact ret1_of S (show a = acc by clear S; rw [hacc, take_all (by omega), show a.length - k = 0 by omega]; simp) (by rw [show a.length = acc.length from (by rw [hacc]; simp; omega)]; rfl) o7

theorem c_laws_toIns (w0 : World) (a : TIns) : Calls Tryz.prog 192 [GT.val a ()].toArray w0 (fun e w' => e = .returned (GT.val a ()) ∧ Chg NoB w0 w') := by
 refine Calls.run NoB Tryz.func192 ?_
 intro ac β S
 exact S.gf 34 .nil [GT.val (⟨a.opc, a.x⟩ : TIns) ()] (retV (p := ()) (by clear S; first | rfl | (simp [a, *]; done) | (simp [a, *]; omega) | (simp_all [a]; done) | (simp_all [a]; omega)))

theorem c_laws_toInsS (w0 : World) (a : List TIns) (pa : LP TIns) (ha : RD w0 a pa) : Calls Tryz.prog 174 [slv a.length pa.1].toArray w0 (Ret1 NoB w0 (a : List TIns)) := by
 refine Calls.run NoB Tryz.func174 ?_
 intro ac β S
 have hlea : a.length ≤ 4194304 := LRd.le ha
 refine S.go 9 .nil fun ac w β S => S.Mk (α := TIns) (m := a.length) (by' := 16) (d := 7) (by omega) (show a.length ≤ 4194304 by omega) fun ac w N q1 F2 S up o3 d4 => ?_
 clear up d4
 refine S.go 10 .nil fun ac w β S => ?_
 refine lp (fun mm ac w => ∃ (k : Nat) (acc : List TIns) (q5 : _) (F6 : _) (u : _) (N : _) (β : _), mm = a.length - k ∧ (k ≤ a.length) ∧ (acc = a.take k ++ List.replicate (a.length - k) (GT.dflt : TIns)) ∧ St Tryz.prog Tryz.f174.ntmps w0 NoB u N β ⟨[(0, .v (slv a.length pa.1)), (3, .v (slv a.length q5.1)), (4, .v (I (k : Int)))], []⟩ ac w ∧ Ow w0 NoB u N F6 acc q5) _ ⟨0, (List.replicate a.length (GT.dflt : TIns)), q1, F2, _, _, _, rfl, o0, (by simp), S.z, o3⟩ ?_
 clear S o3
 rintro f8 mm hf9 ac w ⟨k, acc, q5, F6, u, N, β, rfl, hk, hacc, S, o7⟩
 refine S.rs fun S => ?_
 have hlacc : acc.length = a.length := by rw [hacc]; simp; omega
 refine S.gd 9 .nil (decide ((k : Int) < (a.length : Int))) (fun ac w β h10 g11 S => ?_) (fun ac w β h10 g11 S => ?_)
 ·have e12 : RIns (el acc k) := (LRd.el o7.rn k (by omega))
  refine S.go 14 (.cons (qn (S.arg ha) k Tryz.underlying147) (.cons (qs (S.arg ha) 195 k) (.cons (Q_call fun w hw => c_laws_toIns w (el a k)) (.cons (Q_idx o7.rn (l := a.length) (k := k) (i := (k : Int)) (by rw [hacc]; simp; omega) rfl (by omega) Tryz.underlying78 (by kernel_rfl)) .nil)))) fun ac w β S => S.SF (α := TIns) o7 (t := 176) (k := k) (j := 0) (off := q5.1.off + k * 2) (v := GT.val (el a k) ()) (y := (el a k)) (q := ()) (fun _ _ _ => ⟨NoB, (LRd.el (S.arg ha) k (by omega)), fun _ h => False.elim h⟩) fun w N F14 q15 S up o13 d16 s17 n18 => ?_
  clear up d16 o7 n18
  have l19 : (acc.set k (el a k)).length = acc.length := List.length_set
  refine S.ge 8 (.cons (qp (k : Int) 1) .nil) f8 fun ac w β S => hf9.of (a.length - (k + 1)) _ _ (by omega) ⟨k + 1, (acc.set k (el a k)), (q5.1, q15), F14, _, _, _, rfl, ?_, ?_, S.z, o13⟩
  ·exact oz
  ·clear S; rw [hacc]; exact set_step (by omega)
 refine S.gr 13 .nil [slv a.length q5.1] fun ac w β S => ?_
 exact ret1_of S (show a = acc by clear S; rw [hacc, take_all (by omega), show a.length - k = 0 by omega]; simp) (by rw [show a.length = acc.length from (by rw [hacc]; simp; omega)]; rfl) o7

theorem c_laws_toCtl (w0 : World) (a : TCtl) : Calls Tryz.prog 175 [GT.val a ()].toArray w0 (fun e w' => e = .returned (GT.val a ()) ∧ Chg NoB w0 w') := by
 refine Calls.run NoB Tryz.func175 ?_
 intro ac β S
 exact S.gf 42 .nil [GT.val (⟨a.traps, a.post, a.opn⟩ : TCtl) ()] (retV (p := ()) (by clear S; first | rfl | (simp [a, *]; done) | (simp [a, *]; omega) | (simp_all [a]; done) | (simp_all [a]; omega)))

theorem c_laws_toExit (w0 : World) (a : TExit) : Calls Tryz.prog 176 [GT.val a ()].toArray w0 (fun e w' => e = .returned (GT.val a ()) ∧ Chg NoB w0 w') := by
 refine Calls.run NoB Tryz.func176 ?_
 intro ac β S
 exact S.gf 50 .nil [GT.val (⟨a.kind, a.page, a.wr, a.n⟩ : TExit) ()] (retV (p := ()) (by clear S; first | rfl | (simp [a, *]; done) | (simp [a, *]; omega) | (simp_all [a]; done) | (simp_all [a]; omega)))

theorem c_laws_toGuest (w0 : World) (a : TGuest) (pa : PGuest) (ha : RD w0 a pa) : Calls Tryz.prog 148 [GT.val a pa].toArray w0 (Ret1 NoB w0 (a : TGuest)) := by
 refine Calls.run NoB Tryz.func148 ?_
 intro ac β S
 have hlea_prog : a.prog.length ≤ 4194304 := LRd.le (RGuest.prog (d := a) ha)
 have hlea_written : a.written.length ≤ 4194304 := LRd.le (RGuest.written (d := a) ha)
 have hlea_live : a.live.length ≤ 4194304 := LRd.le (RGuest.live (d := a) ha)
 have hlea_seen : a.seen.length ≤ 4194304 := LRd.le (RGuest.seen (d := a) ha)
 refine S.go 15 .nil fun ac w β S => S.K1 (r := a.prog) (d := 6) (c_laws_toInsS w a.prog pa.prog (S.rd (RGuest.prog (d := a) (S.arg ha)))) fun ac w N q1 F2 S up o3 d4 => ?_
 clear up d4
 refine S.go 24 .nil fun ac w β S => S.K1 (r := a.written) (d := 16) (c_laws_toSlotS w a.written pa.written (S.rd (RGuest.written (d := a) (S.arg ha)))) fun ac w N q5 F6 S up o7 d8 => ?_
 have d9 := Disj.w d8 o3.sub
 replace o3 := o3.up up
 clear up d8
 refine S.go 8 .nil fun ac w β S => S.K1 (r := a.live) (d := 20) (c_laws_toSlotS w a.live pa.live (S.rd (RGuest.live (d := a) (S.arg ha)))) fun ac w N q10 F11 S up o12 d13 => ?_
 have d14 := Disj.w d13 o3.sub
 have d15 := Disj.w d13 o7.sub
 replace o3 := o3.up up
 replace o7 := o7.up up
 clear up d13
 refine S.go 42 (.cons (Q_call fun w hw => c_laws_toCtl w a.ctl) (.cons (Q_call fun w hw => c_laws_toExit w a.exit) .nil)) fun ac w β S => S.K1 (r := a.seen) (d := 38) (c_laws_toIntS w a.seen pa.seen (S.rd (RGuest.seen (d := a) (S.arg ha)))) fun ac w N q16 F17 S up o18 d19 => ?_
 have d20 := Disj.w d19 o3.sub
 have d21 := Disj.w d19 o7.sub
 have d22 := Disj.w d19 o12.sub
 replace o3 := o3.up up
 replace o7 := o7.up up
 replace o12 := o12.up up
 clear up d19
 refine S.gr 11 .nil [GT.val (⟨a.prog, a.acc, a.pc, a.written, a.live, a.ctl, a.pend, a.exit, a.halted, a.seen⟩ : TGuest) (⟨q1, q5, q10, q16⟩ : PGuest)] fun ac w β S => ?_
 have o23 := ow_Guest (x := (⟨a.prog, a.acc, a.pc, a.written, a.live, a.ctl, a.pend, a.exit, a.halted, a.seen⟩ : TGuest)) (p := (⟨q1, q5, q10, q16⟩ : PGuest)) o3 o7 o12 o18 d9 d14 d20 d15 d21 d22 (RGuest.acc (d := a) (S.arg ha)) (RGuest.pc (d := a) (S.arg ha)) (RGuest.ctl (d := a) (S.arg ha)) (RGuest.pend (d := a) (S.arg ha)) (RGuest.exit (d := a) (S.arg ha))
 exact ret1_of S (show a = (⟨a.prog, a.acc, a.pc, a.written, a.live, a.ctl, a.pend, a.exit, a.halted, a.seen⟩ : TGuest) by clear S; first | rfl | simp) rfl o23

theorem c_laws_toGuestS (w0 : World) (a : List TGuest) (pa : LP TGuest) (ha : RD w0 a pa) : Calls Tryz.prog 111 [slv a.length pa.1].toArray w0 (Ret1 NoB w0 (a : List TGuest)) := by
 refine Calls.run NoB Tryz.func111 ?_
 intro ac β S
 have hlea : a.length ≤ 4194304 := LRd.le ha
 refine S.go 9 .nil fun ac w β S => S.Mk (α := TGuest) (m := a.length) (by' := 184) (d := 7) (by omega) (show a.length ≤ 4194304 by omega) fun ac w N q1 F2 S up o3 d4 => ?_
 clear up d4
 refine S.go 10 .nil fun ac w β S => ?_
 refine lp (fun mm ac w => ∃ (k : Nat) (acc : List TGuest) (q5 : _) (F6 : _) (u : _) (N : _) (β : _), mm = a.length - k ∧ (k ≤ a.length) ∧ (acc = a.take k ++ List.replicate (a.length - k) (GT.dflt : TGuest)) ∧ St Tryz.prog Tryz.f111.ntmps w0 NoB u N β ⟨[(0, .v (slv a.length pa.1)), (3, .v (slv a.length q5.1)), (4, .v (I (k : Int)))], []⟩ ac w ∧ Ow w0 NoB u N F6 acc q5) _ ⟨0, (List.replicate a.length (GT.dflt : TGuest)), q1, F2, _, _, _, rfl, o0, (by simp), S.z, o3⟩ ?_
 clear S o3
 rintro f8 mm hf9 ac w ⟨k, acc, q5, F6, u, N, β, rfl, hk, hacc, S, o7⟩
 refine S.rs fun S => ?_
 have hlacc : acc.length = a.length := by rw [hacc]; simp; omega
 refine S.gd 9 .nil (decide ((k : Int) < (a.length : Int))) (fun ac w β h10 g11 S => ?_) (fun ac w β h10 g11 S => ?_)
 ·refine S.go 12 (.cons (qn (S.arg ha) k Tryz.underlying65) (.cons (qs (S.arg ha) 151 k) .nil)) fun ac w β S => S.K1 (r := (el a k)) (d := 20) (c_laws_toGuest w (el a k) (pa.2 k) (S.rd (LRd.el (S.arg ha) k (by omega)))) fun ac w N q12 F13 S up o14 d15 => ?_
  have d16 := Disj.w d15 o7.sub
  replace o7 := o7.up up
  clear up d15
  have i20 : In64 (el a k).acc := RGuest.acc (d := (el a k)) o14.rn
  have i21 : In64 (el a k).pc := RGuest.pc (d := (el a k)) o14.rn
  have i28 : RCtl (el a k).ctl := RGuest.ctl (d := (el a k)) o14.rn
  have i29 : In64 (el a k).pend := RGuest.pend (d := (el a k)) o14.rn
  have i30 : RExit (el a k).exit := RGuest.exit (d := (el a k)) o14.rn
  obtain ⟨F17, F22, F25, F31, o18, o23, o26, o32, s19, s24, s27, s33, d34, d35, d36, d37, d38, d39⟩ := sp_Guest o14
  have o44 := ow_Guest (x := (el a k)) (p := q12) o18 o23 o26 o32 d34 d35 d36 d37 d38 d39 i20 i21 i28 i29 i30
  refine S.go 1 (.cons (Q_idx o7.rn (l := a.length) (k := k) (i := (k : Int)) (by rw [hacc]; simp; omega) rfl (by omega) Tryz.underlying70 (by kernel_rfl)) .nil) fun ac w β S => S.SV (α := TGuest) o7 (t := 84) (k := k) (off := q5.1.off + k * 15) o44 (Disj.symm (Disj.or (Disj.part (Disj.symm d16) s19) (Disj.or (Disj.part (Disj.symm d16) s24) (Disj.or (Disj.part (Disj.symm d16) s27) (Disj.or (Disj.part (Disj.symm d16) s33) Disj.nob))))) fun w N F41 q42 S up o40 d43 s45 n46 => ?_
  clear up d43 o7 n46
  have l47 : (acc.set k (el a k)).length = acc.length := List.length_set
  refine S.ge 8 (.cons (qp (k : Int) 1) .nil) f8 fun ac w β S => hf9.of (a.length - (k + 1)) _ _ (by omega) ⟨k + 1, (acc.set k (el a k)), (q5.1, q42), F41, _, _, _, rfl, ?_, ?_, S.z, o40⟩
  ·exact oz
  ·clear S; rw [hacc]; exact set_step (by omega)
 refine S.gr 13 .nil [slv a.length q5.1] fun ac w β S => ?_
 exact ret1_of S (show a = acc by clear S; rw [hacc, take_all (by omega), show a.length - k = 0 by omega]; simp) (by rw [show a.length = acc.length from (by rw [hacc]; simp; omega)]; rfl) o7

theorem c_laws_toKept (w0 : World) (a : TKept) (pa : PKept) (ha : RD w0 a pa) : Calls Tryz.prog 149 [GT.val a pa].toArray w0 (Ret1 NoB w0 (a : TKept)) := by
 refine Calls.run NoB Tryz.func149 ?_
 intro ac β S
 have hlea_known : a.known.length ≤ 4194304 := LRd.le (RKept.known (d := a) ha)
 have hlea_slots : a.slots.length ≤ 4194304 := LRd.le (RKept.slots (d := a) ha)
 refine S.go 15 .nil fun ac w β S => S.K1 (r := a.known) (d := 6) (c_laws_toBoolS w a.known pa.known (S.rd (RKept.known (d := a) (S.arg ha)))) fun ac w N q1 F2 S up o3 d4 => ?_
 clear up d4
 refine S.go 8 .nil fun ac w β S => S.K1 (r := a.slots) (d := 10) (c_laws_toSlotS w a.slots pa.slots (S.rd (RKept.slots (d := a) (S.arg ha)))) fun ac w N q5 F6 S up o7 d8 => ?_
 have d9 := Disj.w d8 o3.sub
 replace o3 := o3.up up
 clear up d8
 refine S.gr 11 .nil [GT.val (⟨a.known, a.slots⟩ : TKept) (⟨q1, q5⟩ : PKept)] fun ac w β S => ?_
 have o10 := ow_Kept (x := (⟨a.known, a.slots⟩ : TKept)) (p := (⟨q1, q5⟩ : PKept)) o3 o7 d9 
 exact ret1_of S (show a = (⟨a.known, a.slots⟩ : TKept) by clear S; first | rfl | simp) rfl o10

theorem c_laws_toKeptS (w0 : World) (a : List TKept) (pa : LP TKept) (ha : RD w0 a pa) : Calls Tryz.prog 112 [slv a.length pa.1].toArray w0 (Ret1 NoB w0 (a : List TKept)) := by
 refine Calls.run NoB Tryz.func112 ?_
 intro ac β S
 have hlea : a.length ≤ 4194304 := LRd.le ha
 refine S.go 9 .nil fun ac w β S => S.Mk (α := TKept) (m := a.length) (by' := 48) (d := 7) (by omega) (show a.length ≤ 4194304 by omega) fun ac w N q1 F2 S up o3 d4 => ?_
 clear up d4
 refine S.go 10 .nil fun ac w β S => ?_
 refine lp (fun mm ac w => ∃ (k : Nat) (acc : List TKept) (q5 : _) (F6 : _) (u : _) (N : _) (β : _), mm = a.length - k ∧ (k ≤ a.length) ∧ (acc = a.take k ++ List.replicate (a.length - k) (GT.dflt : TKept)) ∧ St Tryz.prog Tryz.f112.ntmps w0 NoB u N β ⟨[(0, .v (slv a.length pa.1)), (3, .v (slv a.length q5.1)), (4, .v (I (k : Int)))], []⟩ ac w ∧ Ow w0 NoB u N F6 acc q5) _ ⟨0, (List.replicate a.length (GT.dflt : TKept)), q1, F2, _, _, _, rfl, o0, (by simp), S.z, o3⟩ ?_
 clear S o3
 rintro f8 mm hf9 ac w ⟨k, acc, q5, F6, u, N, β, rfl, hk, hacc, S, o7⟩
 refine S.rs fun S => ?_
 have hlacc : acc.length = a.length := by rw [hacc]; simp; omega
 refine S.gd 9 .nil (decide ((k : Int) < (a.length : Int))) (fun ac w β h10 g11 S => ?_) (fun ac w β h10 g11 S => ?_)
 ·refine S.go 12 (.cons (qn (S.arg ha) k Tryz.underlying66) (.cons (qs (S.arg ha) 154 k) .nil)) fun ac w β S => S.K1 (r := (el a k)) (d := 20) (c_laws_toKept w (el a k) (pa.2 k) (S.rd (LRd.el (S.arg ha) k (by omega)))) fun ac w N q12 F13 S up o14 d15 => ?_
  have d16 := Disj.w d15 o7.sub
  replace o7 := o7.up up
  clear up d15
  obtain ⟨F17, F20, o18, o21, s19, s22, d23⟩ := sp_Kept o14
  have o28 := ow_Kept (x := (el a k)) (p := q12) o18 o21 d23 
  refine S.go 1 (.cons (Q_idx o7.rn (l := a.length) (k := k) (i := (k : Int)) (by rw [hacc]; simp; omega) rfl (by omega) Tryz.underlying71 (by kernel_rfl)) .nil) fun ac w β S => S.SV (α := TKept) o7 (t := 96) (k := k) (off := q5.1.off + k * 2) o28 (Disj.symm (Disj.or (Disj.part (Disj.symm d16) s19) (Disj.or (Disj.part (Disj.symm d16) s22) Disj.nob))) fun w N F25 q26 S up o24 d27 s29 n30 => ?_
  clear up d27 o7 n30
  have l31 : (acc.set k (el a k)).length = acc.length := List.length_set
  refine S.ge 8 (.cons (qp (k : Int) 1) .nil) f8 fun ac w β S => hf9.of (a.length - (k + 1)) _ _ (by omega) ⟨k + 1, (acc.set k (el a k)), (q5.1, q26), F25, _, _, _, rfl, ?_, ?_, S.z, o24⟩
  ·exact oz
  ·clear S; rw [hacc]; exact set_step (by omega)
 refine S.gr 13 .nil [slv a.length q5.1] fun ac w β S => ?_
 exact ret1_of S (show a = acc by clear S; rw [hacc, take_all (by omega), show a.length - k = 0 by omega]; simp) (by rw [show a.length = acc.length from (by rw [hacc]; simp; omega)]; rfl) o7

theorem c_laws_toMon (w0 : World) (a : TMon) (pa : PMon) (ha : RD w0 a pa) : Calls Tryz.prog 63 [GT.val a pa].toArray w0 (Ret1 NoB w0 (a : TMon)) := by
 refine Calls.run NoB Tryz.func63 ?_
 intro ac β S
 have hlea_outer : a.outer.length ≤ 4194304 := LRd.le (RMon.outer (d := a) ha)
 have hlea_out : a.out.length ≤ 4194304 := LRd.le (RMon.out (d := a) ha)
 have hlea_dirty : a.dirty.length ≤ 4194304 := LRd.le (RMon.dirty (d := a) ha)
 have hlea_guests : a.guests.length ≤ 4194304 := LRd.le (RMon.guests (d := a) ha)
 have hlea_outs : a.outs.length ≤ 4194304 := LRd.le (RMon.outs (d := a) ha)
 have hlea_tables : a.tables.length ≤ 4194304 := LRd.le (RMon.tables (d := a) ha)
 refine S.go 15 .nil fun ac w β S => S.K1 (r := a.outer) (d := 6) (c_laws_toSlotS w a.outer pa.outer (S.rd (RMon.outer (d := a) (S.arg ha)))) fun ac w N q1 F2 S up o3 d4 => ?_
 clear up d4
 refine S.go 8 .nil fun ac w β S => S.K1 (r := a.out) (d := 10) (c_laws_toIntSS w a.out pa.out (S.rd (RMon.out (d := a) (S.arg ha)))) fun ac w N q5 F6 S up o7 d8 => ?_
 have d9 := Disj.w d8 o3.sub
 replace o3 := o3.up up
 clear up d8
 refine S.go 8 .nil fun ac w β S => S.K1 (r := a.dirty) (d := 14) (c_laws_toBoolS w a.dirty pa.dirty (S.rd (RMon.dirty (d := a) (S.arg ha)))) fun ac w N q10 F11 S up o12 d13 => ?_
 have d14 := Disj.w d13 o3.sub
 have d15 := Disj.w d13 o7.sub
 replace o3 := o3.up up
 replace o7 := o7.up up
 clear up d13
 refine S.go 8 .nil fun ac w β S => S.K1 (r := a.guests) (d := 18) (c_laws_toGuestS w a.guests pa.guests (S.rd (RMon.guests (d := a) (S.arg ha)))) fun ac w N q16 F17 S up o18 d19 => ?_
 have d20 := Disj.w d19 o3.sub
 have d21 := Disj.w d19 o7.sub
 have d22 := Disj.w d19 o12.sub
 replace o3 := o3.up up
 replace o7 := o7.up up
 replace o12 := o12.up up
 clear up d19
 refine S.go 8 .nil fun ac w β S => S.K1 (r := a.outs) (d := 22) (c_laws_toIntS w a.outs pa.outs (S.rd (RMon.outs (d := a) (S.arg ha)))) fun ac w N q23 F24 S up o25 d26 => ?_
 have d27 := Disj.w d26 o3.sub
 have d28 := Disj.w d26 o7.sub
 have d29 := Disj.w d26 o12.sub
 have d30 := Disj.w d26 o18.sub
 replace o3 := o3.up up
 replace o7 := o7.up up
 replace o12 := o12.up up
 replace o18 := o18.up up
 clear up d26
 refine S.go 24 .nil fun ac w β S => S.K1 (r := a.tables) (d := 32) (c_laws_toKeptS w a.tables pa.tables (S.rd (RMon.tables (d := a) (S.arg ha)))) fun ac w N q31 F32 S up o33 d34 => ?_
 have d35 := Disj.w d34 o3.sub
 have d36 := Disj.w d34 o7.sub
 have d37 := Disj.w d34 o12.sub
 have d38 := Disj.w d34 o18.sub
 have d39 := Disj.w d34 o25.sub
 replace o3 := o3.up up
 replace o7 := o7.up up
 replace o12 := o12.up up
 replace o18 := o18.up up
 replace o25 := o25.up up
 clear up d34
 refine S.gr 19 .nil [GT.val (⟨a.outer, a.out, a.dirty, a.guests, a.outs, a.pend, a.traps, a.tables, a.owned⟩ : TMon) (⟨q1, q5, q10, q16, q23, q31⟩ : PMon)] fun ac w β S => ?_
 have o40 := ow_Mon (x := (⟨a.outer, a.out, a.dirty, a.guests, a.outs, a.pend, a.traps, a.tables, a.owned⟩ : TMon)) (p := (⟨q1, q5, q10, q16, q23, q31⟩ : PMon)) o3 o7 o12 o18 o25 o33 d9 d14 d20 d27 d35 d15 d21 d28 d36 d22 d29 d37 d30 d38 d39 (RMon.pend (d := a) (S.arg ha)) (RMon.traps (d := a) (S.arg ha)) (RMon.owned (d := a) (S.arg ha))
 exact ret1_of S (show a = (⟨a.outer, a.out, a.dirty, a.guests, a.outs, a.pend, a.traps, a.tables, a.owned⟩ : TMon) by clear S; first | rfl | simp) rfl o40

theorem c_laws_toMonS (w0 : World) (a : List TMon) (pa : LP TMon) (ha : RD w0 a pa) : Calls Tryz.prog 26 [slv a.length pa.1].toArray w0 (Ret1 NoB w0 (a : List TMon)) := by
 refine Calls.run NoB Tryz.func26 ?_
 intro ac β S
 have hlea : a.length ≤ 4194304 := LRd.le ha
 refine S.go 9 .nil fun ac w β S => S.Mk (α := TMon) (m := a.length) (by' := 168) (d := 7) (by omega) (show a.length ≤ 4194304 by omega) fun ac w N q1 F2 S up o3 d4 => ?_
 clear up d4
 refine S.go 10 .nil fun ac w β S => ?_
 refine lp (fun mm ac w => ∃ (k : Nat) (acc : List TMon) (q5 : _) (F6 : _) (u : _) (N : _) (β : _), mm = a.length - k ∧ (k ≤ a.length) ∧ (acc = a.take k ++ List.replicate (a.length - k) (GT.dflt : TMon)) ∧ St Tryz.prog Tryz.f26.ntmps w0 NoB u N β ⟨[(0, .v (slv a.length pa.1)), (3, .v (slv a.length q5.1)), (4, .v (I (k : Int)))], []⟩ ac w ∧ Ow w0 NoB u N F6 acc q5) _ ⟨0, (List.replicate a.length (GT.dflt : TMon)), q1, F2, _, _, _, rfl, o0, (by simp), S.z, o3⟩ ?_
 clear S o3
 rintro f8 mm hf9 ac w ⟨k, acc, q5, F6, u, N, β, rfl, hk, hacc, S, o7⟩
 refine S.rs fun S => ?_
 have hlacc : acc.length = a.length := by rw [hacc]; simp; omega
 refine S.gd 9 .nil (decide ((k : Int) < (a.length : Int))) (fun ac w β h10 g11 S => ?_) (fun ac w β h10 g11 S => ?_)
 ·refine S.go 12 (.cons (qn (S.arg ha) k Tryz.underlying23) (.cons (qs (S.arg ha) 68 k) .nil)) fun ac w β S => S.K1 (r := (el a k)) (d := 20) (c_laws_toMon w (el a k) (pa.2 k) (S.rd (LRd.el (S.arg ha) k (by omega)))) fun ac w N q12 F13 S up o14 d15 => ?_
  have d16 := Disj.w d15 o7.sub
  replace o7 := o7.up up
  clear up d15
  have i32 : In64 (el a k).pend := RMon.pend (d := (el a k)) o14.rn
  have i33 : In64 (el a k).traps := RMon.traps (d := (el a k)) o14.rn
  have i37 : In64 (el a k).owned := RMon.owned (d := (el a k)) o14.rn
  obtain ⟨F17, F20, F23, F26, F29, F34, o18, o21, o24, o27, o30, o35, s19, s22, s25, s28, s31, s36, d38, d39, d40, d41, d42, d43, d44, d45, d46, d47, d48, d49, d50, d51, d52⟩ := sp_Mon o14
  have o57 := ow_Mon (x := (el a k)) (p := q12) o18 o21 o24 o27 o30 o35 d38 d39 d40 d41 d42 d43 d44 d45 d46 d47 d48 d49 d50 d51 d52 i32 i33 i37
  refine S.go 1 (.cons (Q_idx o7.rn (l := a.length) (k := k) (i := (k : Int)) (by rw [hacc]; simp; omega) rfl (by omega) Tryz.underlying28 (by kernel_rfl)) .nil) fun ac w β S => S.SV (α := TMon) o7 (t := 73) (k := k) (off := q5.1.off + k * 9) o57 (Disj.symm (Disj.or (Disj.part (Disj.symm d16) s19) (Disj.or (Disj.part (Disj.symm d16) s22) (Disj.or (Disj.part (Disj.symm d16) s25) (Disj.or (Disj.part (Disj.symm d16) s28) (Disj.or (Disj.part (Disj.symm d16) s31) (Disj.or (Disj.part (Disj.symm d16) s36) Disj.nob))))))) fun w N F54 q55 S up o53 d56 s58 n59 => ?_
  clear up d56 o7 n59
  have l60 : (acc.set k (el a k)).length = acc.length := List.length_set
  refine S.ge 8 (.cons (qp (k : Int) 1) .nil) f8 fun ac w β S => hf9.of (a.length - (k + 1)) _ _ (by omega) ⟨k + 1, (acc.set k (el a k)), (q5.1, q55), F54, _, _, _, rfl, ?_, ?_, S.z, o53⟩
  ·exact oz
  ·clear S; rw [hacc]; exact set_step (by omega)
 refine S.gr 13 .nil [slv a.length q5.1] fun ac w β S => ?_
 exact ret1_of S (show a = acc by clear S; rw [hacc, take_all (by omega), show a.length - k = 0 by omega]; simp) (by rw [show a.length = acc.length from (by rw [hacc]; simp; omega)]; rfl) o7

theorem c_laws_toEntry (w0 : World) (a : TEntry) : Calls Tryz.prog 64 [GT.val a ()].toArray w0 (fun e w' => e = .returned (GT.val a ()) ∧ Chg NoB w0 w') := by
 refine Calls.run NoB Tryz.func64 ?_
 intro ac β S
 exact S.gf 50 .nil [GT.val (⟨a.tag, a.page, a.host, a.rights⟩ : TEntry) ()] (retV (p := ()) (by clear S; first | rfl | (simp [a, *]; done) | (simp [a, *]; omega) | (simp_all [a]; done) | (simp_all [a]; omega)))

theorem c_laws_toEntryS (w0 : World) (a : List TEntry) (pa : LP TEntry) (ha : RD w0 a pa) : Calls Tryz.prog 27 [slv a.length pa.1].toArray w0 (Ret1 NoB w0 (a : List TEntry)) := by
 refine Calls.run NoB Tryz.func27 ?_
 intro ac β S
 have hlea : a.length ≤ 4194304 := LRd.le ha
 refine S.go 9 .nil fun ac w β S => S.Mk (α := TEntry) (m := a.length) (by' := 32) (d := 7) (by omega) (show a.length ≤ 4194304 by omega) fun ac w N q1 F2 S up o3 d4 => ?_
 clear up d4
 refine S.go 10 .nil fun ac w β S => ?_
 refine lp (fun mm ac w => ∃ (k : Nat) (acc : List TEntry) (q5 : _) (F6 : _) (u : _) (N : _) (β : _), mm = a.length - k ∧ (k ≤ a.length) ∧ (acc = a.take k ++ List.replicate (a.length - k) (GT.dflt : TEntry)) ∧ St Tryz.prog Tryz.f27.ntmps w0 NoB u N β ⟨[(0, .v (slv a.length pa.1)), (3, .v (slv a.length q5.1)), (4, .v (I (k : Int)))], []⟩ ac w ∧ Ow w0 NoB u N F6 acc q5) _ ⟨0, (List.replicate a.length (GT.dflt : TEntry)), q1, F2, _, _, _, rfl, o0, (by simp), S.z, o3⟩ ?_
 clear S o3
 rintro f8 mm hf9 ac w ⟨k, acc, q5, F6, u, N, β, rfl, hk, hacc, S, o7⟩
 refine S.rs fun S => ?_
 have hlacc : acc.length = a.length := by rw [hacc]; simp; omega
 refine S.gd 9 .nil (decide ((k : Int) < (a.length : Int))) (fun ac w β h10 g11 S => ?_) (fun ac w β h10 g11 S => ?_)
 ·have e12 : REntry (el acc k) := (LRd.el o7.rn k (by omega))
  refine S.go 14 (.cons (qn (S.arg ha) k Tryz.underlying24) (.cons (qs (S.arg ha) 103 k) (.cons (Q_call fun w hw => c_laws_toEntry w (el a k)) (.cons (Q_idx o7.rn (l := a.length) (k := k) (i := (k : Int)) (by rw [hacc]; simp; omega) rfl (by omega) Tryz.underlying29 (by kernel_rfl)) .nil)))) fun ac w β S => S.SF (α := TEntry) o7 (t := 87) (k := k) (j := 0) (off := q5.1.off + k * 4) (v := GT.val (el a k) ()) (y := (el a k)) (q := ()) (fun _ _ _ => ⟨NoB, (LRd.el (S.arg ha) k (by omega)), fun _ h => False.elim h⟩) fun w N F14 q15 S up o13 d16 s17 n18 => ?_
  clear up d16 o7 n18
  have l19 : (acc.set k (el a k)).length = acc.length := List.length_set
  refine S.ge 8 (.cons (qp (k : Int) 1) .nil) f8 fun ac w β S => hf9.of (a.length - (k + 1)) _ _ (by omega) ⟨k + 1, (acc.set k (el a k)), (q5.1, q15), F14, _, _, _, rfl, ?_, ?_, S.z, o13⟩
  ·exact oz
  ·clear S; rw [hacc]; exact set_step (by omega)
 refine S.gr 13 .nil [slv a.length q5.1] fun ac w β S => ?_
 exact ret1_of S (show a = acc by clear S; rw [hacc, take_all (by omega), show a.length - k = 0 by omega]; simp) (by rw [show a.length = acc.length from (by rw [hacc]; simp; omega)]; rfl) o7

theorem c_laws_toHost (w0 : World) (a : THost) (pa : PHost) (ha : RD w0 a pa) : Calls Tryz.prog 9 [GT.val a pa].toArray w0 (Ret1 NoB w0 (a : THost)) := by
 refine Calls.run NoB Tryz.func9 ?_
 intro ac β S
 have hlea_mem : a.mem.length ≤ 4194304 := LRd.le (RHost.mem (d := a) ha)
 have hlea_mons : a.mons.length ≤ 4194304 := LRd.le (RHost.mons (d := a) ha)
 have hlea_buf : a.buf.length ≤ 4194304 := LRd.le (RHost.buf (d := a) ha)
 have hlea_iobuf : a.iobuf.length ≤ 4194304 := LRd.le (RHost.iobuf (d := a) ha)
 refine S.go 15 .nil fun ac w β S => S.K1 (r := a.mem) (d := 6) (c_laws_toIntSS w a.mem pa.mem (S.rd (RHost.mem (d := a) (S.arg ha)))) fun ac w N q1 F2 S up o3 d4 => ?_
 clear up d4
 refine S.go 8 .nil fun ac w β S => S.K1 (r := a.mons) (d := 10) (c_laws_toMonS w a.mons pa.mons (S.rd (RHost.mons (d := a) (S.arg ha)))) fun ac w N q5 F6 S up o7 d8 => ?_
 have d9 := Disj.w d8 o3.sub
 replace o3 := o3.up up
 clear up d8
 refine S.go 8 .nil fun ac w β S => S.K1 (r := a.buf) (d := 14) (c_laws_toEntryS w a.buf pa.buf (S.rd (RHost.buf (d := a) (S.arg ha)))) fun ac w N q10 F11 S up o12 d13 => ?_
 have d14 := Disj.w d13 o3.sub
 have d15 := Disj.w d13 o7.sub
 replace o3 := o3.up up
 replace o7 := o7.up up
 clear up d13
 refine S.go 8 .nil fun ac w β S => S.K1 (r := a.iobuf) (d := 18) (c_laws_toEntryS w a.iobuf pa.iobuf (S.rd (RHost.iobuf (d := a) (S.arg ha)))) fun ac w N q16 F17 S up o18 d19 => ?_
 have d20 := Disj.w d19 o3.sub
 have d21 := Disj.w d19 o7.sub
 have d22 := Disj.w d19 o12.sub
 replace o3 := o3.up up
 replace o7 := o7.up up
 replace o12 := o12.up up
 clear up d19
 refine S.gr 11 .nil [GT.val (⟨a.mem, a.mons, a.buf, a.iobuf⟩ : THost) (⟨q1, q5, q10, q16⟩ : PHost)] fun ac w β S => ?_
 have o23 := ow_Host (x := (⟨a.mem, a.mons, a.buf, a.iobuf⟩ : THost)) (p := (⟨q1, q5, q10, q16⟩ : PHost)) o3 o7 o12 o18 d9 d14 d20 d15 d21 d22 
 exact ret1_of S (show a = (⟨a.mem, a.mons, a.buf, a.iobuf⟩ : THost) by clear S; first | rfl | simp) rfl o23

theorem c_spec_l04Copy (w0 : World) (l : List (List Int)) (pl : LP (List Int)) (hl : RD w0 l pl) : Calls Tryz.prog 51 [slv l.length pl.1].toArray w0 (Ret1 NoB w0 (l : List (List Int))) := by
 refine Calls.run NoB Tryz.func51 ?_
 intro ac β S
 have hlel : l.length ≤ 4194304 := LRd.le hl
 refine S.go 7 .nil fun ac w β S => S.B0 (α := List Int) (d := 5) fun ac w N q1 F2 S up o3 d4 => ?_
 clear up d4
 refine S.go 10 .nil fun ac w β S => ?_
 refine lp (fun mm ac w => ∃ (k : Nat) (acc : List (List Int)) (q5 : _) (F6 : _) (u : _) (N : _) (β : _), mm = l.length - k ∧ (k ≤ l.length) ∧ (acc = l.take k) ∧ St Tryz.prog Tryz.f51.ntmps w0 NoB u N β ⟨[(0, .v (slv l.length pl.1)), (3, .v (slv acc.length q5.1)), (4, .v (I (k : Int)))], []⟩ ac w ∧ Ow w0 NoB u N F6 acc q5) _ ⟨0, ([] : List (List Int)), q1, F2, _, _, _, rfl, o0, (by simp), S.z, o3⟩ ?_
 clear S o3
 rintro f8 mm hf9 ac w ⟨k, acc, q5, F6, u, N, β, rfl, hk, hacc, S, o7⟩
 refine S.rs fun S => ?_
 have hlacc : acc.length = k := by rw [hacc]; simp; omega
 refine S.gd 9 .nil (decide ((k : Int) < (l.length : Int))) (fun ac w β h10 g11 S => ?_) (fun ac w β h10 g11 S => ?_)
 ·refine S.go 7 .nil fun ac w β S => S.B0 (α := Int) (d := 13) fun ac w N q12 F13 S up o14 d15 => ?_
  have d16 := Disj.w d15 o7.sub
  replace o7 := o7.up up
  clear up d15
  have b21 : (el l k).length ≤ 4194304 := LRd.le (LRd.el (S.arg hl) k (by omega))
  refine S.go 4 (.cons (qn (S.arg hl) k Tryz.underlying22) (.cons (qx (S.arg hl) 61 k) .nil)) fun ac w β S => S.AF0 (α := Int) o14 (LRd.el (S.arg hl) k (by omega)) (fun _ _ h => h) (by' := 8) (d := 18) (lx := 0) (ly := (el l k).length) rfl fun ac w N q17 F18 S up o19 d20 => ?_
  have d22 := d20 _ d16 o7.sub
  replace o7 := o7.upF d16 up
  clear up d20
  refine S.B1 (α := List Int) (x := (el l k)) (p := q17) o19.own o19.sub o19.young (d := 19) fun ac w N q23 F24 S up o25 d26 => ?_
  have d27 := d26 _ d22 o7.sub
  replace o7 := o7.up up
  clear up d26
  refine S.AO (α := List Int) o7 o25 d27 (by' := 24) (d := 20) (lx := acc.length) (ly := 1) rfl rfl (show _ ≤ 4194304 by simp only [List.length_append, List.length_cons, List.length_nil]; omega) fun ac w N q28 F29 S up o30 d31 => ?_
  clear up d31
  refine S.ge 9 (.cons (qp (k : Int) 1) .nil) f8 fun ac w β S => hf9.of (l.length - (k + 1)) _ _ (by omega) ⟨k + 1, (acc ++ [(el l k)]), q28, F29, _, _, _, rfl, ?_, ?_, S.z, o30⟩
  ·exact oz
  ·clear S; (first | (rw [take_el (by omega), hacc]; done) | (rw [take_el (by omega), hacc]; simp; done))
 refine S.gr 13 .nil [slv acc.length q5.1] fun ac w β S => ?_
 exact ret1_of S (show l = acc by clear S; (rw [hacc, take_all (by omega)])) rfl o7

theorem c_spec_l15Copy (w0 : World) (g : TGuest) (pg : PGuest) (hg : RD w0 g pg) : Calls Tryz.prog 135 [GT.val g pg].toArray w0 (Ret1 NoB w0 (g : TGuest)) := by
 refine Calls.run NoB Tryz.func135 ?_
 intro ac β S
 have hleg_prog : g.prog.length ≤ 4194304 := LRd.le (RGuest.prog (d := g) hg)
 have hleg_written : g.written.length ≤ 4194304 := LRd.le (RGuest.written (d := g) hg)
 have hleg_live : g.live.length ≤ 4194304 := LRd.le (RGuest.live (d := g) hg)
 have hleg_seen : g.seen.length ≤ 4194304 := LRd.le (RGuest.seen (d := g) hg)
 refine S.go 8 .nil fun ac w β S => S.B0 (α := TIns) (d := 3) fun ac w N q1 F2 S up o3 d4 => ?_
 clear up d4
 have b9 : g.prog.length ≤ 4194304 := LRd.le (RGuest.prog (d := g) (S.arg hg))
 refine S.go 2 .nil fun ac w β S => S.AF0 (α := TIns) o3 (RGuest.prog (d := g) (S.arg hg)) (fun _ _ h => h) (by' := 16) (d := 6) (lx := 0) (ly := g.prog.length) rfl fun ac w N q5 F6 S up o7 d8 => ?_
 clear up d8
 refine S.go 6 .nil fun ac w β S => S.B0 (α := TSlot) (d := 8) fun ac w N q10 F11 S up o12 d13 => ?_
 have d14 := Disj.w d13 o7.sub
 replace o7 := o7.up up
 clear up d13
 have b19 : g.written.length ≤ 4194304 := LRd.le (RGuest.written (d := g) (S.arg hg))
 refine S.go 2 .nil fun ac w β S => S.AF0 (α := TSlot) o12 (RGuest.written (d := g) (S.arg hg)) (fun _ _ h => h) (by' := 16) (d := 11) (lx := 0) (ly := g.written.length) rfl fun ac w N q15 F16 S up o17 d18 => ?_
 have d20 := d18 _ d14 o7.sub
 replace o7 := o7.upF d14 up
 clear up d18
 refine S.go 6 .nil fun ac w β S => S.B0 (α := TSlot) (d := 13) fun ac w N q21 F22 S up o23 d24 => ?_
 have d25 := Disj.w d24 o7.sub
 have d26 := Disj.w d24 o17.sub
 replace o7 := o7.up up
 replace o17 := o17.up up
 clear up d24
 have b31 : g.live.length ≤ 4194304 := LRd.le (RGuest.live (d := g) (S.arg hg))
 refine S.go 2 .nil fun ac w β S => S.AF0 (α := TSlot) o23 (RGuest.live (d := g) (S.arg hg)) (fun _ _ h => h) (by' := 16) (d := 16) (lx := 0) (ly := g.live.length) rfl fun ac w N q27 F28 S up o29 d30 => ?_
 have d32 := d30 _ d25 o7.sub
 have d33 := d30 _ d26 o17.sub
 replace o7 := o7.upF d25 up
 replace o17 := o17.upF d26 up
 clear up d30
 refine S.go 6 .nil fun ac w β S => S.B0 (α := Int) (d := 18) fun ac w N q34 F35 S up o36 d37 => ?_
 have d38 := Disj.w d37 o7.sub
 have d39 := Disj.w d37 o17.sub
 have d40 := Disj.w d37 o29.sub
 replace o7 := o7.up up
 replace o17 := o17.up up
 replace o29 := o29.up up
 clear up d37
 have b45 : g.seen.length ≤ 4194304 := LRd.le (RGuest.seen (d := g) (S.arg hg))
 refine S.go 2 .nil fun ac w β S => S.AF0 (α := Int) o36 (RGuest.seen (d := g) (S.arg hg)) (fun _ _ h => h) (by' := 8) (d := 21) (lx := 0) (ly := g.seen.length) rfl fun ac w N q41 F42 S up o43 d44 => ?_
 have d46 := d44 _ d38 o7.sub
 have d47 := d44 _ d39 o17.sub
 have d48 := d44 _ d40 o29.sub
 replace o7 := o7.upF d38 up
 replace o17 := o17.upF d39 up
 replace o29 := o29.upF d40 up
 clear up d44
 refine S.gr 11 .nil [GT.val (⟨g.prog, g.acc, g.pc, g.written, g.live, g.ctl, g.pend, g.exit, g.halted, g.seen⟩ : TGuest) (⟨q5, q15, q27, q41⟩ : PGuest)] fun ac w β S => ?_
 have o49 := ow_Guest (x := (⟨g.prog, g.acc, g.pc, g.written, g.live, g.ctl, g.pend, g.exit, g.halted, g.seen⟩ : TGuest)) (p := (⟨q5, q15, q27, q41⟩ : PGuest)) o7 o17 o29 o43 d20 d32 d46 d33 d47 d48 (RGuest.acc (d := g) (S.arg hg)) (RGuest.pc (d := g) (S.arg hg)) (RGuest.ctl (d := g) (S.arg hg)) (RGuest.pend (d := g) (S.arg hg)) (RGuest.exit (d := g) (S.arg hg))
 exact ret1_of S (show g = (⟨g.prog, g.acc, g.pc, g.written, g.live, g.ctl, g.pend, g.exit, g.halted, g.seen⟩ : TGuest) by clear S; (first | rfl | simp)) rfl o49

theorem c_spec_l17Guests (w0 : World) (l : List TGuest) (pl : LP TGuest) (hl : RD w0 l pl) : Calls Tryz.prog 96 [slv l.length pl.1].toArray w0 (Ret1 NoB w0 (l : List TGuest)) := by
 refine Calls.run NoB Tryz.func96 ?_
 intro ac β S
 have hlel : l.length ≤ 4194304 := LRd.le hl
 refine S.go 7 .nil fun ac w β S => S.B0 (α := TGuest) (d := 5) fun ac w N q1 F2 S up o3 d4 => ?_
 clear up d4
 refine S.go 10 .nil fun ac w β S => ?_
 refine lp (fun mm ac w => ∃ (k : Nat) (acc : List TGuest) (q5 : _) (F6 : _) (u : _) (N : _) (β : _), mm = l.length - k ∧ (k ≤ l.length) ∧ (acc = l.take k) ∧ St Tryz.prog Tryz.f96.ntmps w0 NoB u N β ⟨[(0, .v (slv l.length pl.1)), (3, .v (slv acc.length q5.1)), (4, .v (I (k : Int)))], []⟩ ac w ∧ Ow w0 NoB u N F6 acc q5) _ ⟨0, ([] : List TGuest), q1, F2, _, _, _, rfl, o0, (by simp), S.z, o3⟩ ?_
 clear S o3
 rintro f8 mm hf9 ac w ⟨k, acc, q5, F6, u, N, β, rfl, hk, hacc, S, o7⟩
 refine S.rs fun S => ?_
 have hlacc : acc.length = k := by rw [hacc]; simp; omega
 refine S.gd 9 .nil (decide ((k : Int) < (l.length : Int))) (fun ac w β h10 g11 S => ?_) (fun ac w β h10 g11 S => ?_)
 ·refine S.go 11 (.cons (qn (S.arg hl) k Tryz.underlying70) (.cons (qs (S.arg hl) 84 k) .nil)) fun ac w β S => S.K1 (r := (el l k)) (d := 17) (c_spec_l15Copy w (el l k) (pl.2 k) (S.rd (LRd.el (S.arg hl) k (by omega)))) fun ac w N q12 F13 S up o14 d15 => ?_
  have d16 := Disj.w d15 o7.sub
  replace o7 := o7.up up
  clear up d15
  have i20 : In64 (el l k).acc := RGuest.acc (d := (el l k)) o14.rn
  have i21 : In64 (el l k).pc := RGuest.pc (d := (el l k)) o14.rn
  have i28 : RCtl (el l k).ctl := RGuest.ctl (d := (el l k)) o14.rn
  have i29 : In64 (el l k).pend := RGuest.pend (d := (el l k)) o14.rn
  have i30 : RExit (el l k).exit := RGuest.exit (d := (el l k)) o14.rn
  obtain ⟨F17, F22, F25, F31, o18, o23, o26, o32, s19, s24, s27, s33, d34, d35, d36, d37, d38, d39⟩ := sp_Guest o14
  have o44 := ow_Guest (x := (el l k)) (p := q12) o18 o23 o26 o32 d34 d35 d36 d37 d38 d39 i20 i21 i28 i29 i30
  refine S.B1 (α := TGuest) (x := (el l k)) (p := q12) o44.own o44.sub o44.young (d := 18) fun ac w N q40 F41 S up o42 d43 => ?_
  have d45 := d43 _ (Disj.symm (Disj.or (Disj.part (Disj.symm d16) s19) (Disj.or (Disj.part (Disj.symm d16) s24) (Disj.or (Disj.part (Disj.symm d16) s27) (Disj.or (Disj.part (Disj.symm d16) s33) Disj.nob))))) o7.sub
  replace o7 := o7.up up
  clear up d43
  refine S.AO (α := TGuest) o7 o42 d45 (by' := 184) (d := 19) (lx := acc.length) (ly := 1) rfl rfl (show _ ≤ 4194304 by simp only [List.length_append, List.length_cons, List.length_nil]; omega) fun ac w N q46 F47 S up o48 d49 => ?_
  clear up d49
  refine S.ge 9 (.cons (qp (k : Int) 1) .nil) f8 fun ac w β S => hf9.of (l.length - (k + 1)) _ _ (by omega) ⟨k + 1, (acc ++ [(el l k)]), q46, F47, _, _, _, rfl, ?_, ?_, S.z, o48⟩
  ·exact oz
  ·clear S; (first | (rw [take_el (by omega), hacc]; done) | (rw [take_el (by omega), hacc]; simp; done))
 refine S.gr 13 .nil [slv acc.length q5.1] fun ac w β S => ?_
 exact ret1_of S (show l = acc by clear S; (rw [hacc, take_all (by omega)])) rfl o7

theorem c_spec_l07Copy (w0 : World) (k : TKept) (pk : PKept) (hk : RD w0 k pk) : Calls Tryz.prog 97 [GT.val k pk].toArray w0 (Ret1 NoB w0 (k : TKept)) := by
 refine Calls.run NoB Tryz.func97 ?_
 intro ac β S
 have hlek_known : k.known.length ≤ 4194304 := LRd.le (RKept.known (d := k) hk)
 have hlek_slots : k.slots.length ≤ 4194304 := LRd.le (RKept.slots (d := k) hk)
 refine S.go 7 .nil fun ac w β S => ?_
 refine drw ?_
 let σ1 : Sy := ⟨[(1, .p 0 0), (2, .p 1 0)], [GT.cells k pk, Zc TKept]⟩
 obtain ⟨u0, N0, β0, S⟩ : ∃ u0 N0 β0, St Tryz.prog Tryz.f97.ntmps w0 NoB u0 N0 β0 σ1 ac w := ⟨_, _, _, S.z⟩
 refine wp_region_cut (fun ac w => ∃ q69 F70 q72 F73 u N β, St Tryz.prog Tryz.f97.ntmps w0 NoB u N β (σ1.dl [1] [] 2 [(1, [slv k.known.length q69.1, slv k.slots.length q72.1])]) ac w ∧ Ow w0 NoB u N F70 k.known q69 ∧ Ow w0 NoB u N F73 k.slots q72 ∧ Disj F70 F73) ?_ ?_
 ·refine S.draw0 (f := 10) 9 (by kernel_rfl) (by kernel_rfl) fun w S => ?_
  refine S.hq 1 [1] [] [(4, .p 0 0)] .nil fun ac S => ?_
  refine S.hq 2 [2] [] [(5, .v (slv k.known.length pk.known.1))] .nil fun ac S => ?_
  refine S.hq 5 [5] [] [(8, .p 0 1)] .nil fun ac S => ?_
  refine S.hq 6 [6] [] [(9, .v (slv k.slots.length pk.slots.1))] .nil fun ac S => ?_
  refine WD.nameW fun W hW => ?_
  refine WD.castW (l' := mkL 10 [1, 2, 5, 6]) (by kernel_rfl) ?_
  have hK74 ac w q69 F70 q72 F73 u N β (S : St Tryz.prog Tryz.f97.ntmps w0 NoB u N β (σ1.dl [1] [] 2 [(1, [slv k.known.length q69.1, slv k.slots.length q72.1])]) ac w) (o68 : Ow w0 NoB u N F70 k.known q69) (o71 : Ow w0 NoB u N F73 k.slots q72) (d75 : Disj F70 F73) : W 0 (mkL 10 [0, 1, 2, 3, 4, 5, 6, 7, 8, 9]) ac w := by
   exact od hW ⟨rfl, q69, F70, q72, F73, _, _, _, S.z, o68, o71, d75⟩
  have hK76 ac w q63 F64 q66 F67 u N β (S : St Tryz.prog Tryz.f97.ntmps w0 NoB u N β (σ1.dl [1] [(11, .v (GT.val (⟨k.known, k.slots⟩ : TKept) (⟨q63, q66⟩ : PKept)))] 2 []) ac w) (o62 : Ow w0 NoB u N F64 k.known q63) (o65 : Ow w0 NoB u N F67 k.slots q66) (d77 : Disj F64 F67) (hNN : NN N0 u0 N u) (hBB : BB σ1.bx.length β0 β) : W 1 (mkL 10 [0, 1, 2, 3, 4, 5, 6, 7, 8]) ac w := by
   exact ox1 hW 9 (S.wl hW [] .nil fun _ _ _ S => hK74 _ _ q63 F64 q66 F67 _ _ _ S o62 o65 d77)
  have hK78 ac w q60 F61 q25 F26 u N β (S : St Tryz.prog Tryz.f97.ntmps w0 NoB u N β (σ1.dl [1] [(6, .v (slv k.known.length q25.1)), (10, .v (slv k.slots.length q60.1))] 2 []) ac w) (o59 : Ow w0 NoB u N F61 k.slots q60) (o24 : Ow w0 NoB u N F26 k.known q25) (d79 : Disj F61 F26) (hNN : NN N0 u0 N u) (hBB : BB σ1.bx.length β0 β) : W 2 (mkL 10 [0, 1, 2, 3, 4, 5, 6, 7]) ac w := by
   exact ox1 hW 8 (S.wq hW hNN hBB [] (.cons (Q_sem (s := Instr.build 96 [(0, slv k.known.length q25.1), (1, slv k.slots.length q60.1)].toArray) (v := .agg [slv k.known.length q25.1, slv k.slots.length q60.1].toArray) (fun w => by kernel_rfl)) .nil) fun _ _ _ S hB => hK76 _ _ q25 F26 q60 F61 _ _ _ S o24 o59 (Disj.symm d79) hNN hB)
  have hK80 ac w q25 F26 q16 F17 u N β (S : St Tryz.prog Tryz.f97.ntmps w0 NoB u N β (σ1.dl [1] [(6, .v (slv k.known.length q25.1)), (7, .v (slv 0 q16.1)), (9, .v (slv k.slots.length pk.slots.1))] 2 []) ac w) (o24 : Ow w0 NoB u N F26 k.known q25) (o15 : Ow w0 NoB u N F17 ([] : List TSlot) q16) (d81 : Disj F26 F17) (hNN : ∀ b, N0 b → N b ∧ u.heap[b]? = u0.heap[b]? ∧ ¬ F17 b) (hBB : BB σ1.bx.length β0 β) : W 3 (mkL 10 [0, 1, 2, 3, 4, 5, 6]) ac w := by
   refine ox1 hW 7 ?_
   have b86 : k.slots.length ≤ 4194304 := LRd.le (RKept.slots (d := k) (S.arg hk))
   refine id (S.appFlat0 (α := TSlot) o15 (RKept.slots (d := k) (S.arg hk)) (fun _ _ h => h) (by' := 16) (d := 10) (lx := 0) (ly := k.slots.length) rfl fun ac w N q82 F83 S up o84 d85 => ?_)
   have hb87 := fun b h => (⟨(up b (hNN b h).1 (hNN b h).2.2).1, (up b (hNN b h).1 (hNN b h).2.2).2.trans (hNN b h).2.1⟩ : _ ∧ _)
   refine WD.sc S hb87 hBB fun hC => ?_
   have d88 := d85 _ d81 o24.sub
   replace o24 := o24.upF d81 up
   clear up d85
   exact S.wh hW [] hC fun _ S => hK78 _ _ q82 F83 q25 F26 _ _ _ S o84 o24 (Disj.symm d88) hb87 hBB
  have hK89 ac w q25 F26 u N β (S : St Tryz.prog Tryz.f97.ntmps w0 NoB u N β (σ1.dl [1] [(6, .v (slv k.known.length q25.1)), (9, .v (slv k.slots.length pk.slots.1))] 2 []) ac w) (o24 : Ow w0 NoB u N F26 k.known q25) (hNN : NN N0 u0 N u) (hBB : BB σ1.bx.length β0 β) : W 4 (mkL 10 [0, 1, 2, 3, 5, 6]) ac w := by
   refine ox1 hW 4 ?_
   refine id (S.bs0 (α := TSlot) (d := 7) (by kernel_rfl) fun ac w N q90 F91 S up o92 d93 => ?_)
   have hb94 := fun b h => (⟨(up b (hNN b h).1).1, (up b (hNN b h).1).2.trans (hNN b h).2, d93 b (hNN b h).1⟩ : _ ∧ _ ∧ _)
   refine WD.sc S (fun b h => ⟨(hb94 b h).1, (hb94 b h).2.1⟩) hBB fun hC => ?_
   have d95 := Disj.w d93 o24.sub
   replace o24 := o24.up up
   clear up d93
   exact S.wh hW [] hC fun _ S => hK80 _ _ q25 F26 q90 F91 _ _ _ S o24 o92 d95 hb94 hBB
  have hK96 ac w q8 F9 q16 F17 u N β (S : St Tryz.prog Tryz.f97.ntmps w0 NoB u N β (σ1.dl [1] [(3, .v (slv 0 q8.1)), (5, .v (slv k.known.length pk.known.1)), (7, .v (slv 0 q16.1)), (9, .v (slv k.slots.length pk.slots.1))] 2 []) ac w) (o7 : Ow w0 NoB u N F9 ([] : List Bool) q8) (o15 : Ow w0 NoB u N F17 ([] : List TSlot) q16) (d97 : Disj F9 F17) (hNN : ∀ b, N0 b → N b ∧ u.heap[b]? = u0.heap[b]? ∧ ¬ F9 b ∧ ¬ F17 b) (hBB : BB σ1.bx.length β0 β) : W 4 (mkL 10 [0, 1, 2, 4, 5, 6]) ac w := by
   refine ox1 hW 3 ?_
   have b102 : k.known.length ≤ 4194304 := LRd.le (RKept.known (d := k) (S.arg hk))
   refine id (S.appFlat0 (α := Bool) o7 (RKept.known (d := k) (S.arg hk)) (fun _ _ h => h) (by' := 1) (d := 6) (lx := 0) (ly := k.known.length) rfl fun ac w N q98 F99 S up o100 d101 => ?_)
   have hb103 := fun b h => (⟨(up b (hNN b h).1 (hNN b h).2.2.1).1, (up b (hNN b h).1 (hNN b h).2.2.1).2.trans (hNN b h).2.1, (hNN b h).2.2.2⟩ : _ ∧ _ ∧ _)
   refine WD.sc S (fun b h => ⟨(hb103 b h).1, (hb103 b h).2.1⟩) hBB fun hC => ?_
   have d104 := d101 _ (Disj.symm d97) o15.sub
   replace o15 := o15.upF (Disj.symm d97) up
   clear up d101
   exact S.wh hW [] hC fun _ S => hK80 _ _ q98 F99 q16 F17 _ _ _ S o100 o15 (Disj.symm d104) hb103 hBB
  have hK105 ac w q8 F9 u N β (S : St Tryz.prog Tryz.f97.ntmps w0 NoB u N β (σ1.dl [1] [(3, .v (slv 0 q8.1)), (5, .v (slv k.known.length pk.known.1)), (9, .v (slv k.slots.length pk.slots.1))] 2 []) ac w) (o7 : Ow w0 NoB u N F9 ([] : List Bool) q8) (hNN : ∀ b, N0 b → N b ∧ u.heap[b]? = u0.heap[b]? ∧ ¬ F9 b) (hBB : BB σ1.bx.length β0 β) : W 5 (mkL 10 [0, 1, 2, 5, 6]) ac w := by
   refine ox2 hW 3 4 ?_ ?_
   ·have b110 : k.known.length ≤ 4194304 := LRd.le (RKept.known (d := k) (S.arg hk))
    refine id (S.appFlat0 (α := Bool) o7 (RKept.known (d := k) (S.arg hk)) (fun _ _ h => h) (by' := 1) (d := 6) (lx := 0) (ly := k.known.length) rfl fun ac w N q106 F107 S up o108 d109 => ?_)
    have hb111 := fun b h => (⟨(up b (hNN b h).1 (hNN b h).2.2).1, (up b (hNN b h).1 (hNN b h).2.2).2.trans (hNN b h).2.1⟩ : _ ∧ _)
    refine WD.sc S hb111 hBB fun hC => ?_
    clear up d109
    exact S.wh hW [] hC fun _ S => hK89 _ _ q106 F107 _ _ _ S o108 hb111 hBB
   ·refine id (S.bs0 (α := TSlot) (d := 7) (by kernel_rfl) fun ac w N q112 F113 S up o114 d115 => ?_)
    have hb116 := fun b h => (⟨(up b (hNN b h).1).1, (up b (hNN b h).1).2.trans (hNN b h).2.1, (hNN b h).2.2, d115 b (hNN b h).1⟩ : _ ∧ _ ∧ _ ∧ _)
    refine WD.sc S (fun b h => ⟨(hb116 b h).1, (hb116 b h).2.1⟩) hBB fun hC => ?_
    have d117 := Disj.w d115 o7.sub
    replace o7 := o7.up up
    clear up d115
    exact S.wh hW [] hC fun _ S => hK96 _ _ q8 F9 q112 F113 _ _ _ S o7 o114 d117 hb116 hBB
  have hK118 ac w q16 F17 u N β (S : St Tryz.prog Tryz.f97.ntmps w0 NoB u N β (σ1.dl [1] [(5, .v (slv k.known.length pk.known.1)), (7, .v (slv 0 q16.1)), (9, .v (slv k.slots.length pk.slots.1))] 2 []) ac w) (o15 : Ow w0 NoB u N F17 ([] : List TSlot) q16) (hNN : ∀ b, N0 b → N b ∧ u.heap[b]? = u0.heap[b]? ∧ ¬ F17 b) (hBB : BB σ1.bx.length β0 β) : W 5 (mkL 10 [1, 2, 4, 5, 6]) ac w := by
   refine ox1 hW 0 ?_
   refine id (S.bs0 (α := Bool) (d := 3) (by kernel_rfl) fun ac w N q119 F120 S up o121 d122 => ?_)
   have hb123 := fun b h => (⟨(up b (hNN b h).1).1, (up b (hNN b h).1).2.trans (hNN b h).2.1, d122 b (hNN b h).1, (hNN b h).2.2⟩ : _ ∧ _ ∧ _ ∧ _)
   refine WD.sc S (fun b h => ⟨(hb123 b h).1, (hb123 b h).2.1⟩) hBB fun hC => ?_
   have d124 := Disj.w d122 o15.sub
   replace o15 := o15.up up
   clear up d122
   exact S.wh hW [] hC fun _ S => hK96 _ _ q119 F120 q16 F17 _ _ _ S o121 o15 (Disj.symm d124) hb123 hBB
  have hNN : NN N0 u0 N0 u0 := fun b h => ⟨h, rfl⟩
  have hBB : BB σ1.bx.length β0 β0 := fun _ _ => rfl
  refine ox2 hW 0 4 ?_ ?_
  ·refine id (S.bs0 (α := Bool) (d := 3) (by kernel_rfl) fun ac w N q125 F126 S up o127 d128 => ?_)
   have hb129 := fun b h => (⟨(up b (hNN b h).1).1, (up b (hNN b h).1).2.trans (hNN b h).2, d128 b (hNN b h).1⟩ : _ ∧ _ ∧ _)
   refine WD.sc S (fun b h => ⟨(hb129 b h).1, (hb129 b h).2.1⟩) hBB fun hC => ?_
   clear up d128
   exact S.wh hW [] hC fun _ S => hK105 _ _ q125 F126 _ _ _ S o127 hb129 hBB
  ·refine id (S.bs0 (α := TSlot) (d := 7) (by kernel_rfl) fun ac w N q130 F131 S up o132 d133 => ?_)
   have hb134 := fun b h => (⟨(up b (hNN b h).1).1, (up b (hNN b h).1).2.trans (hNN b h).2, d133 b (hNN b h).1⟩ : _ ∧ _ ∧ _)
   refine WD.sc S (fun b h => ⟨(hb134 b h).1, (hb134 b h).2.1⟩) hBB fun hC => ?_
   clear up d133
   exact S.wh hW [] hC fun _ S => hK118 _ _ q130 F131 _ _ _ S o132 hb134 hBB
 clear S
 rintro ac w ⟨q69, F70, q72, F73, u, N, β, S, o68, o71, d135⟩
 refine S.ex fun S => ?_
 refine S.gr 2 .nil [GT.val (⟨k.known, k.slots⟩ : TKept) (⟨q69, q72⟩ : PKept)] fun ac w β S => ?_
 have o136 := ow_Kept (x := (⟨k.known, k.slots⟩ : TKept)) (p := (⟨q69, q72⟩ : PKept)) o68 o71 d135 
 exact ret1_of S (show k = (⟨k.known, k.slots⟩ : TKept) by clear S; (first | rfl | simp)) rfl o136

theorem c_spec_l21Mon (w0 : World) (m : TMon) (pm : PMon) (hm : RD w0 m pm) : Calls Tryz.prog 52 [GT.val m pm].toArray w0 (Ret1 NoB w0 (m : TMon)) := by
 refine Calls.run NoB Tryz.func52 ?_
 intro ac β S
 have hlem_outer : m.outer.length ≤ 4194304 := LRd.le (RMon.outer (d := m) hm)
 have hlem_out : m.out.length ≤ 4194304 := LRd.le (RMon.out (d := m) hm)
 have hlem_dirty : m.dirty.length ≤ 4194304 := LRd.le (RMon.dirty (d := m) hm)
 have hlem_guests : m.guests.length ≤ 4194304 := LRd.le (RMon.guests (d := m) hm)
 have hlem_outs : m.outs.length ≤ 4194304 := LRd.le (RMon.outs (d := m) hm)
 have hlem_tables : m.tables.length ≤ 4194304 := LRd.le (RMon.tables (d := m) hm)
 refine S.go 8 .nil fun ac w β S => S.B0 (α := TSlot) (d := 5) fun ac w N q1 F2 S up o3 d4 => ?_
 clear up d4
 have b9 : m.outer.length ≤ 4194304 := LRd.le (RMon.outer (d := m) (S.arg hm))
 refine S.go 2 .nil fun ac w β S => S.AF0 (α := TSlot) o3 (RMon.outer (d := m) (S.arg hm)) (fun _ _ h => h) (by' := 16) (d := 8) (lx := 0) (ly := m.outer.length) rfl fun ac w N q5 F6 S up o7 d8 => ?_
 clear up d8
 refine S.go 8 .nil fun ac w β S => S.K1 (r := m.out) (d := 12) (c_spec_l04Copy w m.out pm.out (S.rd (RMon.out (d := m) (S.arg hm)))) fun ac w N q10 F11 S up o12 d13 => ?_
 have d14 := Disj.w d13 o7.sub
 replace o7 := o7.up up
 clear up d13
 refine S.go 6 .nil fun ac w β S => S.B0 (α := Bool) (d := 14) fun ac w N q15 F16 S up o17 d18 => ?_
 have d19 := Disj.w d18 o7.sub
 have d20 := Disj.w d18 o12.sub
 replace o7 := o7.up up
 replace o12 := o12.up up
 clear up d18
 have b25 : m.dirty.length ≤ 4194304 := LRd.le (RMon.dirty (d := m) (S.arg hm))
 refine S.go 2 .nil fun ac w β S => S.AF0 (α := Bool) o17 (RMon.dirty (d := m) (S.arg hm)) (fun _ _ h => h) (by' := 1) (d := 17) (lx := 0) (ly := m.dirty.length) rfl fun ac w N q21 F22 S up o23 d24 => ?_
 have d26 := d24 _ d19 o7.sub
 have d27 := d24 _ d20 o12.sub
 replace o7 := o7.upF d19 up
 replace o12 := o12.upF d20 up
 clear up d24
 refine S.go 8 .nil fun ac w β S => S.K1 (r := m.guests) (d := 21) (c_spec_l17Guests w m.guests pm.guests (S.rd (RMon.guests (d := m) (S.arg hm)))) fun ac w N q28 F29 S up o30 d31 => ?_
 have d32 := Disj.w d31 o7.sub
 have d33 := Disj.w d31 o12.sub
 have d34 := Disj.w d31 o23.sub
 replace o7 := o7.up up
 replace o12 := o12.up up
 replace o23 := o23.up up
 clear up d31
 refine S.go 6 .nil fun ac w β S => S.B0 (α := Int) (d := 23) fun ac w N q35 F36 S up o37 d38 => ?_
 have d39 := Disj.w d38 o7.sub
 have d40 := Disj.w d38 o12.sub
 have d41 := Disj.w d38 o23.sub
 have d42 := Disj.w d38 o30.sub
 replace o7 := o7.up up
 replace o12 := o12.up up
 replace o23 := o23.up up
 replace o30 := o30.up up
 clear up d38
 have b47 : m.outs.length ≤ 4194304 := LRd.le (RMon.outs (d := m) (S.arg hm))
 refine S.go 2 .nil fun ac w β S => S.AF0 (α := Int) o37 (RMon.outs (d := m) (S.arg hm)) (fun _ _ h => h) (by' := 8) (d := 26) (lx := 0) (ly := m.outs.length) rfl fun ac w N q43 F44 S up o45 d46 => ?_
 have d48 := d46 _ d39 o7.sub
 have d49 := d46 _ d40 o12.sub
 have d50 := d46 _ d41 o23.sub
 have d51 := d46 _ d42 o30.sub
 replace o7 := o7.upF d39 up
 replace o12 := o12.upF d40 up
 replace o23 := o23.upF d41 up
 replace o30 := o30.upF d42 up
 clear up d46
 refine S.go 6 .nil fun ac w β S => S.B0 (α := TKept) (d := 28) fun ac w N q52 F53 S up o54 d55 => ?_
 have d56 := Disj.w d55 o7.sub
 have d57 := Disj.w d55 o12.sub
 have d58 := Disj.w d55 o23.sub
 have d59 := Disj.w d55 o30.sub
 have d60 := Disj.w d55 o45.sub
 replace o7 := o7.up up
 replace o12 := o12.up up
 replace o23 := o23.up up
 replace o30 := o30.up up
 replace o45 := o45.up up
 clear up d55
 refine S.go 10 .nil fun ac w β S => ?_
 refine lp (fun mm ac w => ∃ (k : Nat) (acc : List TKept) (q61 : _) (F62 : _) (u : _) (N : _) (β : _), mm = m.tables.length - k ∧ (k ≤ m.tables.length) ∧ (acc = m.tables.take k) ∧ St Tryz.prog Tryz.f52.ntmps w0 NoB u N β ⟨[(1, .p 0 0), (2, .p 1 0), (3, .v (slv acc.length q61.1)), (4, .v (I (k : Int)))], [[slv m.outer.length q5.1, slv m.out.length q10.1, slv m.dirty.length q21.1, slv m.guests.length q28.1, slv m.outs.length q43.1, I m.pend, I m.traps, slv m.tables.length pm.tables.1, I m.owned], Zc TMon]⟩ ac w ∧ Ow w0 NoB u N F62 acc q61 ∧ Ow w0 NoB u N F6 m.outer q5 ∧ Ow w0 NoB u N F11 m.out q10 ∧ Ow w0 NoB u N F22 m.dirty q21 ∧ Ow w0 NoB u N F29 m.guests q28 ∧ Ow w0 NoB u N F44 m.outs q43 ∧ Disj F62 F6 ∧ Disj F62 F11 ∧ Disj F62 F22 ∧ Disj F62 F29 ∧ Disj F62 F44) _ ⟨0, ([] : List TKept), q52, F53, _, _, _, rfl, o0, (by simp), S.z, o54, o7, o12, o23, o30, o45, (Disj.symm d56), (Disj.symm d57), (Disj.symm d58), (Disj.symm d59), (Disj.symm d60)⟩ ?_
 clear S o12 o23 o30 o45 o54 o7
 rintro f69 mm hf70 ac w ⟨k, acc, q61, F62, u, N, β, rfl, hk, hacc, S, o63, o7, o12, o23, o30, o45, d64, d65, d66, d67, d68⟩
 refine S.rs fun S => ?_
 have hlacc : acc.length = k := by rw [hacc]; simp; omega
 refine S.gd 10 .nil (decide ((k : Int) < (m.tables.length : Int))) (fun ac w β h71 g72 S => ?_) (fun ac w β h71 g72 S => ?_)
 ·refine S.go 12 (.cons (qn (RMon.tables (d := m) (S.arg hm)) k Tryz.underlying71) (.cons (qs (RMon.tables (d := m) (S.arg hm)) 96 k) .nil)) fun ac w β S => S.K1 (r := (el m.tables k)) (d := 42) (c_spec_l07Copy w (el m.tables k) (pm.tables.2 k) (S.rd (LRd.el (RMon.tables (d := m) (S.arg hm)) k (by omega)))) fun ac w N q73 F74 S up o75 d76 => ?_
  have d77 := Disj.w d76 o63.sub
  have d78 := Disj.w d76 o7.sub
  have d79 := Disj.w d76 o12.sub
  have d80 := Disj.w d76 o23.sub
  have d81 := Disj.w d76 o30.sub
  have d82 := Disj.w d76 o45.sub
  replace o63 := o63.up up
  replace o7 := o7.up up
  replace o12 := o12.up up
  replace o23 := o23.up up
  replace o30 := o30.up up
  replace o45 := o45.up up
  clear up d76
  obtain ⟨F83, F86, o84, o87, s85, s88, d89⟩ := sp_Kept o75
  have o94 := ow_Kept (x := (el m.tables k)) (p := q73) o84 o87 d89 
  refine S.B1 (α := TKept) (x := (el m.tables k)) (p := q73) o94.own o94.sub o94.young (d := 43) fun ac w N q90 F91 S up o92 d93 => ?_
  have d95 := d93 _ (Disj.symm (Disj.or (Disj.part (Disj.symm d77) s85) (Disj.or (Disj.part (Disj.symm d77) s88) Disj.nob))) o63.sub
  have d96 := d93 _ (Disj.symm (Disj.or (Disj.part (Disj.symm d78) s85) (Disj.or (Disj.part (Disj.symm d78) s88) Disj.nob))) o7.sub
  have d97 := d93 _ (Disj.symm (Disj.or (Disj.part (Disj.symm d79) s85) (Disj.or (Disj.part (Disj.symm d79) s88) Disj.nob))) o12.sub
  have d98 := d93 _ (Disj.symm (Disj.or (Disj.part (Disj.symm d80) s85) (Disj.or (Disj.part (Disj.symm d80) s88) Disj.nob))) o23.sub
  have d99 := d93 _ (Disj.symm (Disj.or (Disj.part (Disj.symm d81) s85) (Disj.or (Disj.part (Disj.symm d81) s88) Disj.nob))) o30.sub
  have d100 := d93 _ (Disj.symm (Disj.or (Disj.part (Disj.symm d82) s85) (Disj.or (Disj.part (Disj.symm d82) s88) Disj.nob))) o45.sub
  replace o63 := o63.up up
  replace o7 := o7.up up
  replace o12 := o12.up up
  replace o23 := o23.up up
  replace o30 := o30.up up
  replace o45 := o45.up up
  clear up d93
  refine S.AO (α := TKept) o63 o92 d95 (by' := 48) (d := 44) (lx := acc.length) (ly := 1) rfl rfl (show _ ≤ 4194304 by simp only [List.length_append, List.length_cons, List.length_nil]; omega) fun ac w N q101 F102 S up o103 d104 => ?_
  have d105 := d104 _ (Disj.symm d64) d96 o7.sub
  have d106 := d104 _ (Disj.symm d65) d97 o12.sub
  have d107 := d104 _ (Disj.symm d66) d98 o23.sub
  have d108 := d104 _ (Disj.symm d67) d99 o30.sub
  have d109 := d104 _ (Disj.symm d68) d100 o45.sub
  replace o7 := o7.upF (Disj.symm d64) up
  replace o12 := o12.upF (Disj.symm d65) up
  replace o23 := o23.upF (Disj.symm d66) up
  replace o30 := o30.upF (Disj.symm d67) up
  replace o45 := o45.upF (Disj.symm d68) up
  clear up d104
  refine S.ge 9 (.cons (qp (k : Int) 1) .nil) f69 fun ac w β S => hf70.of (m.tables.length - (k + 1)) _ _ (by omega) ⟨k + 1, (acc ++ [(el m.tables k)]), q101, F102, _, _, _, rfl, ?_, ?_, S.z, o103, o7, o12, o23, o30, o45, (Disj.symm d105), (Disj.symm d106), (Disj.symm d107), (Disj.symm d108), (Disj.symm d109)⟩
  ·exact oz
  ·clear S; (first | (rw [take_el (by omega), hacc]; done) | (rw [take_el (by omega), hacc]; simp; done))
 refine S.gr 20 .nil [GT.val (⟨m.outer, m.out, m.dirty, m.guests, m.outs, m.pend, m.traps, acc, m.owned⟩ : TMon) (⟨q5, q10, q21, q28, q43, q61⟩ : PMon)] fun ac w β S => ?_
 have o110 := ow_Mon (x := (⟨m.outer, m.out, m.dirty, m.guests, m.outs, m.pend, m.traps, acc, m.owned⟩ : TMon)) (p := (⟨q5, q10, q21, q28, q43, q61⟩ : PMon)) o7 o12 o23 o30 o45 o63 d14 d26 d32 d48 (Disj.symm d64) d27 d33 d49 (Disj.symm d65) d34 d50 (Disj.symm d66) d51 (Disj.symm d67) (Disj.symm d68) (RMon.pend (d := m) (S.arg hm)) (RMon.traps (d := m) (S.arg hm)) (RMon.owned (d := m) (S.arg hm))
 exact ret1_of S (show m = (⟨m.outer, m.out, m.dirty, m.guests, m.outs, m.pend, m.traps, acc, m.owned⟩ : TMon) by clear S; (first | rfl | (rw [hacc, take_all (by omega)]; done) | (rw [hacc, take_all (by omega)]; simp; done) | simp)) rfl o110

theorem c_spec_l21Copy (w0 : World) (h : THost) (ph : PHost) (hh : RD w0 h ph) : Calls Tryz.prog 23 [GT.val h ph].toArray w0 (Ret1 NoB w0 (h : THost)) := by
 refine Calls.run NoB Tryz.func23 ?_
 intro ac β S
 have hleh_mem : h.mem.length ≤ 4194304 := LRd.le (RHost.mem (d := h) hh)
 have hleh_mons : h.mons.length ≤ 4194304 := LRd.le (RHost.mons (d := h) hh)
 have hleh_buf : h.buf.length ≤ 4194304 := LRd.le (RHost.buf (d := h) hh)
 have hleh_iobuf : h.iobuf.length ≤ 4194304 := LRd.le (RHost.iobuf (d := h) hh)
 refine S.go 7 .nil fun ac w β S => ?_
 refine drw ?_
 let σ1 : Sy := ⟨[(1, .p 0 0), (2, .p 1 0)], [GT.cells h ph, Zc THost]⟩
 obtain ⟨u0, N0, β0, S⟩ : ∃ u0 N0 β0, St Tryz.prog Tryz.f23.ntmps w0 NoB u0 N0 β0 σ1 ac w := ⟨_, _, _, S.z⟩
 refine wp_region_cut (fun ac w => ∃ q234 F235 q237 F238 q231 F232 u N β, St Tryz.prog Tryz.f23.ntmps w0 NoB u N β (σ1.dl [] [(3, .p 2 0)] 3 [(2, [slv h.mem.length q231.1, slv ([] : List TMon).length (GT.pdflt (α := List TMon)).1, slv h.buf.length q234.1, slv h.iobuf.length q237.1])]) ac w ∧ Ow w0 NoB u N F235 h.buf q234 ∧ Ow w0 NoB u N F238 h.iobuf q237 ∧ Ow w0 NoB u N F232 h.mem q231 ∧ Disj F235 F238 ∧ Disj F235 F232 ∧ Disj F238 F232) ?_ ?_
 ·refine S.draw0 (f := 14) 13 (by kernel_rfl) (by kernel_rfl) fun w S => ?_
  refine S.hq 0 [0] [] [(5, .p 0 0)] .nil fun ac S => ?_
  refine S.hq 1 [1] [] [(6, .v (slv h.mem.length ph.mem.1))] .nil fun ac S => ?_
  refine S.hq 4 [4] [] [(9, .p 0 2)] .nil fun ac S => ?_
  refine S.hq 5 [5] [] [(10, .v (slv h.buf.length ph.buf.1))] .nil fun ac S => ?_
  refine S.hq 8 [8] [] [(13, .p 0 3)] .nil fun ac S => ?_
  refine S.hq 9 [9] [] [(14, .v (slv h.iobuf.length ph.iobuf.1))] .nil fun ac S => ?_
  refine WD.nameW fun W hW => ?_
  refine WD.castW (l' := mkL 14 [0, 1, 4, 5, 8, 9]) (by kernel_rfl) ?_
  have hK239 ac w q234 F235 q237 F238 q231 F232 u N β (S : St Tryz.prog Tryz.f23.ntmps w0 NoB u N β (σ1.dl [] [(3, .p 2 0)] 3 [(2, [slv h.mem.length q231.1, slv ([] : List TMon).length (GT.pdflt (α := List TMon)).1, slv h.buf.length q234.1, slv h.iobuf.length q237.1])]) ac w) (o233 : Ow w0 NoB u N F235 h.buf q234) (o236 : Ow w0 NoB u N F238 h.iobuf q237) (o230 : Ow w0 NoB u N F232 h.mem q231) (d240 : Disj F235 F238) (d241 : Disj F235 F232) (d242 : Disj F238 F232) : W 0 (mkL 14 [0, 1, 2, 3, 4, 5, 6, 7, 8, 9, 10, 11, 12, 13]) ac w := by
   exact od hW ⟨rfl, q234, F235, q237, F238, q231, F232, _, _, _, S.z, o233, o236, o230, d240, d241, d242⟩
  have hK243 ac w q217 F218 q220 F221 q214 F215 u N β (S : St Tryz.prog Tryz.f23.ntmps w0 NoB u N β (σ1.dl [] [(3, .p 2 0), (16, .v (GT.val (⟨h.mem, ([] : List TMon), h.buf, h.iobuf⟩ : THost) (⟨q214, (GT.pdflt (α := List TMon)), q217, q220⟩ : PHost)))] 3 [(2, Zc THost)]) ac w) (o216 : Ow w0 NoB u N F218 h.buf q217) (o219 : Ow w0 NoB u N F221 h.iobuf q220) (o213 : Ow w0 NoB u N F215 h.mem q214) (d244 : Disj F218 F221) (d245 : Disj F218 F215) (d246 : Disj F221 F215) (hNN : NN N0 u0 N u) (hBB : BB σ1.bx.length β0 β) : W 1 (mkL 14 [0, 1, 2, 3, 4, 5, 6, 7, 8, 9, 10, 11, 12]) ac w := by
   exact ox1 hW 13 (S.wl hW [] .nil fun _ _ _ S => hK239 _ _ q217 F218 q220 F221 q214 F215 _ _ _ S o216 o219 o213 d244 d245 d246)
  have hK247 ac w q217 F218 q220 F221 q214 F215 u N β (S : St Tryz.prog Tryz.f23.ntmps w0 NoB u N β (σ1.dl [] [(16, .v (GT.val (⟨h.mem, ([] : List TMon), h.buf, h.iobuf⟩ : THost) (⟨q214, (GT.pdflt (α := List TMon)), q217, q220⟩ : PHost)))] 2 []) ac w) (o216 : Ow w0 NoB u N F218 h.buf q217) (o219 : Ow w0 NoB u N F221 h.iobuf q220) (o213 : Ow w0 NoB u N F215 h.mem q214) (d248 : Disj F218 F221) (d249 : Disj F218 F215) (d250 : Disj F221 F215) (hNN : NN N0 u0 N u) (hBB : BB σ1.bx.length β0 β) : W 2 (mkL 14 [0, 1, 2, 3, 4, 5, 6, 7, 8, 9, 10, 11]) ac w := by
   exact ox1 hW 12 (S.wq hW hNN hBB [] .nil fun _ _ _ S hB => hK243 _ _ q217 F218 q220 F221 q214 F215 _ _ _ S o216 o219 o213 d248 d249 d250 hNN hB)
  have hK251 ac w q85 F86 q196 F197 q8 F9 u N β (S : St Tryz.prog Tryz.f23.ntmps w0 NoB u N β (σ1.dl [] [(3, .p 2 0), (7, .v (slv h.mem.length q8.1)), (11, .v (slv h.buf.length q85.1)), (15, .v (slv h.iobuf.length q196.1))] 3 [(2, Zc THost)]) ac w) (o84 : Ow w0 NoB u N F86 h.buf q85) (o195 : Ow w0 NoB u N F197 h.iobuf q196) (o7 : Ow w0 NoB u N F9 h.mem q8) (d252 : Disj F86 F197) (d253 : Disj F86 F9) (d254 : Disj F197 F9) (hNN : NN N0 u0 N u) (hBB : BB σ1.bx.length β0 β) : W 2 (mkL 14 [0, 1, 2, 3, 4, 5, 6, 7, 8, 9, 10, 12]) ac w := by
   exact ox1 hW 11 (S.wq hW hNN hBB [] (.cons (Q_sem (s := Instr.build 31 [(0, slv h.mem.length q8.1), (2, slv h.buf.length q85.1), (3, slv h.iobuf.length q196.1)].toArray) (v := .agg [slv h.mem.length q8.1, slv ([] : List TMon).length (GT.pdflt (α := List TMon)).1, slv h.buf.length q85.1, slv h.iobuf.length q196.1].toArray) (fun w => by kernel_rfl)) .nil) fun _ _ _ S hB => hK243 _ _ q85 F86 q196 F197 q8 F9 _ _ _ S o84 o195 o7 d252 d253 d254 hNN hB)
  have hK255 ac w q85 F86 q196 F197 q8 F9 u N β (S : St Tryz.prog Tryz.f23.ntmps w0 NoB u N β (σ1.dl [] [(7, .v (slv h.mem.length q8.1)), (11, .v (slv h.buf.length q85.1)), (15, .v (slv h.iobuf.length q196.1))] 2 []) ac w) (o84 : Ow w0 NoB u N F86 h.buf q85) (o195 : Ow w0 NoB u N F197 h.iobuf q196) (o7 : Ow w0 NoB u N F9 h.mem q8) (d256 : Disj F86 F197) (d257 : Disj F86 F9) (d258 : Disj F197 F9) (hNN : NN N0 u0 N u) (hBB : BB σ1.bx.length β0 β) : W 3 (mkL 14 [0, 1, 2, 3, 4, 5, 6, 7, 8, 9, 10]) ac w := by
   exact ox2 hW 11 12 (S.wq hW hNN hBB [] (.cons (Q_sem (s := Instr.build 31 [(0, slv h.mem.length q8.1), (2, slv h.buf.length q85.1), (3, slv h.iobuf.length q196.1)].toArray) (v := .agg [slv h.mem.length q8.1, slv ([] : List TMon).length (GT.pdflt (α := List TMon)).1, slv h.buf.length q85.1, slv h.iobuf.length q196.1].toArray) (fun w => by kernel_rfl)) .nil) fun _ _ _ S hB => hK247 _ _ q85 F86 q196 F197 q8 F9 _ _ _ S o84 o195 o7 d256 d257 d258 hNN hB) (S.wq hW hNN hBB [] .nil fun _ _ _ S hB => hK251 _ _ q85 F86 q196 F197 q8 F9 _ _ _ S o84 o195 o7 d256 d257 d258 hNN hB)
  have hK259 ac w q85 F86 q24 F25 q8 F9 u N β (S : St Tryz.prog Tryz.f23.ntmps w0 NoB u N β (σ1.dl [] [(3, .p 2 0), (7, .v (slv h.mem.length q8.1)), (11, .v (slv h.buf.length q85.1)), (12, .v (slv 0 q24.1)), (14, .v (slv h.iobuf.length ph.iobuf.1))] 3 [(2, Zc THost)]) ac w) (o84 : Ow w0 NoB u N F86 h.buf q85) (o23 : Ow w0 NoB u N F25 ([] : List TEntry) q24) (o7 : Ow w0 NoB u N F9 h.mem q8) (d260 : Disj F86 F25) (d261 : Disj F86 F9) (d262 : Disj F25 F9) (hNN : ∀ b, N0 b → N b ∧ u.heap[b]? = u0.heap[b]? ∧ ¬ F25 b) (hBB : BB σ1.bx.length β0 β) : W 3 (mkL 14 [0, 1, 2, 3, 4, 5, 6, 7, 8, 9, 12]) ac w := by
   refine ox1 hW 10 ?_
   have b267 : h.iobuf.length ≤ 4194304 := LRd.le (RHost.iobuf (d := h) (S.arg hh))
   refine id (S.appFlat0 (α := TEntry) o23 (RHost.iobuf (d := h) (S.arg hh)) (fun _ _ h => h) (by' := 32) (d := 15) (lx := 0) (ly := h.iobuf.length) rfl fun ac w N q263 F264 S up o265 d266 => ?_)
   have hb268 := fun b h => (⟨(up b (hNN b h).1 (hNN b h).2.2).1, (up b (hNN b h).1 (hNN b h).2.2).2.trans (hNN b h).2.1⟩ : _ ∧ _)
   refine WD.sc S hb268 hBB fun hC => ?_
   have d269 := d266 _ (Disj.symm d262) o7.sub
   have d270 := d266 _ d260 o84.sub
   replace o7 := o7.upF (Disj.symm d262) up
   replace o84 := o84.upF d260 up
   clear up d266
   exact S.wh hW [] hC fun _ S => hK251 _ _ q85 F86 q263 F264 q8 F9 _ _ _ S o84 o265 o7 d270 d261 (Disj.symm d269) hb268 hBB
  have hK271 ac w q85 F86 q24 F25 q8 F9 u N β (S : St Tryz.prog Tryz.f23.ntmps w0 NoB u N β (σ1.dl [] [(7, .v (slv h.mem.length q8.1)), (11, .v (slv h.buf.length q85.1)), (12, .v (slv 0 q24.1)), (14, .v (slv h.iobuf.length ph.iobuf.1))] 2 []) ac w) (o84 : Ow w0 NoB u N F86 h.buf q85) (o23 : Ow w0 NoB u N F25 ([] : List TEntry) q24) (o7 : Ow w0 NoB u N F9 h.mem q8) (d272 : Disj F86 F25) (d273 : Disj F86 F9) (d274 : Disj F25 F9) (hNN : ∀ b, N0 b → N b ∧ u.heap[b]? = u0.heap[b]? ∧ ¬ F25 b) (hBB : BB σ1.bx.length β0 β) : W 4 (mkL 14 [0, 1, 2, 3, 4, 5, 6, 7, 8, 9]) ac w := by
   refine ox2 hW 10 12 ?_ (S.wq hW (fun b h => ⟨(hNN b h).1, (hNN b h).2.1⟩) hBB [] .nil fun _ _ _ S hB => hK259 _ _ q85 F86 q24 F25 q8 F9 _ _ _ S o84 o23 o7 d272 d273 d274 hNN hB)
   have b279 : h.iobuf.length ≤ 4194304 := LRd.le (RHost.iobuf (d := h) (S.arg hh))
   refine id (S.appFlat0 (α := TEntry) o23 (RHost.iobuf (d := h) (S.arg hh)) (fun _ _ h => h) (by' := 32) (d := 15) (lx := 0) (ly := h.iobuf.length) rfl fun ac w N q275 F276 S up o277 d278 => ?_)
   have hb280 := fun b h => (⟨(up b (hNN b h).1 (hNN b h).2.2).1, (up b (hNN b h).1 (hNN b h).2.2).2.trans (hNN b h).2.1⟩ : _ ∧ _)
   refine WD.sc S hb280 hBB fun hC => ?_
   have d281 := d278 _ (Disj.symm d274) o7.sub
   have d282 := d278 _ d272 o84.sub
   replace o7 := o7.upF (Disj.symm d274) up
   replace o84 := o84.upF d272 up
   clear up d278
   exact S.wh hW [] hC fun _ S => hK255 _ _ q85 F86 q275 F276 q8 F9 _ _ _ S o84 o277 o7 d282 d273 (Disj.symm d281) hb280 hBB
  have hK283 ac w q85 F86 q8 F9 u N β (S : St Tryz.prog Tryz.f23.ntmps w0 NoB u N β (σ1.dl [] [(3, .p 2 0), (7, .v (slv h.mem.length q8.1)), (11, .v (slv h.buf.length q85.1)), (14, .v (slv h.iobuf.length ph.iobuf.1))] 3 [(2, Zc THost)]) ac w) (o84 : Ow w0 NoB u N F86 h.buf q85) (o7 : Ow w0 NoB u N F9 h.mem q8) (d284 : Disj F86 F9) (hNN : NN N0 u0 N u) (hBB : BB σ1.bx.length β0 β) : W 4 (mkL 14 [0, 1, 2, 3, 4, 5, 6, 8, 9, 12]) ac w := by
   refine ox1 hW 7 ?_
   refine id (S.bs0 (α := TEntry) (d := 12) (by kernel_rfl) fun ac w N q285 F286 S up o287 d288 => ?_)
   have hb289 := fun b h => (⟨(up b (hNN b h).1).1, (up b (hNN b h).1).2.trans (hNN b h).2, d288 b (hNN b h).1⟩ : _ ∧ _ ∧ _)
   refine WD.sc S (fun b h => ⟨(hb289 b h).1, (hb289 b h).2.1⟩) hBB fun hC => ?_
   have d290 := Disj.w d288 o7.sub
   have d291 := Disj.w d288 o84.sub
   replace o7 := o7.up up
   replace o84 := o84.up up
   clear up d288
   exact S.wh hW [] hC fun _ S => hK259 _ _ q85 F86 q285 F286 q8 F9 _ _ _ S o84 o287 o7 d291 d284 (Disj.symm d290) hb289 hBB
  have hK292 ac w q24 F25 q8 F9 q16 F17 u N β (S : St Tryz.prog Tryz.f23.ntmps w0 NoB u N β (σ1.dl [] [(3, .p 2 0), (7, .v (slv h.mem.length q8.1)), (8, .v (slv 0 q16.1)), (10, .v (slv h.buf.length ph.buf.1)), (12, .v (slv 0 q24.1)), (14, .v (slv h.iobuf.length ph.iobuf.1))] 3 [(2, Zc THost)]) ac w) (o23 : Ow w0 NoB u N F25 ([] : List TEntry) q24) (o7 : Ow w0 NoB u N F9 h.mem q8) (o15 : Ow w0 NoB u N F17 ([] : List TEntry) q16) (d293 : Disj F25 F9) (d294 : Disj F25 F17) (d295 : Disj F9 F17) (hNN : ∀ b, N0 b → N b ∧ u.heap[b]? = u0.heap[b]? ∧ ¬ F17 b ∧ ¬ F25 b) (hBB : BB σ1.bx.length β0 β) : W 4 (mkL 14 [0, 1, 2, 3, 4, 5, 7, 8, 9, 12]) ac w := by
   refine ox1 hW 6 ?_
   have b300 : h.buf.length ≤ 4194304 := LRd.le (RHost.buf (d := h) (S.arg hh))
   refine id (S.appFlat0 (α := TEntry) o15 (RHost.buf (d := h) (S.arg hh)) (fun _ _ h => h) (by' := 32) (d := 11) (lx := 0) (ly := h.buf.length) rfl fun ac w N q296 F297 S up o298 d299 => ?_)
   have hb301 := fun b h => (⟨(up b (hNN b h).1 (hNN b h).2.2.1).1, (up b (hNN b h).1 (hNN b h).2.2.1).2.trans (hNN b h).2.1, (hNN b h).2.2.2⟩ : _ ∧ _ ∧ _)
   refine WD.sc S (fun b h => ⟨(hb301 b h).1, (hb301 b h).2.1⟩) hBB fun hC => ?_
   have d302 := d299 _ d295 o7.sub
   have d303 := d299 _ d294 o23.sub
   replace o7 := o7.upF d295 up
   replace o23 := o23.upF d294 up
   clear up d299
   exact S.wh hW [] hC fun _ S => hK259 _ _ q296 F297 q24 F25 q8 F9 _ _ _ S o298 o23 o7 (Disj.symm d303) (Disj.symm d302) d293 hb301 hBB
  have hK304 ac w q85 F86 q8 F9 u N β (S : St Tryz.prog Tryz.f23.ntmps w0 NoB u N β (σ1.dl [] [(7, .v (slv h.mem.length q8.1)), (11, .v (slv h.buf.length q85.1)), (14, .v (slv h.iobuf.length ph.iobuf.1))] 2 []) ac w) (o84 : Ow w0 NoB u N F86 h.buf q85) (o7 : Ow w0 NoB u N F9 h.mem q8) (d305 : Disj F86 F9) (hNN : NN N0 u0 N u) (hBB : BB σ1.bx.length β0 β) : W 5 (mkL 14 [0, 1, 2, 3, 4, 5, 6, 8, 9]) ac w := by
   refine ox2 hW 7 12 ?_ (S.wq hW hNN hBB [] .nil fun _ _ _ S hB => hK283 _ _ q85 F86 q8 F9 _ _ _ S o84 o7 d305 hNN hB)
   refine id (S.bs0 (α := TEntry) (d := 12) (by kernel_rfl) fun ac w N q306 F307 S up o308 d309 => ?_)
   have hb310 := fun b h => (⟨(up b (hNN b h).1).1, (up b (hNN b h).1).2.trans (hNN b h).2, d309 b (hNN b h).1⟩ : _ ∧ _ ∧ _)
   refine WD.sc S (fun b h => ⟨(hb310 b h).1, (hb310 b h).2.1⟩) hBB fun hC => ?_
   have d311 := Disj.w d309 o7.sub
   have d312 := Disj.w d309 o84.sub
   replace o7 := o7.up up
   replace o84 := o84.up up
   clear up d309
   exact S.wh hW [] hC fun _ S => hK271 _ _ q85 F86 q306 F307 q8 F9 _ _ _ S o84 o308 o7 d312 d305 (Disj.symm d311) hb310 hBB
  have hK313 ac w q24 F25 q8 F9 q16 F17 u N β (S : St Tryz.prog Tryz.f23.ntmps w0 NoB u N β (σ1.dl [] [(7, .v (slv h.mem.length q8.1)), (8, .v (slv 0 q16.1)), (10, .v (slv h.buf.length ph.buf.1)), (12, .v (slv 0 q24.1)), (14, .v (slv h.iobuf.length ph.iobuf.1))] 2 []) ac w) (o23 : Ow w0 NoB u N F25 ([] : List TEntry) q24) (o7 : Ow w0 NoB u N F9 h.mem q8) (o15 : Ow w0 NoB u N F17 ([] : List TEntry) q16) (d314 : Disj F25 F9) (d315 : Disj F25 F17) (d316 : Disj F9 F17) (hNN : ∀ b, N0 b → N b ∧ u.heap[b]? = u0.heap[b]? ∧ ¬ F17 b ∧ ¬ F25 b) (hBB : BB σ1.bx.length β0 β) : W 5 (mkL 14 [0, 1, 2, 3, 4, 5, 7, 8, 9]) ac w := by
   refine ox2 hW 6 12 ?_ (S.wq hW (fun b h => ⟨(hNN b h).1, (hNN b h).2.1⟩) hBB [] .nil fun _ _ _ S hB => hK292 _ _ q24 F25 q8 F9 q16 F17 _ _ _ S o23 o7 o15 d314 d315 d316 hNN hB)
   have b321 : h.buf.length ≤ 4194304 := LRd.le (RHost.buf (d := h) (S.arg hh))
   refine id (S.appFlat0 (α := TEntry) o15 (RHost.buf (d := h) (S.arg hh)) (fun _ _ h => h) (by' := 32) (d := 11) (lx := 0) (ly := h.buf.length) rfl fun ac w N q317 F318 S up o319 d320 => ?_)
   have hb322 := fun b h => (⟨(up b (hNN b h).1 (hNN b h).2.2.1).1, (up b (hNN b h).1 (hNN b h).2.2.1).2.trans (hNN b h).2.1, (hNN b h).2.2.2⟩ : _ ∧ _ ∧ _)
   refine WD.sc S (fun b h => ⟨(hb322 b h).1, (hb322 b h).2.1⟩) hBB fun hC => ?_
   have d323 := d320 _ d316 o7.sub
   have d324 := d320 _ d315 o23.sub
   replace o7 := o7.upF d316 up
   replace o23 := o23.upF d315 up
   clear up d320
   exact S.wh hW [] hC fun _ S => hK271 _ _ q317 F318 q24 F25 q8 F9 _ _ _ S o319 o23 o7 (Disj.symm d324) (Disj.symm d323) d314 hb322 hBB
  have hK325 ac w q8 F9 q16 F17 u N β (S : St Tryz.prog Tryz.f23.ntmps w0 NoB u N β (σ1.dl [] [(3, .p 2 0), (7, .v (slv h.mem.length q8.1)), (8, .v (slv 0 q16.1)), (10, .v (slv h.buf.length ph.buf.1)), (14, .v (slv h.iobuf.length ph.iobuf.1))] 3 [(2, Zc THost)]) ac w) (o7 : Ow w0 NoB u N F9 h.mem q8) (o15 : Ow w0 NoB u N F17 ([] : List TEntry) q16) (d326 : Disj F9 F17) (hNN : ∀ b, N0 b → N b ∧ u.heap[b]? = u0.heap[b]? ∧ ¬ F17 b) (hBB : BB σ1.bx.length β0 β) : W 5 (mkL 14 [0, 1, 2, 3, 4, 5, 8, 9, 12]) ac w := by
   refine ox2 hW 6 7 ?_ ?_
   ·have b331 : h.buf.length ≤ 4194304 := LRd.le (RHost.buf (d := h) (S.arg hh))
    refine id (S.appFlat0 (α := TEntry) o15 (RHost.buf (d := h) (S.arg hh)) (fun _ _ h => h) (by' := 32) (d := 11) (lx := 0) (ly := h.buf.length) rfl fun ac w N q327 F328 S up o329 d330 => ?_)
    have hb332 := fun b h => (⟨(up b (hNN b h).1 (hNN b h).2.2).1, (up b (hNN b h).1 (hNN b h).2.2).2.trans (hNN b h).2.1⟩ : _ ∧ _)
    refine WD.sc S hb332 hBB fun hC => ?_
    have d333 := d330 _ d326 o7.sub
    replace o7 := o7.upF d326 up
    clear up d330
    exact S.wh hW [] hC fun _ S => hK283 _ _ q327 F328 q8 F9 _ _ _ S o329 o7 (Disj.symm d333) hb332 hBB
   ·refine id (S.bs0 (α := TEntry) (d := 12) (by kernel_rfl) fun ac w N q334 F335 S up o336 d337 => ?_)
    have hb338 := fun b h => (⟨(up b (hNN b h).1).1, (up b (hNN b h).1).2.trans (hNN b h).2.1, (hNN b h).2.2, d337 b (hNN b h).1⟩ : _ ∧ _ ∧ _ ∧ _)
    refine WD.sc S (fun b h => ⟨(hb338 b h).1, (hb338 b h).2.1⟩) hBB fun hC => ?_
    have d339 := Disj.w d337 o7.sub
    have d340 := Disj.w d337 o15.sub
    replace o7 := o7.up up
    replace o15 := o15.up up
    clear up d337
    exact S.wh hW [] hC fun _ S => hK292 _ _ q334 F335 q8 F9 q16 F17 _ _ _ S o336 o7 o15 (Disj.symm d339) (Disj.symm d340) d326 hb338 hBB
  have hK341 ac w q24 F25 q8 F9 u N β (S : St Tryz.prog Tryz.f23.ntmps w0 NoB u N β (σ1.dl [] [(3, .p 2 0), (7, .v (slv h.mem.length q8.1)), (10, .v (slv h.buf.length ph.buf.1)), (12, .v (slv 0 q24.1)), (14, .v (slv h.iobuf.length ph.iobuf.1))] 3 [(2, Zc THost)]) ac w) (o23 : Ow w0 NoB u N F25 ([] : List TEntry) q24) (o7 : Ow w0 NoB u N F9 h.mem q8) (d342 : Disj F25 F9) (hNN : ∀ b, N0 b → N b ∧ u.heap[b]? = u0.heap[b]? ∧ ¬ F25 b) (hBB : BB σ1.bx.length β0 β) : W 5 (mkL 14 [0, 1, 2, 4, 5, 7, 8, 9, 12]) ac w := by
   refine ox1 hW 3 ?_
   refine id (S.bs0 (α := TEntry) (d := 8) (by kernel_rfl) fun ac w N q343 F344 S up o345 d346 => ?_)
   have hb347 := fun b h => (⟨(up b (hNN b h).1).1, (up b (hNN b h).1).2.trans (hNN b h).2.1, d346 b (hNN b h).1, (hNN b h).2.2⟩ : _ ∧ _ ∧ _ ∧ _)
   refine WD.sc S (fun b h => ⟨(hb347 b h).1, (hb347 b h).2.1⟩) hBB fun hC => ?_
   have d348 := Disj.w d346 o7.sub
   have d349 := Disj.w d346 o23.sub
   replace o7 := o7.up up
   replace o23 := o23.up up
   clear up d346
   exact S.wh hW [] hC fun _ S => hK292 _ _ q24 F25 q8 F9 q343 F344 _ _ _ S o23 o7 o345 d342 d349 d348 hb347 hBB
  have hK350 ac w q24 F25 q16 F17 u N β (S : St Tryz.prog Tryz.f23.ntmps w0 NoB u N β (σ1.dl [] [(3, .p 2 0), (6, .v (slv h.mem.length ph.mem.1)), (8, .v (slv 0 q16.1)), (10, .v (slv h.buf.length ph.buf.1)), (12, .v (slv 0 q24.1)), (14, .v (slv h.iobuf.length ph.iobuf.1))] 3 [(2, Zc THost)]) ac w) (o23 : Ow w0 NoB u N F25 ([] : List TEntry) q24) (o15 : Ow w0 NoB u N F17 ([] : List TEntry) q16) (d351 : Disj F25 F17) (hNN : ∀ b, N0 b → N b ∧ u.heap[b]? = u0.heap[b]? ∧ ¬ F17 b ∧ ¬ F25 b) (hBB : BB σ1.bx.length β0 β) : W 5 (mkL 14 [0, 1, 3, 4, 5, 7, 8, 9, 12]) ac w := by
   refine ox1 hW 2 ?_
   refine id (S.k1 7 (c_spec_l04Copy w h.mem ph.mem (S.rd (RHost.mem (d := h) (S.arg hh)))) fun ac w N q352 F353 S up o354 d355 => ?_)
   have hb356 := fun b h => (⟨(up b (hNN b h).1).1, (up b (hNN b h).1).2.trans (hNN b h).2.1, (hNN b h).2.2.1, (hNN b h).2.2.2⟩ : _ ∧ _ ∧ _ ∧ _)
   refine WD.sc S (fun b h => ⟨(hb356 b h).1, (hb356 b h).2.1⟩) hBB fun hC => ?_
   have d357 := Disj.w d355 o15.sub
   have d358 := Disj.w d355 o23.sub
   replace o15 := o15.up up
   replace o23 := o23.up up
   clear up d355
   exact S.wh hW [] hC fun _ S => hK292 _ _ q24 F25 q352 F353 q16 F17 _ _ _ S o23 o354 o15 d358 d351 (Disj.symm d357) hb356 hBB
  have hK359 ac w q8 F9 q16 F17 u N β (S : St Tryz.prog Tryz.f23.ntmps w0 NoB u N β (σ1.dl [] [(7, .v (slv h.mem.length q8.1)), (8, .v (slv 0 q16.1)), (10, .v (slv h.buf.length ph.buf.1)), (14, .v (slv h.iobuf.length ph.iobuf.1))] 2 []) ac w) (o7 : Ow w0 NoB u N F9 h.mem q8) (o15 : Ow w0 NoB u N F17 ([] : List TEntry) q16) (d360 : Disj F9 F17) (hNN : ∀ b, N0 b → N b ∧ u.heap[b]? = u0.heap[b]? ∧ ¬ F17 b) (hBB : BB σ1.bx.length β0 β) : W 6 (mkL 14 [0, 1, 2, 3, 4, 5, 8, 9]) ac w := by
   refine ox3 hW 6 7 12 ?_ ?_ (S.wq hW (fun b h => ⟨(hNN b h).1, (hNN b h).2.1⟩) hBB [] .nil fun _ _ _ S hB => hK325 _ _ q8 F9 q16 F17 _ _ _ S o7 o15 d360 hNN hB)
   ·have b365 : h.buf.length ≤ 4194304 := LRd.le (RHost.buf (d := h) (S.arg hh))
    refine id (S.appFlat0 (α := TEntry) o15 (RHost.buf (d := h) (S.arg hh)) (fun _ _ h => h) (by' := 32) (d := 11) (lx := 0) (ly := h.buf.length) rfl fun ac w N q361 F362 S up o363 d364 => ?_)
    have hb366 := fun b h => (⟨(up b (hNN b h).1 (hNN b h).2.2).1, (up b (hNN b h).1 (hNN b h).2.2).2.trans (hNN b h).2.1⟩ : _ ∧ _)
    refine WD.sc S hb366 hBB fun hC => ?_
    have d367 := d364 _ d360 o7.sub
    replace o7 := o7.upF d360 up
    clear up d364
    exact S.wh hW [] hC fun _ S => hK304 _ _ q361 F362 q8 F9 _ _ _ S o363 o7 (Disj.symm d367) hb366 hBB
   ·refine id (S.bs0 (α := TEntry) (d := 12) (by kernel_rfl) fun ac w N q368 F369 S up o370 d371 => ?_)
    have hb372 := fun b h => (⟨(up b (hNN b h).1).1, (up b (hNN b h).1).2.trans (hNN b h).2.1, (hNN b h).2.2, d371 b (hNN b h).1⟩ : _ ∧ _ ∧ _ ∧ _)
    refine WD.sc S (fun b h => ⟨(hb372 b h).1, (hb372 b h).2.1⟩) hBB fun hC => ?_
    have d373 := Disj.w d371 o7.sub
    have d374 := Disj.w d371 o15.sub
    replace o7 := o7.up up
    replace o15 := o15.up up
    clear up d371
    exact S.wh hW [] hC fun _ S => hK313 _ _ q368 F369 q8 F9 q16 F17 _ _ _ S o370 o7 o15 (Disj.symm d373) (Disj.symm d374) d360 hb372 hBB
  have hK375 ac w q24 F25 q8 F9 u N β (S : St Tryz.prog Tryz.f23.ntmps w0 NoB u N β (σ1.dl [] [(7, .v (slv h.mem.length q8.1)), (10, .v (slv h.buf.length ph.buf.1)), (12, .v (slv 0 q24.1)), (14, .v (slv h.iobuf.length ph.iobuf.1))] 2 []) ac w) (o23 : Ow w0 NoB u N F25 ([] : List TEntry) q24) (o7 : Ow w0 NoB u N F9 h.mem q8) (d376 : Disj F25 F9) (hNN : ∀ b, N0 b → N b ∧ u.heap[b]? = u0.heap[b]? ∧ ¬ F25 b) (hBB : BB σ1.bx.length β0 β) : W 6 (mkL 14 [0, 1, 2, 4, 5, 7, 8, 9]) ac w := by
   refine ox2 hW 3 12 ?_ (S.wq hW (fun b h => ⟨(hNN b h).1, (hNN b h).2.1⟩) hBB [] .nil fun _ _ _ S hB => hK341 _ _ q24 F25 q8 F9 _ _ _ S o23 o7 d376 hNN hB)
   refine id (S.bs0 (α := TEntry) (d := 8) (by kernel_rfl) fun ac w N q377 F378 S up o379 d380 => ?_)
   have hb381 := fun b h => (⟨(up b (hNN b h).1).1, (up b (hNN b h).1).2.trans (hNN b h).2.1, d380 b (hNN b h).1, (hNN b h).2.2⟩ : _ ∧ _ ∧ _ ∧ _)
   refine WD.sc S (fun b h => ⟨(hb381 b h).1, (hb381 b h).2.1⟩) hBB fun hC => ?_
   have d382 := Disj.w d380 o7.sub
   have d383 := Disj.w d380 o23.sub
   replace o7 := o7.up up
   replace o23 := o23.up up
   clear up d380
   exact S.wh hW [] hC fun _ S => hK313 _ _ q24 F25 q8 F9 q377 F378 _ _ _ S o23 o7 o379 d376 d383 d382 hb381 hBB
  have hK384 ac w q8 F9 u N β (S : St Tryz.prog Tryz.f23.ntmps w0 NoB u N β (σ1.dl [] [(3, .p 2 0), (7, .v (slv h.mem.length q8.1)), (10, .v (slv h.buf.length ph.buf.1)), (14, .v (slv h.iobuf.length ph.iobuf.1))] 3 [(2, Zc THost)]) ac w) (o7 : Ow w0 NoB u N F9 h.mem q8) (hNN : NN N0 u0 N u) (hBB : BB σ1.bx.length β0 β) : W 6 (mkL 14 [0, 1, 2, 4, 5, 8, 9, 12]) ac w := by
   refine ox2 hW 3 7 ?_ ?_
   ·refine id (S.bs0 (α := TEntry) (d := 8) (by kernel_rfl) fun ac w N q385 F386 S up o387 d388 => ?_)
    have hb389 := fun b h => (⟨(up b (hNN b h).1).1, (up b (hNN b h).1).2.trans (hNN b h).2, d388 b (hNN b h).1⟩ : _ ∧ _ ∧ _)
    refine WD.sc S (fun b h => ⟨(hb389 b h).1, (hb389 b h).2.1⟩) hBB fun hC => ?_
    have d390 := Disj.w d388 o7.sub
    replace o7 := o7.up up
    clear up d388
    exact S.wh hW [] hC fun _ S => hK325 _ _ q8 F9 q385 F386 _ _ _ S o7 o387 d390 hb389 hBB
   ·refine id (S.bs0 (α := TEntry) (d := 12) (by kernel_rfl) fun ac w N q391 F392 S up o393 d394 => ?_)
    have hb395 := fun b h => (⟨(up b (hNN b h).1).1, (up b (hNN b h).1).2.trans (hNN b h).2, d394 b (hNN b h).1⟩ : _ ∧ _ ∧ _)
    refine WD.sc S (fun b h => ⟨(hb395 b h).1, (hb395 b h).2.1⟩) hBB fun hC => ?_
    have d396 := Disj.w d394 o7.sub
    replace o7 := o7.up up
    clear up d394
    exact S.wh hW [] hC fun _ S => hK341 _ _ q391 F392 q8 F9 _ _ _ S o393 o7 (Disj.symm d396) hb395 hBB
  have hK397 ac w q24 F25 q16 F17 u N β (S : St Tryz.prog Tryz.f23.ntmps w0 NoB u N β (σ1.dl [] [(6, .v (slv h.mem.length ph.mem.1)), (8, .v (slv 0 q16.1)), (10, .v (slv h.buf.length ph.buf.1)), (12, .v (slv 0 q24.1)), (14, .v (slv h.iobuf.length ph.iobuf.1))] 2 []) ac w) (o23 : Ow w0 NoB u N F25 ([] : List TEntry) q24) (o15 : Ow w0 NoB u N F17 ([] : List TEntry) q16) (d398 : Disj F25 F17) (hNN : ∀ b, N0 b → N b ∧ u.heap[b]? = u0.heap[b]? ∧ ¬ F17 b ∧ ¬ F25 b) (hBB : BB σ1.bx.length β0 β) : W 6 (mkL 14 [0, 1, 3, 4, 5, 7, 8, 9]) ac w := by
   refine ox2 hW 2 12 ?_ (S.wq hW (fun b h => ⟨(hNN b h).1, (hNN b h).2.1⟩) hBB [] .nil fun _ _ _ S hB => hK350 _ _ q24 F25 q16 F17 _ _ _ S o23 o15 d398 hNN hB)
   refine id (S.k1 7 (c_spec_l04Copy w h.mem ph.mem (S.rd (RHost.mem (d := h) (S.arg hh)))) fun ac w N q399 F400 S up o401 d402 => ?_)
   have hb403 := fun b h => (⟨(up b (hNN b h).1).1, (up b (hNN b h).1).2.trans (hNN b h).2.1, (hNN b h).2.2.1, (hNN b h).2.2.2⟩ : _ ∧ _ ∧ _ ∧ _)
   refine WD.sc S (fun b h => ⟨(hb403 b h).1, (hb403 b h).2.1⟩) hBB fun hC => ?_
   have d404 := Disj.w d402 o15.sub
   have d405 := Disj.w d402 o23.sub
   replace o15 := o15.up up
   replace o23 := o23.up up
   clear up d402
   exact S.wh hW [] hC fun _ S => hK313 _ _ q24 F25 q399 F400 q16 F17 _ _ _ S o23 o401 o15 d405 d398 (Disj.symm d404) hb403 hBB
  have hK406 ac w q16 F17 u N β (S : St Tryz.prog Tryz.f23.ntmps w0 NoB u N β (σ1.dl [] [(3, .p 2 0), (6, .v (slv h.mem.length ph.mem.1)), (8, .v (slv 0 q16.1)), (10, .v (slv h.buf.length ph.buf.1)), (14, .v (slv h.iobuf.length ph.iobuf.1))] 3 [(2, Zc THost)]) ac w) (o15 : Ow w0 NoB u N F17 ([] : List TEntry) q16) (hNN : ∀ b, N0 b → N b ∧ u.heap[b]? = u0.heap[b]? ∧ ¬ F17 b) (hBB : BB σ1.bx.length β0 β) : W 6 (mkL 14 [0, 1, 3, 4, 5, 8, 9, 12]) ac w := by
   refine ox2 hW 2 7 ?_ ?_
   ·refine id (S.k1 7 (c_spec_l04Copy w h.mem ph.mem (S.rd (RHost.mem (d := h) (S.arg hh)))) fun ac w N q407 F408 S up o409 d410 => ?_)
    have hb411 := fun b h => (⟨(up b (hNN b h).1).1, (up b (hNN b h).1).2.trans (hNN b h).2.1, (hNN b h).2.2⟩ : _ ∧ _ ∧ _)
    refine WD.sc S (fun b h => ⟨(hb411 b h).1, (hb411 b h).2.1⟩) hBB fun hC => ?_
    have d412 := Disj.w d410 o15.sub
    replace o15 := o15.up up
    clear up d410
    exact S.wh hW [] hC fun _ S => hK325 _ _ q407 F408 q16 F17 _ _ _ S o409 o15 (Disj.symm d412) hb411 hBB
   ·refine id (S.bs0 (α := TEntry) (d := 12) (by kernel_rfl) fun ac w N q413 F414 S up o415 d416 => ?_)
    have hb417 := fun b h => (⟨(up b (hNN b h).1).1, (up b (hNN b h).1).2.trans (hNN b h).2.1, (hNN b h).2.2, d416 b (hNN b h).1⟩ : _ ∧ _ ∧ _ ∧ _)
    refine WD.sc S (fun b h => ⟨(hb417 b h).1, (hb417 b h).2.1⟩) hBB fun hC => ?_
    have d418 := Disj.w d416 o15.sub
    replace o15 := o15.up up
    clear up d416
    exact S.wh hW [] hC fun _ S => hK350 _ _ q413 F414 q16 F17 _ _ _ S o415 o15 (Disj.symm d418) hb417 hBB
  have hK419 ac w q24 F25 u N β (S : St Tryz.prog Tryz.f23.ntmps w0 NoB u N β (σ1.dl [] [(3, .p 2 0), (6, .v (slv h.mem.length ph.mem.1)), (10, .v (slv h.buf.length ph.buf.1)), (12, .v (slv 0 q24.1)), (14, .v (slv h.iobuf.length ph.iobuf.1))] 3 [(2, Zc THost)]) ac w) (o23 : Ow w0 NoB u N F25 ([] : List TEntry) q24) (hNN : ∀ b, N0 b → N b ∧ u.heap[b]? = u0.heap[b]? ∧ ¬ F25 b) (hBB : BB σ1.bx.length β0 β) : W 6 (mkL 14 [0, 1, 4, 5, 7, 8, 9, 12]) ac w := by
   refine ox2 hW 2 3 ?_ ?_
   ·refine id (S.k1 7 (c_spec_l04Copy w h.mem ph.mem (S.rd (RHost.mem (d := h) (S.arg hh)))) fun ac w N q420 F421 S up o422 d423 => ?_)
    have hb424 := fun b h => (⟨(up b (hNN b h).1).1, (up b (hNN b h).1).2.trans (hNN b h).2.1, (hNN b h).2.2⟩ : _ ∧ _ ∧ _)
    refine WD.sc S (fun b h => ⟨(hb424 b h).1, (hb424 b h).2.1⟩) hBB fun hC => ?_
    have d425 := Disj.w d423 o23.sub
    replace o23 := o23.up up
    clear up d423
    exact S.wh hW [] hC fun _ S => hK341 _ _ q24 F25 q420 F421 _ _ _ S o23 o422 d425 hb424 hBB
   ·refine id (S.bs0 (α := TEntry) (d := 8) (by kernel_rfl) fun ac w N q426 F427 S up o428 d429 => ?_)
    have hb430 := fun b h => (⟨(up b (hNN b h).1).1, (up b (hNN b h).1).2.trans (hNN b h).2.1, d429 b (hNN b h).1, (hNN b h).2.2⟩ : _ ∧ _ ∧ _ ∧ _)
    refine WD.sc S (fun b h => ⟨(hb430 b h).1, (hb430 b h).2.1⟩) hBB fun hC => ?_
    have d431 := Disj.w d429 o23.sub
    replace o23 := o23.up up
    clear up d429
    exact S.wh hW [] hC fun _ S => hK350 _ _ q24 F25 q426 F427 _ _ _ S o23 o428 d431 hb430 hBB
  have hK432 ac w q8 F9 u N β (S : St Tryz.prog Tryz.f23.ntmps w0 NoB u N β (σ1.dl [] [(7, .v (slv h.mem.length q8.1)), (10, .v (slv h.buf.length ph.buf.1)), (14, .v (slv h.iobuf.length ph.iobuf.1))] 2 []) ac w) (o7 : Ow w0 NoB u N F9 h.mem q8) (hNN : NN N0 u0 N u) (hBB : BB σ1.bx.length β0 β) : W 7 (mkL 14 [0, 1, 2, 4, 5, 8, 9]) ac w := by
   refine ox3 hW 3 7 12 ?_ ?_ (S.wq hW hNN hBB [] .nil fun _ _ _ S hB => hK384 _ _ q8 F9 _ _ _ S o7 hNN hB)
   ·refine id (S.bs0 (α := TEntry) (d := 8) (by kernel_rfl) fun ac w N q433 F434 S up o435 d436 => ?_)
    have hb437 := fun b h => (⟨(up b (hNN b h).1).1, (up b (hNN b h).1).2.trans (hNN b h).2, d436 b (hNN b h).1⟩ : _ ∧ _ ∧ _)
    refine WD.sc S (fun b h => ⟨(hb437 b h).1, (hb437 b h).2.1⟩) hBB fun hC => ?_
    have d438 := Disj.w d436 o7.sub
    replace o7 := o7.up up
    clear up d436
    exact S.wh hW [] hC fun _ S => hK359 _ _ q8 F9 q433 F434 _ _ _ S o7 o435 d438 hb437 hBB
   ·refine id (S.bs0 (α := TEntry) (d := 12) (by kernel_rfl) fun ac w N q439 F440 S up o441 d442 => ?_)
    have hb443 := fun b h => (⟨(up b (hNN b h).1).1, (up b (hNN b h).1).2.trans (hNN b h).2, d442 b (hNN b h).1⟩ : _ ∧ _ ∧ _)
    refine WD.sc S (fun b h => ⟨(hb443 b h).1, (hb443 b h).2.1⟩) hBB fun hC => ?_
    have d444 := Disj.w d442 o7.sub
    replace o7 := o7.up up
    clear up d442
    exact S.wh hW [] hC fun _ S => hK375 _ _ q439 F440 q8 F9 _ _ _ S o441 o7 (Disj.symm d444) hb443 hBB
  have hK445 ac w q16 F17 u N β (S : St Tryz.prog Tryz.f23.ntmps w0 NoB u N β (σ1.dl [] [(6, .v (slv h.mem.length ph.mem.1)), (8, .v (slv 0 q16.1)), (10, .v (slv h.buf.length ph.buf.1)), (14, .v (slv h.iobuf.length ph.iobuf.1))] 2 []) ac w) (o15 : Ow w0 NoB u N F17 ([] : List TEntry) q16) (hNN : ∀ b, N0 b → N b ∧ u.heap[b]? = u0.heap[b]? ∧ ¬ F17 b) (hBB : BB σ1.bx.length β0 β) : W 7 (mkL 14 [0, 1, 3, 4, 5, 8, 9]) ac w := by
   refine ox3 hW 2 7 12 ?_ ?_ (S.wq hW (fun b h => ⟨(hNN b h).1, (hNN b h).2.1⟩) hBB [] .nil fun _ _ _ S hB => hK406 _ _ q16 F17 _ _ _ S o15 hNN hB)
   ·refine id (S.k1 7 (c_spec_l04Copy w h.mem ph.mem (S.rd (RHost.mem (d := h) (S.arg hh)))) fun ac w N q446 F447 S up o448 d449 => ?_)
    have hb450 := fun b h => (⟨(up b (hNN b h).1).1, (up b (hNN b h).1).2.trans (hNN b h).2.1, (hNN b h).2.2⟩ : _ ∧ _ ∧ _)
    refine WD.sc S (fun b h => ⟨(hb450 b h).1, (hb450 b h).2.1⟩) hBB fun hC => ?_
    have d451 := Disj.w d449 o15.sub
    replace o15 := o15.up up
    clear up d449
    exact S.wh hW [] hC fun _ S => hK359 _ _ q446 F447 q16 F17 _ _ _ S o448 o15 (Disj.symm d451) hb450 hBB
   ·refine id (S.bs0 (α := TEntry) (d := 12) (by kernel_rfl) fun ac w N q452 F453 S up o454 d455 => ?_)
    have hb456 := fun b h => (⟨(up b (hNN b h).1).1, (up b (hNN b h).1).2.trans (hNN b h).2.1, (hNN b h).2.2, d455 b (hNN b h).1⟩ : _ ∧ _ ∧ _ ∧ _)
    refine WD.sc S (fun b h => ⟨(hb456 b h).1, (hb456 b h).2.1⟩) hBB fun hC => ?_
    have d457 := Disj.w d455 o15.sub
    replace o15 := o15.up up
    clear up d455
    exact S.wh hW [] hC fun _ S => hK397 _ _ q452 F453 q16 F17 _ _ _ S o454 o15 (Disj.symm d457) hb456 hBB
  have hK458 ac w q24 F25 u N β (S : St Tryz.prog Tryz.f23.ntmps w0 NoB u N β (σ1.dl [] [(6, .v (slv h.mem.length ph.mem.1)), (10, .v (slv h.buf.length ph.buf.1)), (12, .v (slv 0 q24.1)), (14, .v (slv h.iobuf.length ph.iobuf.1))] 2 []) ac w) (o23 : Ow w0 NoB u N F25 ([] : List TEntry) q24) (hNN : ∀ b, N0 b → N b ∧ u.heap[b]? = u0.heap[b]? ∧ ¬ F25 b) (hBB : BB σ1.bx.length β0 β) : W 7 (mkL 14 [0, 1, 4, 5, 7, 8, 9]) ac w := by
   refine ox3 hW 2 3 12 ?_ ?_ (S.wq hW (fun b h => ⟨(hNN b h).1, (hNN b h).2.1⟩) hBB [] .nil fun _ _ _ S hB => hK419 _ _ q24 F25 _ _ _ S o23 hNN hB)
   ·refine id (S.k1 7 (c_spec_l04Copy w h.mem ph.mem (S.rd (RHost.mem (d := h) (S.arg hh)))) fun ac w N q459 F460 S up o461 d462 => ?_)
    have hb463 := fun b h => (⟨(up b (hNN b h).1).1, (up b (hNN b h).1).2.trans (hNN b h).2.1, (hNN b h).2.2⟩ : _ ∧ _ ∧ _)
    refine WD.sc S (fun b h => ⟨(hb463 b h).1, (hb463 b h).2.1⟩) hBB fun hC => ?_
    have d464 := Disj.w d462 o23.sub
    replace o23 := o23.up up
    clear up d462
    exact S.wh hW [] hC fun _ S => hK375 _ _ q24 F25 q459 F460 _ _ _ S o23 o461 d464 hb463 hBB
   ·refine id (S.bs0 (α := TEntry) (d := 8) (by kernel_rfl) fun ac w N q465 F466 S up o467 d468 => ?_)
    have hb469 := fun b h => (⟨(up b (hNN b h).1).1, (up b (hNN b h).1).2.trans (hNN b h).2.1, d468 b (hNN b h).1, (hNN b h).2.2⟩ : _ ∧ _ ∧ _ ∧ _)
    refine WD.sc S (fun b h => ⟨(hb469 b h).1, (hb469 b h).2.1⟩) hBB fun hC => ?_
    have d470 := Disj.w d468 o23.sub
    replace o23 := o23.up up
    clear up d468
    exact S.wh hW [] hC fun _ S => hK397 _ _ q24 F25 q465 F466 _ _ _ S o23 o467 d470 hb469 hBB
  have hK471 ac w u N β (S : St Tryz.prog Tryz.f23.ntmps w0 NoB u N β (σ1.dl [] [(3, .p 2 0), (6, .v (slv h.mem.length ph.mem.1)), (10, .v (slv h.buf.length ph.buf.1)), (14, .v (slv h.iobuf.length ph.iobuf.1))] 3 [(2, Zc THost)]) ac w) (hNN : NN N0 u0 N u) (hBB : BB σ1.bx.length β0 β) : W 7 (mkL 14 [0, 1, 4, 5, 8, 9, 12]) ac w := by
   refine ox3 hW 2 3 7 ?_ ?_ ?_
   ·refine id (S.k1 7 (c_spec_l04Copy w h.mem ph.mem (S.rd (RHost.mem (d := h) (S.arg hh)))) fun ac w N q472 F473 S up o474 d475 => ?_)
    have hb476 := fun b h => (⟨(up b (hNN b h).1).1, (up b (hNN b h).1).2.trans (hNN b h).2⟩ : _ ∧ _)
    refine WD.sc S hb476 hBB fun hC => ?_
    clear up d475
    exact S.wh hW [] hC fun _ S => hK384 _ _ q472 F473 _ _ _ S o474 hb476 hBB
   ·refine id (S.bs0 (α := TEntry) (d := 8) (by kernel_rfl) fun ac w N q477 F478 S up o479 d480 => ?_)
    have hb481 := fun b h => (⟨(up b (hNN b h).1).1, (up b (hNN b h).1).2.trans (hNN b h).2, d480 b (hNN b h).1⟩ : _ ∧ _ ∧ _)
    refine WD.sc S (fun b h => ⟨(hb481 b h).1, (hb481 b h).2.1⟩) hBB fun hC => ?_
    clear up d480
    exact S.wh hW [] hC fun _ S => hK406 _ _ q477 F478 _ _ _ S o479 hb481 hBB
   ·refine id (S.bs0 (α := TEntry) (d := 12) (by kernel_rfl) fun ac w N q482 F483 S up o484 d485 => ?_)
    have hb486 := fun b h => (⟨(up b (hNN b h).1).1, (up b (hNN b h).1).2.trans (hNN b h).2, d485 b (hNN b h).1⟩ : _ ∧ _ ∧ _)
    refine WD.sc S (fun b h => ⟨(hb486 b h).1, (hb486 b h).2.1⟩) hBB fun hC => ?_
    clear up d485
    exact S.wh hW [] hC fun _ S => hK419 _ _ q482 F483 _ _ _ S o484 hb486 hBB
  have hNN : NN N0 u0 N0 u0 := fun b h => ⟨h, rfl⟩
  have hBB : BB σ1.bx.length β0 β0 := fun _ _ => rfl
  refine ox4 hW 2 3 7 12 ?_ ?_ ?_ (S.wq hW hNN hBB [] .nil fun _ _ _ S hB => hK471 _ _ _ _ _ S hNN hB)
  ·refine id (S.k1 7 (c_spec_l04Copy w h.mem ph.mem (S.rd (RHost.mem (d := h) (S.arg hh)))) fun ac w N q487 F488 S up o489 d490 => ?_)
   have hb491 := fun b h => (⟨(up b (hNN b h).1).1, (up b (hNN b h).1).2.trans (hNN b h).2⟩ : _ ∧ _)
   refine WD.sc S hb491 hBB fun hC => ?_
   clear up d490
   exact S.wh hW [] hC fun _ S => hK432 _ _ q487 F488 _ _ _ S o489 hb491 hBB
  ·refine id (S.bs0 (α := TEntry) (d := 8) (by kernel_rfl) fun ac w N q492 F493 S up o494 d495 => ?_)
   have hb496 := fun b h => (⟨(up b (hNN b h).1).1, (up b (hNN b h).1).2.trans (hNN b h).2, d495 b (hNN b h).1⟩ : _ ∧ _ ∧ _)
   refine WD.sc S (fun b h => ⟨(hb496 b h).1, (hb496 b h).2.1⟩) hBB fun hC => ?_
   clear up d495
   exact S.wh hW [] hC fun _ S => hK445 _ _ q492 F493 _ _ _ S o494 hb496 hBB
  ·refine id (S.bs0 (α := TEntry) (d := 12) (by kernel_rfl) fun ac w N q497 F498 S up o499 d500 => ?_)
   have hb501 := fun b h => (⟨(up b (hNN b h).1).1, (up b (hNN b h).1).2.trans (hNN b h).2, d500 b (hNN b h).1⟩ : _ ∧ _ ∧ _)
   refine WD.sc S (fun b h => ⟨(hb501 b h).1, (hb501 b h).2.1⟩) hBB fun hC => ?_
   clear up d500
   exact S.wh hW [] hC fun _ S => hK458 _ _ q497 F498 _ _ _ S o499 hb501 hBB
 clear S
 rintro ac w ⟨q234, F235, q237, F238, q231, F232, u, N, β, S, o233, o236, o230, d502, d503, d504⟩
 refine S.ex fun S => ?_
 refine S.go 8 .nil fun ac w β S => ?_
 have o508 := S.nilOw (α := TMon)
 refine lp (fun mm ac w => ∃ (i : Nat) (acc : List TMon) (q505 : _) (F506 : _) (u : _) (N : _) (β : _), mm = h.mons.length - i ∧ (i ≤ h.mons.length) ∧ (acc = h.mons.take i) ∧ St Tryz.prog Tryz.f23.ntmps w0 NoB u N β ⟨[(1, .p 0 0), (2, .p 1 0), (3, .p 2 0), (4, .v (I (i : Int)))], [GT.cells h ph, Zc THost, [slv h.mem.length q231.1, slv acc.length q505.1, slv h.buf.length q234.1, slv h.iobuf.length q237.1]]⟩ ac w ∧ Ow w0 NoB u N F506 acc q505 ∧ Ow w0 NoB u N F232 h.mem q231 ∧ Ow w0 NoB u N F235 h.buf q234 ∧ Ow w0 NoB u N F238 h.iobuf q237 ∧ Disj F506 F232 ∧ Disj F506 F235 ∧ Disj F506 F238) _ ⟨0, ([] : List TMon), (GT.pdflt (α := List TMon)), NoB, _, _, _, rfl, o0, (by rfl), S.z, o508, o230, o233, o236, (Disj.symm (fun b _ h => False.elim h)), (Disj.symm (fun b _ h => False.elim h)), (Disj.symm (fun b _ h => False.elim h))⟩ ?_
 clear S o230 o233 o236 o508
 rintro f512 mm hf513 ac w ⟨i, acc, q505, F506, u, N, β, rfl, hi, hacc, S, o507, o230, o233, o236, d509, d510, d511⟩
 refine S.rs fun S => ?_
 have hlacc : acc.length = i := by rw [hacc]; simp; omega
 refine S.gd 10 .nil (decide ((i : Int) < (h.mons.length : Int))) (fun ac w β h514 g515 S => ?_) (fun ac w β h514 g515 S => ?_)
 ·refine S.go 5 .nil fun ac w β S => ?_
  refine drw ?_
  refine S.draw0 (f := 12) 9 (by kernel_rfl) (by kernel_rfl) fun w S => ?_
  refine S.hq 0 [1, 0] [] [(24, .p 2 1)] .nil fun ac S => ?_
  refine S.hq 1 [1] [] [(25, .v (slv acc.length q505.1))] .nil fun ac S => ?_
  refine S.hq 2 [7, 6, 5, 3, 2] [] [(26, .p 0 1)] .nil fun ac S => ?_
  refine S.hq 3 [7, 6, 5, 3] [] [(27, .v (slv h.mons.length ph.mons.1))] .nil fun ac S => ?_
  refine S.hq 4 [7, 6, 5, 4] [] [(28, .v (I (i : Int)))] .nil fun ac S => ?_
  refine S.hq 5 [7, 6, 5] [] [(29, .v (pt ph.mons.1.b (ph.mons.1.off + i * 9)))] (.cons (qn (RHost.mons (d := h) (S.arg hh)) i Tryz.underlying28) .nil) fun ac S => ?_
  refine S.hq 6 [7, 6] [] [(30, .v (GT.val (el h.mons i) (ph.mons.2 i)))] (.cons (qs (RHost.mons (d := h) (S.arg hh)) 73 i) .nil) fun ac S => ?_
  refine WD.one (i := 7) (by kernel_rfl) ?_
  refine id (S.k1 31 (c_spec_l21Mon w (el h.mons i) (ph.mons.2 i) (S.rd (LRd.el (RHost.mons (d := h) (S.arg hh)) i (by omega)))) fun ac w N q516 F517 S up o518 d519 => ?_)
  refine WD.next S up (by kernel_rfl) ?_
  have d520 := Disj.w d519 o507.sub
  have d521 := Disj.w d519 o230.sub
  have d522 := Disj.w d519 o233.sub
  have d523 := Disj.w d519 o236.sub
  replace o507 := o507.up up
  replace o230 := o230.up up
  replace o233 := o233.up up
  replace o236 := o236.up up
  clear up d519
  have i539 : In64 (el h.mons i).pend := RMon.pend (d := (el h.mons i)) o518.rn
  have i540 : In64 (el h.mons i).traps := RMon.traps (d := (el h.mons i)) o518.rn
  have i544 : In64 (el h.mons i).owned := RMon.owned (d := (el h.mons i)) o518.rn
  obtain ⟨F524, F527, F530, F533, F536, F541, o525, o528, o531, o534, o537, o542, s526, s529, s532, s535, s538, s543, d545, d546, d547, d548, d549, d550, d551, d552, d553, d554, d555, d556, d557, d558, d559⟩ := sp_Mon o518
  refine WD.one (i := 8) (by kernel_rfl) ?_
  have o564 := ow_Mon (x := (el h.mons i)) (p := q516) o525 o528 o531 o534 o537 o542 d545 d546 d547 d548 d549 d550 d551 d552 d553 d554 d555 d556 d557 d558 d559 i539 i540 i544
  refine id (S.bs1 (α := TMon) (x := (el h.mons i)) (p := q516) o564.own o564.sub o564.young (d := 32) (by kernel_rfl) fun ac w N q560 F561 S up o562 d563 => ?_)
  refine WD.next S up (by kernel_rfl) ?_
  have d565 := d563 _ (Disj.symm (Disj.or (Disj.part (Disj.symm d520) s526) (Disj.or (Disj.part (Disj.symm d520) s529) (Disj.or (Disj.part (Disj.symm d520) s532) (Disj.or (Disj.part (Disj.symm d520) s535) (Disj.or (Disj.part (Disj.symm d520) s538) (Disj.or (Disj.part (Disj.symm d520) s543) Disj.nob))))))) o507.sub
  have d566 := d563 _ (Disj.symm (Disj.or (Disj.part (Disj.symm d521) s526) (Disj.or (Disj.part (Disj.symm d521) s529) (Disj.or (Disj.part (Disj.symm d521) s532) (Disj.or (Disj.part (Disj.symm d521) s535) (Disj.or (Disj.part (Disj.symm d521) s538) (Disj.or (Disj.part (Disj.symm d521) s543) Disj.nob))))))) o230.sub
  have d567 := d563 _ (Disj.symm (Disj.or (Disj.part (Disj.symm d522) s526) (Disj.or (Disj.part (Disj.symm d522) s529) (Disj.or (Disj.part (Disj.symm d522) s532) (Disj.or (Disj.part (Disj.symm d522) s535) (Disj.or (Disj.part (Disj.symm d522) s538) (Disj.or (Disj.part (Disj.symm d522) s543) Disj.nob))))))) o233.sub
  have d568 := d563 _ (Disj.symm (Disj.or (Disj.part (Disj.symm d523) s526) (Disj.or (Disj.part (Disj.symm d523) s529) (Disj.or (Disj.part (Disj.symm d523) s532) (Disj.or (Disj.part (Disj.symm d523) s535) (Disj.or (Disj.part (Disj.symm d523) s538) (Disj.or (Disj.part (Disj.symm d523) s543) Disj.nob))))))) o236.sub
  replace o507 := o507.up up
  replace o230 := o230.up up
  replace o233 := o233.up up
  replace o236 := o236.up up
  clear up d563
  refine WD.one (i := 9) (by kernel_rfl) ?_
  refine id (S.appOwn (α := TMon) o507 o562 d565 (by' := 168) (d := 33) (lx := acc.length) (ly := 1) rfl rfl (by kernel_rfl) (show _ ≤ 4194304 by simp only [List.length_append, List.length_cons, List.length_nil]; omega) fun ac w N q569 F570 S up o571 d572 => ?_)
  refine WD.last (by kernel_rfl) ?_
  have d573 := d572 _ (Disj.symm d509) d566 o230.sub
  have d574 := d572 _ (Disj.symm d510) d567 o233.sub
  have d575 := d572 _ (Disj.symm d511) d568 o236.sub
  replace o230 := o230.upF (Disj.symm d509) up
  replace o233 := o233.upF (Disj.symm d510) up
  replace o236 := o236.upF (Disj.symm d511) up
  clear up d572
  refine WD.one (i := 10) (by kernel_rfl) ?_
  refine S.stepq (i := 10) (keep := [1, 2, 3, 4, 33, 34]) (m := 3) (σ' := ⟨[(1, .p 0 0), (2, .p 1 0), (3, .p 2 0), (4, .v (I (i : Int))), (33, .v (slv (acc ++ [(el h.mons i)]).length q569.1)), (34, .p 2 1)], [GT.cells h ph, Zc THost, [slv h.mem.length q231.1, slv acc.length q505.1, slv h.buf.length q234.1, slv h.iobuf.length q237.1]]⟩) .nil (by kernel_rfl) fun ac w β S hβ => ?_
  refine WD.last (by kernel_rfl) ?_
  clear hβ
  refine WD.one (i := 11) (by kernel_rfl) ?_
  refine S.stepq (i := 11) (keep := [1, 2, 3, 4]) (m := 3) (σ' := ⟨[(1, .p 0 0), (2, .p 1 0), (3, .p 2 0), (4, .v (I (i : Int)))], [GT.cells h ph, Zc THost, [slv h.mem.length q231.1, slv (acc ++ [(el h.mons i)]).length q569.1, slv h.buf.length q234.1, slv h.iobuf.length q237.1]]⟩) .nil (by kernel_rfl) fun ac w β S hβ => ?_
  refine WD.last (by kernel_rfl) ?_
  clear hβ
  refine WD.done (by kernel_rfl) ?_ _
  refine S.ex fun S => ?_
  refine S.ge 7 (.cons (qp (i : Int) 1) .nil) f512 fun ac w β S => hf513.of (h.mons.length - (i + 1)) _ _ (by omega) ⟨i + 1, (acc ++ [(el h.mons i)]), q569, F570, _, _, _, rfl, ?_, ?_, S.z, o571, o230, o233, o236, (Disj.symm d573), (Disj.symm d574), (Disj.symm d575)⟩
  ·exact oz
  ·clear S; (first | (rw [take_el (by omega), hacc]; done) | (rw [take_el (by omega), hacc]; simp; done))
 refine S.gr 13 .nil [GT.val (⟨h.mem, acc, h.buf, h.iobuf⟩ : THost) (⟨q231, q505, q234, q237⟩ : PHost)] fun ac w β S => ?_
 have o576 := ow_Host (x := (⟨h.mem, acc, h.buf, h.iobuf⟩ : THost)) (p := (⟨q231, q505, q234, q237⟩ : PHost)) o230 o507 o233 o236 (Disj.symm d509) (Disj.symm d503) (Disj.symm d504) d510 d511 d502 
 exact ret1_of S (show h = (⟨h.mem, acc, h.buf, h.iobuf⟩ : THost) by clear S; (rw [hacc, take_all (by omega)]; first | done | rfl | (simp; done))) rfl o576

theorem k0_spec_l01In {p : Prop} (h : p := by clear S; first | rfl | (simp [f_within, *]; done) | (simp [f_within, *]; omega) | (simp_all [f_within]; done) | (simp_all [f_within]; omega)) : p := h
theorem c_spec_l01In (w0 : World) (x : Int) (a : Int) (b : Int) : Calls Tryz.prog 38 [I x, I a, I b].toArray w0 (fun e w' => e = .returned (B (f_within x a b)) ∧ Chg NoB w0 w') := by
 refine Calls.run NoB Tryz.func38 ?_
 intro ac β S
 refine S.gd 11 .nil (decide (x ≥ a)) (fun ac w β h1 g2 S => ?_) (fun ac w β h1 g2 S => ?_)
 ·exact S.gf 8 .nil [B (decide (x ≤ b))] (retB k0_spec_l01In)
 exact S.gf 8 .nil [B false] (retB k0_spec_l01In)

theorem k0_spec_AddrPage {p : Prop} (h : p := by clear S; (first | (unfold f_addrPage; rw [if_pos (by omega)]; done) | (unfold f_addrPage; rw [if_pos (by omega)]; first | rfl | (simp; done)) | (unfold f_addrPage; rw [if_neg (by omega)]; done) | (unfold f_addrPage; rw [if_neg (by omega)]; first | rfl | (simp; done)))) : p := h
theorem c_spec_AddrPage (w0 : World) (addr : Int) (haddr : In64 addr) : Calls Tryz.prog 39 [I addr].toArray w0 (fun e w' => e = .returned (I (f_addrPage addr)) ∧ Chg NoB w0 w') := by
 refine Calls.run NoB Tryz.func39 ?_
 intro ac β S
 have hloaddr := haddr.lo; have hhiaddr := haddr.hi
 refine S.gd 12 .nil (decide (addr < 0)) (fun ac w β h1 g2 S => ?_) (fun ac w β h1 g2 S => ?_)
 ·exact S.gf 7 .nil [I (-1)] (retI k0_spec_AddrPage)
 exact S.gf 11 (.cons (Q_quo (x := addr) (y := 4) (by decide) (tdiv4_in64 haddr (by omega))) .nil) [I (Int.tdiv addr 4)] (retI k0_spec_AddrPage)

theorem c_spec_PageOk (w0 : World) (cells : List Int) (pcells : LP Int) (hcells : RD w0 cells pcells) : Calls Tryz.prog 136 [slv cells.length pcells.1].toArray w0 (fun e w' => e = .returned (B (f_pageOk cells)) ∧ Chg NoB w0 w') := by
 refine Calls.run NoB Tryz.func136 ?_
 intro ac β S
 have hlecells : cells.length ≤ 4194304 := LRd.le hcells
 refine S.go 12 .nil fun ac w β S => ?_
 refine lp (fun mm ac w => ∃ (k : Nat)  (u : _) (N : _) (β : _), mm = cells.length - k ∧ (k ≤ cells.length) ∧ ((cells.take k).all (fun v => f_within v 0 99) = true) ∧ St Tryz.prog Tryz.f136.ntmps w0 NoB u N β ⟨[(0, .v (slv cells.length pcells.1)), (3, .v (I (k : Int)))], []⟩ ac w) _ ⟨0, _, _, _, rfl, o0, (by simp), S.z⟩ ?_
 clear S
 rintro f1 mm hf2 ac w ⟨k, u, N, β, rfl, hk, he, S⟩
 refine S.rs fun S => ?_
 refine S.gd 9 .nil (decide ((k : Int) < (cells.length : Int))) (fun ac w β h3 g4 S => ?_) (fun ac w β h3 g4 S => ?_)
 ·refine S.gb 15 (.cons (qn (S.arg hcells) k Tryz.underlying61) (.cons (qx (S.arg hcells) 3 k) (.cons (Q_call fun w hw => c_spec_l01In w (el cells k) 0 99) .nil))) (!(f_within (el cells k) 0 99)) (fun ac w β h5 S => ?_) (fun ac w β h5 S => ?_)
  ·have h6 := not_t h5
   have g7 := within_f h6
   exact S.gf 7 .nil [B false] (retB (by clear S; (first | (unfold f_pageOk; rw [all_bad (k := k) (by omega) (by first | assumption | simp_all)]; simp; done) | (unfold f_pageOk; rw [all_end (by omega) he]; simp; done) | (unfold f_pageOk; rw [all_end (by omega) he]; simp [*]; done) | (unfold f_pageOk; rw [all_end (by omega) he]; simp; omega))))
  have h8 := not_f h5
  have g9 := within_t h8
  refine S.ge 9 (.cons (qp (k : Int) 1) .nil) f1 fun ac w β S => hf2.of (cells.length - (k + 1)) _ _ (by omega) ⟨k + 1, _, _, _, rfl, ?_, ?_, S.z⟩
  ·exact oz
  ·clear S; exact all_step (by omega) he (by first | assumption | (simp only [f_slotOk, f_within] at *; simp_all; done) | (simp_all; done) | (simp_all; omega))
 exact S.gf 15 .nil [B ((cells.length : Int) == 4)] (retB (by clear S; (first | (unfold f_pageOk; rw [all_end (by omega) he]; simp; done) | (unfold f_pageOk; rw [all_end (by omega) he]; simp [*]; done) | (unfold f_pageOk; rw [all_end (by omega) he]; simp; omega) | (unfold f_pageOk; rw [all_bad (k := k) (by omega) (by first | assumption | simp_all)]; simp; done))))

theorem c_spec_MemOk (w0 : World) (m : List (List Int)) (pm : LP (List Int)) (hm : RD w0 m pm) (pages : Int) : Calls Tryz.prog 98 [slv m.length pm.1, I pages].toArray w0 (fun e w' => e = .returned (B (f_memOk m pages)) ∧ Chg NoB w0 w') := by
 refine Calls.run NoB Tryz.func98 ?_
 intro ac β S
 have hlem : m.length ≤ 4194304 := LRd.le hm
 refine S.go 12 .nil fun ac w β S => ?_
 refine lp (fun mm ac w => ∃ (k : Nat)  (u : _) (N : _) (β : _), mm = m.length - k ∧ (k ≤ m.length) ∧ ((m.take k).all f_pageOk = true) ∧ St Tryz.prog Tryz.f98.ntmps w0 NoB u N β ⟨[(0, .v (slv m.length pm.1)), (1, .v (I pages)), (5, .v (I (k : Int)))], []⟩ ac w) _ ⟨0, _, _, _, rfl, o0, (by simp), S.z⟩ ?_
 clear S
 rintro f1 mm hf2 ac w ⟨k, u, N, β, rfl, hk, he, S⟩
 refine S.rs fun S => ?_
 refine S.gd 9 .nil (decide ((k : Int) < (m.length : Int))) (fun ac w β h3 g4 S => ?_) (fun ac w β h3 g4 S => ?_)
 ·refine S.gb 15 (.cons (qn (S.arg hm) k Tryz.underlying22) (.cons (qx (S.arg hm) 61 k) (.cons (Q_call fun w hw => c_spec_PageOk w (el m k) (pm.2 k) (rd_of (LRd.el (S.arg hm) k (by omega)) hw)) .nil))) (!(f_pageOk (el m k))) (fun ac w β h5 S => ?_) (fun ac w β h5 S => ?_)
  ·have h6 := not_t h5
   exact S.gf 7 .nil [B false] (retB (by clear S; (first | (unfold f_memOk; rw [all_bad (k := k) (by omega) (by first | assumption | simp_all)]; simp; done) | (unfold f_memOk; rw [all_end (by omega) he]; simp; done) | (unfold f_memOk; rw [all_end (by omega) he]; simp [*]; done) | (unfold f_memOk; rw [all_end (by omega) he]; simp; omega))))
  have h7 := not_f h5
  refine S.ge 9 (.cons (qp (k : Int) 1) .nil) f1 fun ac w β S => hf2.of (m.length - (k + 1)) _ _ (by omega) ⟨k + 1, _, _, _, rfl, ?_, ?_, S.z⟩
  ·exact oz
  ·clear S; exact all_step (by omega) he (by first | assumption | (simp only [f_slotOk, f_within] at *; simp_all; done) | (simp_all; done) | (simp_all; omega))
 exact S.gf 16 .nil [B ((m.length : Int) == pages)] (retB (by clear S; (first | (unfold f_memOk; rw [all_end (by omega) he]; simp; done) | (unfold f_memOk; rw [all_end (by omega) he]; simp [*]; done) | (unfold f_memOk; rw [all_end (by omega) he]; simp; omega) | (unfold f_memOk; rw [all_bad (k := k) (by omega) (by first | assumption | simp_all)]; simp; done))))

theorem k0_spec_BufferOk {p : Prop} (h : p := by clear S; (first | (unfold f_bufferOk; rw [show b.length = i by omega, he]; first | rfl | (simp [*]; done) | (simp; omega) | (rw [Bool.eq_iff_iff]; simp; omega)) | (unfold f_bufferOk; rw [rng_bad (k := i) (by omega) (rng_bad (k := k) (by omega) (by simp_all <;> fail))]; rfl))) : p := h
theorem c_spec_BufferOk (w0 : World) (b : List TEntry) (pb : LP TEntry) (hb : RD w0 b pb) : Calls Tryz.prog 99 [slv b.length pb.1].toArray w0 (fun e w' => e = .returned (B (f_bufferOk b)) ∧ Chg NoB w0 w') := by
 refine Calls.run NoB Tryz.func99 ?_
 intro ac β S
 have hleb : b.length ≤ 4194304 := LRd.le hb
 refine S.go 12 .nil fun ac w β S => ?_
 refine lp (fun mm ac w => ∃ (i : Nat)  (u : _) (N : _) (β : _), mm = b.length - i ∧ (i ≤ b.length) ∧ ((List.range i).all (fun i => (List.range i).all fun k => !(decide ((el b i).tag = (el b k).tag) && decide ((el b i).page = (el b k).page))) = true) ∧ St Tryz.prog Tryz.f99.ntmps w0 NoB u N β ⟨[(0, .v (slv b.length pb.1)), (3, .v (I (i : Int)))], []⟩ ac w) _ ⟨0, _, _, _, rfl, o0, (by rfl), S.z⟩ ?_
 clear S
 rintro f1 mm hf2 ac w ⟨i, u, N, β, rfl, hi, he, S⟩
 refine S.rs fun S => ?_
 refine S.gd 9 .nil (decide ((i : Int) < (b.length : Int))) (fun ac w β h3 g4 S => ?_) (fun ac w β h3 g4 S => ?_)
 ·refine S.go 11 .nil fun ac w β S => ?_
  refine lp (fun mm ac w => ∃ (k : Nat)  (u : _) (N : _) (β : _), mm = i - k ∧ (k ≤ i) ∧ ((List.range k).all (fun k => !(decide ((el b i).tag = (el b k).tag) && decide ((el b i).page = (el b k).page))) = true) ∧ St Tryz.prog Tryz.f99.ntmps w0 NoB u N β ⟨[(0, .v (slv b.length pb.1)), (3, .v (I (i : Int))), (4, .v (I (k : Int)))], []⟩ ac w) _ ⟨0, _, _, _, rfl, o0, (by rfl), S.z⟩ ?_
  clear S
  rintro f5 mm hf6 ac w ⟨k, u, N, β, rfl, hk, he2, S⟩
  refine S.rs fun S => ?_
  have eltk : k < i → el (b.take i) k = el b k := fun h => el_take h
  refine S.gd 8 .nil (decide ((k : Int) < (i : Int))) (fun ac w β h7 g8 S => ?_) (fun ac w β h7 g8 S => ?_)
  ·refine S.go 6 .nil fun ac w β S => ?_
   refine drw ?_
   rcases Bool.eq_false_or_eq_true ((el b i).tag == (el b k).tag) with h9 | h9
   ·have g10 : (el b i).tag = (el b k).tag := eq_of_beq h9
    refine S.drawnO [(11, true)] (keep := [0, 3, 4, 39]) (m := 0) (σ' := ⟨[(0, .v (slv b.length pb.1)), (3, .v (I (i : Int))), (4, .v (I (k : Int))), (39, .v (B ((el b i).page == (el b k).page)))], []⟩) (.cons (qn (S.arg hb) i Tryz.underlying29) (.cons (qc (S.arg hb) 3 i 0 (I (el b i).tag)) (.cons (qn (S.arg hb) k Tryz.underlying29) (.cons (qc (S.arg hb) 3 k 0 (I (el b k).tag)) (.cons (qn (S.arg hb) i Tryz.underlying29) (.cons (qc (S.arg hb) 3 i 1 (I (el b i).page)) (.cons (qn (S.arg hb) k Tryz.underlying29) (.cons (qc (S.arg hb) 3 k 1 (I (el b k).page)) .nil)))))))) rfl (by kernel_rfl) (by kernel_rfl) (.cons h9 .nil) fun ac w S => ?_
    refine S.ex fun S => ?_
    refine S.gd 1 .nil ((el b i).page == (el b k).page) (fun ac w β h11 g12 S => ?_) (fun ac w β h11 g12 S => ?_)
    ·exact S.gf 7 .nil [B false] (retB k0_spec_BufferOk)
    refine S.ge 9 (.cons (qp (k : Int) 1) .nil) f5 fun ac w β S => hf6.of (i - (k + 1)) _ _ (by omega) ⟨k + 1, _, _, _, rfl, ?_, ?_, S.z⟩
    ·exact oz
    ·clear S; (refine rng_step he2 ?_; simp_all)
   ·have g13 : ¬ ((el b i).tag = (el b k).tag) := ne_of_beq_false h9
    refine S.drawnO [(11, false)] (keep := [0, 3, 4, 39]) (m := 0) (σ' := ⟨[(0, .v (slv b.length pb.1)), (3, .v (I (i : Int))), (4, .v (I (k : Int))), (39, .v (B false))], []⟩) (.cons (qn (S.arg hb) i Tryz.underlying29) (.cons (qc (S.arg hb) 3 i 0 (I (el b i).tag)) (.cons (qn (S.arg hb) k Tryz.underlying29) (.cons (qc (S.arg hb) 3 k 0 (I (el b k).tag)) .nil)))) rfl (by kernel_rfl) (by kernel_rfl) (.cons h9 .nil) fun ac w S => ?_
    refine S.ex fun S => ?_
    refine S.ge 10 (.cons (qp (k : Int) 1) .nil) f5 fun ac w β S => hf6.of (i - (k + 1)) _ _ (by omega) ⟨k + 1, _, _, _, rfl, ?_, ?_, S.z⟩
    ·exact oz
    ·clear S; (refine rng_step he2 ?_; simp_all)
  refine S.ge 12 (.cons (qp (i : Int) 1) .nil) f1 fun ac w β S => hf2.of (b.length - (i + 1)) _ _ (by omega) ⟨i + 1, _, _, _, rfl, ?_, ?_, S.z⟩
  ·exact oz
  ·clear S; (refine rng_step he ?_); (have e : k = i := (by omega)); rw [e] at he2; exact he2
 exact S.gf 15 .nil [B (decide ((b.length : Int) ≤ 6))] (retB k0_spec_BufferOk)

theorem c_spec_NoSlot (w0 : World)  : Calls Tryz.prog 104 [].toArray w0 (fun e w' => e = .returned (GT.val (⟨-1, 0⟩ : TSlot) ()) ∧ Chg NoB w0 w') := by
 refine Calls.run NoB Tryz.func104 ?_
 intro ac β S
 exact S.gf 12 (.cons (Q_sem (s := Instr.build 92 [(0, I (-1))].toArray) (v := .agg [I (-1), I 0].toArray) (fun w => by kernel_rfl)) .nil) [GT.val (⟨(-1), 0⟩ : TSlot) ()] (retV (p := ()) (by clear S; first | rfl | (simp [id, *]; done) | (simp [id, *]; omega) | (simp_all [id]; done) | (simp_all [id]; omega)))

theorem k0_spec_SlotOk {p : Prop} (h : p := by clear S; first | rfl | (simp [f_slotOk, *]; done) | (simp [f_slotOk, *]; omega) | (simp_all [f_slotOk]; done) | (simp_all [f_slotOk]; omega)) : p := h
theorem c_spec_SlotOk (w0 : World) (s : TSlot) (pages : Int) (pre0 : 0 ≤ pages) (pre1 : pages ≤ 1000) : Calls Tryz.prog 167 [GT.val s (), I pages].toArray w0 (fun e w' => e = .returned (B (f_slotOk s pages)) ∧ Chg NoB w0 w') := by
 refine Calls.run NoB Tryz.func167 ?_
 intro ac β S
 refine S.go 7 .nil fun ac w β S => ?_
 refine drw ?_
 rcases Bool.eq_false_or_eq_true (decide (s = (⟨-1, 0⟩ : TSlot))) with h1 | h1
 ·refine S.drawnO [(3, true)] (keep := [4]) (m := 0) (σ' := ⟨[(4, .v (B true))], []⟩) (.cons (Q_call fun w hw => c_spec_NoSlot w ) (.cons (Eq_eq_Slot (t := 92) s (⟨-1, 0⟩ : TSlot) (by kernel_rfl)) .nil)) rfl (by kernel_rfl) (by kernel_rfl) (.cons h1 .nil) fun ac w S => ?_
  refine S.ex fun S => ?_
  exact S.gf 2 .nil [B true] (retB k0_spec_SlotOk)
 ·rcases Bool.eq_false_or_eq_true (f_within s.page 0 (pages - 1)) with h2 | h2
  ·have g3 := within_t h2
   rcases Bool.eq_false_or_eq_true (decide (pages > 0)) with h4 | h4
   ·have g5 := of_decide_eq_true h4
    refine S.drawnO [(3, false), (9, true), (13, true)] (keep := [4]) (m := 0) (σ' := ⟨[(4, .v (B (f_within s.rights 1 3)))], []⟩) (.cons (Q_call fun w hw => c_spec_NoSlot w ) (.cons (Eq_eq_Slot (t := 92) s (⟨-1, 0⟩ : TSlot) (by kernel_rfl)) (.cons (qm pages 1) (.cons (Q_call fun w hw => c_spec_l01In w s.page 0 (pages - 1)) (.cons (Q_call fun w hw => c_spec_l01In w s.rights 1 3) .nil))))) rfl (by kernel_rfl) (by kernel_rfl) (.cons h1 (.cons h2 (.cons h4 .nil))) fun ac w S => ?_
    refine S.ex fun S => ?_
    exact S.gf 2 .nil [B (f_within s.rights 1 3)] (retB k0_spec_SlotOk)
   ·have g6 := of_decide_eq_false h4
    refine S.drawnO [(3, false), (9, true), (13, false)] (keep := [4]) (m := 0) (σ' := ⟨[(4, .v (B false))], []⟩) (.cons (Q_call fun w hw => c_spec_NoSlot w ) (.cons (Eq_eq_Slot (t := 92) s (⟨-1, 0⟩ : TSlot) (by kernel_rfl)) (.cons (qm pages 1) (.cons (Q_call fun w hw => c_spec_l01In w s.page 0 (pages - 1)) .nil)))) rfl (by kernel_rfl) (by kernel_rfl) (.cons h1 (.cons h2 (.cons h4 .nil))) fun ac w S => ?_
    refine S.ex fun S => ?_
    exact S.gf 2 .nil [B false] (retB k0_spec_SlotOk)
  ·have g7 := within_f h2
   refine S.drawnO [(3, false), (9, false)] (keep := [4]) (m := 0) (σ' := ⟨[(4, .v (B false))], []⟩) (.cons (Q_call fun w hw => c_spec_NoSlot w ) (.cons (Eq_eq_Slot (t := 92) s (⟨-1, 0⟩ : TSlot) (by kernel_rfl)) (.cons (qm pages 1) (.cons (Q_call fun w hw => c_spec_l01In w s.page 0 (pages - 1)) .nil)))) rfl (by kernel_rfl) (by kernel_rfl) (.cons h1 (.cons h2 .nil)) fun ac w S => ?_
   refine S.ex fun S => ?_
   exact S.gf 2 .nil [B false] (retB k0_spec_SlotOk)

theorem c_spec_TableOk (w0 : World) (t : List TSlot) (pt : LP TSlot) (ht : RD w0 t pt) (size : Int) (pages : Int) (pre0 : 0 ≤ pages) (pre1 : pages ≤ 1000) : Calls Tryz.prog 137 [slv t.length pt.1, I size, I pages].toArray w0 (fun e w' => e = .returned (B (f_tableOk t size pages)) ∧ Chg NoB w0 w') := by
 refine Calls.run NoB Tryz.func137 ?_
 intro ac β S
 have hlet : t.length ≤ 4194304 := LRd.le ht
 refine S.go 12 .nil fun ac w β S => ?_
 refine lp (fun mm ac w => ∃ (k : Nat)  (u : _) (N : _) (β : _), mm = t.length - k ∧ (k ≤ t.length) ∧ ((t.take k).all (fun s => f_slotOk s pages) = true) ∧ St Tryz.prog Tryz.f137.ntmps w0 NoB u N β ⟨[(0, .v (slv t.length pt.1)), (1, .v (I size)), (2, .v (I pages)), (7, .v (I (k : Int)))], []⟩ ac w) _ ⟨0, _, _, _, rfl, o0, (by simp), S.z⟩ ?_
 clear S
 rintro f1 mm hf2 ac w ⟨k, u, N, β, rfl, hk, he, S⟩
 refine S.rs fun S => ?_
 refine S.gd 9 .nil (decide ((k : Int) < (t.length : Int))) (fun ac w β h3 g4 S => ?_) (fun ac w β h3 g4 S => ?_)
 ·refine S.gb 16 (.cons (qn (S.arg ht) k Tryz.underlying69) (.cons (qs (S.arg ht) 92 k) (.cons (Q_call fun w hw => c_spec_SlotOk w (el t k) pages (by omega) (by omega)) .nil))) (!(f_slotOk (el t k) pages)) (fun ac w β h5 S => ?_) (fun ac w β h5 S => ?_)
  ·have h6 := not_t h5
   exact S.gf 7 .nil [B false] (retB (by clear S; (first | (unfold f_tableOk; rw [all_bad (k := k) (by omega) (by first | assumption | simp_all)]; simp; done) | (unfold f_tableOk; rw [all_end (by omega) he]; simp; done) | (unfold f_tableOk; rw [all_end (by omega) he]; simp [*]; done) | (unfold f_tableOk; rw [all_end (by omega) he]; simp; omega))))
  have h7 := not_f h5
  refine S.ge 9 (.cons (qp (k : Int) 1) .nil) f1 fun ac w β S => hf2.of (t.length - (k + 1)) _ _ (by omega) ⟨k + 1, _, _, _, rfl, ?_, ?_, S.z⟩
  ·exact oz
  ·clear S; exact all_step (by omega) he (by first | assumption | (simp only [f_slotOk, f_within] at *; simp_all; done) | (simp_all; done) | (simp_all; omega))
 exact S.gf 16 .nil [B ((t.length : Int) == size)] (retB (by clear S; (first | (unfold f_tableOk; rw [all_end (by omega) he]; simp; done) | (unfold f_tableOk; rw [all_end (by omega) he]; simp [*]; done) | (unfold f_tableOk; rw [all_end (by omega) he]; simp; omega) | (unfold f_tableOk; rw [all_bad (k := k) (by omega) (by first | assumption | simp_all)]; simp; done))))

theorem k0_spec_InsOk {p : Prop} (h : p := by clear S; first | rfl | (simp [f_insOk, *]; done) | (simp [f_insOk, *]; omega) | (simp_all [f_insOk]; done) | (simp_all [f_insOk]; omega)) : p := h
theorem c_spec_InsOk (w0 : World) (i : TIns) : Calls Tryz.prog 190 [GT.val i ()].toArray w0 (fun e w' => e = .returned (B (f_insOk i)) ∧ Chg NoB w0 w') := by
 refine Calls.run NoB Tryz.func190 ?_
 intro ac β S
 refine S.gd 21 .nil (i.opc == 1) (fun ac w β h1 g2 S => ?_) (fun ac w β h1 g2 S => ?_)
 ·exact S.gf 13 (.cons (Q_call fun w hw => c_spec_l01In w i.x 0 99) .nil) [B (f_within i.x 0 99)] (retB k0_spec_InsOk)
 refine S.gd 7 .nil (i.opc == 2) (fun ac w β h3 g4 S => ?_) (fun ac w β h3 g4 S => ?_)
 ·exact S.gf 13 (.cons (Q_call fun w hw => c_spec_l01In w i.x 0 99) .nil) [B (f_within i.x 0 99)] (retB k0_spec_InsOk)
 refine S.gd 7 .nil (i.opc == 5) (fun ac w β h5 g6 S => ?_) (fun ac w β h5 g6 S => ?_)
 ·exact S.gf 13 (.cons (Q_call fun w hw => c_spec_l01In w i.x 0 99) .nil) [B (f_within i.x 0 99)] (retB k0_spec_InsOk)
 refine S.gd 6 .nil (i.opc == 6) (fun ac w β h7 g8 S => ?_) (fun ac w β h7 g8 S => ?_)
 ·exact S.gf 10 (.cons (Q_call fun w hw => c_spec_l01In w i.x 0 99) .nil) [B (f_within i.x 0 99)] (retB k0_spec_InsOk)
 refine S.gd 8 .nil (i.opc == 3) (fun ac w β h9 g10 S => ?_) (fun ac w β h9 g10 S => ?_)
 ·exact S.gf 13 (.cons (Q_call fun w hw => c_spec_l01In w i.x 0 15) .nil) [B (f_within i.x 0 15)] (retB k0_spec_InsOk)
 refine S.gd 6 .nil (i.opc == 4) (fun ac w β h11 g12 S => ?_) (fun ac w β h11 g12 S => ?_)
 ·exact S.gf 10 (.cons (Q_call fun w hw => c_spec_l01In w i.x 0 15) .nil) [B (f_within i.x 0 15)] (retB k0_spec_InsOk)
 refine S.gd 7 .nil (i.opc == 7) (fun ac w β h13 g14 S => ?_) (fun ac w β h13 g14 S => ?_)
 ·exact S.gf 10 .nil [B (i.x == 0)] (retB k0_spec_InsOk)
 refine S.gd 7 .nil (i.opc == 8) (fun ac w β h15 g16 S => ?_) (fun ac w β h15 g16 S => ?_)
 ·exact S.gf 10 (.cons (Q_call fun w hw => c_spec_l01In w i.x 0 11) .nil) [B (f_within i.x 0 11)] (retB k0_spec_InsOk)
 exact S.gf 10 .nil [B false] (retB k0_spec_InsOk)

theorem c_spec_ProgOk (w0 : World) (p : List TIns) (pp : LP TIns) (hp : RD w0 p pp) : Calls Tryz.prog 168 [slv p.length pp.1].toArray w0 (fun e w' => e = .returned (B (f_progOk p)) ∧ Chg NoB w0 w') := by
 refine Calls.run NoB Tryz.func168 ?_
 intro ac β S
 have hlep : p.length ≤ 4194304 := LRd.le hp
 refine S.go 12 .nil fun ac w β S => ?_
 refine lp (fun mm ac w => ∃ (k : Nat)  (u : _) (N : _) (β : _), mm = p.length - k ∧ (k ≤ p.length) ∧ ((p.take k).all f_insOk = true) ∧ St Tryz.prog Tryz.f168.ntmps w0 NoB u N β ⟨[(0, .v (slv p.length pp.1)), (3, .v (I (k : Int)))], []⟩ ac w) _ ⟨0, _, _, _, rfl, o0, (by simp), S.z⟩ ?_
 clear S
 rintro f1 mm hf2 ac w ⟨k, u, N, β, rfl, hk, he, S⟩
 refine S.rs fun S => ?_
 refine S.gd 9 .nil (decide ((k : Int) < (p.length : Int))) (fun ac w β h3 g4 S => ?_) (fun ac w β h3 g4 S => ?_)
 ·refine S.gb 15 (.cons (qn (S.arg hp) k Tryz.underlying78) (.cons (qs (S.arg hp) 176 k) (.cons (Q_call fun w hw => c_spec_InsOk w (el p k)) .nil))) (!(f_insOk (el p k))) (fun ac w β h5 S => ?_) (fun ac w β h5 S => ?_)
  ·have h6 := not_t h5
   exact S.gf 7 .nil [B false] (retB (by clear S; (first | (unfold f_progOk; rw [all_bad (k := k) (by omega) (by first | assumption | simp_all)]; simp; done) | (unfold f_progOk; rw [all_end (by omega) he]; simp; done) | (unfold f_progOk; rw [all_end (by omega) he]; simp [*]; done) | (unfold f_progOk; rw [all_end (by omega) he]; simp; omega))))
  have h7 := not_f h5
  refine S.ge 9 (.cons (qp (k : Int) 1) .nil) f1 fun ac w β S => hf2.of (p.length - (k + 1)) _ _ (by omega) ⟨k + 1, _, _, _, rfl, ?_, ?_, S.z⟩
  ·exact oz
  ·clear S; exact all_step (by omega) he (by first | assumption | (simp only [f_slotOk, f_within] at *; simp_all; done) | (simp_all; done) | (simp_all; omega))
 exact S.gf 15 (.cons (Q_call fun w hw => c_spec_l01In w (p.length : Int) 1 12) .nil) [B (f_within (p.length : Int) 1 12)] (retB (by clear S; (first | (unfold f_progOk; rw [all_end (by omega) he]; simp; done) | (unfold f_progOk; rw [all_end (by omega) he]; simp [*]; done) | (unfold f_progOk; rw [all_end (by omega) he]; simp; omega) | (unfold f_progOk; rw [all_bad (k := k) (by omega) (by first | assumption | simp_all)]; simp; done))))

theorem c_spec_CtlFaults (w0 : World) (c : TCtl) : Calls Tryz.prog 191 [GT.val c ()].toArray w0 (Ret1 NoB w0 (f_ctlFaults c : List Int)) := by
 refine Calls.run NoB Tryz.func191 ?_
 intro ac β S
 refine S.go 8 .nil fun ac w β S => S.B0 (α := Int) (d := 4) fun ac w N q1 F2 S up o3 d4 => ?_
 clear up d4
 refine S.go 12 (.cons (Q_call fun w hw => c_spec_l01In w c.traps 0 3) .nil) fun ac w β S => ?_
 refine cutC S (fun ac w => ∃ (acc1 : List Int) (q5 : _) (F6 : _) (u : _) (N : _) (β : _), (acc1 = (if f_within c.traps 0 3 then [] else [1])) ∧ St Tryz.prog Tryz.f191.ntmps w0 NoB u N β ⟨[(1, .p 0 0), (3, .v (slv acc1.length q5.1))], [GT.cells c ()]⟩ ac w ∧ Ow w0 NoB u N F6 acc1 q5) ?_ ?_
 ·clear S; intro S
  refine S.gb 0 .nil (!(f_within c.traps 0 3)) (fun ac w β h8 S => ?_) (fun ac w β h8 S => ?_)
  ·have h9 := not_t h8
   have g10 := within_f h9
   refine S.go 3 .nil fun ac w β S => S.B1 (α := Int) (x := 1) (p := ()) (F := NoB) (show In64 1 from ⟨by decide, by decide⟩) (fun b h => False.elim h) (fun b h => False.elim h) (d := 10) fun ac w N q11 F12 S up o13 d14 => ?_
   have d15 := d14 _ (fun b _ h => False.elim h) o3.sub
   replace o3 := o3.up up
   clear up d14
   refine S.AF0 (α := Int) o3 o13.rn (fun _ _ h => h) (by' := 8) (d := 11) (lx := 0) (ly := 1) rfl fun ac w N q16 F17 S up o18 d19 => ?_
   have d20 := d19 _ (Disj.symm d15) o13.sub
   replace o13 := o13.upF (Disj.symm d15) up
   clear up d19
   exact S.gn 2 .nil fun ac w β S => ⟨rfl, ([1]), q16, F17, _, _, _, (by clear S; (first | (rw [if_pos (by assumption)]; simp [*]; done) | (rw [if_neg (by simp [*])]; simp [*]; done) | ((repeat' split) <;> first | rfl | (simp; done) | (exfalso; simp_all; done) | (simp_all; done)))), S.z, o18⟩
  have h21 := not_f h8
  have g22 := within_t h21
  exact S.gn 2 .nil fun ac w β S => ⟨rfl, ([] : List Int), q1, F2, _, _, _, (by clear S; (first | (rw [if_pos (by assumption)]; simp [*]; done) | (rw [if_neg (by simp [*])]; simp [*]; done) | ((repeat' split) <;> first | rfl | (simp; done) | (exfalso; simp_all; done) | (simp_all; done)))), S.z, o3⟩
 clear S o3
 rintro ac w ⟨acc1, q5, F6, u, N, β, ha1, S, o7⟩
 have hl1 : acc1.length ≤ 1 := by rw [ha1]; (repeat' split) <;> simp
 refine S.ex fun S => ?_
 refine S.go 10 (.cons (Q_call fun w hw => c_spec_l01In w c.post 0 255) .nil) fun ac w β S => ?_
 refine cutC S (fun ac w => ∃ (acc2 : List Int) (q23 : _) (F24 : _) (u : _) (N : _) (β : _), (acc2 = (if f_within c.traps 0 3 then [] else [1]) ++ (if f_within c.post 0 255 then [] else [2])) ∧ St Tryz.prog Tryz.f191.ntmps w0 NoB u N β ⟨[(1, .p 0 0), (3, .v (slv acc2.length q23.1))], [GT.cells c ()]⟩ ac w ∧ Ow w0 NoB u N F24 acc2 q23) ?_ ?_
 ·clear S; intro S
  refine S.gb 0 .nil (!(f_within c.post 0 255)) (fun ac w β h26 S => ?_) (fun ac w β h26 S => ?_)
  ·have h27 := not_t h26
   have g28 := within_f h27
   refine S.go 3 .nil fun ac w β S => S.B1 (α := Int) (x := 2) (p := ()) (F := NoB) (show In64 2 from ⟨by decide, by decide⟩) (fun b h => False.elim h) (fun b h => False.elim h) (d := 17) fun ac w N q29 F30 S up o31 d32 => ?_
   have d33 := d32 _ (fun b _ h => False.elim h) o7.sub
   replace o7 := o7.up up
   clear up d32
   refine S.AF (α := Int) o7 o31.rn (fun _ _ h => h) (by' := 8) (d := 18) (lx := acc1.length) (ly := 1) rfl rfl (show _ ≤ 4194304 by simp only [List.length_append, List.length_cons, List.length_nil]; omega) fun ac w N q34 F35 S up o36 d37 => ?_
   have d38 := d37 _ (Disj.symm d33) o31.sub
   replace o31 := o31.upF (Disj.symm d33) up
   clear up d37
   exact S.gn 2 .nil fun ac w β S => ⟨rfl, (acc1 ++ [2]), q34, F35, _, _, _, (by clear S; (first | (rw [if_pos (by assumption)]; simp [*]; done) | (rw [if_neg (by simp [*])]; simp [*]; done) | (rw [ha1]; (repeat' split) <;> first | rfl | (simp; done) | (exfalso; simp_all; done) | (simp_all; done)))), S.z, o36⟩
  have h39 := not_f h26
  have g40 := within_t h39
  exact S.gn 2 .nil fun ac w β S => ⟨rfl, acc1, q5, F6, _, _, _, (by clear S; (first | (rw [if_pos (by assumption)]; simp [*]; done) | (rw [if_neg (by simp [*])]; simp [*]; done) | (rw [ha1]; (repeat' split) <;> first | rfl | (simp; done) | (exfalso; simp_all; done) | (simp_all; done)))), S.z, o7⟩
 clear S o7
 rintro ac w ⟨acc2, q23, F24, u, N, β, ha2, S, o25⟩
 have hl2 : acc2.length ≤ 2 := by rw [ha2]; (repeat' split) <;> simp
 refine S.ex fun S => ?_
 refine S.gd 8 .nil (c.post != 0) (fun ac w β h41 g42 S => ?_) (fun ac w β h41 g42 S => ?_)
 ·refine S.go 6 .nil fun ac w β S => ?_
  refine cutC S (fun ac w => ∃ (acc3 : List Int) (q43 : _) (F44 : _) (u : _) (N : _) (β : _), (acc3 = (if f_within c.traps 0 3 then [] else [1]) ++ (if f_within c.post 0 255 then [] else [2]) ++ (if c.post ≠ 0 ∧ c.opn = false then [3] else [])) ∧ St Tryz.prog Tryz.f191.ntmps w0 NoB u N β ⟨[(1, .p 0 0), (3, .v (slv acc3.length q43.1))], [GT.cells c ()]⟩ ac w ∧ Ow w0 NoB u N F44 acc3 q43) ?_ ?_
  ·clear S; intro S
   refine S.gb 0 .nil (!c.opn) (fun ac w β h46 S => ?_) (fun ac w β h46 S => ?_)
   ·have h47 := not_t h46
    refine S.go 3 .nil fun ac w β S => S.B1 (α := Int) (x := 3) (p := ()) (F := NoB) (show In64 3 from ⟨by decide, by decide⟩) (fun b h => False.elim h) (fun b h => False.elim h) (d := 28) fun ac w N q48 F49 S up o50 d51 => ?_
    have d52 := d51 _ (fun b _ h => False.elim h) o25.sub
    replace o25 := o25.up up
    clear up d51
    refine S.AF (α := Int) o25 o50.rn (fun _ _ h => h) (by' := 8) (d := 29) (lx := acc2.length) (ly := 1) rfl rfl (show _ ≤ 4194304 by simp only [List.length_append, List.length_cons, List.length_nil]; omega) fun ac w N q53 F54 S up o55 d56 => ?_
    have d57 := d56 _ (Disj.symm d52) o50.sub
    replace o50 := o50.upF (Disj.symm d52) up
    clear up d56
    exact S.gn 2 .nil fun ac w β S => ⟨rfl, (acc2 ++ [3]), q53, F54, _, _, _, (by clear S; (first | (rw [if_pos (by assumption)]; simp [*]; done) | (rw [if_neg (by simp [*])]; simp [*]; done) | (rw [ha2]; (repeat' split) <;> first | rfl | (simp; done) | (exfalso; simp_all; done) | (simp_all; done)))), S.z, o55⟩
   have h58 := not_f h46
   exact S.gn 2 .nil fun ac w β S => ⟨rfl, acc2, q23, F24, _, _, _, (by clear S; (first | (rw [if_pos (by assumption)]; simp [*]; done) | (rw [if_neg (by simp [*])]; simp [*]; done) | (rw [ha2]; (repeat' split) <;> first | rfl | (simp; done) | (exfalso; simp_all; done) | (simp_all; done)))), S.z, o25⟩
  clear S o25
  rintro ac w ⟨acc3, q43, F44, u, N, β, ha3, S, o45⟩
  have hl3 : acc3.length ≤ 3 := by rw [ha3]; (repeat' split) <;> simp
  refine S.ex fun S => ?_
  refine S.gd 8 .nil (c.traps == 2) (fun ac w β h59 g60 S => ?_) (fun ac w β h59 g60 S => ?_)
  ·refine S.go 6 .nil fun ac w β S => ?_
   refine cutC S (fun ac w => ∃ (acc4 : List Int) (q61 : _) (F62 : _) (u : _) (N : _) (β : _), (acc4 = (if f_within c.traps 0 3 then [] else [1]) ++ (if f_within c.post 0 255 then [] else [2]) ++ (if c.post ≠ 0 ∧ c.opn = false then [3] else []) ++ (if c.traps = 2 ∧ c.post ≠ 0 then [4] else [])) ∧ St Tryz.prog Tryz.f191.ntmps w0 NoB u N β ⟨[(3, .v (slv acc4.length q61.1))], []⟩ ac w ∧ Ow w0 NoB u N F62 acc4 q61) ?_ ?_
   ·clear S; intro S
    refine S.lt 37 h41 fun S => ?_
    refine S.go 3 .nil fun ac w β S => S.B1 (α := Int) (x := 4) (p := ()) (F := NoB) (show In64 4 from ⟨by decide, by decide⟩) (fun b h => False.elim h) (fun b h => False.elim h) (d := 39) fun ac w N q64 F65 S up o66 d67 => ?_
    have d68 := d67 _ (fun b _ h => False.elim h) o45.sub
    replace o45 := o45.up up
    clear up d67
    refine S.AF (α := Int) o45 o66.rn (fun _ _ h => h) (by' := 8) (d := 40) (lx := acc3.length) (ly := 1) rfl rfl (show _ ≤ 4194304 by simp only [List.length_append, List.length_cons, List.length_nil]; omega) fun ac w N q69 F70 S up o71 d72 => ?_
    have d73 := d72 _ (Disj.symm d68) o66.sub
    replace o66 := o66.upF (Disj.symm d68) up
    clear up d72
    exact S.gn 2 .nil fun ac w β S => ⟨rfl, (acc3 ++ [4]), q69, F70, _, _, _, (by clear S; (first | (rw [if_pos (by assumption)]; simp [*]; done) | (rw [if_neg (by simp [*])]; simp [*]; done) | (rw [ha3]; (repeat' split) <;> first | rfl | (simp; done) | (exfalso; simp_all; done) | (simp_all; done)))), S.z, o71⟩
   clear S o45
   rintro ac w ⟨acc4, q61, F62, u, N, β, ha4, S, o63⟩
   have hl4 : acc4.length ≤ 4 := by rw [ha4]; (repeat' split) <;> simp
   refine S.ex fun S => ?_
   refine S.gr 8 .nil [slv acc4.length q61.1] fun ac w β S => ?_
   exact ret1_of S (show f_ctlFaults c = acc4 by clear S; (rw [ha4]; rfl)) rfl o63
  refine S.go 6 .nil fun ac w β S => ?_
  refine cutC S (fun ac w => ∃ (acc4 : List Int) (q74 : _) (F75 : _) (u : _) (N : _) (β : _), (acc4 = (if f_within c.traps 0 3 then [] else [1]) ++ (if f_within c.post 0 255 then [] else [2]) ++ (if c.post ≠ 0 ∧ c.opn = false then [3] else []) ++ (if c.traps = 2 ∧ c.post ≠ 0 then [4] else [])) ∧ St Tryz.prog Tryz.f191.ntmps w0 NoB u N β ⟨[(3, .v (slv acc4.length q74.1))], []⟩ ac w ∧ Ow w0 NoB u N F75 acc4 q74) ?_ ?_
  ·clear S; intro S
   exact S.gn 2 .nil fun ac w β S => ⟨rfl, acc3, q43, F44, _, _, _, (by clear S; (first | (rw [if_pos (by assumption)]; simp [*]; done) | (rw [if_neg (by simp [*])]; simp [*]; done) | (rw [ha3]; (repeat' split) <;> first | rfl | (simp; done) | (exfalso; simp_all; done) | (simp_all; done)))), S.z, o45⟩
  clear S o45
  rintro ac w ⟨acc4, q74, F75, u, N, β, ha4, S, o76⟩
  have hl4 : acc4.length ≤ 4 := by rw [ha4]; (repeat' split) <;> simp
  refine S.ex fun S => ?_
  refine S.gr 8 .nil [slv acc4.length q74.1] fun ac w β S => ?_
  exact ret1_of S (show f_ctlFaults c = acc4 by clear S; (rw [ha4]; rfl)) rfl o76
 refine S.go 6 .nil fun ac w β S => ?_
 refine cutC S (fun ac w => ∃ (acc3 : List Int) (q77 : _) (F78 : _) (u : _) (N : _) (β : _), (acc3 = (if f_within c.traps 0 3 then [] else [1]) ++ (if f_within c.post 0 255 then [] else [2]) ++ (if c.post ≠ 0 ∧ c.opn = false then [3] else [])) ∧ St Tryz.prog Tryz.f191.ntmps w0 NoB u N β ⟨[(1, .p 0 0), (3, .v (slv acc3.length q77.1))], [GT.cells c ()]⟩ ac w ∧ Ow w0 NoB u N F78 acc3 q77) ?_ ?_
 ·clear S; intro S
  exact S.gn 2 .nil fun ac w β S => ⟨rfl, acc2, q23, F24, _, _, _, (by clear S; (first | (rw [if_pos (by assumption)]; simp [*]; done) | (rw [if_neg (by simp [*])]; simp [*]; done) | (rw [ha2]; (repeat' split) <;> first | rfl | (simp; done) | (exfalso; simp_all; done) | (simp_all; done)))), S.z, o25⟩
 clear S o25
 rintro ac w ⟨acc3, q77, F78, u, N, β, ha3, S, o79⟩
 have hl3 : acc3.length ≤ 3 := by rw [ha3]; (repeat' split) <;> simp
 refine S.ex fun S => ?_
 refine S.gd 8 .nil (c.traps == 2) (fun ac w β h80 g81 S => ?_) (fun ac w β h80 g81 S => ?_)
 ·refine S.go 6 .nil fun ac w β S => ?_
  refine cutC S (fun ac w => ∃ (acc4 : List Int) (q82 : _) (F83 : _) (u : _) (N : _) (β : _), (acc4 = (if f_within c.traps 0 3 then [] else [1]) ++ (if f_within c.post 0 255 then [] else [2]) ++ (if c.post ≠ 0 ∧ c.opn = false then [3] else []) ++ (if c.traps = 2 ∧ c.post ≠ 0 then [4] else [])) ∧ St Tryz.prog Tryz.f191.ntmps w0 NoB u N β ⟨[(3, .v (slv acc4.length q82.1))], []⟩ ac w ∧ Ow w0 NoB u N F83 acc4 q82) ?_ ?_
  ·clear S; intro S
   refine S.lt 37 h41 fun S => ?_
   exact S.gn 2 .nil fun ac w β S => ⟨rfl, acc3, q77, F78, _, _, _, (by clear S; (first | (rw [if_pos (by assumption)]; simp [*]; done) | (rw [if_neg (by simp [*])]; simp [*]; done) | (rw [ha3]; (repeat' split) <;> first | rfl | (simp; done) | (exfalso; simp_all; done) | (simp_all; done)))), S.z, o79⟩
  clear S o79
  rintro ac w ⟨acc4, q82, F83, u, N, β, ha4, S, o84⟩
  have hl4 : acc4.length ≤ 4 := by rw [ha4]; (repeat' split) <;> simp
  refine S.ex fun S => ?_
  refine S.gr 8 .nil [slv acc4.length q82.1] fun ac w β S => ?_
  exact ret1_of S (show f_ctlFaults c = acc4 by clear S; (rw [ha4]; rfl)) rfl o84
 refine S.go 6 .nil fun ac w β S => ?_
 refine cutC S (fun ac w => ∃ (acc4 : List Int) (q85 : _) (F86 : _) (u : _) (N : _) (β : _), (acc4 = (if f_within c.traps 0 3 then [] else [1]) ++ (if f_within c.post 0 255 then [] else [2]) ++ (if c.post ≠ 0 ∧ c.opn = false then [3] else []) ++ (if c.traps = 2 ∧ c.post ≠ 0 then [4] else [])) ∧ St Tryz.prog Tryz.f191.ntmps w0 NoB u N β ⟨[(3, .v (slv acc4.length q85.1))], []⟩ ac w ∧ Ow w0 NoB u N F86 acc4 q85) ?_ ?_
 ·clear S; intro S
  exact S.gn 2 .nil fun ac w β S => ⟨rfl, acc3, q77, F78, _, _, _, (by clear S; (first | (rw [if_pos (by assumption)]; simp [*]; done) | (rw [if_neg (by simp [*])]; simp [*]; done) | (rw [ha3]; (repeat' split) <;> first | rfl | (simp; done) | (exfalso; simp_all; done) | (simp_all; done)))), S.z, o79⟩
 clear S o79
 rintro ac w ⟨acc4, q85, F86, u, N, β, ha4, S, o87⟩
 have hl4 : acc4.length ≤ 4 := by rw [ha4]; (repeat' split) <;> simp
 refine S.ex fun S => ?_
 refine S.gr 8 .nil [slv acc4.length q85.1] fun ac w β S => ?_
 exact ret1_of S (show f_ctlFaults c = acc4 by clear S; (rw [ha4]; rfl)) rfl o87

theorem c_spec_CtlOk (w0 : World) (c : TCtl) : Calls Tryz.prog 169 [GT.val c ()].toArray w0 (fun e w' => e = .returned (B (f_ctlOk c)) ∧ Chg NoB w0 w') := by
 refine Calls.run NoB Tryz.func169 ?_
 intro ac β S
 refine S.go 9 .nil fun ac w β S => S.K1 (r := f_ctlFaults c) (d := 4) (c_spec_CtlFaults w c) fun ac w N q1 F2 S up o3 d4 => ?_
 clear up d4
 exact S.gf 6 .nil [B (((f_ctlFaults c).length : Int) == 0)] (retB (by clear S; first | rfl | (simp [f_ctlOk, *]; done) | (simp [f_ctlOk, *]; omega) | (simp_all [f_ctlOk]; done) | (simp_all [f_ctlOk]; omega)))

theorem c_spec_PendOk (w0 : World) (p : Int) : Calls Tryz.prog 139 [I p].toArray w0 (fun e w' => e = .returned (B (f_within p 0 255)) ∧ Chg NoB w0 w') := by
 refine Calls.run NoB Tryz.func139 ?_
 intro ac β S
 exact S.gf 13 (.cons (Q_call fun w hw => c_spec_l01In w p 0 255) .nil) [B (f_within p 0 255)] (retB (by clear S; first | rfl | (simp [f_within, *]; done) | (simp [f_within, *]; omega) | (simp_all [f_within]; done) | (simp_all [f_within]; omega)))

theorem k0_spec_ExitOk {p : Prop} (h : p := by clear S; (unfold f_exitOk; (repeat' split) <;> first | rfl | (exfalso; simp_all; done) | (exfalso; omega) | (rw [Bool.eq_iff_iff]; simp [TExit.ext_iff, *]; done) | (rw [Bool.eq_iff_iff]; simp_all [TExit.ext_iff, and_assoc]; done) | (rw [Bool.eq_iff_iff]; simp_all [TExit.ext_iff, and_assoc]; omega))) : p := h
theorem c_spec_ExitOk (w0 : World) (x : TExit) : Calls Tryz.prog 170 [GT.val x ()].toArray w0 (fun e w' => e = .returned (B (f_exitOk x)) ∧ Chg NoB w0 w') := by
 refine Calls.run NoB Tryz.func170 ?_
 intro ac β S
 refine S.gd 21 .nil (x.kind == 0) (fun ac w β h1 g2 S => ?_) (fun ac w β h1 g2 S => ?_)
 ·exact S.gf 15 (.cons (Q_sem (s := Instr.build 82 [(0, I x.kind)].toArray) (v := .agg [I x.kind, I 0, B false, I 0].toArray) (fun w => by kernel_rfl)) (.cons (Eq_eq_Exit (t := 82) x (⟨x.kind, 0, false, 0⟩ : TExit) (by kernel_rfl)) .nil)) [B (decide (x = (⟨x.kind, 0, false, 0⟩ : TExit)))] (retB k0_spec_ExitOk)
 refine S.gd 6 .nil (x.kind == 4) (fun ac w β h3 g4 S => ?_) (fun ac w β h3 g4 S => ?_)
 ·exact S.gf 12 (.cons (Q_sem (s := Instr.build 82 [(0, I x.kind)].toArray) (v := .agg [I x.kind, I 0, B false, I 0].toArray) (fun w => by kernel_rfl)) (.cons (Eq_eq_Exit (t := 82) x (⟨x.kind, 0, false, 0⟩ : TExit) (by kernel_rfl)) .nil)) [B (decide (x = (⟨x.kind, 0, false, 0⟩ : TExit)))] (retB k0_spec_ExitOk)
 refine S.gd 7 .nil (x.kind == 1) (fun ac w β h5 g6 S => ?_) (fun ac w β h5 g6 S => ?_)
 ·refine S.gb 7 (.cons (Q_call fun w hw => c_spec_l01In w x.page 0 3) .nil) (f_within x.page 0 3) (fun ac w β h7 S => ?_) (fun ac w β h7 S => ?_)
  ·have g8 := within_t h7
   exact S.gf 8 .nil [B (x.n == 0)] (retB k0_spec_ExitOk)
  have g9 := within_f h7
  exact S.gf 8 .nil [B false] (retB k0_spec_ExitOk)
 refine S.gd 8 .nil (x.kind == 2) (fun ac w β h10 g11 S => ?_) (fun ac w β h10 g11 S => ?_)
 ·refine S.gb 10 (.cons (Q_call fun w hw => c_spec_l01In w x.n 0 99) .nil) (f_within x.n 0 99) (fun ac w β h12 S => ?_) (fun ac w β h12 S => ?_)
  ·have g13 := within_t h12
   refine S.gd 5 .nil (x.page == 0) (fun ac w β h14 g15 S => ?_) (fun ac w β h14 g15 S => ?_)
   ·exact S.gf 8 .nil [B (!x.wr)] (retB k0_spec_ExitOk)
   exact S.gf 8 .nil [B false] (retB k0_spec_ExitOk)
  have g16 := within_f h12
  exact S.gf 13 .nil [B false] (retB k0_spec_ExitOk)
 refine S.gd 6 .nil (x.kind == 3) (fun ac w β h17 g18 S => ?_) (fun ac w β h17 g18 S => ?_)
 ·refine S.gb 7 (.cons (Q_call fun w hw => c_spec_l01In w x.n 0 99) .nil) (f_within x.n 0 99) (fun ac w β h19 S => ?_) (fun ac w β h19 S => ?_)
  ·have g20 := within_t h19
   refine S.gd 5 .nil (x.page == 0) (fun ac w β h21 g22 S => ?_) (fun ac w β h21 g22 S => ?_)
   ·exact S.gf 8 .nil [B (!x.wr)] (retB k0_spec_ExitOk)
   exact S.gf 8 .nil [B false] (retB k0_spec_ExitOk)
  have g23 := within_f h19
  exact S.gf 13 .nil [B false] (retB k0_spec_ExitOk)
 exact S.gf 10 .nil [B false] (retB k0_spec_ExitOk)

theorem k0_spec_GuestOk {p : Prop} (h : p := by clear S; first | rfl | (simp [f_guestOk, *]; done) | (simp [f_guestOk, *]; omega) | (simp_all [f_guestOk]; done) | (simp_all [f_guestOk]; omega)) : p := h
theorem c_spec_GuestOk (w0 : World) (g : TGuest) (pg : PGuest) (hg : RD w0 g pg) : Calls Tryz.prog 138 [GT.val g pg].toArray w0 (fun e w' => e = .returned (B (f_guestOk g)) ∧ Chg NoB w0 w') := by
 refine Calls.run NoB Tryz.func138 ?_
 intro ac β S
 have hleg_prog : g.prog.length ≤ 4194304 := LRd.le (RGuest.prog (d := g) hg)
 have hleg_written : g.written.length ≤ 4194304 := LRd.le (RGuest.written (d := g) hg)
 have hleg_live : g.live.length ≤ 4194304 := LRd.le (RGuest.live (d := g) hg)
 have hleg_seen : g.seen.length ≤ 4194304 := LRd.le (RGuest.seen (d := g) hg)
 refine S.gb 12 (.cons (Q_call fun w hw => c_spec_ProgOk w g.prog pg.prog (rd_of (RGuest.prog (d := g) (S.arg hg)) hw)) .nil) (f_progOk g.prog) (fun ac w β h1 S => ?_) (fun ac w β h1 S => ?_)
 ·refine S.gb 5 (.cons (Q_call fun w hw => c_spec_l01In w g.acc 0 99) .nil) (f_within g.acc 0 99) (fun ac w β h2 S => ?_) (fun ac w β h2 S => ?_)
  ·have g3 := within_t h2
   refine S.gb 5 (.cons (Q_call fun w hw => c_spec_l01In w g.pc 0 12) .nil) (f_within g.pc 0 12) (fun ac w β h4 S => ?_) (fun ac w β h4 S => ?_)
   ·have g5 := within_t h4
    refine S.gb 5 (.cons (Q_call fun w hw => c_spec_TableOk w g.written pg.written (rd_of (RGuest.written (d := g) (S.arg hg)) hw) 4 8 (by omega) (by omega)) .nil) (f_tableOk g.written 4 8) (fun ac w β h6 S => ?_) (fun ac w β h6 S => ?_)
    ·have g7 := tableOk_t h6
     refine S.gb 5 (.cons (Q_call fun w hw => c_spec_TableOk w g.live pg.live (rd_of (RGuest.live (d := g) (S.arg hg)) hw) 4 8 (by omega) (by omega)) .nil) (f_tableOk g.live 4 8) (fun ac w β h8 S => ?_) (fun ac w β h8 S => ?_)
     ·have g9 := tableOk_t h8
      refine S.gb 5 (.cons (Q_call fun w hw => c_spec_CtlOk w g.ctl) .nil) (f_ctlOk g.ctl) (fun ac w β h10 S => ?_) (fun ac w β h10 S => ?_)
      ·refine S.gb 5 (.cons (Q_call fun w hw => c_spec_PendOk w g.pend) .nil) (f_within g.pend 0 255) (fun ac w β h11 S => ?_) (fun ac w β h11 S => ?_)
       ·have g12 := within_t h11
        refine S.gb 5 (.cons (Q_call fun w hw => c_spec_ExitOk w g.exit) .nil) (f_exitOk g.exit) (fun ac w β h13 S => ?_) (fun ac w β h13 S => ?_)
        ·exact S.gf 9 .nil [B (decide ((g.seen.length : Int) ≤ 40))] (retB k0_spec_GuestOk)
        exact S.gf 9 .nil [B false] (retB k0_spec_GuestOk)
       have g14 := within_f h11
       exact S.gf 14 .nil [B false] (retB k0_spec_GuestOk)
      exact S.gf 19 .nil [B false] (retB k0_spec_GuestOk)
     exact S.gf 24 .nil [B false] (retB k0_spec_GuestOk)
    exact S.gf 29 .nil [B false] (retB k0_spec_GuestOk)
   have g15 := within_f h4
   exact S.gf 34 .nil [B false] (retB k0_spec_GuestOk)
  have g16 := within_f h2
  exact S.gf 39 .nil [B false] (retB k0_spec_GuestOk)
 exact S.gf 44 .nil [B false] (retB k0_spec_GuestOk)

theorem c_spec_RightsOk (w0 : World) (r : Int) : Calls Tryz.prog 102 [I r].toArray w0 (fun e w' => e = .returned (B (f_within r 0 3)) ∧ Chg NoB w0 w') := by
 refine Calls.run NoB Tryz.func102 ?_
 intro ac β S
 exact S.gf 13 (.cons (Q_call fun w hw => c_spec_l01In w r 0 3) .nil) [B (f_within r 0 3)] (retB (by clear S; first | rfl | (simp [f_within, *]; done) | (simp [f_within, *]; omega) | (simp_all [f_within]; done) | (simp_all [f_within]; omega)))

theorem k0_spec_Enough {p : Prop} (h : p := by clear S; first | rfl | (simp [f_enough, *]; done) | (simp [f_enough, *]; omega) | (simp_all [f_enough]; done) | (simp_all [f_enough]; omega)) : p := h
theorem c_spec_Enough (w0 : World) (rights : Int) (need : Int) : Calls Tryz.prog 57 [I rights, I need].toArray w0 (fun e w' => e = .returned (B (f_enough rights need)) ∧ Chg NoB w0 w') := by
 refine Calls.run NoB Tryz.func57 ?_
 intro ac β S
 refine S.gb 10 (.cons (Q_call fun w hw => c_spec_RightsOk w rights) .nil) (f_within rights 0 3) (fun ac w β h1 S => ?_) (fun ac w β h1 S => ?_)
 ·have g2 := within_t h1
  refine S.gb 4 (.cons (Q_call fun w hw => c_spec_RightsOk w need) .nil) (f_within need 0 3) (fun ac w β h3 S => ?_) (fun ac w β h3 S => ?_)
  ·have g4 := within_t h3
   exact S.gf 10 (.cons (Q_land64 (x := rights) (y := need)) .nil) [B ((land64 rights need) == need)] (retB k0_spec_Enough)
  have g5 := within_f h3
  exact S.gf 10 .nil [B false] (retB k0_spec_Enough)
 have g6 := within_f h1
 exact S.gf 14 .nil [B false] (retB k0_spec_Enough)

theorem k1_spec_MonOk {p : Prop} (h : p := by clear S; (symm; rw [← Bool.not_eq_true]; intro hc; simp only [f_monOk, f_monHead, f_monTail, Bool.and_eq_true, decide_eq_true_eq, beq_iff_eq] at hc; first | omega | (simp_all; done) | (simp_all; omega) | (have hx := all_el (k := k) hc.1.2 (by omega); simp_all; done) | (have hx := rng_el (k := j) hc.2 (by omega); unfold f_pageSlot at hx; split at hx <;> first | (simp_all; done) | (simp_all; omega)))) : p := h
theorem c_spec_MonOk (w0 : World) (m : TMon) (pm : PMon) (hm : RD w0 m pm) : Calls Tryz.prog 100 [GT.val m pm].toArray w0 (fun e w' => e = .returned (B (f_monOk m)) ∧ Chg NoB w0 w') := by
 refine Calls.run NoB Tryz.func100 ?_
 intro ac β S
 have hlem_outer : m.outer.length ≤ 4194304 := LRd.le (RMon.outer (d := m) hm)
 have hlem_out : m.out.length ≤ 4194304 := LRd.le (RMon.out (d := m) hm)
 have hlem_dirty : m.dirty.length ≤ 4194304 := LRd.le (RMon.dirty (d := m) hm)
 have hlem_guests : m.guests.length ≤ 4194304 := LRd.le (RMon.guests (d := m) hm)
 have hlem_outs : m.outs.length ≤ 4194304 := LRd.le (RMon.outs (d := m) hm)
 have hlem_tables : m.tables.length ≤ 4194304 := LRd.le (RMon.tables (d := m) hm)
 refine S.gb 15 (.cons (Q_call fun w hw => c_spec_l01In w (m.guests.length : Int) 1 2) .nil) (!(f_within (m.guests.length : Int) 1 2)) (fun ac w β h1 S => ?_) (fun ac w β h1 S => ?_)
 ·have h2 := not_t h1
  have g3 := within_f h2
  exact S.gf 35 .nil [B false] (retB k1_spec_MonOk)
 have h4 := not_f h1
 have g5 := within_t h4
 refine S.gd 9 .nil ((m.tables.length : Int) != (m.guests.length : Int)) (fun ac w β h6 g7 S => ?_) (fun ac w β h6 g7 S => ?_)
 ·exact S.gf 26 .nil [B false] (retB k1_spec_MonOk)
 refine S.gb 6 (.cons (Q_call fun w hw => c_spec_TableOk w m.outer pm.outer (rd_of (RMon.outer (d := m) (S.arg hm)) hw) 8 12 (by omega) (by omega)) .nil) (!(f_tableOk m.outer 8 12)) (fun ac w β h8 S => ?_) (fun ac w β h8 S => ?_)
 ·have h9 := not_t h8
  exact S.gf 20 .nil [B false] (retB k1_spec_MonOk)
 have h10 := not_f h8
 have g11 := tableOk_t h10
 refine S.gd 6 .nil ((m.out.length : Int) != 8) (fun ac w β h12 g13 S => ?_) (fun ac w β h12 g13 S => ?_)
 ·exact S.gf 14 .nil [B false] (retB k1_spec_MonOk)
 refine S.gd 7 .nil ((m.dirty.length : Int) != 8) (fun ac w β h14 g15 S => ?_) (fun ac w β h14 g15 S => ?_)
 ·exact S.gf 7 .nil [B false] (retB k1_spec_MonOk)
 refine S.go 10 .nil fun ac w β S => ?_
 refine lp (fun mm ac w => ∃ (k : Nat)  (u : _) (N : _) (β : _), mm = m.guests.length - k ∧ (k ≤ m.guests.length) ∧ ((m.guests.take k).all f_guestOk = true) ∧ St Tryz.prog Tryz.f100.ntmps w0 NoB u N β ⟨[(1, .p 0 0), (3, .v (I (k : Int)))], [GT.cells m pm]⟩ ac w) _ ⟨0, _, _, _, rfl, o0, (by simp), S.z⟩ ?_
 clear S
 rintro f16 mm hf17 ac w ⟨k, u, N, β, rfl, hk, he, S⟩
 refine S.rs fun S => ?_
 refine S.gd 10 .nil (decide ((k : Int) < (m.guests.length : Int))) (fun ac w β h18 g19 S => ?_) (fun ac w β h18 g19 S => ?_)
 ·refine S.gb 16 (.cons (qn (RMon.guests (d := m) (S.arg hm)) k Tryz.underlying70) (.cons (qs (RMon.guests (d := m) (S.arg hm)) 84 k) (.cons (Q_call fun w hw => c_spec_GuestOk w (el m.guests k) (pm.guests.2 k) (rd_of (LRd.el (RMon.guests (d := m) (S.arg hm)) k (by omega)) hw)) .nil))) (!(f_guestOk (el m.guests k))) (fun ac w β h20 S => ?_) (fun ac w β h20 S => ?_)
  ·have h21 := not_t h20
   exact S.gf 7 .nil [B false] (retB k1_spec_MonOk)
  have h22 := not_f h20
  refine S.ge 9 (.cons (qp (k : Int) 1) .nil) f16 fun ac w β S => hf17.of (m.guests.length - (k + 1)) _ _ (by omega) ⟨k + 1, _, _, _, rfl, ?_, ?_, S.z⟩
  ·exact oz
  ·clear S; exact all_step (by omega) he (by first | assumption | (simp only [f_slotOk, f_within] at *; simp_all; done) | (simp_all; done) | (simp_all; omega))
 refine S.go 13 .nil fun ac w β S => ?_
 refine lp (fun mm ac w => ∃ (j : Nat)  (u : _) (N : _) (β : _), mm = 8 - j ∧ (j ≤ 8) ∧ ((List.range j).all (f_pageSlot m) = true) ∧ St Tryz.prog Tryz.f100.ntmps w0 NoB u N β ⟨[(1, .p 0 0), (4, .v (I (j : Int)))], [GT.cells m pm]⟩ ac w) _ ⟨0, _, _, _, rfl, o0, (by rfl), S.z⟩ ?_
 clear S
 rintro f23 mm hf24 ac w ⟨j, u, N, β, rfl, hj, hp, S⟩
 refine S.rs fun S => ?_
 have hlo : m.outer.length = 8 := by omega
 have hlu : m.out.length = 8 := by omega
 refine S.gd 7 .nil (decide ((j : Int) < 8)) (fun ac w β h25 g26 S => ?_) (fun ac w β h25 g26 S => ?_)
 ·refine S.gb 12 (.cons (qn (RMon.outer (d := m) (S.arg hm)) j Tryz.underlying69) (.cons (qs (RMon.outer (d := m) (S.arg hm)) 92 j) (.cons (Q_call fun w hw => c_spec_NoSlot w ) (.cons (Eq_ne_Slot (t := 92) (el m.outer j) (⟨-1, 0⟩ : TSlot) (by kernel_rfl)) .nil)))) (!decide ((el m.outer j) = (⟨-1, 0⟩ : TSlot))) (fun ac w β h27 S => ?_) (fun ac w β h27 S => ?_)
  ·refine S.lt 5 h27 fun S => ?_
   have b28 : (el m.out j).length ≤ 4194304 := LRd.le (LRd.el (RMon.out (d := m) (S.arg hm)) j (by omega))
   refine S.gd 8 (.cons (qn (RMon.out (d := m) (S.arg hm)) j Tryz.underlying22) (.cons (qx (RMon.out (d := m) (S.arg hm)) 61 j) .nil)) (decide (((el m.out j).length : Int) > 0)) (fun ac w β h29 g30 S => ?_) (fun ac w β h29 g30 S => ?_)
   ·exact S.gf 32 .nil [B false] (retB k1_spec_MonOk)
   refine S.gb 11 (.cons (qn (RMon.outer (d := m) (S.arg hm)) j Tryz.underlying69) (.cons (qc (RMon.outer (d := m) (S.arg hm)) 3 j 1 (I (el m.outer j).rights)) (.cons (Q_call fun w hw => c_spec_Enough w (el m.outer j).rights 1) .nil))) (!(f_enough (el m.outer j).rights 1)) (fun ac w β h31 S => ?_) (fun ac w β h31 S => ?_)
   ·have h32 := not_t h31
    exact S.gf 21 .nil [B false] (retB k1_spec_MonOk)
   have h33 := not_f h31
   have g34 := enough_t h33
   refine S.ge 23 (.cons (qp (j : Int) 1) .nil) f23 fun ac w β S => hf24.of (8 - (j + 1)) _ _ (by omega) ⟨j + 1, _, _, _, rfl, ?_, ?_, S.z⟩
   ·exact oz
   ·clear S; (refine rng_step hp ?_; unfold f_pageSlot; (repeat' split) <;> first | (exfalso; simp_all; done) | (simp_all; done) | (simp_all; omega))
  refine S.lt 5 h27 fun S => ?_
  refine S.gb 33 (.cons (qn (RMon.out (d := m) (S.arg hm)) j Tryz.underlying22) (.cons (qx (RMon.out (d := m) (S.arg hm)) 61 j) (.cons (Q_call fun w hw => c_spec_PageOk w (el m.out j) (pm.out.2 j) (rd_of (LRd.el (RMon.out (d := m) (S.arg hm)) j (by omega)) hw)) .nil))) (!(f_pageOk (el m.out j))) (fun ac w β h35 S => ?_) (fun ac w β h35 S => ?_)
  ·have h36 := not_t h35
   exact S.gf 7 .nil [B false] (retB k1_spec_MonOk)
  have h37 := not_f h35
  refine S.ge 9 (.cons (qp (j : Int) 1) .nil) f23 fun ac w β S => hf24.of (8 - (j + 1)) _ _ (by omega) ⟨j + 1, _, _, _, rfl, ?_, ?_, S.z⟩
  ·exact oz
  ·clear S; (refine rng_step hp ?_; unfold f_pageSlot; (repeat' split) <;> first | (exfalso; simp_all; done) | (simp_all; done) | (simp_all; omega))
 refine S.gd 13 .nil (decide ((m.outs.length : Int) ≤ 40)) (fun ac w β h38 g39 S => ?_) (fun ac w β h38 g39 S => ?_)
 ·refine S.gb 5 (.cons (Q_call fun w hw => c_spec_PendOk w m.pend) .nil) (f_within m.pend 0 255) (fun ac w β h40 S => ?_) (fun ac w β h40 S => ?_)
  ·have g41 := within_t h40
   refine S.gb 5 (.cons (Q_call fun w hw => c_spec_l01In w m.traps 0 3) .nil) (f_within m.traps 0 3) (fun ac w β h42 S => ?_) (fun ac w β h42 S => ?_)
   ·have g43 := within_t h42
    exact S.gf 8 (.cons (Q_call fun w hw => c_spec_l01In w m.owned 0 1000000000) .nil) [B (f_within m.owned 0 1000000000)] (retB (by clear S; (first | rfl | (symm; rw [← Bool.not_eq_true]; intro hc; simp only [f_monOk, f_monHead, f_monTail, Bool.and_eq_true, decide_eq_true_eq, beq_iff_eq] at hc; first | omega | (simp_all; done) | (simp_all; omega) | (have hx := all_el (k := k) hc.1.2 (by omega); simp_all; done) | (have hx := rng_el (k := j) hc.2 (by omega); unfold f_pageSlot at hx; split at hx <;> first | (simp_all; done) | (simp_all; omega))) | (symm; simp only [f_monOk, f_monHead, f_monTail, Bool.and_eq_true, decide_eq_true_eq, beq_iff_eq]; (repeat' apply And.intro); all_goals first | assumption | omega | (simp_all; done) | (simp_all; omega) | (exact all_end (by omega) he) | ((have e8 : j = 8 := (by omega)); subst e8; exact hp)) | (rw [Bool.eq_iff_iff]; simp only [f_monOk, f_monHead, f_monTail, Bool.and_eq_true, decide_eq_true_eq, beq_iff_eq]; refine ⟨fun hr => ?_, fun hc => ?_⟩ <;> ((repeat' apply And.intro); all_goals first | assumption | omega | (simp_all; done) | (simp_all; omega) | (exact all_end (by omega) he) | ((have e8 : j = 8 := (by omega)); subst e8; exact hp))))))
   have g44 := within_f h42
   exact S.gf 8 .nil [B false] (retB k1_spec_MonOk)
  have g45 := within_f h40
  exact S.gf 13 .nil [B false] (retB k1_spec_MonOk)
 exact S.gf 18 .nil [B false] (retB k1_spec_MonOk)

theorem k0_spec_HostOk {p : Prop} (h : p := by clear S; (first | (symm; rw [← Bool.not_eq_true]; intro hc; simp only [f_hostOk, f_hostHead, Bool.and_eq_true] at hc; (first | (simp_all; done) | (simp_all; omega))) | (rw [hostOk_dead (fold_dead (k := i) (by omega) stepMon_none hu (stepMon_bad (by assumption)))]) | (rw [hostOk_dead (fold_dead (k := i) (by omega) stepMon_none hu ((stepMon_ok hmok).trans (fold_dead (k := k) (by omega) stepSlot_none hu2 (stepSlot_hit (by omega) (by assumption)))))]) | (unfold f_hostOk f_hostUsed f_hostHead; rw [take_all (by omega)] at hu; rw [hu]; simp_all; done))) : p := h
theorem c_spec_HostOk (w0 : World) (h : THost) (ph : PHost) (hh : RD w0 h ph) : Calls Tryz.prog 53 [GT.val h ph].toArray w0 (fun e w' => e = .returned (B (f_hostOk h)) ∧ Chg NoB w0 w') := by
 refine Calls.run NoB Tryz.func53 ?_
 intro ac β S
 have hleh_mem : h.mem.length ≤ 4194304 := LRd.le (RHost.mem (d := h) hh)
 have hleh_mons : h.mons.length ≤ 4194304 := LRd.le (RHost.mons (d := h) hh)
 have hleh_buf : h.buf.length ≤ 4194304 := LRd.le (RHost.buf (d := h) hh)
 have hleh_iobuf : h.iobuf.length ≤ 4194304 := LRd.le (RHost.iobuf (d := h) hh)
 refine S.gb 14 (.cons (Q_call fun w hw => c_spec_MemOk w h.mem ph.mem (rd_of (RHost.mem (d := h) (S.arg hh)) hw) 12) .nil) (!(f_memOk h.mem 12)) (fun ac w β h1 S => ?_) (fun ac w β h1 S => ?_)
 ·have h2 := not_t h1
  exact S.gf 27 .nil [B false] (retB k0_spec_HostOk)
 have h3 := not_f h1
 refine S.gb 7 (.cons (Q_call fun w hw => c_spec_l01In w (h.mons.length : Int) 1 3) .nil) (!(f_within (h.mons.length : Int) 1 3)) (fun ac w β h4 S => ?_) (fun ac w β h4 S => ?_)
 ·have h5 := not_t h4
  have g6 := within_f h5
  exact S.gf 20 .nil [B false] (retB k0_spec_HostOk)
 have h7 := not_f h4
 have g8 := within_t h7
 refine S.gb 6 (.cons (Q_call fun w hw => c_spec_BufferOk w h.buf ph.buf (rd_of (RHost.buf (d := h) (S.arg hh)) hw)) .nil) (!(f_bufferOk h.buf)) (fun ac w β h9 S => ?_) (fun ac w β h9 S => ?_)
 ·have h10 := not_t h9
  exact S.gf 14 .nil [B false] (retB k0_spec_HostOk)
 have h11 := not_f h9
 refine S.gb 7 (.cons (Q_call fun w hw => c_spec_BufferOk w h.iobuf ph.iobuf (rd_of (RHost.iobuf (d := h) (S.arg hh)) hw)) .nil) (!(f_bufferOk h.iobuf)) (fun ac w β h12 S => ?_) (fun ac w β h12 S => ?_)
 ·have h13 := not_t h12
  exact S.gf 7 .nil [B false] (retB k0_spec_HostOk)
 have h14 := not_f h12
 refine S.go 5 .nil fun ac w β S => S.Mk (α := Bool) (m := 12) (by' := 1) (d := 30) (by omega) (show 12 ≤ 4194304 by omega) fun ac w N q15 F16 S up o17 d18 => ?_
 clear up d18
 refine S.go 10 .nil fun ac w β S => ?_
 refine lp (fun mm ac w => ∃ (i : Nat) (us : List Bool) (q19 : _) (F20 : _) (u : _) (N : _) (β : _), mm = h.mons.length - i ∧ (i ≤ h.mons.length) ∧ ((h.mons.take i).foldl stepMon (some (List.replicate 12 false)) = some us) ∧ (us.length = 12) ∧ St Tryz.prog Tryz.f53.ntmps w0 NoB u N β ⟨[(1, .p 0 0), (3, .v (slv 12 q19.1)), (4, .v (I (i : Int)))], [GT.cells h ph]⟩ ac w ∧ Ow w0 NoB u N F20 us q19) _ ⟨0, (List.replicate 12 (GT.dflt : Bool)), q15, F16, _, _, _, rfl, o0, (by rfl), (by rfl), S.z, o17⟩ ?_
 clear S o17
 rintro f22 mm hf23 ac w ⟨i, us, q19, F20, u, N, β, rfl, hi, hu, hul, S, o21⟩
 refine S.rs fun S => ?_
 refine S.gd 10 .nil (decide ((i : Int) < (h.mons.length : Int))) (fun ac w β h24 g25 S => ?_) (fun ac w β h24 g25 S => ?_)
 ·refine S.gb 17 (.cons (qn (RHost.mons (d := h) (S.arg hh)) i Tryz.underlying28) (.cons (qs (RHost.mons (d := h) (S.arg hh)) 73 i) (.cons (Q_call fun w hw => c_spec_MonOk w (el h.mons i) (ph.mons.2 i) (rd_of (LRd.el (RHost.mons (d := h) (S.arg hh)) i (by omega)) hw)) .nil))) (!(f_monOk (el h.mons i))) (fun ac w β h26 S => ?_) (fun ac w β h26 S => ?_)
  ·have h27 := not_t h26
   exact S.gf 7 .nil [B false] (retB k0_spec_HostOk)
  have h28 := not_f h26
  have g29 := monOk_t h28
  refine S.go 9 .nil fun ac w β S => ?_
  refine lp (fun mm ac w => ∃ (k : Nat) (us2 : List Bool) (q30 : _) (F31 : _) (u : _) (N : _) (β : _), mm = 8 - k ∧ (k ≤ 8) ∧ (((el h.mons i).outer.take k).foldl stepSlot (some us) = some us2) ∧ (us2.length = 12) ∧ St Tryz.prog Tryz.f53.ntmps w0 NoB u N β ⟨[(1, .p 0 0), (3, .v (slv 12 q30.1)), (4, .v (I (i : Int))), (5, .v (I (k : Int)))], [GT.cells h ph]⟩ ac w ∧ Ow w0 NoB u N F31 us2 q30) _ ⟨0, us, q19, F20, _, _, _, rfl, o0, (by rfl), (by omega), S.z, o21⟩ ?_
  clear S o21
  rintro f33 mm hf34 ac w ⟨k, us2, q30, F31, u, N, β, rfl, hk, hu2, hul2, S, o32⟩
  refine S.rs fun S => ?_
  have hmok : f_monOk (el h.mons i) = true := by assumption
  have hpg := page_lt hmok k
  have hol := (monOk_t hmok).1
  refine S.gd 7 .nil (decide ((k : Int) < 8)) (fun ac w β h35 g36 S => ?_) (fun ac w β h35 g36 S => ?_)
  ·refine S.gd 26 (.cons (qn (RHost.mons (d := h) (S.arg hh)) i Tryz.underlying28) (.cons (qc (RHost.mons (d := h) (S.arg hh)) 69 i 0 (slv (el h.mons i).outer.length (ph.mons.2 i).outer.1)) (.cons (qn (RMon.outer (d := (el h.mons i)) (LRd.el (RHost.mons (d := h) (S.arg hh)) i (by omega))) k Tryz.underlying69) (.cons (qc (RMon.outer (d := (el h.mons i)) (LRd.el (RHost.mons (d := h) (S.arg hh)) i (by omega))) 3 k 0 (I (el (el h.mons i).outer k).page)) .nil)))) (decide ((el (el h.mons i).outer k).page ≥ 0)) (fun ac w β h37 g38 S => ?_) (fun ac w β h37 g38 S => ?_)
   ·refine S.gb 7 (.cons (Q_idx o32.rn (l := 12) (k := (el (el h.mons i).outer k).page.toNat) (i := (el (el h.mons i).outer k).page) (by omega) (by omega) (by omega) Tryz.underlying64 (by kernel_rfl)) (.cons (qx o32.rn 4 ((el (el h.mons i).outer k).page.toNat)) .nil)) (el us2 (el (el h.mons i).outer k).page.toNat) (fun ac w β h39 S => ?_) (fun ac w β h39 S => ?_)
    ·exact S.gf 7 .nil [B false] (retB k0_spec_HostOk)
    refine S.go 9 .nil fun ac w β S => ?_
    refine S.lt 68 h37 fun S => ?_
    refine S.go 5 (.cons (Q_idx o32.rn (l := 12) (k := (el (el h.mons i).outer k).page.toNat) (i := (el (el h.mons i).outer k).page) (by omega) (by omega) (by omega) Tryz.underlying64 (by kernel_rfl)) .nil) fun ac w β S => S.SF (α := Bool) o32 (t := 4) (k := (el (el h.mons i).outer k).page.toNat) (j := 0) (off := q30.1.off + (el (el h.mons i).outer k).page.toNat * 1) (v := B true) (y := true) (q := ()) (fun _ _ _ => ⟨NoB, trivial, fun _ h => False.elim h⟩) fun w N F41 q42 S up o40 d43 s44 n45 => ?_
    clear up d43 o32 n45
    have l46 : (us2.set (el (el h.mons i).outer k).page.toNat true).length = us2.length := List.length_set
    refine S.ge 8 (.cons (qp (k : Int) 1) .nil) f33 fun ac w β S => hf34.of (8 - (k + 1)) _ _ (by omega) ⟨k + 1, (us2.set (el (el h.mons i).outer k).page.toNat true), (q30.1, q42), F41, _, _, _, rfl, ?_, ?_, ?_, S.z, o40⟩
    ·exact oz
    ·clear S; (rw [fold_step (by omega), hu2]; first | exact stepSlot_neg (by omega) | exact stepSlot_new (by omega) (by assumption) | exact stepSlot_new (by omega) (by simp_all))
    ·clear S; (first | omega | (simp; omega))
   refine S.go 16 .nil fun ac w β S => ?_
   refine S.lt 68 h37 fun S => ?_
   refine S.ge 9 (.cons (qp (k : Int) 1) .nil) f33 fun ac w β S => hf34.of (8 - (k + 1)) _ _ (by omega) ⟨k + 1, us2, q30, F31, _, _, _, rfl, ?_, ?_, ?_, S.z, o32⟩
   ·exact oz
   ·clear S; (rw [fold_step (by omega), hu2]; first | exact stepSlot_neg (by omega) | exact stepSlot_new (by omega) (by assumption) | exact stepSlot_new (by omega) (by simp_all))
   ·clear S; (first | omega | (simp; omega))
  refine S.ge 12 (.cons (qp (i : Int) 1) .nil) f22 fun ac w β S => hf23.of (h.mons.length - (i + 1)) _ _ (by omega) ⟨i + 1, us2, q30, F31, _, _, _, rfl, ?_, ?_, ?_, S.z, o32⟩
  ·exact oz
  ·clear S; (rw [fold_step (by omega), hu, stepMon_ok (by assumption)]; rw [take_all (by omega)] at hu2; exact hu2)
  ·clear S; omega
 exact S.gf 12 .nil [B true] (retB k0_spec_HostOk)

theorem k0_spec_SlotAt {p : Prop} (h : p := by clear S; (first | (unfold f_slotAt; rw [if_pos (by omega)]) | (unfold f_slotAt; rw [if_neg (by omega)]))) : p := h
theorem c_spec_SlotAt (w0 : World) (t : List TSlot) (pt : LP TSlot) (ht : RD w0 t pt) (page : Int) : Calls Tryz.prog 101 [slv t.length pt.1, I page].toArray w0 (fun e w' => e = .returned (GT.val (f_slotAt t page) ()) ∧ Chg NoB w0 w') := by
 refine Calls.run NoB Tryz.func101 ?_
 intro ac β S
 have hlet : t.length ≤ 4194304 := LRd.le ht
 refine S.gb 16 (.cons (qm (t.length : Int) 1) (.cons (Q_call fun w hw => c_spec_l01In w page 0 ((t.length : Int) - 1)) .nil)) (!(f_within page 0 ((t.length : Int) - 1))) (fun ac w β h1 S => ?_) (fun ac w β h1 S => ?_)
 ·have h2 := not_t h1
  have g3 := within_f h2
  exact S.gf 8 (.cons (Q_call fun w hw => c_spec_NoSlot w ) .nil) [GT.val (⟨-1, 0⟩ : TSlot) ()] (retV (p := ()) k0_spec_SlotAt)
 have h4 := not_f h1
 have g5 := within_t h4
 exact S.gf 13 (.cons (qt (S.arg ht) page Tryz.underlying69) (.cons (qs (S.arg ht) 92 page.toNat) .nil)) [GT.val (el t page.toNat) ()] (retV (p := ()) k0_spec_SlotAt)

theorem k0_spec_WalkInner {p : Prop} (h : p := by clear S; (unfold f_walkInner; (repeat' split) <;> first | rfl | (exfalso; omega) | (exfalso; simp_all; done) | (exfalso; simp_all; omega))) : p := h
theorem c_spec_WalkInner (w0 : World) (inner : List TSlot) (pinner : LP TSlot) (hinner : RD w0 inner pinner) (page : Int) (need : Int) : Calls Tryz.prog 54 [slv inner.length pinner.1, I page, I need].toArray w0 (fun e w' => e = .returned (.tuple #[I (f_walkInner inner page need).1, B (f_walkInner inner page need).2]) ∧ Chg NoB w0 w') := by
 refine Calls.run NoB Tryz.func54 ?_
 intro ac β S
 have hleinner : inner.length ≤ 4194304 := LRd.le hinner
 refine S.gd 22 (.cons (Q_call fun w hw => c_spec_SlotAt w inner pinner (rd_of (S.arg hinner) hw) page) .nil) ((f_slotAt inner page).page == (-1)) (fun ac w β h1 g2 S => ?_) (fun ac w β h1 g2 S => ?_)
 ·exact S.gf 20 .nil [I (-1), B false] (ret2v (eqI (show (-1) = (f_walkInner inner page need).1 from k0_spec_WalkInner)) (eqB (show false = (f_walkInner inner page need).2 from k0_spec_WalkInner)))
 refine S.gb 7 (.cons (Q_call fun w hw => c_spec_Enough w (f_slotAt inner page).rights need) .nil) (!(f_enough (f_slotAt inner page).rights need)) (fun ac w β h3 S => ?_) (fun ac w β h3 S => ?_)
 ·have h4 := not_t h3
  exact S.gf 13 .nil [I (-1), B false] (ret2v (eqI (show (-1) = (f_walkInner inner page need).1 from k0_spec_WalkInner)) (eqB (show false = (f_walkInner inner page need).2 from k0_spec_WalkInner)))
 have h5 := not_f h3
 have g6 := enough_t h5
 refine S.gd 5 .nil (need == 0) (fun ac w β h7 g8 S => ?_) (fun ac w β h7 g8 S => ?_)
 ·exact S.gf 8 .nil [I (-1), B false] (ret2v (eqI (show (-1) = (f_walkInner inner page need).1 from k0_spec_WalkInner)) (eqB (show false = (f_walkInner inner page need).2 from k0_spec_WalkInner)))
 exact S.gf 12 .nil [I (f_slotAt inner page).page, B true] (ret2v (eqI (show (f_slotAt inner page).page = (f_walkInner inner page need).1 from k0_spec_WalkInner)) (eqB (show true = (f_walkInner inner page need).2 from k0_spec_WalkInner)))

theorem k0_spec_TagOf {p : Prop} (h : p := by clear S; (first | (unfold f_tagOf; rw [if_pos (by omega)]; done) | (unfold f_tagOf; rw [if_pos (by omega)]; first | rfl | (simp; done)) | (unfold f_tagOf; rw [if_neg (by omega)]; done) | (unfold f_tagOf; rw [if_neg (by omega)]; first | rfl | (simp; done)))) : p := h
theorem c_spec_TagOf (w0 : World) (m : Int) (g : Int) : Calls Tryz.prog 55 [I m, I g].toArray w0 (fun e w' => e = .returned (I (f_tagOf m g)) ∧ Chg NoB w0 w') := by
 refine Calls.run NoB Tryz.func55 ?_
 intro ac β S
 refine S.gb 12 (.cons (Q_call fun w hw => c_spec_l01In w m 0 2) .nil) (!(f_within m 0 2)) (fun ac w β h1 S => ?_) (fun ac w β h1 S => ?_)
 ·have h2 := not_t h1
  have g3 := within_f h2
  exact S.gf 13 .nil [I 0] (retI k0_spec_TagOf)
 have h4 := not_f h1
 have g5 := within_t h4
 refine S.gb 6 (.cons (Q_call fun w hw => c_spec_l01In w g 0 1) .nil) (!(f_within g 0 1)) (fun ac w β h6 S => ?_) (fun ac w β h6 S => ?_)
 ·have h7 := not_t h6
  have g8 := within_f h7
  exact S.gf 7 .nil [I 0] (retI k0_spec_TagOf)
 have h9 := not_f h6
 have g10 := within_t h9
 exact S.gf 14 (.cons (qp 1 g) (.cons (Q_mul (x := m) (y := 2) ⟨by omega, by omega⟩) (.cons (qp (1 + g) (m * 2)) .nil))) [I ((1 + g) + (m * 2))] (retI k0_spec_TagOf)

theorem k0_spec_FindEntry {p : Prop} (h : p := by clear S; (first | (rw [find_end (by omega) hf]; done) | (rw [find_hit (k := k) (by omega) hf (samePg_t (by assumption) (by assumption))]; done))) : p := h
theorem c_spec_FindEntry (w0 : World) (b : List TEntry) (pb : LP TEntry) (hb : RD w0 b pb) (tag : Int) (page : Int) : Calls Tryz.prog 56 [slv b.length pb.1, I tag, I page].toArray w0 (fun e w' => e = .returned (.tuple #[GT.val (f_findEntry b tag page).1 (), B (f_findEntry b tag page).2]) ∧ Chg NoB w0 w') := by
 refine Calls.run NoB Tryz.func56 ?_
 intro ac β S
 have hleb : b.length ≤ 4194304 := LRd.le hb
 refine S.go 13 .nil fun ac w β S => ?_
 refine lp (fun mm ac w => ∃ (k : Nat)  (u : _) (N : _) (β : _), mm = b.length - k ∧ (k ≤ b.length) ∧ ((b.take k).find? (fun e => f_samePg e tag page) = none) ∧ St Tryz.prog Tryz.f56.ntmps w0 NoB u N β ⟨[(0, .v (slv b.length pb.1)), (1, .v (I tag)), (2, .v (I page)), (6, .p 0 0), (8, .v (I (k : Int)))], [Zc TEntry]⟩ ac w) _ ⟨0, _, _, _, rfl, o0, (by rfl), S.z⟩ ?_
 clear S
 rintro f1 mm hf2 ac w ⟨k, u, N, β, rfl, hk, hf, S⟩
 refine S.rs fun S => ?_
 refine S.gd 9 .nil (decide ((k : Int) < (b.length : Int))) (fun ac w β h3 g4 S => ?_) (fun ac w β h3 g4 S => ?_)
 ·refine S.gd 15 (.cons (qn (S.arg hb) k Tryz.underlying29) (.cons (qc (S.arg hb) 3 k 0 (I (el b k).tag)) .nil)) ((el b k).tag == tag) (fun ac w β h5 g6 S => ?_) (fun ac w β h5 g6 S => ?_)
  ·refine S.gd 10 (.cons (qn (S.arg hb) k Tryz.underlying29) (.cons (qc (S.arg hb) 3 k 1 (I (el b k).page)) .nil)) ((el b k).page == page) (fun ac w β h7 g8 S => ?_) (fun ac w β h7 g8 S => ?_)
   ·exact S.gf 12 (.cons (qn (S.arg hb) k Tryz.underlying29) (.cons (qs (S.arg hb) 87 k) .nil)) [GT.val (el b k) (), B true] (ret2v (congrArg (fun z => GT.val z ()) (show (el b k) = (f_findEntry b tag page).1 from k0_spec_FindEntry)) (eqB (show true = (f_findEntry b tag page).2 from k0_spec_FindEntry)))
   refine S.ge 9 (.cons (qp (k : Int) 1) .nil) f1 fun ac w β S => hf2.of (b.length - (k + 1)) _ _ (by omega) ⟨k + 1, _, _, _, rfl, ?_, ?_, S.z⟩
   ·exact oz
   ·clear S; (first | exact find_step (by omega) hf (samePg_f1 (by assumption)) | exact find_step (by omega) hf (samePg_f2 (by assumption)))
  refine S.ge 19 (.cons (qp (k : Int) 1) .nil) f1 fun ac w β S => hf2.of (b.length - (k + 1)) _ _ (by omega) ⟨k + 1, _, _, _, rfl, ?_, ?_, S.z⟩
  ·exact oz
  ·clear S; (first | exact find_step (by omega) hf (samePg_f1 (by assumption)) | exact find_step (by omega) hf (samePg_f2 (by assumption)))
 exact S.gf 14 (.cons (Q_sem (s := Instr.build 87 [].toArray) (v := .agg [I 0, I 0, I 0, I 0].toArray) (fun w => by kernel_rfl)) .nil) [GT.val (⟨0, 0, 0, 0⟩ : TEntry) (), B false] (ret2v (congrArg (fun z => GT.val z ()) (show (⟨0, 0, 0, 0⟩ : TEntry) = (f_findEntry b tag page).1 from k0_spec_FindEntry)) (eqB (show false = (f_findEntry b tag page).2 from k0_spec_FindEntry)))

theorem c_spec_l07Has (w0 : World) (k : TKept) (pk : PKept) (hk : RD w0 k pk) (page : Int) : Calls Tryz.prog 103 [GT.val k pk, I page].toArray w0 (fun e w' => e = .returned (B (decide ((0 ≤ page ∧ page < k.known.length) ∧ page < k.slots.length))) ∧ Chg NoB w0 w') := by
 refine Calls.run NoB Tryz.func103 ?_
 intro ac β S
 have hlek_known : k.known.length ≤ 4194304 := LRd.le (RKept.known (d := k) hk)
 have hlek_slots : k.slots.length ≤ 4194304 := LRd.le (RKept.slots (d := k) hk)
 refine S.gb 15 (.cons (qm (k.known.length : Int) 1) (.cons (Q_call fun w hw => c_spec_l01In w page 0 ((k.known.length : Int) - 1)) .nil)) (f_within page 0 ((k.known.length : Int) - 1)) (fun ac w β h1 S => ?_) (fun ac w β h1 S => ?_)
 ·have g2 := within_t h1
  exact S.gf 10 .nil [B (decide (page < (k.slots.length : Int)))] (retB (by clear S; (rw [Bool.eq_iff_iff]; simp; omega)))
 have g3 := within_f h1
 exact S.gf 10 .nil [B false] (retB (by clear S; (rw [Bool.eq_iff_iff]; simp; omega)))

theorem k0_spec_Ask {p : Prop} (h : p := by clear S; (unfold f_ask; (repeat' split) <;> first | rfl | (exfalso; omega) | (exfalso; simp_all; done) | (exfalso; simp_all; omega) | (simp_all; done))) : p := h
theorem c_spec_Ask (w0 : World) (k : TKept) (pk : PKept) (hk : RD w0 k pk) (page : Int) : Calls Tryz.prog 58 [GT.val k pk, I page].toArray w0 (fun e w' => e = .returned (.tuple #[GT.val (f_ask k page).1 (), B (f_ask k page).2]) ∧ Chg NoB w0 w') := by
 refine Calls.run NoB Tryz.func58 ?_
 intro ac β S
 have hlek_known : k.known.length ≤ 4194304 := LRd.le (RKept.known (d := k) hk)
 have hlek_slots : k.slots.length ≤ 4194304 := LRd.le (RKept.slots (d := k) hk)
 refine S.gb 15 (.cons (Q_call fun w hw => c_spec_l07Has w k pk (rd_of (S.arg hk) hw) page) .nil) (!(decide ((0 ≤ page ∧ page < k.known.length) ∧ page < k.slots.length))) (fun ac w β h1 S => ?_) (fun ac w β h1 S => ?_)
 ·have h2 := not_t h1
  have g3 := of_decide_eq_false h2
  exact S.gf 18 (.cons (Q_call fun w hw => c_spec_NoSlot w ) .nil) [GT.val (⟨-1, 0⟩ : TSlot) (), B false] (ret2v (congrArg (fun z => GT.val z ()) (show (⟨-1, 0⟩ : TSlot) = (f_ask k page).1 from k0_spec_Ask)) (eqB (show false = (f_ask k page).2 from k0_spec_Ask)))
 have h4 := not_f h1
 have g5 := of_decide_eq_true h4
 refine S.gb 9 (.cons (qt (RKept.known (d := k) (S.arg hk)) page Tryz.underlying64) (.cons (qx (RKept.known (d := k) (S.arg hk)) 4 page.toNat) .nil)) (!(el k.known page.toNat)) (fun ac w β h6 S => ?_) (fun ac w β h6 S => ?_)
 ·have h7 := not_t h6
  exact S.gf 9 (.cons (Q_call fun w hw => c_spec_NoSlot w ) .nil) [GT.val (⟨-1, 0⟩ : TSlot) (), B false] (ret2v (congrArg (fun z => GT.val z ()) (show (⟨-1, 0⟩ : TSlot) = (f_ask k page).1 from k0_spec_Ask)) (eqB (show false = (f_ask k page).2 from k0_spec_Ask)))
 have h8 := not_f h6
 exact S.gf 15 (.cons (qt (RKept.slots (d := k) (S.arg hk)) page Tryz.underlying69) (.cons (qs (RKept.slots (d := k) (S.arg hk)) 92 page.toNat) .nil)) [GT.val (el k.slots page.toNat) (), B true] (ret2v (congrArg (fun z => GT.val z ()) (show (el k.slots page.toNat) = (f_ask k page).1 from k0_spec_Ask)) (eqB (show true = (f_ask k page).2 from k0_spec_Ask)))

theorem k0_spec_OwnerOfPage {p : Prop} (h : p := by clear S; (first | rw [ownerOfPage_neg (by omega)] | rw [ownerOfPage_end (he.trans (own0_end (by omega)))] | rw [ownerOfPage_pos (by omega), he, own0_hit (by omega) (he2.trans (own1_hit (by omega) (by assumption)))])) : p := h
theorem c_spec_OwnerOfPage (w0 : World) (h : THost) (ph : PHost) (hh : RD w0 h ph) (page : Int) : Calls Tryz.prog 141 [GT.val h ph, I page].toArray w0 (fun e w' => e = .returned (.tuple #[I (f_ownerOfPage h page).1, I (f_ownerOfPage h page).2]) ∧ Chg NoB w0 w') := by
 refine Calls.run NoB Tryz.func141 ?_
 intro ac β S
 have hleh_mem : h.mem.length ≤ 4194304 := LRd.le (RHost.mem (d := h) hh)
 have hleh_mons : h.mons.length ≤ 4194304 := LRd.le (RHost.mons (d := h) hh)
 have hleh_buf : h.buf.length ≤ 4194304 := LRd.le (RHost.buf (d := h) hh)
 have hleh_iobuf : h.iobuf.length ≤ 4194304 := LRd.le (RHost.iobuf (d := h) hh)
 refine S.go 14 .nil fun ac w β S => ?_
 refine lp (fun mm ac w => ∃ (i : Nat)  (u : _) (N : _) (β : _), mm = h.mons.length - i ∧ (i ≤ h.mons.length) ∧ (f_own0 h.mons page 0 = f_own0 h.mons page i) ∧ St Tryz.prog Tryz.f141.ntmps w0 NoB u N β ⟨[(1, .v (I page)), (2, .p 0 0), (6, .v (I (i : Int)))], [GT.cells h ph]⟩ ac w) _ ⟨0, _, _, _, rfl, o0, o0, S.z⟩ ?_
 clear S
 rintro f1 mm hf2 ac w ⟨i, u, N, β, rfl, hi, he, S⟩
 refine S.rs fun S => ?_
 refine S.gd 9 .nil (decide ((i : Int) < (h.mons.length : Int))) (fun ac w β h3 g4 S => ?_) (fun ac w β h3 g4 S => ?_)
 ·refine S.gd 5 .nil (decide (page ≥ 0)) (fun ac w β h5 g6 S => ?_) (fun ac w β h5 g6 S => ?_)
  ·refine S.go 11 .nil fun ac w β S => ?_
   refine lp (fun mm ac w => ∃ (k : Nat)  (u : _) (N : _) (β : _), mm = (el h.mons i).outer.length - k ∧ (k ≤ (el h.mons i).outer.length) ∧ (f_own1 (el h.mons i).outer page 0 = f_own1 (el h.mons i).outer page k) ∧ St Tryz.prog Tryz.f141.ntmps w0 NoB u N β ⟨[(1, .v (I page)), (2, .p 0 0), (6, .v (I (i : Int))), (7, .v (I (k : Int)))], [GT.cells h ph]⟩ ac w) _ ⟨0, _, _, _, rfl, o0, o0, S.z⟩ ?_
   clear S
   rintro f7 mm hf8 ac w ⟨k, u, N, β, rfl, hk, he2, S⟩
   refine S.rs fun S => ?_
   have hl2 : (el h.mons i).outer.length ≤ 4194304 := LRd.le (RMon.outer (d := el h.mons i) (LRd.el (RHost.mons (d := h) hh) i (by omega)))
   have b9 : (el h.mons i).outer.length ≤ 4194304 := LRd.le (RMon.outer (d := (el h.mons i)) (LRd.el (RHost.mons (d := h) (S.arg hh)) i (by omega)))
   refine S.gd 14 (.cons (qn (RHost.mons (d := h) (S.arg hh)) i Tryz.underlying28) (.cons (qc (RHost.mons (d := h) (S.arg hh)) 69 i 0 (slv (el h.mons i).outer.length (ph.mons.2 i).outer.1)) .nil)) (decide ((k : Int) < ((el h.mons i).outer.length : Int))) (fun ac w β h10 g11 S => ?_) (fun ac w β h10 g11 S => ?_)
   ·refine S.gd 21 (.cons (qn (RHost.mons (d := h) (S.arg hh)) i Tryz.underlying28) (.cons (qc (RHost.mons (d := h) (S.arg hh)) 69 i 0 (slv (el h.mons i).outer.length (ph.mons.2 i).outer.1)) (.cons (qn (RMon.outer (d := (el h.mons i)) (LRd.el (RHost.mons (d := h) (S.arg hh)) i (by omega))) k Tryz.underlying69) (.cons (qc (RMon.outer (d := (el h.mons i)) (LRd.el (RHost.mons (d := h) (S.arg hh)) i (by omega))) 3 k 0 (I (el (el h.mons i).outer k).page)) .nil)))) ((el (el h.mons i).outer k).page == page) (fun ac w β h12 g13 S => ?_) (fun ac w β h12 g13 S => ?_)
    ·exact S.gf 10 .nil [I (i : Int), I (k : Int)] (ret2v (eqI (show (i : Int) = (f_ownerOfPage h page).1 from k0_spec_OwnerOfPage)) (eqI (show (k : Int) = (f_ownerOfPage h page).2 from k0_spec_OwnerOfPage)))
    refine S.ge 9 (.cons (qp (k : Int) 1) .nil) f7 fun ac w β S => hf8.of ((el h.mons i).outer.length - (k + 1)) _ _ (by omega) ⟨k + 1, _, _, _, rfl, ?_, ?_, S.z⟩
    ·exact oz
    ·clear S; exact he2.trans (own1_next (by omega) (by assumption))
   refine S.ge 12 (.cons (qp (i : Int) 1) .nil) f1 fun ac w β S => hf2.of (h.mons.length - (i + 1)) _ _ (by omega) ⟨i + 1, _, _, _, rfl, ?_, ?_, S.z⟩
   ·exact oz
   ·clear S; exact he.trans (own0_next (by omega) (he2.trans (own1_end (by omega))))
  exact S.gf 13 .nil [I (-1), I (-1)] (ret2v (eqI (show (-1) = (f_ownerOfPage h page).1 from k0_spec_OwnerOfPage)) (eqI (show (-1) = (f_ownerOfPage h page).2 from k0_spec_OwnerOfPage)))
 exact S.gf 18 .nil [I (-1), I (-1)] (ret2v (eqI (show (-1) = (f_ownerOfPage h page).1 from k0_spec_OwnerOfPage)) (eqI (show (-1) = (f_ownerOfPage h page).2 from k0_spec_OwnerOfPage)))

theorem c_spec_FreeIn (w0 : World) (h : THost) (ph : PHost) (hh : RD w0 h ph) : Calls Tryz.prog 140 [GT.val h ph].toArray w0 (Ret1 NoB w0 (f_freeIn h : List Int)) := by
 refine Calls.run NoB Tryz.func140 ?_
 intro ac β S
 have hleh_mem : h.mem.length ≤ 4194304 := LRd.le (RHost.mem (d := h) hh)
 have hleh_mons : h.mons.length ≤ 4194304 := LRd.le (RHost.mons (d := h) hh)
 have hleh_buf : h.buf.length ≤ 4194304 := LRd.le (RHost.buf (d := h) hh)
 have hleh_iobuf : h.iobuf.length ≤ 4194304 := LRd.le (RHost.iobuf (d := h) hh)
 refine S.go 8 .nil fun ac w β S => S.B0 (α := Int) (d := 7) fun ac w N q1 F2 S up o3 d4 => ?_
 clear up d4
 refine S.go 10 .nil fun ac w β S => ?_
 refine lp (fun mm ac w => ∃ (k : Nat) (acc : List Int) (q5 : _) (F6 : _) (u : _) (N : _) (β : _), mm = h.mem.length - k ∧ (k ≤ h.mem.length) ∧ (acc = f_idx k (fun p => decide ((f_ownerOfPage h p).1 < 0))) ∧ St Tryz.prog Tryz.f140.ntmps w0 NoB u N β ⟨[(1, .p 0 0), (3, .v (slv acc.length q5.1)), (4, .v (I (k : Int)))], [GT.cells h ph]⟩ ac w ∧ Ow w0 NoB u N F6 acc q5) _ ⟨0, ([] : List Int), q1, F2, _, _, _, rfl, o0, (by rfl), S.z, o3⟩ ?_
 clear S o3
 rintro f8 mm hf9 ac w ⟨k, acc, q5, F6, u, N, β, rfl, hk, hacc, S, o7⟩
 refine S.rs fun S => ?_
 have hlacc : acc.length ≤ k := by rw [hacc]; exact idx_len _ _
 refine S.gd 10 .nil (decide ((k : Int) < (h.mem.length : Int))) (fun ac w β h10 g11 S => ?_) (fun ac w β h10 g11 S => ?_)
 ·refine S.gd 23 (.cons (Q_call fun w hw => c_spec_OwnerOfPage w h ph (rd_of (S.arg hh) hw) (k : Int)) .nil) (decide ((f_ownerOfPage h (k : Int)).1 < 0)) (fun ac w β h12 g13 S => ?_) (fun ac w β h12 g13 S => ?_)
  ·refine S.go 4 .nil fun ac w β S => S.B1 (α := Int) (x := (k : Int)) (p := ()) (F := NoB) ⟨by omega, by omega⟩ (fun b h => False.elim h) (fun b h => False.elim h) (d := 25) fun ac w N q14 F15 S up o16 d17 => ?_
   have d18 := d17 _ (fun b _ h => False.elim h) o7.sub
   replace o7 := o7.up up
   clear up d17
   refine S.AF (α := Int) o7 o16.rn (fun _ _ h => h) (by' := 8) (d := 26) (lx := acc.length) (ly := 1) rfl rfl (show _ ≤ 4194304 by simp only [List.length_append, List.length_cons, List.length_nil]; omega) fun ac w N q19 F20 S up o21 d22 => ?_
   have d23 := d22 _ (Disj.symm d18) o16.sub
   replace o16 := o16.upF (Disj.symm d18) up
   clear up d22
   refine S.ge 9 (.cons (qp (k : Int) 1) .nil) f8 fun ac w β S => hf9.of (h.mem.length - (k + 1)) _ _ (by omega) ⟨k + 1, (acc ++ [(k : Int)]), q19, F20, _, _, _, rfl, ?_, ?_, S.z, o21⟩
   ·exact oz
   ·clear S; (first | (rw [idx_step_t (by first | assumption | (simp [*]; done) | (simp; omega)), hacc]; done) | (rw [idx_step_f (by first | assumption | (simp [*]; done) | (simp; omega)), hacc]; done) | (rw [idx_step_t (by simp_all <;> fail), hacc]; done) | (rw [idx_step_f (by simp_all <;> fail), hacc]; done))
  refine S.ge 9 (.cons (qp (k : Int) 1) .nil) f8 fun ac w β S => hf9.of (h.mem.length - (k + 1)) _ _ (by omega) ⟨k + 1, acc, q5, F6, _, _, _, rfl, ?_, ?_, S.z, o7⟩
  ·exact oz
  ·clear S; (first | (rw [idx_step_t (by first | assumption | (simp [*]; done) | (simp; omega)), hacc]; done) | (rw [idx_step_f (by first | assumption | (simp [*]; done) | (simp; omega)), hacc]; done) | (rw [idx_step_t (by simp_all <;> fail), hacc]; done) | (rw [idx_step_f (by simp_all <;> fail), hacc]; done))
 refine S.gr 13 .nil [slv acc.length q5.1] fun ac w β S => ?_
 exact ret1_of S (show f_freeIn h = acc by clear S; (unfold f_freeIn; rw [hacc, show h.mem.length = k by omega])) rfl o7

theorem k0_spec_PageAt {p : Prop} (h : p := by clear S; (first | (unfold f_pageAt; rw [if_pos (by omega)]; done) | (unfold f_pageAt; rw [if_pos (by omega)]; first | rfl | (simp; done)) | (unfold f_pageAt; rw [if_neg (by omega)]; done) | (unfold f_pageAt; rw [if_neg (by omega)]; first | rfl | (simp; done)))) : p := h
theorem c_spec_PageAt (w0 : World) (m : List (List Int)) (pm : LP (List Int)) (hm : RD w0 m pm) (page : Int) : Calls Tryz.prog 171 [slv m.length pm.1, I page].toArray w0 (Ret1 NoB w0 (f_pageAt m page : List Int)) := by
 refine Calls.run NoB Tryz.func171 ?_
 intro ac β S
 have hlem : m.length ≤ 4194304 := LRd.le hm
 refine S.gb 16 (.cons (qm (m.length : Int) 1) (.cons (Q_call fun w hw => c_spec_l01In w page 0 ((m.length : Int) - 1)) .nil)) (!(f_within page 0 ((m.length : Int) - 1))) (fun ac w β h1 S => ?_) (fun ac w β h1 S => ?_)
 ·have h2 := not_t h1
  have g3 := within_f h2
  refine S.go 3 .nil fun ac w β S => S.Mk (α := Int) (m := 4) (by' := 8) (d := 11) (by omega) (show 4 ≤ 4194304 by omega) fun ac w N q4 F5 S up o6 d7 => ?_
  clear up d7
  refine S.gr 4 .nil [slv 4 q4.1] fun ac w β S => ?_
  exact ret1_of S (show f_pageAt m page = (List.replicate 4 (GT.dflt : Int)) from k0_spec_PageAt) (by rw [show 4 = (List.replicate 4 (GT.dflt : Int)).length from (by simp)]; rfl) o6
 have h8 := not_f h1
 have g9 := within_t h8
 refine S.go 5 .nil fun ac w β S => S.B0 (α := Int) (d := 12) fun ac w N q10 F11 S up o12 d13 => ?_
 clear up d13
 have b18 : (el m page.toNat).length ≤ 4194304 := LRd.le (LRd.el (S.arg hm) page.toNat (by omega))
 refine S.go 4 (.cons (qt (S.arg hm) page Tryz.underlying22) (.cons (qx (S.arg hm) 61 page.toNat) .nil)) fun ac w β S => S.AF0 (α := Int) o12 (LRd.el (S.arg hm) page.toNat (by omega)) (fun _ _ h => h) (by' := 8) (d := 17) (lx := 0) (ly := (el m page.toNat).length) rfl fun ac w N q14 F15 S up o16 d17 => ?_
 clear up d17
 refine S.gr 4 .nil [slv (el m page.toNat).length q14.1] fun ac w β S => ?_
 exact ret1_of S (show f_pageAt m page = (el m page.toNat) from k0_spec_PageAt) rfl o16

theorem c_spec_UsesOf (w0 : World) (t : List TSlot) (pt : LP TSlot) (ht : RD w0 t pt) (page : Int) : Calls Tryz.prog 172 [slv t.length pt.1, I page].toArray w0 (Ret1 NoB w0 (f_usesOf t page : List Int)) := by
 refine Calls.run NoB Tryz.func172 ?_
 intro ac β S
 have hlet : t.length ≤ 4194304 := LRd.le ht
 refine S.go 7 .nil fun ac w β S => S.B0 (α := Int) (d := 7) fun ac w N q1 F2 S up o3 d4 => ?_
 clear up d4
 refine S.go 10 .nil fun ac w β S => ?_
 refine lp (fun mm ac w => ∃ (k : Nat) (acc : List Int) (q5 : _) (F6 : _) (u : _) (N : _) (β : _), mm = t.length - k ∧ (k ≤ t.length) ∧ (acc = f_idx k (fun i => decide ((el t i).page = page))) ∧ St Tryz.prog Tryz.f172.ntmps w0 NoB u N β ⟨[(0, .v (slv t.length pt.1)), (1, .v (I page)), (5, .v (slv acc.length q5.1)), (6, .v (I (k : Int)))], []⟩ ac w ∧ Ow w0 NoB u N F6 acc q5) _ ⟨0, ([] : List Int), q1, F2, _, _, _, rfl, o0, (by rfl), S.z, o3⟩ ?_
 clear S o3
 rintro f8 mm hf9 ac w ⟨k, acc, q5, F6, u, N, β, rfl, hk, hacc, S, o7⟩
 refine S.rs fun S => ?_
 have hlacc : acc.length ≤ k := by rw [hacc]; exact idx_len _ _
 refine S.gd 9 .nil (decide ((k : Int) < (t.length : Int))) (fun ac w β h10 g11 S => ?_) (fun ac w β h10 g11 S => ?_)
 ·refine S.gd 16 (.cons (qn (S.arg ht) k Tryz.underlying69) (.cons (qc (S.arg ht) 3 k 0 (I (el t k).page)) .nil)) ((el t k).page == page) (fun ac w β h12 g13 S => ?_) (fun ac w β h12 g13 S => ?_)
  ·refine S.go 4 .nil fun ac w β S => S.B1 (α := Int) (x := (k : Int)) (p := ()) (F := NoB) ⟨by omega, by omega⟩ (fun b h => False.elim h) (fun b h => False.elim h) (d := 23) fun ac w N q14 F15 S up o16 d17 => ?_
   have d18 := d17 _ (fun b _ h => False.elim h) o7.sub
   replace o7 := o7.up up
   clear up d17
   refine S.AF (α := Int) o7 o16.rn (fun _ _ h => h) (by' := 8) (d := 24) (lx := acc.length) (ly := 1) rfl rfl (show _ ≤ 4194304 by simp only [List.length_append, List.length_cons, List.length_nil]; omega) fun ac w N q19 F20 S up o21 d22 => ?_
   have d23 := d22 _ (Disj.symm d18) o16.sub
   replace o16 := o16.upF (Disj.symm d18) up
   clear up d22
   refine S.ge 9 (.cons (qp (k : Int) 1) .nil) f8 fun ac w β S => hf9.of (t.length - (k + 1)) _ _ (by omega) ⟨k + 1, (acc ++ [(k : Int)]), q19, F20, _, _, _, rfl, ?_, ?_, S.z, o21⟩
   ·exact oz
   ·clear S; (first | (rw [idx_step_t (by first | assumption | (simp [*]; done) | (simp; omega)), hacc]; done) | (rw [idx_step_f (by first | assumption | (simp [*]; done) | (simp; omega)), hacc]; done) | (rw [idx_step_t (by simp_all <;> fail), hacc]; done) | (rw [idx_step_f (by simp_all <;> fail), hacc]; done))
  refine S.ge 9 (.cons (qp (k : Int) 1) .nil) f8 fun ac w β S => hf9.of (t.length - (k + 1)) _ _ (by omega) ⟨k + 1, acc, q5, F6, _, _, _, rfl, ?_, ?_, S.z, o7⟩
  ·exact oz
  ·clear S; (first | (rw [idx_step_t (by first | assumption | (simp [*]; done) | (simp; omega)), hacc]; done) | (rw [idx_step_f (by first | assumption | (simp [*]; done) | (simp; omega)), hacc]; done) | (rw [idx_step_t (by simp_all <;> fail), hacc]; done) | (rw [idx_step_f (by simp_all <;> fail), hacc]; done))
 refine S.gr 13 .nil [slv acc.length q5.1] fun ac w β S => ?_
 exact ret1_of S (show f_usesOf t page = acc by clear S; (unfold f_usesOf; rw [hacc, show t.length = k by omega])) rfl o7

theorem k0_spec_Forget {p : Prop} (h : p := by clear S; (unfold f_forget; (repeat' split) <;> first | rfl | (exfalso; omega) | (exfalso; simp_all; done))) : p := h
theorem c_spec_Forget (w0 : World) (k : TKept) (pk : PKept) (hk : RD w0 k pk) (page : Int) : Calls Tryz.prog 173 [GT.val k pk, I page].toArray w0 (Ret1 NoB w0 (f_forget k page : TKept)) := by
 refine Calls.run NoB Tryz.func173 ?_
 intro ac β S
 have hlek_known : k.known.length ≤ 4194304 := LRd.le (RKept.known (d := k) hk)
 have hlek_slots : k.slots.length ≤ 4194304 := LRd.le (RKept.slots (d := k) hk)
 refine S.go 9 .nil fun ac w β S => S.K1 (r := k) (d := 6) (c_spec_l07Copy w k pk (S.rd (S.arg hk))) fun ac w N q1 F2 S up o3 d4 => ?_
 clear up d4
 obtain ⟨F5, F8, o6, o9, s7, s10, d11⟩ := sp_Kept o3
 refine S.gb 11 (.cons (Q_call fun w hw => c_spec_l07Has w k q1 (rd_of (show GT.rd KK _ _ k q1 from ⟨o6.rn, o9.rn⟩) hw) page) .nil) (decide ((0 ≤ page ∧ page < k.known.length) ∧ page < k.slots.length)) (fun ac w β h12 S => ?_) (fun ac w β h12 S => ?_)
 ·have g13 := of_decide_eq_true h12
  refine S.go 7 (.cons (qt o6.rn page Tryz.underlying64) .nil) fun ac w β S => S.SF (α := Bool) o6 (t := 4) (k := page.toNat) (j := 0) (off := q1.known.1.off + page.toNat * 1) (v := B false) (y := false) (q := ()) (fun _ _ _ => ⟨NoB, trivial, fun _ h => False.elim h⟩) fun w N F15 q16 S up o14 d17 s18 n19 => ?_
  have d20 := d17 _ (Disj.symm d11) (fun b _ h => False.elim h) o9.sub
  replace o9 := o9.upF (Disj.symm d11) up
  clear up d17 o6 n19
  have l21 : (k.known.set page.toNat false).length = k.known.length := List.length_set
  replace S := S.z (σ' := ⟨[(1, .v (I page)), (2, .p 0 0), (4, .p 1 0), (13, .v (pt q1.known.1.b (q1.known.1.off + page.toNat * 1)))], [[slv k.known.length q1.known.1, slv k.slots.length q1.slots.1], Zc TKept]⟩)
  replace S := S.cast (σ' := ⟨[(1, .v (I page)), (2, .p 0 0), (4, .p 1 0), (13, .v (pt q1.known.1.b (q1.known.1.off + page.toNat * 1)))], [[slv (k.known.set page.toNat false).length q1.known.1, slv k.slots.length q1.slots.1], Zc TKept]⟩) (by rw [show (k.known.set page.toNat false).length = k.known.length by omega])
  refine S.is fun S => ?_
  refine S.go 2 .nil fun ac w β S => ?_
  refine drw ?_
  refine S.draw0 (f := 6) 5 (by kernel_rfl) (by kernel_rfl) fun w S => ?_
  refine S.hq 0 [0] [] [(14, .p 0 1)] .nil fun ac S => ?_
  refine S.hq 1 [1] [] [(15, .v (slv k.slots.length q1.slots.1))] .nil fun ac S => ?_
  refine S.hq 2 [2] [] [(16, .v (I page))] .nil fun ac S => ?_
  refine WD.one (i := 3) (by kernel_rfl) ?_
  refine S.stepq (i := 3) (keep := [2, 4, 15, 16, 17]) (m := 2) (σ' := ⟨[(2, .p 0 0), (4, .p 1 0), (15, .v (slv k.slots.length q1.slots.1)), (16, .v (I page)), (17, .v (GT.val (⟨-1, 0⟩ : TSlot) ()))], [[slv (k.known.set page.toNat false).length q1.known.1, slv k.slots.length q1.slots.1], Zc TKept]⟩) (.cons (Q_call fun w hw => c_spec_NoSlot w ) .nil) (by kernel_rfl) fun ac w β S hβ => ?_
  refine WD.stayq S hβ ?_
  clear hβ
  refine S.hq 4 [4] [] [(18, .v (pt q1.slots.1.b (q1.slots.1.off + page.toNat * 2)))] (.cons (qt o9.rn page Tryz.underlying69) .nil) fun ac S => ?_
  refine WD.one (i := 5) (by kernel_rfl) ?_
  have e22 : RSlot (el k.slots page.toNat) := (LRd.el o9.rn page.toNat (by omega))
  refine id (S.sF (α := TSlot) o9 (t := 92) (k := page.toNat) (j := 0) (off := q1.slots.1.off + page.toNat * 2) (v := GT.val (⟨-1, 0⟩ : TSlot) ()) (y := (⟨-1, 0⟩ : TSlot)) (q := ()) (fun _ _ _ => ⟨NoB, (show RSlot ⟨-1, 0⟩ from ⟨⟨by decide, by decide⟩, ⟨by decide, by decide⟩⟩), fun _ h => False.elim h⟩) fun w N F24 q25 S up o23 d26 s27 n28 => ?_)
  refine WD.last (by kernel_rfl) ?_
  have d29 := d26 _ (Disj.symm d20) (fun b _ h => False.elim h) o14.sub
  replace o14 := o14.upF (Disj.symm d20) up
  clear up d26 o9 n28
  have l30 : (k.slots.set page.toNat (⟨-1, 0⟩ : TSlot)).length = k.slots.length := List.length_set
  replace S := S.z (σ' := ⟨[(2, .p 0 0), (4, .p 1 0), (17, .v (GT.val (⟨-1, 0⟩ : TSlot) ())), (18, .v (pt q1.slots.1.b (q1.slots.1.off + page.toNat * 2)))], [[slv (k.known.set page.toNat false).length q1.known.1, slv k.slots.length q1.slots.1], Zc TKept]⟩)
  replace S := S.cast (σ' := ⟨[(2, .p 0 0), (4, .p 1 0), (17, .v (GT.val (⟨-1, 0⟩ : TSlot) ())), (18, .v (pt q1.slots.1.b (q1.slots.1.off + page.toNat * 2)))], [[slv (k.known.set page.toNat false).length q1.known.1, slv (k.slots.set page.toNat (⟨-1, 0⟩ : TSlot)).length q1.slots.1], Zc TKept]⟩) (by rw [show (k.slots.set page.toNat (⟨-1, 0⟩ : TSlot)).length = k.slots.length by omega])
  refine WD.done (by kernel_rfl) ?_ _
  refine S.ex fun S => ?_
  refine S.gr 8 .nil [GT.val (⟨(k.known.set page.toNat false), (k.slots.set page.toNat (⟨-1, 0⟩ : TSlot))⟩ : TKept) (⟨(q1.known.1, q16), (q1.slots.1, q25)⟩ : PKept)] fun ac w β S => ?_
  have o31 := ow_Kept (x := (⟨(k.known.set page.toNat false), (k.slots.set page.toNat (⟨-1, 0⟩ : TSlot))⟩ : TKept)) (p := (⟨(q1.known.1, q16), (q1.slots.1, q25)⟩ : PKept)) o14 o23 d29 
  exact ret1_of S (show f_forget k page = (⟨(k.known.set page.toNat false), (k.slots.set page.toNat (⟨-1, 0⟩ : TSlot))⟩ : TKept) from k0_spec_Forget) rfl o31
 have g32 := of_decide_eq_false h12
 refine S.gr 10 .nil [GT.val k q1] fun ac w β S => ?_
 have o33 := ow_Kept (x := k) (p := q1) o6 o9 d11 
 exact ret1_of S (show f_forget k page = k from k0_spec_Forget) rfl o33

theorem c_spec_ForgetUses (w0 : World) (k : TKept) (pk : PKept) (hk : RD w0 k pk) (inner : List TSlot) (pinner : LP TSlot) (hinner : RD w0 inner pinner) (page : Int) : Calls Tryz.prog 144 [GT.val k pk, slv inner.length pinner.1, I page].toArray w0 (Ret1 NoB w0 (f_forgetUses k inner page : TKept)) := by
 refine Calls.run NoB Tryz.func144 ?_
 intro ac β S
 have hlek_known : k.known.length ≤ 4194304 := LRd.le (RKept.known (d := k) hk)
 have hlek_slots : k.slots.length ≤ 4194304 := LRd.le (RKept.slots (d := k) hk)
 have hleinner : inner.length ≤ 4194304 := LRd.le hinner
 refine S.go 9 .nil fun ac w β S => S.K1 (r := k) (d := 10) (c_spec_l07Copy w k pk (S.rd (S.arg hk))) fun ac w N q1 F2 S up o3 d4 => ?_
 clear up d4
 obtain ⟨F5, F8, o6, o9, s7, s10, d11⟩ := sp_Kept o3
 refine S.go 7 .nil fun ac w β S => S.K1 (r := f_usesOf inner page) (d := 13) (c_spec_UsesOf w inner pinner (S.rd (S.arg hinner)) page) fun ac w N q12 F13 S up o14 d15 => ?_
 have d16 := Disj.w d15 o6.sub
 have d17 := Disj.w d15 o9.sub
 replace o6 := o6.up up
 replace o9 := o9.up up
 clear up d15
 refine S.go 10 .nil fun ac w β S => ?_
 refine lp (fun mm ac w => ∃ (i : Nat) (kn : List Bool) (sl : List TSlot) (q18 : _) (F19 : _) (q21 : _) (F22 : _) (u : _) (N : _) (β : _), mm = (f_usesOf inner page).length - i ∧ (i ≤ (f_usesOf inner page).length) ∧ ((⟨kn, sl⟩ : TKept) = ((f_usesOf inner page).take i).foldl f_forget k) ∧ St Tryz.prog Tryz.f144.ntmps w0 NoB u N β ⟨[(3, .p 0 0), (6, .p 1 0), (7, .v (slv (f_usesOf inner page).length q12.1)), (8, .v (I (i : Int)))], [[slv kn.length q18.1, slv sl.length q21.1], Zc TKept]⟩ ac w ∧ Ow w0 NoB u N F19 kn q18 ∧ Ow w0 NoB u N F22 sl q21 ∧ Ow w0 NoB u N F13 (f_usesOf inner page) q12 ∧ Disj F19 F22 ∧ Disj F19 F13 ∧ Disj F22 F13) _ ⟨0, k.known, k.slots, q1.known, F5, q1.slots, F8, _, _, _, rfl, o0, (by rfl), S.z, o6, o9, o14, d11, d16, d17⟩ ?_
 clear S o14 o6 o9
 rintro f27 mm hf28 ac w ⟨i, kn, sl, q18, F19, q21, F22, u, N, β, rfl, hi, hf, S, o20, o23, o14, d24, d25, d26⟩
 refine S.rs fun S => ?_
 have hub : (f_usesOf inner page).length ≤ inner.length := idx_len _ _
 refine S.gd 9 .nil (decide ((i : Int) < ((f_usesOf inner page).length : Int))) (fun ac w β h29 g30 S => ?_) (fun ac w β h29 g30 S => ?_)
 ·refine S.go 5 .nil fun ac w β S => ?_
  refine drw ?_
  refine S.draw0 (f := 7) 6 (by kernel_rfl) (by kernel_rfl) fun w S => ?_
  refine S.hq 0 [0] [] [(20, .v (GT.val (⟨kn, sl⟩ : TKept) (⟨q18, q21⟩ : PKept)))] .nil fun ac S => ?_
  refine S.hq 1 [1] [] [(21, .v (slv (f_usesOf inner page).length q12.1))] .nil fun ac S => ?_
  refine S.hq 2 [2] [] [(22, .v (I (i : Int)))] .nil fun ac S => ?_
  refine S.hq 3 [3] [] [(23, .v (pt q12.1.b (q12.1.off + i * 1)))] (.cons (qn o14.rn i Tryz.underlying61) .nil) fun ac S => ?_
  refine S.hq 4 [4] [] [(24, .v (I (el (f_usesOf inner page) i)))] (.cons (qx o14.rn 3 i) .nil) fun ac S => ?_
  refine WD.one (i := 5) (by kernel_rfl) ?_
  refine id (S.k1 25 (c_spec_Forget w (⟨kn, sl⟩ : TKept) (⟨q18, q21⟩ : PKept) (S.rd (show GT.rd KK _ _ (⟨kn, sl⟩ : TKept) (⟨q18, q21⟩ : PKept) from ⟨o20.rn, o23.rn⟩)) (el (f_usesOf inner page) i)) fun ac w N q31 F32 S up o33 d34 => ?_)
  refine WD.next S up (by kernel_rfl) ?_
  have d35 := Disj.w d34 o20.sub
  have d36 := Disj.w d34 o23.sub
  have d37 := Disj.w d34 o14.sub
  replace o20 := o20.up up
  replace o23 := o23.up up
  replace o14 := o14.up up
  clear up d34
  obtain ⟨F38, F41, o39, o42, s40, s43, d44⟩ := sp_Kept o33
  refine WD.one (i := 6) (by kernel_rfl) ?_
  refine S.stepq (i := 6) (keep := [3, 6, 7, 8]) (m := 2) (σ' := ⟨[(3, .p 0 0), (6, .p 1 0), (7, .v (slv (f_usesOf inner page).length q12.1)), (8, .v (I (i : Int)))], [[slv (f_forget (⟨kn, sl⟩ : TKept) (el (f_usesOf inner page) i)).known.length q31.known.1, slv (f_forget (⟨kn, sl⟩ : TKept) (el (f_usesOf inner page) i)).slots.length q31.slots.1], Zc TKept]⟩) .nil (by kernel_rfl) fun ac w β S hβ => ?_
  refine WD.last (by kernel_rfl) ?_
  clear hβ
  refine WD.done (by kernel_rfl) ?_ _
  refine S.ex fun S => ?_
  refine S.ge 7 (.cons (qp (i : Int) 1) .nil) f27 fun ac w β S => hf28.of ((f_usesOf inner page).length - (i + 1)) _ _ (by omega) ⟨i + 1, (f_forget (⟨kn, sl⟩ : TKept) (el (f_usesOf inner page) i)).known, (f_forget (⟨kn, sl⟩ : TKept) (el (f_usesOf inner page) i)).slots, q31.known, F38, q31.slots, F41, _, _, _, rfl, ?_, ?_, S.z, o39, o42, o14, d44, (Disj.part (Disj.symm d37) s40), (Disj.part (Disj.symm d37) s43)⟩
  ·exact oz
  ·clear S; (rw [fold_step (by omega), ← hf])
 refine S.gr 13 .nil [GT.val (⟨kn, sl⟩ : TKept) (⟨q18, q21⟩ : PKept)] fun ac w β S => ?_
 have o45 := ow_Kept (x := (⟨kn, sl⟩ : TKept)) (p := (⟨q18, q21⟩ : PKept)) o20 o23 d24 
 exact ret1_of S (show f_forgetUses k inner page = (⟨kn, sl⟩ : TKept) by clear S; (unfold f_forgetUses; rw [fold_end (by omega)] at hf; exact hf.symm)) rfl o45

theorem c_spec_FlushHost (w0 : World) (b : List TEntry) (pb : LP TEntry) (hb : RD w0 b pb) (host : Int) (hhost : In64 host) : Calls Tryz.prog 145 [slv b.length pb.1, I host].toArray w0 (Ret1 NoB w0 (f_flushHost b host : List TEntry)) := by
 refine Calls.run NoB Tryz.func145 ?_
 intro ac β S
 have hleb : b.length ≤ 4194304 := LRd.le hb
 have hlohost := hhost.lo; have hhihost := hhost.hi
 refine S.go 7 .nil fun ac w β S => S.B0 (α := TEntry) (d := 7) fun ac w N q1 F2 S up o3 d4 => ?_
 clear up d4
 refine S.go 10 .nil fun ac w β S => ?_
 refine lp (fun mm ac w => ∃ (k : Nat) (acc : List TEntry) (q5 : _) (F6 : _) (u : _) (N : _) (β : _), mm = b.length - k ∧ (k ≤ b.length) ∧ (acc = f_without (b.take k) (fun e => f_onHost e host)) ∧ St Tryz.prog Tryz.f145.ntmps w0 NoB u N β ⟨[(0, .v (slv b.length pb.1)), (1, .v (I host)), (5, .v (slv acc.length q5.1)), (6, .v (I (k : Int)))], []⟩ ac w ∧ Ow w0 NoB u N F6 acc q5) _ ⟨0, ([] : List TEntry), q1, F2, _, _, _, rfl, o0, (by rfl), S.z, o3⟩ ?_
 clear S o3
 rintro f8 mm hf9 ac w ⟨k, acc, q5, F6, u, N, β, rfl, hk, hacc, S, o7⟩
 refine S.rs fun S => ?_
 have hlacc : acc.length ≤ k := by rw [hacc]; exact Nat.le_trans (without_len _ _) (List.length_take_le _ _)
 refine S.gd 9 .nil (decide ((k : Int) < (b.length : Int))) (fun ac w β h10 g11 S => ?_) (fun ac w β h10 g11 S => ?_)
 ·refine S.gd 16 (.cons (qn (S.arg hb) k Tryz.underlying29) (.cons (qc (S.arg hb) 3 k 2 (I (el b k).host)) .nil)) ((el b k).host != host) (fun ac w β h12 g13 S => ?_) (fun ac w β h12 g13 S => ?_)
  ·refine S.go 7 (.cons (qn (S.arg hb) k Tryz.underlying29) (.cons (qs (S.arg hb) 87 k) .nil)) fun ac w β S => S.B1 (α := TEntry) (x := (el b k)) (p := ()) (F := NoB) (LRd.el (S.arg hb) k (by omega)) (fun b h => False.elim h) (fun b h => False.elim h) (d := 26) fun ac w N q14 F15 S up o16 d17 => ?_
   have d18 := d17 _ (fun b _ h => False.elim h) o7.sub
   replace o7 := o7.up up
   clear up d17
   refine S.AF (α := TEntry) o7 o16.rn (fun _ _ h => h) (by' := 32) (d := 27) (lx := acc.length) (ly := 1) rfl rfl (show _ ≤ 4194304 by simp only [List.length_append, List.length_cons, List.length_nil]; omega) fun ac w N q19 F20 S up o21 d22 => ?_
   have d23 := d22 _ (Disj.symm d18) o16.sub
   replace o16 := o16.upF (Disj.symm d18) up
   clear up d22
   refine S.ge 9 (.cons (qp (k : Int) 1) .nil) f8 fun ac w β S => hf9.of (b.length - (k + 1)) _ _ (by omega) ⟨k + 1, (acc ++ [(el b k)]), q19, F20, _, _, _, rfl, ?_, ?_, S.z, o21⟩
   ·exact oz
   ·clear S; (first | (rw [without_t (by omega) (onHost_t (by assumption)), hacc]; done) | (rw [without_f (by omega) (onHost_f (by assumption)), hacc]; done))
  refine S.ge 9 (.cons (qp (k : Int) 1) .nil) f8 fun ac w β S => hf9.of (b.length - (k + 1)) _ _ (by omega) ⟨k + 1, acc, q5, F6, _, _, _, rfl, ?_, ?_, S.z, o7⟩
  ·exact oz
  ·clear S; (first | (rw [without_t (by omega) (onHost_t (by assumption)), hacc]; done) | (rw [without_f (by omega) (onHost_f (by assumption)), hacc]; done))
 refine S.gr 13 .nil [slv acc.length q5.1] fun ac w β S => ?_
 exact ret1_of S (show f_flushHost b host = acc by clear S; (rw [hacc, take_all (by omega)]; rfl)) rfl o7

end Go.Proofs.YtomgmpbipaldaaaGreat
