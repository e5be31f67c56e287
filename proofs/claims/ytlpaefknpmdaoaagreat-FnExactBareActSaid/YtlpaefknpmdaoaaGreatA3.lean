/- The walks: what each function that the laws reach computes (part 1). -/
import Derived.Test.YtlpaefknpmdaoaaGreatA1
import Derived.Test.YtlpaefknpmdaoaaGreatA2
import Derived.Test.YtlpaefknpmdaoaaGreatProg
import Derived.KernelRfl
namespace Go.Proofs.YtlpaefknpmdaoaaGreat
open Go
set_option linter.unusedVariables false
set_option linter.unusedSimpArgs false
set_option maxRecDepth 100000
set_option maxHeartbeats 2000000

theorem c_laws_szIntS (w0 : World) (a : List Int) (pa : LP Int) (ha : GT.rd KR (Lt w0.heap.size) w0 a pa) (left : Int) (pre0 : -1 ≤ left) (pre1 : left ≤ 4194304) : Calls Tryz.prog 47 [slv a.length pa.1, I left].toArray w0 (fun e w' => e = .returned (I (f_sz (SZ.sz a) left)) ∧ Chg NoB w0 w') := by
 refine Calls.run NoB Tryz.func47 ?_
 intro ac β S
 have hz := szl_Int a
 have hb0 := f_sz_cs (SZ.sz a) left
 have hlea : a.length ≤ 9223372036854775807 := LRd.le ha
 refine S.gd 21 (.cons (qm left (a.length : Int)) .nil) (decide ((left - (a.length : Int)) < 0)) (fun ac w β h1 g2 S => ?_) (fun ac w β h1 g2 S => ?_)
 ·exact S.gf 7 .nil [I (-1)] (retI (by clear S; omega))
 exact S.gf 10 .nil [I (left - (a.length : Int))] (retI (by clear S; omega))

theorem k0_laws_szIntSS {p : Prop} (h : p := by clear S; (first | omega | (have hall := szsum_all (xs := a) (k := k) (by omega); omega) | (have hs1 := szsum_take (xs := a) (k := k) (by omega); have hs2 := szsum_take_le a (k + 1); omega))) : p := h
theorem c_laws_szIntSS (w0 : World) (a : List (List Int)) (pa : LP (List Int)) (ha : GT.rd KR (Lt w0.heap.size) w0 a pa) (left : Int) (pre0 : -1 ≤ left) (pre1 : left ≤ 4194304) : Calls Tryz.prog 45 [slv a.length pa.1, I left].toArray w0 (fun e w' => e = .returned (I (f_sz (SZ.sz a) left)) ∧ Chg NoB w0 w') := by
 refine Calls.run NoB Tryz.func45 ?_
 intro ac β S
 have hz := sz_list a
 have hb0 := f_sz_cs (SZ.sz a) left
 have hlea : a.length ≤ 9223372036854775807 := LRd.le ha
 refine S.gd 21 (.cons (qm left (a.length : Int)) .nil) (decide ((left - (a.length : Int)) < 0)) (fun ac w β h1 g2 S => ?_) (fun ac w β h1 g2 S => ?_)
 ·exact S.gf 7 .nil [I (-1)] (retI k0_laws_szIntSS)
 refine S.go 10 .nil fun ac w β S => ?_
 refine lp (fun mm ac w => ∃ (k : Nat) (l : Int)  (u : _) (N : _) (β : _), mm = a.length - k ∧ (k ≤ a.length) ∧ (l = left - a.length - szsum (a.take k)) ∧ (0 ≤ l) ∧ St Tryz.prog Tryz.f45.ntmps w0 NoB u N β ⟨[(0, .v (slv a.length pa.1)), (1, .v (I l)), (5, .v (I (k : Int)))], []⟩ ac w) _ ⟨0, (left - (a.length : Int)), _, _, _, rfl, o0, (by simp [szsum_nil]), o0, S.z⟩ ?_
 clear S
 rintro f3 mm hf4 ac w ⟨k, l, u, N, β, rfl, hk, hl, hl0, S⟩
 refine S.rs fun S => ?_
 have hle2 := szsum_take_le a k
 refine S.gd 9 .nil (decide ((k : Int) < (a.length : Int))) (fun ac w β h5 g6 S => ?_) (fun ac w β h5 g6 S => ?_)
 ·have b7 := f_sz_cs (SZ.sz (el a k)) l
  refine S.gd 22 (.cons (qn (S.arg ha) k Tryz.underlying39) (.cons (qx (S.arg ha) 41 k) (.cons (Q_call fun w hw => c_laws_szIntS w (el a k) (pa.2 k) (rd_of (LRd.el (S.arg ha) k (by omega)) hw) l (by omega) (by omega)) .nil))) (decide ((f_sz (SZ.sz (el a k)) l) < 0)) (fun ac w β h8 g9 S => ?_) (fun ac w β h8 g9 S => ?_)
  ·exact S.gf 7 .nil [I (-1)] (retI k0_laws_szIntSS)
  refine S.ge 9 (.cons (qp (k : Int) 1) .nil) f3 fun ac w β S => hf4.of (a.length - (k + 1)) _ _ (by omega) ⟨k + 1, (f_sz (SZ.sz (el a k)) l), _, _, _, rfl, ?_, ?_, ?_, S.z⟩
  ·exact oz
  ·clear S; (rw [szsum_take (by omega)]; omega)
  ·clear S; omega
 exact S.gf 13 .nil [I l] (retI k0_laws_szIntSS)

theorem c_laws_szInsS (w0 : World) (a : List TIns) (pa : LP TIns) (ha : GT.rd KR (Lt w0.heap.size) w0 a pa) (left : Int) (pre0 : -1 ≤ left) (pre1 : left ≤ 4194304) : Calls Tryz.prog 169 [slv a.length pa.1, I left].toArray w0 (fun e w' => e = .returned (I (f_sz (SZ.sz a) left)) ∧ Chg NoB w0 w') := by
 refine Calls.run NoB Tryz.func169 ?_
 intro ac β S
 have hz := szl_TIns a
 have hb0 := f_sz_cs (SZ.sz a) left
 have hlea : a.length ≤ 9223372036854775807 := LRd.le ha
 refine S.gd 21 (.cons (qm left (a.length : Int)) .nil) (decide ((left - (a.length : Int)) < 0)) (fun ac w β h1 g2 S => ?_) (fun ac w β h1 g2 S => ?_)
 ·exact S.gf 7 .nil [I (-1)] (retI (by clear S; omega))
 exact S.gf 10 .nil [I (left - (a.length : Int))] (retI (by clear S; omega))

theorem c_laws_szSlotS (w0 : World) (a : List TSlot) (pa : LP TSlot) (ha : GT.rd KR (Lt w0.heap.size) w0 a pa) (left : Int) (pre0 : -1 ≤ left) (pre1 : left ≤ 4194304) : Calls Tryz.prog 170 [slv a.length pa.1, I left].toArray w0 (fun e w' => e = .returned (I (f_sz (SZ.sz a) left)) ∧ Chg NoB w0 w') := by
 refine Calls.run NoB Tryz.func170 ?_
 intro ac β S
 have hz := szl_TSlot a
 have hb0 := f_sz_cs (SZ.sz a) left
 have hlea : a.length ≤ 9223372036854775807 := LRd.le ha
 refine S.gd 21 (.cons (qm left (a.length : Int)) .nil) (decide ((left - (a.length : Int)) < 0)) (fun ac w β h1 g2 S => ?_) (fun ac w β h1 g2 S => ?_)
 ·exact S.gf 7 .nil [I (-1)] (retI (by clear S; omega))
 exact S.gf 10 .nil [I (left - (a.length : Int))] (retI (by clear S; omega))

theorem c_laws_szGuest (w0 : World) (a : TGuest) (pa : PGuest) (ha : GT.rd KR (Lt w0.heap.size) w0 a pa) (left : Int) (pre0 : -1 ≤ left) (pre1 : left ≤ 4194304) : Calls Tryz.prog 106 [GT.val a pa, I left].toArray w0 (fun e w' => e = .returned (I (f_sz (SZ.sz a) left)) ∧ Chg NoB w0 w') := by
 refine Calls.run NoB Tryz.func106 ?_
 intro ac β S
 have hz := sz_Guest a
 have hb0 := f_sz_cs (SZ.sz a) left
 have b1 := f_sz_cs (SZ.sz a.prog) left
 refine S.gd 22 (.cons (Q_call fun w hw => c_laws_szInsS w a.prog pa.prog (rd_of (RGuest.prog (d := a) (S.arg ha)) hw) left (by omega) (by omega)) .nil) (decide ((f_sz (SZ.sz a.prog) left) < 0)) (fun ac w β h2 g3 S => ?_) (fun ac w β h2 g3 S => ?_)
 ·exact S.gf 7 .nil [I (-1)] (retI (by clear S; omega))
 have b4 := f_sz_cs (SZ.sz a.written) (f_sz (SZ.sz a.prog) left)
 refine S.gd 19 (.cons (Q_call fun w hw => c_laws_szSlotS w a.written pa.written (rd_of (RGuest.written (d := a) (S.arg ha)) hw) (f_sz (SZ.sz a.prog) left) (by omega) (by omega)) .nil) (decide ((f_sz (SZ.sz a.written) (f_sz (SZ.sz a.prog) left)) < 0)) (fun ac w β h5 g6 S => ?_) (fun ac w β h5 g6 S => ?_)
 ·exact S.gf 7 .nil [I (-1)] (retI (by clear S; omega))
 have b7 := f_sz_cs (SZ.sz a.live) (f_sz (SZ.sz a.written) (f_sz (SZ.sz a.prog) left))
 refine S.gd 19 (.cons (Q_call fun w hw => c_laws_szSlotS w a.live pa.live (rd_of (RGuest.live (d := a) (S.arg ha)) hw) (f_sz (SZ.sz a.written) (f_sz (SZ.sz a.prog) left)) (by omega) (by omega)) .nil) (decide ((f_sz (SZ.sz a.live) (f_sz (SZ.sz a.written) (f_sz (SZ.sz a.prog) left))) < 0)) (fun ac w β h8 g9 S => ?_) (fun ac w β h8 g9 S => ?_)
 ·exact S.gf 7 .nil [I (-1)] (retI (by clear S; omega))
 have b10 := f_sz_cs (SZ.sz a.seen) (f_sz (SZ.sz a.live) (f_sz (SZ.sz a.written) (f_sz (SZ.sz a.prog) left)))
 refine S.gd 19 (.cons (Q_call fun w hw => c_laws_szIntS w a.seen pa.seen (rd_of (RGuest.seen (d := a) (S.arg ha)) hw) (f_sz (SZ.sz a.live) (f_sz (SZ.sz a.written) (f_sz (SZ.sz a.prog) left))) (by omega) (by omega)) .nil) (decide ((f_sz (SZ.sz a.seen) (f_sz (SZ.sz a.live) (f_sz (SZ.sz a.written) (f_sz (SZ.sz a.prog) left)))) < 0)) (fun ac w β h11 g12 S => ?_) (fun ac w β h11 g12 S => ?_)
 ·exact S.gf 7 .nil [I (-1)] (retI (by clear S; omega))
 exact S.gf 10 .nil [I (f_sz (SZ.sz a.seen) (f_sz (SZ.sz a.live) (f_sz (SZ.sz a.written) (f_sz (SZ.sz a.prog) left))))] (retI (by clear S; omega))

theorem k0_laws_szGuestS {p : Prop} (h : p := by clear S; (first | omega | (have hall := szsum_all (xs := a) (k := k) (by omega); omega) | (have hs1 := szsum_take (xs := a) (k := k) (by omega); have hs2 := szsum_take_le a (k + 1); omega))) : p := h
theorem c_laws_szGuestS (w0 : World) (a : List TGuest) (pa : LP TGuest) (ha : GT.rd KR (Lt w0.heap.size) w0 a pa) (left : Int) (pre0 : -1 ≤ left) (pre1 : left ≤ 4194304) : Calls Tryz.prog 46 [slv a.length pa.1, I left].toArray w0 (fun e w' => e = .returned (I (f_sz (SZ.sz a) left)) ∧ Chg NoB w0 w') := by
 refine Calls.run NoB Tryz.func46 ?_
 intro ac β S
 have hz := sz_list a
 have hb0 := f_sz_cs (SZ.sz a) left
 have hlea : a.length ≤ 9223372036854775807 := LRd.le ha
 refine S.gd 21 (.cons (qm left (a.length : Int)) .nil) (decide ((left - (a.length : Int)) < 0)) (fun ac w β h1 g2 S => ?_) (fun ac w β h1 g2 S => ?_)
 ·exact S.gf 7 .nil [I (-1)] (retI k0_laws_szGuestS)
 refine S.go 10 .nil fun ac w β S => ?_
 refine lp (fun mm ac w => ∃ (k : Nat) (l : Int)  (u : _) (N : _) (β : _), mm = a.length - k ∧ (k ≤ a.length) ∧ (l = left - a.length - szsum (a.take k)) ∧ (0 ≤ l) ∧ St Tryz.prog Tryz.f46.ntmps w0 NoB u N β ⟨[(0, .v (slv a.length pa.1)), (1, .v (I l)), (5, .v (I (k : Int)))], []⟩ ac w) _ ⟨0, (left - (a.length : Int)), _, _, _, rfl, o0, (by simp [szsum_nil]), o0, S.z⟩ ?_
 clear S
 rintro f3 mm hf4 ac w ⟨k, l, u, N, β, rfl, hk, hl, hl0, S⟩
 refine S.rs fun S => ?_
 have hle2 := szsum_take_le a k
 refine S.gd 9 .nil (decide ((k : Int) < (a.length : Int))) (fun ac w β h5 g6 S => ?_) (fun ac w β h5 g6 S => ?_)
 ·have b7 := f_sz_cs (SZ.sz (el a k)) l
  refine S.gd 22 (.cons (qn (S.arg ha) k Tryz.underlying40) (.cons (qs (S.arg ha) 125 k) (.cons (Q_call fun w hw => c_laws_szGuest w (el a k) (pa.2 k) (rd_of (LRd.el (S.arg ha) k (by omega)) hw) l (by omega) (by omega)) .nil))) (decide ((f_sz (SZ.sz (el a k)) l) < 0)) (fun ac w β h8 g9 S => ?_) (fun ac w β h8 g9 S => ?_)
  ·exact S.gf 7 .nil [I (-1)] (retI k0_laws_szGuestS)
  refine S.ge 9 (.cons (qp (k : Int) 1) .nil) f3 fun ac w β S => hf4.of (a.length - (k + 1)) _ _ (by omega) ⟨k + 1, (f_sz (SZ.sz (el a k)) l), _, _, _, rfl, ?_, ?_, ?_, S.z⟩
  ·exact oz
  ·clear S; (rw [szsum_take (by omega)]; omega)
  ·clear S; omega
 exact S.gf 13 .nil [I l] (retI k0_laws_szGuestS)

theorem c_laws_szBare (w0 : World) (a : TBare) (pa : PBare) (ha : GT.rd KR (Lt w0.heap.size) w0 a pa) (left : Int) (pre0 : -1 ≤ left) (pre1 : left ≤ 4194304) : Calls Tryz.prog 13 [GT.val a pa, I left].toArray w0 (fun e w' => e = .returned (I (f_sz (SZ.sz a) left)) ∧ Chg NoB w0 w') := by
 refine Calls.run NoB Tryz.func13 ?_
 intro ac β S
 have hz := sz_Bare a
 have hb0 := f_sz_cs (SZ.sz a) left
 have b1 := f_sz_cs (SZ.sz a.mem) left
 refine S.gd 22 (.cons (Q_call fun w hw => c_laws_szIntSS w a.mem pa.mem (rd_of (RBare.mem (d := a) (S.arg ha)) hw) left (by omega) (by omega)) .nil) (decide ((f_sz (SZ.sz a.mem) left) < 0)) (fun ac w β h2 g3 S => ?_) (fun ac w β h2 g3 S => ?_)
 ·exact S.gf 7 .nil [I (-1)] (retI (by clear S; omega))
 have b4 := f_sz_cs (SZ.sz a.guests) (f_sz (SZ.sz a.mem) left)
 refine S.gd 19 (.cons (Q_call fun w hw => c_laws_szGuestS w a.guests pa.guests (rd_of (RBare.guests (d := a) (S.arg ha)) hw) (f_sz (SZ.sz a.mem) left) (by omega) (by omega)) .nil) (decide ((f_sz (SZ.sz a.guests) (f_sz (SZ.sz a.mem) left)) < 0)) (fun ac w β h5 g6 S => ?_) (fun ac w β h5 g6 S => ?_)
 ·exact S.gf 7 .nil [I (-1)] (retI (by clear S; omega))
 have b7 := f_sz_cs (SZ.sz a.outs) (f_sz (SZ.sz a.guests) (f_sz (SZ.sz a.mem) left))
 refine S.gd 19 (.cons (Q_call fun w hw => c_laws_szIntS w a.outs pa.outs (rd_of (RBare.outs (d := a) (S.arg ha)) hw) (f_sz (SZ.sz a.guests) (f_sz (SZ.sz a.mem) left)) (by omega) (by omega)) .nil) (decide ((f_sz (SZ.sz a.outs) (f_sz (SZ.sz a.guests) (f_sz (SZ.sz a.mem) left))) < 0)) (fun ac w β h8 g9 S => ?_) (fun ac w β h8 g9 S => ?_)
 ·exact S.gf 7 .nil [I (-1)] (retI (by clear S; omega))
 exact S.gf 10 .nil [I (f_sz (SZ.sz a.outs) (f_sz (SZ.sz a.guests) (f_sz (SZ.sz a.mem) left)))] (retI (by clear S; omega))

theorem k0_laws_szBareS {p : Prop} (h : p := by clear S; (first | omega | (have hall := szsum_all (xs := a) (k := k) (by omega); omega) | (have hs1 := szsum_take (xs := a) (k := k) (by omega); have hs2 := szsum_take_le a (k + 1); omega))) : p := h
theorem c_laws_szBareS (w0 : World) (a : List TBare) (pa : LP TBare) (ha : GT.rd KR (Lt w0.heap.size) w0 a pa) (left : Int) (pre0 : -1 ≤ left) (pre1 : left ≤ 4194304) : Calls Tryz.prog 4 [slv a.length pa.1, I left].toArray w0 (fun e w' => e = .returned (I (f_sz (SZ.sz a) left)) ∧ Chg NoB w0 w') := by
 refine Calls.run NoB Tryz.func4 ?_
 intro ac β S
 have hz := sz_list a
 have hb0 := f_sz_cs (SZ.sz a) left
 have hlea : a.length ≤ 9223372036854775807 := LRd.le ha
 refine S.gd 21 (.cons (qm left (a.length : Int)) .nil) (decide ((left - (a.length : Int)) < 0)) (fun ac w β h1 g2 S => ?_) (fun ac w β h1 g2 S => ?_)
 ·exact S.gf 7 .nil [I (-1)] (retI k0_laws_szBareS)
 refine S.go 10 .nil fun ac w β S => ?_
 refine lp (fun mm ac w => ∃ (k : Nat) (l : Int)  (u : _) (N : _) (β : _), mm = a.length - k ∧ (k ≤ a.length) ∧ (l = left - a.length - szsum (a.take k)) ∧ (0 ≤ l) ∧ St Tryz.prog Tryz.f4.ntmps w0 NoB u N β ⟨[(0, .v (slv a.length pa.1)), (1, .v (I l)), (5, .v (I (k : Int)))], []⟩ ac w) _ ⟨0, (left - (a.length : Int)), _, _, _, rfl, o0, (by simp [szsum_nil]), o0, S.z⟩ ?_
 clear S
 rintro f3 mm hf4 ac w ⟨k, l, u, N, β, rfl, hk, hl, hl0, S⟩
 refine S.rs fun S => ?_
 have hle2 := szsum_take_le a k
 refine S.gd 9 .nil (decide ((k : Int) < (a.length : Int))) (fun ac w β h5 g6 S => ?_) (fun ac w β h5 g6 S => ?_)
 ·have b7 := f_sz_cs (SZ.sz (el a k)) l
  refine S.gd 22 (.cons (qn (S.arg ha) k Tryz.underlying22) (.cons (qs (S.arg ha) 43 k) (.cons (Q_call fun w hw => c_laws_szBare w (el a k) (pa.2 k) (rd_of (LRd.el (S.arg ha) k (by omega)) hw) l (by omega) (by omega)) .nil))) (decide ((f_sz (SZ.sz (el a k)) l) < 0)) (fun ac w β h8 g9 S => ?_) (fun ac w β h8 g9 S => ?_)
  ·exact S.gf 7 .nil [I (-1)] (retI k0_laws_szBareS)
  refine S.ge 9 (.cons (qp (k : Int) 1) .nil) f3 fun ac w β S => hf4.of (a.length - (k + 1)) _ _ (by omega) ⟨k + 1, (f_sz (SZ.sz (el a k)) l), _, _, _, rfl, ?_, ?_, ?_, S.z⟩
  ·exact oz
  ·clear S; (rw [szsum_take (by omega)]; omega)
  ·clear S; omega
 exact S.gf 13 .nil [I l] (retI k0_laws_szBareS)

theorem c_laws_toIntS (w0 : World) (a : List Int) (pa : LP Int) (ha : RD w0 a pa) : Calls Tryz.prog 81 [slv a.length pa.1].toArray w0 (Ret1 NoB w0 (a : List Int)) := by
 refine Calls.run NoB Tryz.func81 ?_
 intro ac β S
 have hlea : a.length ≤ 4194304 := LRd.le ha
 refine S.go 9 .nil fun ac w β S => S.Mk (α := Int) (m := a.length) (by' := 8) (d := 7) (by omega) (show a.length ≤ 4194304 by omega) fun ac w N q1 F2 S up o3 d4 => ?_
 clear up d4
 refine S.go 10 .nil fun ac w β S => ?_
 refine lp (fun mm ac w => ∃ (k : Nat) (acc : List Int) (q5 : _) (F6 : _) (u : _) (N : _) (β : _), mm = a.length - k ∧ (k ≤ a.length) ∧ (acc = a.take k ++ List.replicate (a.length - k) (GT.dflt : Int)) ∧ St Tryz.prog Tryz.f81.ntmps w0 NoB u N β ⟨[(0, .v (slv a.length pa.1)), (3, .v (slv a.length q5.1)), (4, .v (I (k : Int)))], []⟩ ac w ∧ Ow w0 NoB u N F6 acc q5) _ ⟨0, (List.replicate a.length (GT.dflt : Int)), q1, F2, _, _, _, rfl, o0, (by simp), S.z, o3⟩ ?_
 clear S o3
 rintro f8 mm hf9 ac w ⟨k, acc, q5, F6, u, N, β, rfl, hk, hacc, S, o7⟩
 refine S.rs fun S => ?_
 have hlacc : acc.length = a.length := by rw [hacc]; simp; omega
 refine S.gd 9 .nil (decide ((k : Int) < (a.length : Int))) (fun ac w β h10 g11 S => ?_) (fun ac w β h10 g11 S => ?_)
 ·refine S.go 13 (.cons (qn (S.arg ha) k Tryz.underlying41) (.cons (qx (S.arg ha) 3 k) (.cons (Q_idx o7.rn (l := a.length) (k := k) (i := (k : Int)) (by rw [hacc]; simp; omega) rfl (by omega) Tryz.underlying41 (by kernel_rfl)) .nil))) fun ac w β S => S.SF (α := Int) o7 (t := 3) (k := k) (j := 0) (off := q5.1.off + k * 1) (v := I (el a k)) (y := (el a k)) (q := ()) (fun _ _ _ => ⟨NoB, (LRd.el (S.arg ha) k (by omega)), fun _ h => False.elim h⟩) fun w N F13 q14 S up o12 d15 s16 n17 => ?_
  clear up d15 o7 n17
  have l18 : (acc.set k (el a k)).length = acc.length := List.length_set
  refine S.ge 8 (.cons (qp (k : Int) 1) .nil) f8 fun ac w β S => hf9.of (a.length - (k + 1)) _ _ (by omega) ⟨k + 1, (acc.set k (el a k)), (q5.1, q14), F13, _, _, _, rfl, ?_, ?_, S.z, o12⟩
  ·exact oz
  ·clear S; rw [hacc]; exact set_step (by omega)
 refine S.gr 13 .nil [slv a.length q5.1] fun ac w β S => ?_
 exact ret1_of S (show a = acc by clear S; rw [hacc, take_all (by omega), show a.length - k = 0 by omega]; simp) (by rw [show a.length = acc.length from (by rw [hacc]; simp; omega)]; rfl) o7

theorem c_laws_toIntSS (w0 : World) (a : List (List Int)) (pa : LP (List Int)) (ha : RD w0 a pa) : Calls Tryz.prog 79 [slv a.length pa.1].toArray w0 (Ret1 NoB w0 (a : List (List Int))) := by
 refine Calls.run NoB Tryz.func79 ?_
 intro ac β S
 have hlea : a.length ≤ 4194304 := LRd.le ha
 refine S.go 9 .nil fun ac w β S => S.Mk (α := List Int) (m := a.length) (by' := 24) (d := 7) (by omega) (show a.length ≤ 4194304 by omega) fun ac w N q1 F2 S up o3 d4 => ?_
 clear up d4
 refine S.go 10 .nil fun ac w β S => ?_
 refine lp (fun mm ac w => ∃ (k : Nat) (acc : List (List Int)) (q5 : _) (F6 : _) (u : _) (N : _) (β : _), mm = a.length - k ∧ (k ≤ a.length) ∧ (acc = a.take k ++ List.replicate (a.length - k) (GT.dflt : List Int)) ∧ St Tryz.prog Tryz.f79.ntmps w0 NoB u N β ⟨[(0, .v (slv a.length pa.1)), (3, .v (slv a.length q5.1)), (4, .v (I (k : Int)))], []⟩ ac w ∧ Ow w0 NoB u N F6 acc q5) _ ⟨0, (List.replicate a.length (GT.dflt : List Int)), q1, F2, _, _, _, rfl, o0, (by simp), S.z, o3⟩ ?_
 clear S o3
 rintro f8 mm hf9 ac w ⟨k, acc, q5, F6, u, N, β, rfl, hk, hacc, S, o7⟩
 refine S.rs fun S => ?_
 have hlacc : acc.length = a.length := by rw [hacc]; simp; omega
 refine S.gd 9 .nil (decide ((k : Int) < (a.length : Int))) (fun ac w β h10 g11 S => ?_) (fun ac w β h10 g11 S => ?_)
 ·refine S.go 12 (.cons (qn (S.arg ha) k Tryz.underlying39) (.cons (qx (S.arg ha) 41 k) .nil)) fun ac w β S => S.K1 (r := (el a k)) (d := 20) (c_laws_toIntS w (el a k) (pa.2 k) (S.rd (LRd.el (S.arg ha) k (by omega)))) fun ac w N q12 F13 S up o14 d15 => ?_
  have d16 := Disj.w d15 o7.sub
  replace o7 := o7.up up
  clear up d15
  refine S.go 1 (.cons (Q_idx o7.rn (l := a.length) (k := k) (i := (k : Int)) (by rw [hacc]; simp; omega) rfl (by omega) Tryz.underlying39 (by kernel_rfl)) .nil) fun ac w β S => S.SV (α := List Int) o7 (t := 41) (k := k) (off := q5.1.off + k * 1) o14 d16 fun w N F18 q19 S up o17 d20 s21 n22 => ?_
  clear up d20 o7 n22
  have l23 : (acc.set k (el a k)).length = acc.length := List.length_set
  refine S.ge 8 (.cons (qp (k : Int) 1) .nil) f8 fun ac w β S => hf9.of (a.length - (k + 1)) _ _ (by omega) ⟨k + 1, (acc.set k (el a k)), (q5.1, q19), F18, _, _, _, rfl, ?_, ?_, S.z, o17⟩
  ·exact oz
  ·clear S; rw [hacc]; exact set_step (by omega)
 refine S.gr 13 .nil [slv a.length q5.1] fun ac w β S => ?_
 exact ret1_of S (show a = acc by clear S; rw [hacc, take_all (by omega), show a.length - k = 0 by omega]; simp) (by rw [show a.length = acc.length from (by rw [hacc]; simp; omega)]; rfl) o7

theorem c_laws_toIns (w0 : World) (a : TIns) : Calls Tryz.prog 199 [GT.val a ()].toArray w0 (fun e w' => e = .returned (GT.val a ()) ∧ Chg NoB w0 w') := by
 refine Calls.run NoB Tryz.func199 ?_
 intro ac β S
 exact S.gf 34 .nil [GT.val (⟨a.opc, a.x⟩ : TIns) ()] (retV (p := ()) (by clear S; first | rfl | (simp [a, *]; done) | (simp [a, *]; omega) | (simp_all [a]; done) | (simp_all [a]; omega)))

theorem c_laws_toInsS (w0 : World) (a : List TIns) (pa : LP TIns) (ha : RD w0 a pa) : Calls Tryz.prog 176 [slv a.length pa.1].toArray w0 (Ret1 NoB w0 (a : List TIns)) := by
 refine Calls.run NoB Tryz.func176 ?_
 intro ac β S
 have hlea : a.length ≤ 4194304 := LRd.le ha
 refine S.go 9 .nil fun ac w β S => S.Mk (α := TIns) (m := a.length) (by' := 16) (d := 7) (by omega) (show a.length ≤ 4194304 by omega) fun ac w N q1 F2 S up o3 d4 => ?_
 clear up d4
 refine S.go 10 .nil fun ac w β S => ?_
 refine lp (fun mm ac w => ∃ (k : Nat) (acc : List TIns) (q5 : _) (F6 : _) (u : _) (N : _) (β : _), mm = a.length - k ∧ (k ≤ a.length) ∧ (acc = a.take k ++ List.replicate (a.length - k) (GT.dflt : TIns)) ∧ St Tryz.prog Tryz.f176.ntmps w0 NoB u N β ⟨[(0, .v (slv a.length pa.1)), (3, .v (slv a.length q5.1)), (4, .v (I (k : Int)))], []⟩ ac w ∧ Ow w0 NoB u N F6 acc q5) _ ⟨0, (List.replicate a.length (GT.dflt : TIns)), q1, F2, _, _, _, rfl, o0, (by simp), S.z, o3⟩ ?_
 clear S o3
 rintro f8 mm hf9 ac w ⟨k, acc, q5, F6, u, N, β, rfl, hk, hacc, S, o7⟩
 refine S.rs fun S => ?_
 have hlacc : acc.length = a.length := by rw [hacc]; simp; omega
 refine S.gd 9 .nil (decide ((k : Int) < (a.length : Int))) (fun ac w β h10 g11 S => ?_) (fun ac w β h10 g11 S => ?_)
 ·have e12 : RIns (el acc k) := (LRd.el o7.rn k (by omega))
  refine S.go 14 (.cons (qn (S.arg ha) k Tryz.underlying120) (.cons (qs (S.arg ha) 158 k) (.cons (Q_call fun w hw => c_laws_toIns w (el a k)) (.cons (Q_idx o7.rn (l := a.length) (k := k) (i := (k : Int)) (by rw [hacc]; simp; omega) rfl (by omega) Tryz.underlying76 (by kernel_rfl)) .nil)))) fun ac w β S => S.SF (α := TIns) o7 (t := 98) (k := k) (j := 0) (off := q5.1.off + k * 2) (v := GT.val (el a k) ()) (y := (el a k)) (q := ()) (fun _ _ _ => ⟨NoB, (LRd.el (S.arg ha) k (by omega)), fun _ h => False.elim h⟩) fun w N F14 q15 S up o13 d16 s17 n18 => ?_
  clear up d16 o7 n18
  have l19 : (acc.set k (el a k)).length = acc.length := List.length_set
  refine S.ge 8 (.cons (qp (k : Int) 1) .nil) f8 fun ac w β S => hf9.of (a.length - (k + 1)) _ _ (by omega) ⟨k + 1, (acc.set k (el a k)), (q5.1, q15), F14, _, _, _, rfl, ?_, ?_, S.z, o13⟩
  ·exact oz
  ·clear S; rw [hacc]; exact set_step (by omega)
 refine S.gr 13 .nil [slv a.length q5.1] fun ac w β S => ?_
 exact ret1_of S (show a = acc by clear S; rw [hacc, take_all (by omega), show a.length - k = 0 by omega]; simp) (by rw [show a.length = acc.length from (by rw [hacc]; simp; omega)]; rfl) o7

theorem c_laws_toSlot (w0 : World) (a : TSlot) : Calls Tryz.prog 200 [GT.val a ()].toArray w0 (fun e w' => e = .returned (GT.val a ()) ∧ Chg NoB w0 w') := by
 refine Calls.run NoB Tryz.func200 ?_
 intro ac β S
 exact S.gf 34 .nil [GT.val (⟨a.page, a.rights⟩ : TSlot) ()] (retV (p := ()) (by clear S; first | rfl | (simp [a, *]; done) | (simp [a, *]; omega) | (simp_all [a]; done) | (simp_all [a]; omega)))

theorem c_laws_toSlotS (w0 : World) (a : List TSlot) (pa : LP TSlot) (ha : RD w0 a pa) : Calls Tryz.prog 177 [slv a.length pa.1].toArray w0 (Ret1 NoB w0 (a : List TSlot)) := by
 refine Calls.run NoB Tryz.func177 ?_
 intro ac β S
 have hlea : a.length ≤ 4194304 := LRd.le ha
 refine S.go 9 .nil fun ac w β S => S.Mk (α := TSlot) (m := a.length) (by' := 16) (d := 7) (by omega) (show a.length ≤ 4194304 by omega) fun ac w N q1 F2 S up o3 d4 => ?_
 clear up d4
 refine S.go 10 .nil fun ac w β S => ?_
 refine lp (fun mm ac w => ∃ (k : Nat) (acc : List TSlot) (q5 : _) (F6 : _) (u : _) (N : _) (β : _), mm = a.length - k ∧ (k ≤ a.length) ∧ (acc = a.take k ++ List.replicate (a.length - k) (GT.dflt : TSlot)) ∧ St Tryz.prog Tryz.f177.ntmps w0 NoB u N β ⟨[(0, .v (slv a.length pa.1)), (3, .v (slv a.length q5.1)), (4, .v (I (k : Int)))], []⟩ ac w ∧ Ow w0 NoB u N F6 acc q5) _ ⟨0, (List.replicate a.length (GT.dflt : TSlot)), q1, F2, _, _, _, rfl, o0, (by simp), S.z, o3⟩ ?_
 clear S o3
 rintro f8 mm hf9 ac w ⟨k, acc, q5, F6, u, N, β, rfl, hk, hacc, S, o7⟩
 refine S.rs fun S => ?_
 have hlacc : acc.length = a.length := by rw [hacc]; simp; omega
 refine S.gd 9 .nil (decide ((k : Int) < (a.length : Int))) (fun ac w β h10 g11 S => ?_) (fun ac w β h10 g11 S => ?_)
 ·have e12 : RSlot (el acc k) := (LRd.el o7.rn k (by omega))
  refine S.go 14 (.cons (qn (S.arg ha) k Tryz.underlying121) (.cons (qs (S.arg ha) 160 k) (.cons (Q_call fun w hw => c_laws_toSlot w (el a k)) (.cons (Q_idx o7.rn (l := a.length) (k := k) (i := (k : Int)) (by rw [hacc]; simp; omega) rfl (by omega) Tryz.underlying77 (by kernel_rfl)) .nil)))) fun ac w β S => S.SF (α := TSlot) o7 (t := 55) (k := k) (j := 0) (off := q5.1.off + k * 2) (v := GT.val (el a k) ()) (y := (el a k)) (q := ()) (fun _ _ _ => ⟨NoB, (LRd.el (S.arg ha) k (by omega)), fun _ h => False.elim h⟩) fun w N F14 q15 S up o13 d16 s17 n18 => ?_
  clear up d16 o7 n18
  have l19 : (acc.set k (el a k)).length = acc.length := List.length_set
  refine S.ge 8 (.cons (qp (k : Int) 1) .nil) f8 fun ac w β S => hf9.of (a.length - (k + 1)) _ _ (by omega) ⟨k + 1, (acc.set k (el a k)), (q5.1, q15), F14, _, _, _, rfl, ?_, ?_, S.z, o13⟩
  ·exact oz
  ·clear S; rw [hacc]; exact set_step (by omega)
 refine S.gr 13 .nil [slv a.length q5.1] fun ac w β S => ?_
 exact ret1_of S (show a = acc by clear S; rw [hacc, take_all (by omega), show a.length - k = 0 by omega]; simp) (by rw [show a.length = acc.length from (by rw [hacc]; simp; omega)]; rfl) o7

theorem c_laws_toCtl (w0 : World) (a : TCtl) : Calls Tryz.prog 178 [GT.val a ()].toArray w0 (fun e w' => e = .returned (GT.val a ()) ∧ Chg NoB w0 w') := by
 refine Calls.run NoB Tryz.func178 ?_
 intro ac β S
 exact S.gf 42 .nil [GT.val (⟨a.traps, a.post, a.opn⟩ : TCtl) ()] (retV (p := ()) (by clear S; first | rfl | (simp [a, *]; done) | (simp [a, *]; omega) | (simp_all [a]; done) | (simp_all [a]; omega)))

theorem c_laws_toExit (w0 : World) (a : TExit) : Calls Tryz.prog 179 [GT.val a ()].toArray w0 (fun e w' => e = .returned (GT.val a ()) ∧ Chg NoB w0 w') := by
 refine Calls.run NoB Tryz.func179 ?_
 intro ac β S
 exact S.gf 50 .nil [GT.val (⟨a.kind, a.page, a.wr, a.n⟩ : TExit) ()] (retV (p := ()) (by clear S; first | rfl | (simp [a, *]; done) | (simp [a, *]; omega) | (simp_all [a]; done) | (simp_all [a]; omega)))

theorem c_laws_toGuest (w0 : World) (a : TGuest) (pa : PGuest) (ha : RD w0 a pa) : Calls Tryz.prog 125 [GT.val a pa].toArray w0 (Ret1 NoB w0 (a : TGuest)) := by
 refine Calls.run NoB Tryz.func125 ?_
 intro ac β S
 have hlea_prog : a.prog.length ≤ 4194304 := LRd.le (RGuest.prog (d := a) ha)
 have hlea_written : a.written.length ≤ 4194304 := LRd.le (RGuest.written (d := a) ha)
 have hlea_live : a.live.length ≤ 4194304 := LRd.le (RGuest.live (d := a) ha)
 have hlea_seen : a.seen.length ≤ 4194304 := LRd.le (RGuest.seen (d := a) ha)
 refine S.go 15 .nil fun ac w β S => S.K1 (r := a.prog) (d := 6) (c_laws_toInsS w a.prog pa.prog (S.rd (RGuest.prog (d := a) (S.arg ha)))) fun ac w N q1 F2 S up o3 d4 => ?_
 clear up d4
 refine S.go 24 .nil fun ac w β S => S.K1 (r := a.written) (d := 16) (c_laws_toSlotS w a.written pa.written (S.rd (RGuest.written (d := a) (S.arg ha)))) fun ac w N q5 F6 S up o7 d8 => ?_
 have d9 := Disj.w d8 o3.sub
 replace o3 := o3.up up
 clear up d8
 refine S.go 8 .nil fun ac w β S => S.K1 (r := a.live) (d := 20) (c_laws_toSlotS w a.live pa.live (S.rd (RGuest.live (d := a) (S.arg ha)))) fun ac w N q10 F11 S up o12 d13 => ?_
 have d14 := Disj.w d13 o3.sub
 have d15 := Disj.w d13 o7.sub
 replace o3 := o3.up up
 replace o7 := o7.up up
 clear up d13
 refine S.go 42 (.cons (Q_call fun w hw => c_laws_toCtl w a.ctl) (.cons (Q_call fun w hw => c_laws_toExit w a.exit) .nil)) fun ac w β S => S.K1 (r := a.seen) (d := 38) (c_laws_toIntS w a.seen pa.seen (S.rd (RGuest.seen (d := a) (S.arg ha)))) fun ac w N q16 F17 S up o18 d19 => ?_
 have d20 := Disj.w d19 o3.sub
 have d21 := Disj.w d19 o7.sub
 have d22 := Disj.w d19 o12.sub
 replace o3 := o3.up up
 replace o7 := o7.up up
 replace o12 := o12.up up
 clear up d19
 refine S.gr 11 .nil [GT.val (⟨a.prog, a.acc, a.pc, a.written, a.live, a.ctl, a.pend, a.exit, a.halted, a.seen⟩ : TGuest) (⟨q1, q5, q10, q16⟩ : PGuest)] fun ac w β S => ?_
 have o23 := ow_Guest (x := (⟨a.prog, a.acc, a.pc, a.written, a.live, a.ctl, a.pend, a.exit, a.halted, a.seen⟩ : TGuest)) (p := (⟨q1, q5, q10, q16⟩ : PGuest)) o3 o7 o12 o18 d9 d14 d20 d15 d21 d22 (RGuest.acc (d := a) (S.arg ha)) (RGuest.pc (d := a) (S.arg ha)) (RGuest.ctl (d := a) (S.arg ha)) (RGuest.pend (d := a) (S.arg ha)) (RGuest.exit (d := a) (S.arg ha))
 exact ret1_of S (show a = (⟨a.prog, a.acc, a.pc, a.written, a.live, a.ctl, a.pend, a.exit, a.halted, a.seen⟩ : TGuest) by clear S; first | rfl | simp) rfl o23

theorem c_laws_toGuestS (w0 : World) (a : List TGuest) (pa : LP TGuest) (ha : RD w0 a pa) : Calls Tryz.prog 80 [slv a.length pa.1].toArray w0 (Ret1 NoB w0 (a : List TGuest)) := by
 refine Calls.run NoB Tryz.func80 ?_
 intro ac β S
 have hlea : a.length ≤ 4194304 := LRd.le ha
 refine S.go 9 .nil fun ac w β S => S.Mk (α := TGuest) (m := a.length) (by' := 184) (d := 7) (by omega) (show a.length ≤ 4194304 by omega) fun ac w N q1 F2 S up o3 d4 => ?_
 clear up d4
 refine S.go 10 .nil fun ac w β S => ?_
 refine lp (fun mm ac w => ∃ (k : Nat) (acc : List TGuest) (q5 : _) (F6 : _) (u : _) (N : _) (β : _), mm = a.length - k ∧ (k ≤ a.length) ∧ (acc = a.take k ++ List.replicate (a.length - k) (GT.dflt : TGuest)) ∧ St Tryz.prog Tryz.f80.ntmps w0 NoB u N β ⟨[(0, .v (slv a.length pa.1)), (3, .v (slv a.length q5.1)), (4, .v (I (k : Int)))], []⟩ ac w ∧ Ow w0 NoB u N F6 acc q5) _ ⟨0, (List.replicate a.length (GT.dflt : TGuest)), q1, F2, _, _, _, rfl, o0, (by simp), S.z, o3⟩ ?_
 clear S o3
 rintro f8 mm hf9 ac w ⟨k, acc, q5, F6, u, N, β, rfl, hk, hacc, S, o7⟩
 refine S.rs fun S => ?_
 have hlacc : acc.length = a.length := by rw [hacc]; simp; omega
 refine S.gd 9 .nil (decide ((k : Int) < (a.length : Int))) (fun ac w β h10 g11 S => ?_) (fun ac w β h10 g11 S => ?_)
 ·refine S.go 12 (.cons (qn (S.arg ha) k Tryz.underlying40) (.cons (qs (S.arg ha) 125 k) .nil)) fun ac w β S => S.K1 (r := (el a k)) (d := 20) (c_laws_toGuest w (el a k) (pa.2 k) (S.rd (LRd.el (S.arg ha) k (by omega)))) fun ac w N q12 F13 S up o14 d15 => ?_
  have d16 := Disj.w d15 o7.sub
  replace o7 := o7.up up
  clear up d15
  refine S.go 1 (.cons (Q_idx o7.rn (l := a.length) (k := k) (i := (k : Int)) (by rw [hacc]; simp; omega) rfl (by omega) Tryz.underlying48 (by kernel_rfl)) .nil) fun ac w β S => S.SV (α := TGuest) o7 (t := 81) (k := k) (off := q5.1.off + k * 15) o14 d16 fun w N F18 q19 S up o17 d20 s21 n22 => ?_
  clear up d20 o7 n22
  have l23 : (acc.set k (el a k)).length = acc.length := List.length_set
  refine S.ge 8 (.cons (qp (k : Int) 1) .nil) f8 fun ac w β S => hf9.of (a.length - (k + 1)) _ _ (by omega) ⟨k + 1, (acc.set k (el a k)), (q5.1, q19), F18, _, _, _, rfl, ?_, ?_, S.z, o17⟩
  ·exact oz
  ·clear S; rw [hacc]; exact set_step (by omega)
 refine S.gr 13 .nil [slv a.length q5.1] fun ac w β S => ?_
 exact ret1_of S (show a = acc by clear S; rw [hacc, take_all (by omega), show a.length - k = 0 by omega]; simp) (by rw [show a.length = acc.length from (by rw [hacc]; simp; omega)]; rfl) o7

theorem c_laws_toBare (w0 : World) (a : TBare) (pa : PBare) (ha : RD w0 a pa) : Calls Tryz.prog 31 [GT.val a pa].toArray w0 (Ret1 NoB w0 (a : TBare)) := by
 refine Calls.run NoB Tryz.func31 ?_
 intro ac β S
 have hlea_mem : a.mem.length ≤ 4194304 := LRd.le (RBare.mem (d := a) ha)
 have hlea_guests : a.guests.length ≤ 4194304 := LRd.le (RBare.guests (d := a) ha)
 have hlea_outs : a.outs.length ≤ 4194304 := LRd.le (RBare.outs (d := a) ha)
 refine S.go 15 .nil fun ac w β S => S.K1 (r := a.mem) (d := 6) (c_laws_toIntSS w a.mem pa.mem (S.rd (RBare.mem (d := a) (S.arg ha)))) fun ac w N q1 F2 S up o3 d4 => ?_
 clear up d4
 refine S.go 8 .nil fun ac w β S => S.K1 (r := a.guests) (d := 10) (c_laws_toGuestS w a.guests pa.guests (S.rd (RBare.guests (d := a) (S.arg ha)))) fun ac w N q5 F6 S up o7 d8 => ?_
 have d9 := Disj.w d8 o3.sub
 replace o3 := o3.up up
 clear up d8
 refine S.go 8 .nil fun ac w β S => S.K1 (r := a.outs) (d := 14) (c_laws_toIntS w a.outs pa.outs (S.rd (RBare.outs (d := a) (S.arg ha)))) fun ac w N q10 F11 S up o12 d13 => ?_
 have d14 := Disj.w d13 o3.sub
 have d15 := Disj.w d13 o7.sub
 replace o3 := o3.up up
 replace o7 := o7.up up
 clear up d13
 refine S.gr 19 .nil [GT.val (⟨a.mem, a.guests, a.outs, a.pend⟩ : TBare) (⟨q1, q5, q10⟩ : PBare)] fun ac w β S => ?_
 have o16 := ow_Bare (x := (⟨a.mem, a.guests, a.outs, a.pend⟩ : TBare)) (p := (⟨q1, q5, q10⟩ : PBare)) o3 o7 o12 d9 d14 d15 (RBare.pend (d := a) (S.arg ha))
 exact ret1_of S (show a = (⟨a.mem, a.guests, a.outs, a.pend⟩ : TBare) by clear S; first | rfl | simp) rfl o16

theorem c_laws_toBareS (w0 : World) (a : List TBare) (pa : LP TBare) (ha : RD w0 a pa) : Calls Tryz.prog 6 [slv a.length pa.1].toArray w0 (Ret1 NoB w0 (a : List TBare)) := by
 refine Calls.run NoB Tryz.func6 ?_
 intro ac β S
 have hlea : a.length ≤ 4194304 := LRd.le ha
 refine S.go 9 .nil fun ac w β S => S.Mk (α := TBare) (m := a.length) (by' := 80) (d := 7) (by omega) (show a.length ≤ 4194304 by omega) fun ac w N q1 F2 S up o3 d4 => ?_
 clear up d4
 refine S.go 10 .nil fun ac w β S => ?_
 refine lp (fun mm ac w => ∃ (k : Nat) (acc : List TBare) (q5 : _) (F6 : _) (u : _) (N : _) (β : _), mm = a.length - k ∧ (k ≤ a.length) ∧ (acc = a.take k ++ List.replicate (a.length - k) (GT.dflt : TBare)) ∧ St Tryz.prog Tryz.f6.ntmps w0 NoB u N β ⟨[(0, .v (slv a.length pa.1)), (3, .v (slv a.length q5.1)), (4, .v (I (k : Int)))], []⟩ ac w ∧ Ow w0 NoB u N F6 acc q5) _ ⟨0, (List.replicate a.length (GT.dflt : TBare)), q1, F2, _, _, _, rfl, o0, (by simp), S.z, o3⟩ ?_
 clear S o3
 rintro f8 mm hf9 ac w ⟨k, acc, q5, F6, u, N, β, rfl, hk, hacc, S, o7⟩
 refine S.rs fun S => ?_
 have hlacc : acc.length = a.length := by rw [hacc]; simp; omega
 refine S.gd 9 .nil (decide ((k : Int) < (a.length : Int))) (fun ac w β h10 g11 S => ?_) (fun ac w β h10 g11 S => ?_)
 ·refine S.go 12 (.cons (qn (S.arg ha) k Tryz.underlying22) (.cons (qs (S.arg ha) 43 k) .nil)) fun ac w β S => S.K1 (r := (el a k)) (d := 20) (c_laws_toBare w (el a k) (pa.2 k) (S.rd (LRd.el (S.arg ha) k (by omega)))) fun ac w N q12 F13 S up o14 d15 => ?_
  have d16 := Disj.w d15 o7.sub
  replace o7 := o7.up up
  clear up d15
  refine S.go 1 (.cons (Q_idx o7.rn (l := a.length) (k := k) (i := (k : Int)) (by rw [hacc]; simp; omega) rfl (by omega) Tryz.underlying26 (by kernel_rfl)) .nil) fun ac w β S => S.SV (α := TBare) o7 (t := 50) (k := k) (off := q5.1.off + k * 4) o14 d16 fun w N F18 q19 S up o17 d20 s21 n22 => ?_
  clear up d20 o7 n22
  have l23 : (acc.set k (el a k)).length = acc.length := List.length_set
  refine S.ge 8 (.cons (qp (k : Int) 1) .nil) f8 fun ac w β S => hf9.of (a.length - (k + 1)) _ _ (by omega) ⟨k + 1, (acc.set k (el a k)), (q5.1, q19), F18, _, _, _, rfl, ?_, ?_, S.z, o17⟩
  ·exact oz
  ·clear S; rw [hacc]; exact set_step (by omega)
 refine S.gr 13 .nil [slv a.length q5.1] fun ac w β S => ?_
 exact ret1_of S (show a = acc by clear S; rw [hacc, take_all (by omega), show a.length - k = 0 by omega]; simp) (by rw [show a.length = acc.length from (by rw [hacc]; simp; omega)]; rfl) o7

theorem c_laws_toAct (w0 : World) (a : TAct) : Calls Tryz.prog 7 [GT.val a ()].toArray w0 (fun e w' => e = .returned (GT.val a ()) ∧ Chg NoB w0 w') := by
 refine Calls.run NoB Tryz.func7 ?_
 intro ac β S
 exact S.gf 66 .nil [GT.val (⟨a.kind, a.m, a.g, a.x, a.y, a.z⟩ : TAct) ()] (retV (p := ()) (by clear S; first | rfl | (simp [a, *]; done) | (simp [a, *]; omega) | (simp_all [a]; done) | (simp_all [a]; omega)))

theorem c_spec_l04Copy (w0 : World) (l : List (List Int)) (pl : LP (List Int)) (hl : RD w0 l pl) : Calls Tryz.prog 107 [slv l.length pl.1].toArray w0 (Ret1 NoB w0 (l : List (List Int))) := by
 refine Calls.run NoB Tryz.func107 ?_
 intro ac β S
 have hlel : l.length ≤ 4194304 := LRd.le hl
 refine S.go 7 .nil fun ac w β S => S.B0 (α := List Int) (d := 5) fun ac w N q1 F2 S up o3 d4 => ?_
 clear up d4
 refine S.go 10 .nil fun ac w β S => ?_
 refine lp (fun mm ac w => ∃ (k : Nat) (acc : List (List Int)) (q5 : _) (F6 : _) (u : _) (N : _) (β : _), mm = l.length - k ∧ (k ≤ l.length) ∧ (acc = l.take k) ∧ St Tryz.prog Tryz.f107.ntmps w0 NoB u N β ⟨[(0, .v (slv l.length pl.1)), (3, .v (slv acc.length q5.1)), (4, .v (I (k : Int)))], []⟩ ac w ∧ Ow w0 NoB u N F6 acc q5) _ ⟨0, ([] : List (List Int)), q1, F2, _, _, _, rfl, o0, (by simp), S.z, o3⟩ ?_
 clear S o3
 rintro f8 mm hf9 ac w ⟨k, acc, q5, F6, u, N, β, rfl, hk, hacc, S, o7⟩
 refine S.rs fun S => ?_
 have hlacc : acc.length = k := by rw [hacc]; simp; omega
 refine S.gd 9 .nil (decide ((k : Int) < (l.length : Int))) (fun ac w β h10 g11 S => ?_) (fun ac w β h10 g11 S => ?_)
 ·refine S.go 7 .nil fun ac w β S => S.B0 (α := Int) (d := 13) fun ac w N q12 F13 S up o14 d15 => ?_
  have d16 := Disj.w d15 o7.sub
  replace o7 := o7.up up
  clear up d15
  have b21 : (el l k).length ≤ 4194304 := LRd.le (LRd.el (S.arg hl) k (by omega))
  refine S.go 4 (.cons (qn (S.arg hl) k Tryz.underlying39) (.cons (qx (S.arg hl) 41 k) .nil)) fun ac w β S => S.AF0 (α := Int) o14 (LRd.el (S.arg hl) k (by omega)) (fun _ _ h => h) (by' := 8) (d := 18) (lx := 0) (ly := (el l k).length) rfl fun ac w N q17 F18 S up o19 d20 => ?_
  have d22 := d20 _ d16 o7.sub
  replace o7 := o7.upF d16 up
  clear up d20
  refine S.B1 (α := List Int) (x := (el l k)) (p := q17) o19.own o19.sub o19.young (d := 19) fun ac w N q23 F24 S up o25 d26 => ?_
  have d27 := d26 _ d22 o7.sub
  replace o7 := o7.up up
  clear up d26
  refine S.AO (α := List Int) o7 o25 d27 (by' := 24) (d := 20) (lx := acc.length) (ly := 1) rfl rfl (show _ ≤ 4194304 by simp only [List.length_append, List.length_cons, List.length_nil]; omega) fun ac w N q28 F29 S up o30 d31 => ?_
  clear up d31
  refine S.ge 9 (.cons (qp (k : Int) 1) .nil) f8 fun ac w β S => hf9.of (l.length - (k + 1)) _ _ (by omega) ⟨k + 1, (acc ++ [(el l k)]), q28, F29, _, _, _, rfl, ?_, ?_, S.z, o30⟩
  ·exact oz
  ·clear S; (first | (rw [take_el (by omega), hacc]; done) | (rw [take_el (by omega), hacc]; simp; done))
 refine S.gr 13 .nil [slv acc.length q5.1] fun ac w β S => ?_
 exact ret1_of S (show l = acc by clear S; (rw [hacc, take_all (by omega)])) rfl o7

theorem c_spec_l15Copy (w0 : World) (g : TGuest) (pg : PGuest) (hg : RD w0 g pg) : Calls Tryz.prog 109 [GT.val g pg].toArray w0 (Ret1 NoB w0 (g : TGuest)) := by
 refine Calls.run NoB Tryz.func109 ?_
 intro ac β S
 have hleg_prog : g.prog.length ≤ 4194304 := LRd.le (RGuest.prog (d := g) hg)
 have hleg_written : g.written.length ≤ 4194304 := LRd.le (RGuest.written (d := g) hg)
 have hleg_live : g.live.length ≤ 4194304 := LRd.le (RGuest.live (d := g) hg)
 have hleg_seen : g.seen.length ≤ 4194304 := LRd.le (RGuest.seen (d := g) hg)
 refine S.go 8 .nil fun ac w β S => S.B0 (α := TIns) (d := 3) fun ac w N q1 F2 S up o3 d4 => ?_
 clear up d4
 have b9 : g.prog.length ≤ 4194304 := LRd.le (RGuest.prog (d := g) (S.arg hg))
 refine S.go 2 .nil fun ac w β S => S.AF0 (α := TIns) o3 (RGuest.prog (d := g) (S.arg hg)) (fun _ _ h => h) (by' := 16) (d := 6) (lx := 0) (ly := g.prog.length) rfl fun ac w N q5 F6 S up o7 d8 => ?_
 clear up d8
 refine S.go 6 .nil fun ac w β S => S.B0 (α := TSlot) (d := 8) fun ac w N q10 F11 S up o12 d13 => ?_
 have d14 := Disj.w d13 o7.sub
 replace o7 := o7.up up
 clear up d13
 have b19 : g.written.length ≤ 4194304 := LRd.le (RGuest.written (d := g) (S.arg hg))
 refine S.go 2 .nil fun ac w β S => S.AF0 (α := TSlot) o12 (RGuest.written (d := g) (S.arg hg)) (fun _ _ h => h) (by' := 16) (d := 11) (lx := 0) (ly := g.written.length) rfl fun ac w N q15 F16 S up o17 d18 => ?_
 have d20 := d18 _ d14 o7.sub
 replace o7 := o7.upF d14 up
 clear up d18
 refine S.go 6 .nil fun ac w β S => S.B0 (α := TSlot) (d := 13) fun ac w N q21 F22 S up o23 d24 => ?_
 have d25 := Disj.w d24 o7.sub
 have d26 := Disj.w d24 o17.sub
 replace o7 := o7.up up
 replace o17 := o17.up up
 clear up d24
 have b31 : g.live.length ≤ 4194304 := LRd.le (RGuest.live (d := g) (S.arg hg))
 refine S.go 2 .nil fun ac w β S => S.AF0 (α := TSlot) o23 (RGuest.live (d := g) (S.arg hg)) (fun _ _ h => h) (by' := 16) (d := 16) (lx := 0) (ly := g.live.length) rfl fun ac w N q27 F28 S up o29 d30 => ?_
 have d32 := d30 _ d25 o7.sub
 have d33 := d30 _ d26 o17.sub
 replace o7 := o7.upF d25 up
 replace o17 := o17.upF d26 up
 clear up d30
 refine S.go 6 .nil fun ac w β S => S.B0 (α := Int) (d := 18) fun ac w N q34 F35 S up o36 d37 => ?_
 have d38 := Disj.w d37 o7.sub
 have d39 := Disj.w d37 o17.sub
 have d40 := Disj.w d37 o29.sub
 replace o7 := o7.up up
 replace o17 := o17.up up
 replace o29 := o29.up up
 clear up d37
 have b45 : g.seen.length ≤ 4194304 := LRd.le (RGuest.seen (d := g) (S.arg hg))
 refine S.go 2 .nil fun ac w β S => S.AF0 (α := Int) o36 (RGuest.seen (d := g) (S.arg hg)) (fun _ _ h => h) (by' := 8) (d := 21) (lx := 0) (ly := g.seen.length) rfl fun ac w N q41 F42 S up o43 d44 => ?_
 have d46 := d44 _ d38 o7.sub
 have d47 := d44 _ d39 o17.sub
 have d48 := d44 _ d40 o29.sub
 replace o7 := o7.upF d38 up
 replace o17 := o17.upF d39 up
 replace o29 := o29.upF d40 up
 clear up d44
 refine S.gr 11 .nil [GT.val (⟨g.prog, g.acc, g.pc, g.written, g.live, g.ctl, g.pend, g.exit, g.halted, g.seen⟩ : TGuest) (⟨q5, q15, q27, q41⟩ : PGuest)] fun ac w β S => ?_
 have o49 := ow_Guest (x := (⟨g.prog, g.acc, g.pc, g.written, g.live, g.ctl, g.pend, g.exit, g.halted, g.seen⟩ : TGuest)) (p := (⟨q5, q15, q27, q41⟩ : PGuest)) o7 o17 o29 o43 d20 d32 d46 d33 d47 d48 (RGuest.acc (d := g) (S.arg hg)) (RGuest.pc (d := g) (S.arg hg)) (RGuest.ctl (d := g) (S.arg hg)) (RGuest.pend (d := g) (S.arg hg)) (RGuest.exit (d := g) (S.arg hg))
 exact ret1_of S (show g = (⟨g.prog, g.acc, g.pc, g.written, g.live, g.ctl, g.pend, g.exit, g.halted, g.seen⟩ : TGuest) by clear S; (first | rfl | simp)) rfl o49

theorem c_spec_l17Guests (w0 : World) (l : List TGuest) (pl : LP TGuest) (hl : RD w0 l pl) : Calls Tryz.prog 108 [slv l.length pl.1].toArray w0 (Ret1 NoB w0 (l : List TGuest)) := by
 refine Calls.run NoB Tryz.func108 ?_
 intro ac β S
 have hlel : l.length ≤ 4194304 := LRd.le hl
 refine S.go 7 .nil fun ac w β S => S.B0 (α := TGuest) (d := 5) fun ac w N q1 F2 S up o3 d4 => ?_
 clear up d4
 refine S.go 10 .nil fun ac w β S => ?_
 refine lp (fun mm ac w => ∃ (k : Nat) (acc : List TGuest) (q5 : _) (F6 : _) (u : _) (N : _) (β : _), mm = l.length - k ∧ (k ≤ l.length) ∧ (acc = l.take k) ∧ St Tryz.prog Tryz.f108.ntmps w0 NoB u N β ⟨[(0, .v (slv l.length pl.1)), (3, .v (slv acc.length q5.1)), (4, .v (I (k : Int)))], []⟩ ac w ∧ Ow w0 NoB u N F6 acc q5) _ ⟨0, ([] : List TGuest), q1, F2, _, _, _, rfl, o0, (by simp), S.z, o3⟩ ?_
 clear S o3
 rintro f8 mm hf9 ac w ⟨k, acc, q5, F6, u, N, β, rfl, hk, hacc, S, o7⟩
 refine S.rs fun S => ?_
 have hlacc : acc.length = k := by rw [hacc]; simp; omega
 refine S.gd 9 .nil (decide ((k : Int) < (l.length : Int))) (fun ac w β h10 g11 S => ?_) (fun ac w β h10 g11 S => ?_)
 ·refine S.go 11 (.cons (qn (S.arg hl) k Tryz.underlying48) (.cons (qs (S.arg hl) 81 k) .nil)) fun ac w β S => S.K1 (r := (el l k)) (d := 17) (c_spec_l15Copy w (el l k) (pl.2 k) (S.rd (LRd.el (S.arg hl) k (by omega)))) fun ac w N q12 F13 S up o14 d15 => ?_
  have d16 := Disj.w d15 o7.sub
  replace o7 := o7.up up
  clear up d15
  refine S.B1 (α := TGuest) (x := (el l k)) (p := q12) o14.own o14.sub o14.young (d := 18) fun ac w N q17 F18 S up o19 d20 => ?_
  have d21 := d20 _ d16 o7.sub
  replace o7 := o7.up up
  clear up d20
  refine S.AO (α := TGuest) o7 o19 d21 (by' := 184) (d := 19) (lx := acc.length) (ly := 1) rfl rfl (show _ ≤ 4194304 by simp only [List.length_append, List.length_cons, List.length_nil]; omega) fun ac w N q22 F23 S up o24 d25 => ?_
  clear up d25
  refine S.ge 9 (.cons (qp (k : Int) 1) .nil) f8 fun ac w β S => hf9.of (l.length - (k + 1)) _ _ (by omega) ⟨k + 1, (acc ++ [(el l k)]), q22, F23, _, _, _, rfl, ?_, ?_, S.z, o24⟩
  ·exact oz
  ·clear S; (first | (rw [take_el (by omega), hacc]; done) | (rw [take_el (by omega), hacc]; simp; done))
 refine S.gr 13 .nil [slv acc.length q5.1] fun ac w β S => ?_
 exact ret1_of S (show l = acc by clear S; (rw [hacc, take_all (by omega)])) rfl o7

theorem c_spec_l17Copy (w0 : World) (b : TBare) (pb : PBare) (hb : RD w0 b pb) : Calls Tryz.prog 48 [GT.val b pb].toArray w0 (Ret1 NoB w0 (b : TBare)) := by
 refine Calls.run NoB Tryz.func48 ?_
 intro ac β S
 have hleb_mem : b.mem.length ≤ 4194304 := LRd.le (RBare.mem (d := b) hb)
 have hleb_guests : b.guests.length ≤ 4194304 := LRd.le (RBare.guests (d := b) hb)
 have hleb_outs : b.outs.length ≤ 4194304 := LRd.le (RBare.outs (d := b) hb)
 refine S.go 7 .nil fun ac w β S => ?_
 refine drw ?_
 let σ1 : Sy := ⟨[(1, .p 0 0), (2, .p 1 0)], [GT.cells b pb, Zc TBare]⟩
 obtain ⟨u0, N0, β0, S⟩ : ∃ u0 N0 β0, St Tryz.prog Tryz.f48.ntmps w0 NoB u0 N0 β0 σ1 ac w := ⟨_, _, _, S.z⟩
 refine wp_region_cut (fun ac w => ∃ q77 F78 q74 F75 q80 F81 u N β, St Tryz.prog Tryz.f48.ntmps w0 NoB u N β (σ1.dl [1] [] 2 [(1, [slv b.mem.length q74.1, slv b.guests.length q77.1, slv b.outs.length q80.1, I b.pend])]) ac w ∧ Ow w0 NoB u N F78 b.guests q77 ∧ Ow w0 NoB u N F75 b.mem q74 ∧ Ow w0 NoB u N F81 b.outs q80 ∧ Disj F78 F75 ∧ Disj F78 F81 ∧ Disj F75 F81) ?_ ?_
 ·refine S.draw0 (f := 14) 13 (by kernel_rfl) (by kernel_rfl) fun w S => ?_
  refine S.hq 0 [0] [] [(3, .p 0 0)] .nil fun ac S => ?_
  refine S.hq 1 [1] [] [(4, .v (slv b.mem.length pb.mem.1))] .nil fun ac S => ?_
  refine S.hq 3 [3] [] [(6, .p 0 1)] .nil fun ac S => ?_
  refine S.hq 4 [4] [] [(7, .v (slv b.guests.length pb.guests.1))] .nil fun ac S => ?_
  refine S.hq 7 [7] [] [(10, .p 0 2)] .nil fun ac S => ?_
  refine S.hq 8 [8] [] [(11, .v (slv b.outs.length pb.outs.1))] .nil fun ac S => ?_
  refine S.hq 10 [10] [] [(13, .p 0 3)] .nil fun ac S => ?_
  refine S.hq 11 [11] [] [(14, .v (I b.pend))] .nil fun ac S => ?_
  refine WD.nameW fun W hW => ?_
  refine WD.castW (l' := mkL 14 [0, 1, 3, 4, 7, 8, 10, 11]) (by kernel_rfl) ?_
  have hK82 ac w q77 F78 q74 F75 q80 F81 u N β (S : St Tryz.prog Tryz.f48.ntmps w0 NoB u N β (σ1.dl [1] [] 2 [(1, [slv b.mem.length q74.1, slv b.guests.length q77.1, slv b.outs.length q80.1, I b.pend])]) ac w) (o76 : Ow w0 NoB u N F78 b.guests q77) (o73 : Ow w0 NoB u N F75 b.mem q74) (o79 : Ow w0 NoB u N F81 b.outs q80) (d83 : Disj F78 F75) (d84 : Disj F78 F81) (d85 : Disj F75 F81) : W 0 (mkL 14 [0, 1, 2, 3, 4, 5, 6, 7, 8, 9, 10, 11, 12, 13]) ac w := by
   exact od hW ⟨rfl, q77, F78, q74, F75, q80, F81, _, _, _, S.z, o76, o73, o79, d83, d84, d85⟩
  have hK86 ac w q68 F69 q65 F66 q71 F72 u N β (S : St Tryz.prog Tryz.f48.ntmps w0 NoB u N β (σ1.dl [1] [(15, .v (GT.val (⟨b.mem, b.guests, b.outs, b.pend⟩ : TBare) (⟨q65, q68, q71⟩ : PBare)))] 2 []) ac w) (o67 : Ow w0 NoB u N F69 b.guests q68) (o64 : Ow w0 NoB u N F66 b.mem q65) (o70 : Ow w0 NoB u N F72 b.outs q71) (d87 : Disj F69 F66) (d88 : Disj F69 F72) (d89 : Disj F66 F72) (hNN : NN N0 u0 N u) (hBB : BB σ1.bx.length β0 β) : W 1 (mkL 14 [0, 1, 2, 3, 4, 5, 6, 7, 8, 9, 10, 11, 12]) ac w := by
   exact ox1 hW 13 (S.wl hW [] .nil fun _ _ _ S => hK82 _ _ q68 F69 q65 F66 q71 F72 _ _ _ S o67 o64 o70 d87 d88 d89)
  have hK90 ac w q62 F63 q8 F9 q25 F26 u N β (S : St Tryz.prog Tryz.f48.ntmps w0 NoB u N β (σ1.dl [1] [(5, .v (slv b.mem.length q8.1)), (8, .v (slv b.guests.length q25.1)), (12, .v (slv b.outs.length q62.1)), (14, .v (I b.pend))] 2 []) ac w) (o61 : Ow w0 NoB u N F63 b.outs q62) (o7 : Ow w0 NoB u N F9 b.mem q8) (o24 : Ow w0 NoB u N F26 b.guests q25) (d91 : Disj F63 F9) (d92 : Disj F63 F26) (d93 : Disj F9 F26) (hNN : NN N0 u0 N u) (hBB : BB σ1.bx.length β0 β) : W 2 (mkL 14 [0, 1, 2, 3, 4, 5, 6, 7, 8, 9, 10, 11]) ac w := by
   exact ox1 hW 12 (S.wq hW hNN hBB [] (.cons (Q_sem (s := Instr.build 50 [(0, slv b.mem.length q8.1), (1, slv b.guests.length q25.1), (2, slv b.outs.length q62.1), (3, I b.pend)].toArray) (v := .agg [slv b.mem.length q8.1, slv b.guests.length q25.1, slv b.outs.length q62.1, I b.pend].toArray) (fun w => by kernel_rfl)) .nil) fun _ _ _ S hB => hK86 _ _ q25 F26 q8 F9 q62 F63 _ _ _ S o24 o7 o61 (Disj.symm d93) (Disj.symm d92) (Disj.symm d91) hNN hB)
  have hK94 ac w q8 F9 q25 F26 q16 F17 u N β (S : St Tryz.prog Tryz.f48.ntmps w0 NoB u N β (σ1.dl [1] [(5, .v (slv b.mem.length q8.1)), (8, .v (slv b.guests.length q25.1)), (9, .v (slv 0 q16.1)), (11, .v (slv b.outs.length pb.outs.1)), (14, .v (I b.pend))] 2 []) ac w) (o7 : Ow w0 NoB u N F9 b.mem q8) (o24 : Ow w0 NoB u N F26 b.guests q25) (o15 : Ow w0 NoB u N F17 ([] : List Int) q16) (d95 : Disj F9 F26) (d96 : Disj F9 F17) (d97 : Disj F26 F17) (hNN : ∀ b, N0 b → N b ∧ u.heap[b]? = u0.heap[b]? ∧ ¬ F17 b) (hBB : BB σ1.bx.length β0 β) : W 3 (mkL 14 [0, 1, 2, 3, 4, 5, 6, 7, 8, 10, 11]) ac w := by
   refine ox1 hW 9 ?_
   have b102 : b.outs.length ≤ 4194304 := LRd.le (RBare.outs (d := b) (S.arg hb))
   refine id (S.appFlat0 (α := Int) o15 (RBare.outs (d := b) (S.arg hb)) (fun _ _ h => h) (by' := 8) (d := 12) (lx := 0) (ly := b.outs.length) rfl fun ac w N q98 F99 S up o100 d101 => ?_)
   have hb103 := fun b h => (⟨(up b (hNN b h).1 (hNN b h).2.2).1, (up b (hNN b h).1 (hNN b h).2.2).2.trans (hNN b h).2.1⟩ : _ ∧ _)
   refine WD.sc S hb103 hBB fun hC => ?_
   have d104 := d101 _ d96 o7.sub
   have d105 := d101 _ d97 o24.sub
   replace o7 := o7.upF d96 up
   replace o24 := o24.upF d97 up
   clear up d101
   exact S.wh hW [] hC fun _ S => hK90 _ _ q98 F99 q8 F9 q25 F26 _ _ _ S o100 o7 o24 (Disj.symm d104) (Disj.symm d105) d95 hb103 hBB
  have hK106 ac w q8 F9 q25 F26 u N β (S : St Tryz.prog Tryz.f48.ntmps w0 NoB u N β (σ1.dl [1] [(5, .v (slv b.mem.length q8.1)), (8, .v (slv b.guests.length q25.1)), (11, .v (slv b.outs.length pb.outs.1)), (14, .v (I b.pend))] 2 []) ac w) (o7 : Ow w0 NoB u N F9 b.mem q8) (o24 : Ow w0 NoB u N F26 b.guests q25) (d107 : Disj F9 F26) (hNN : NN N0 u0 N u) (hBB : BB σ1.bx.length β0 β) : W 4 (mkL 14 [0, 1, 2, 3, 4, 5, 7, 8, 10, 11]) ac w := by
   refine ox1 hW 6 ?_
   refine id (S.bs0 (α := Int) (d := 9) (by kernel_rfl) fun ac w N q108 F109 S up o110 d111 => ?_)
   have hb112 := fun b h => (⟨(up b (hNN b h).1).1, (up b (hNN b h).1).2.trans (hNN b h).2, d111 b (hNN b h).1⟩ : _ ∧ _ ∧ _)
   refine WD.sc S (fun b h => ⟨(hb112 b h).1, (hb112 b h).2.1⟩) hBB fun hC => ?_
   have d113 := Disj.w d111 o7.sub
   have d114 := Disj.w d111 o24.sub
   replace o7 := o7.up up
   replace o24 := o24.up up
   clear up d111
   exact S.wh hW [] hC fun _ S => hK94 _ _ q8 F9 q25 F26 q108 F109 _ _ _ S o7 o24 o110 d107 d113 d114 hb112 hBB
  have hK115 ac w q8 F9 q16 F17 u N β (S : St Tryz.prog Tryz.f48.ntmps w0 NoB u N β (σ1.dl [1] [(5, .v (slv b.mem.length q8.1)), (7, .v (slv b.guests.length pb.guests.1)), (9, .v (slv 0 q16.1)), (11, .v (slv b.outs.length pb.outs.1)), (14, .v (I b.pend))] 2 []) ac w) (o7 : Ow w0 NoB u N F9 b.mem q8) (o15 : Ow w0 NoB u N F17 ([] : List Int) q16) (d116 : Disj F9 F17) (hNN : ∀ b, N0 b → N b ∧ u.heap[b]? = u0.heap[b]? ∧ ¬ F17 b) (hBB : BB σ1.bx.length β0 β) : W 4 (mkL 14 [0, 1, 2, 3, 4, 6, 7, 8, 10, 11]) ac w := by
   refine ox1 hW 5 ?_
   refine id (S.k1 8 (c_spec_l17Guests w b.guests pb.guests (S.rd (RBare.guests (d := b) (S.arg hb)))) fun ac w N q117 F118 S up o119 d120 => ?_)
   have hb121 := fun b h => (⟨(up b (hNN b h).1).1, (up b (hNN b h).1).2.trans (hNN b h).2.1, (hNN b h).2.2⟩ : _ ∧ _ ∧ _)
   refine WD.sc S (fun b h => ⟨(hb121 b h).1, (hb121 b h).2.1⟩) hBB fun hC => ?_
   have d122 := Disj.w d120 o7.sub
   have d123 := Disj.w d120 o15.sub
   replace o7 := o7.up up
   replace o15 := o15.up up
   clear up d120
   exact S.wh hW [] hC fun _ S => hK94 _ _ q8 F9 q117 F118 q16 F17 _ _ _ S o7 o119 o15 d122 d116 (Disj.symm d123) hb121 hBB
  have hK124 ac w q8 F9 u N β (S : St Tryz.prog Tryz.f48.ntmps w0 NoB u N β (σ1.dl [1] [(5, .v (slv b.mem.length q8.1)), (7, .v (slv b.guests.length pb.guests.1)), (11, .v (slv b.outs.length pb.outs.1)), (14, .v (I b.pend))] 2 []) ac w) (o7 : Ow w0 NoB u N F9 b.mem q8) (hNN : NN N0 u0 N u) (hBB : BB σ1.bx.length β0 β) : W 5 (mkL 14 [0, 1, 2, 3, 4, 7, 8, 10, 11]) ac w := by
   refine ox2 hW 5 6 ?_ ?_
   ·refine id (S.k1 8 (c_spec_l17Guests w b.guests pb.guests (S.rd (RBare.guests (d := b) (S.arg hb)))) fun ac w N q125 F126 S up o127 d128 => ?_)
    have hb129 := fun b h => (⟨(up b (hNN b h).1).1, (up b (hNN b h).1).2.trans (hNN b h).2⟩ : _ ∧ _)
    refine WD.sc S hb129 hBB fun hC => ?_
    have d130 := Disj.w d128 o7.sub
    replace o7 := o7.up up
    clear up d128
    exact S.wh hW [] hC fun _ S => hK106 _ _ q8 F9 q125 F126 _ _ _ S o7 o127 d130 hb129 hBB
   ·refine id (S.bs0 (α := Int) (d := 9) (by kernel_rfl) fun ac w N q131 F132 S up o133 d134 => ?_)
    have hb135 := fun b h => (⟨(up b (hNN b h).1).1, (up b (hNN b h).1).2.trans (hNN b h).2, d134 b (hNN b h).1⟩ : _ ∧ _ ∧ _)
    refine WD.sc S (fun b h => ⟨(hb135 b h).1, (hb135 b h).2.1⟩) hBB fun hC => ?_
    have d136 := Disj.w d134 o7.sub
    replace o7 := o7.up up
    clear up d134
    exact S.wh hW [] hC fun _ S => hK115 _ _ q8 F9 q131 F132 _ _ _ S o7 o133 d136 hb135 hBB
  have hK137 ac w q16 F17 u N β (S : St Tryz.prog Tryz.f48.ntmps w0 NoB u N β (σ1.dl [1] [(4, .v (slv b.mem.length pb.mem.1)), (7, .v (slv b.guests.length pb.guests.1)), (9, .v (slv 0 q16.1)), (11, .v (slv b.outs.length pb.outs.1)), (14, .v (I b.pend))] 2 []) ac w) (o15 : Ow w0 NoB u N F17 ([] : List Int) q16) (hNN : ∀ b, N0 b → N b ∧ u.heap[b]? = u0.heap[b]? ∧ ¬ F17 b) (hBB : BB σ1.bx.length β0 β) : W 5 (mkL 14 [0, 1, 3, 4, 6, 7, 8, 10, 11]) ac w := by
   refine ox1 hW 2 ?_
   refine id (S.k1 5 (c_spec_l04Copy w b.mem pb.mem (S.rd (RBare.mem (d := b) (S.arg hb)))) fun ac w N q138 F139 S up o140 d141 => ?_)
   have hb142 := fun b h => (⟨(up b (hNN b h).1).1, (up b (hNN b h).1).2.trans (hNN b h).2.1, (hNN b h).2.2⟩ : _ ∧ _ ∧ _)
   refine WD.sc S (fun b h => ⟨(hb142 b h).1, (hb142 b h).2.1⟩) hBB fun hC => ?_
   have d143 := Disj.w d141 o15.sub
   replace o15 := o15.up up
   clear up d141
   exact S.wh hW [] hC fun _ S => hK115 _ _ q138 F139 q16 F17 _ _ _ S o140 o15 (Disj.symm d143) hb142 hBB
  have hNN : NN N0 u0 N0 u0 := fun b h => ⟨h, rfl⟩
  have hBB : BB σ1.bx.length β0 β0 := fun _ _ => rfl
  refine ox2 hW 2 6 ?_ ?_
  ·refine id (S.k1 5 (c_spec_l04Copy w b.mem pb.mem (S.rd (RBare.mem (d := b) (S.arg hb)))) fun ac w N q144 F145 S up o146 d147 => ?_)
   have hb148 := fun b h => (⟨(up b (hNN b h).1).1, (up b (hNN b h).1).2.trans (hNN b h).2⟩ : _ ∧ _)
   refine WD.sc S hb148 hBB fun hC => ?_
   clear up d147
   exact S.wh hW [] hC fun _ S => hK124 _ _ q144 F145 _ _ _ S o146 hb148 hBB
  ·refine id (S.bs0 (α := Int) (d := 9) (by kernel_rfl) fun ac w N q149 F150 S up o151 d152 => ?_)
   have hb153 := fun b h => (⟨(up b (hNN b h).1).1, (up b (hNN b h).1).2.trans (hNN b h).2, d152 b (hNN b h).1⟩ : _ ∧ _ ∧ _)
   refine WD.sc S (fun b h => ⟨(hb153 b h).1, (hb153 b h).2.1⟩) hBB fun hC => ?_
   clear up d152
   exact S.wh hW [] hC fun _ S => hK137 _ _ q149 F150 _ _ _ S o151 hb153 hBB
 clear S
 rintro ac w ⟨q77, F78, q74, F75, q80, F81, u, N, β, S, o76, o73, o79, d154, d155, d156⟩
 refine S.ex fun S => ?_
 refine S.gr 2 .nil [GT.val (⟨b.mem, b.guests, b.outs, b.pend⟩ : TBare) (⟨q74, q77, q80⟩ : PBare)] fun ac w β S => ?_
 have o157 := ow_Bare (x := (⟨b.mem, b.guests, b.outs, b.pend⟩ : TBare)) (p := (⟨q74, q77, q80⟩ : PBare)) o73 o76 o79 (Disj.symm d154) d156 d155 (RBare.pend (d := b) (S.arg hb))
 exact ret1_of S (show b = (⟨b.mem, b.guests, b.outs, b.pend⟩ : TBare) by clear S; (first | rfl | simp)) rfl o157

theorem c_spec_l28Bares (w0 : World) (l : List TBare) (pl : LP TBare) (hl : RD w0 l pl) : Calls Tryz.prog 14 [slv l.length pl.1].toArray w0 (Ret1 NoB w0 (l : List TBare)) := by
 refine Calls.run NoB Tryz.func14 ?_
 intro ac β S
 have hlel : l.length ≤ 4194304 := LRd.le hl
 refine S.go 7 .nil fun ac w β S => S.B0 (α := TBare) (d := 5) fun ac w N q1 F2 S up o3 d4 => ?_
 clear up d4
 refine S.go 10 .nil fun ac w β S => ?_
 refine lp (fun mm ac w => ∃ (k : Nat) (acc : List TBare) (q5 : _) (F6 : _) (u : _) (N : _) (β : _), mm = l.length - k ∧ (k ≤ l.length) ∧ (acc = l.take k) ∧ St Tryz.prog Tryz.f14.ntmps w0 NoB u N β ⟨[(0, .v (slv l.length pl.1)), (3, .v (slv acc.length q5.1)), (4, .v (I (k : Int)))], []⟩ ac w ∧ Ow w0 NoB u N F6 acc q5) _ ⟨0, ([] : List TBare), q1, F2, _, _, _, rfl, o0, (by simp), S.z, o3⟩ ?_
 clear S o3
 rintro f8 mm hf9 ac w ⟨k, acc, q5, F6, u, N, β, rfl, hk, hacc, S, o7⟩
 refine S.rs fun S => ?_
 have hlacc : acc.length = k := by rw [hacc]; simp; omega
 refine S.gd 9 .nil (decide ((k : Int) < (l.length : Int))) (fun ac w β h10 g11 S => ?_) (fun ac w β h10 g11 S => ?_)
 ·refine S.go 11 (.cons (qn (S.arg hl) k Tryz.underlying26) (.cons (qs (S.arg hl) 50 k) .nil)) fun ac w β S => S.K1 (r := (el l k)) (d := 17) (c_spec_l17Copy w (el l k) (pl.2 k) (S.rd (LRd.el (S.arg hl) k (by omega)))) fun ac w N q12 F13 S up o14 d15 => ?_
  have d16 := Disj.w d15 o7.sub
  replace o7 := o7.up up
  clear up d15
  refine S.B1 (α := TBare) (x := (el l k)) (p := q12) o14.own o14.sub o14.young (d := 18) fun ac w N q17 F18 S up o19 d20 => ?_
  have d21 := d20 _ d16 o7.sub
  replace o7 := o7.up up
  clear up d20
  refine S.AO (α := TBare) o7 o19 d21 (by' := 80) (d := 19) (lx := acc.length) (ly := 1) rfl rfl (show _ ≤ 4194304 by simp only [List.length_append, List.length_cons, List.length_nil]; omega) fun ac w N q22 F23 S up o24 d25 => ?_
  clear up d25
  refine S.ge 9 (.cons (qp (k : Int) 1) .nil) f8 fun ac w β S => hf9.of (l.length - (k + 1)) _ _ (by omega) ⟨k + 1, (acc ++ [(el l k)]), q22, F23, _, _, _, rfl, ?_, ?_, S.z, o24⟩
  ·exact oz
  ·clear S; (first | (rw [take_el (by omega), hacc]; done) | (rw [take_el (by omega), hacc]; simp; done))
 refine S.gr 13 .nil [slv acc.length q5.1] fun ac w β S => ?_
 exact ret1_of S (show l = acc by clear S; (rw [hacc, take_all (by omega)])) rfl o7

theorem k0_spec_l01In {p : Prop} (h : p := by clear S; first | rfl | (simp [f_within, *]; done) | (simp [f_within, *]; omega) | (simp_all [f_within]; done) | (simp_all [f_within]; omega)) : p := h
theorem c_spec_l01In (w0 : World) (x : Int) (a : Int) (b : Int) : Calls Tryz.prog 17 [I x, I a, I b].toArray w0 (fun e w' => e = .returned (B (f_within x a b)) ∧ Chg NoB w0 w') := by
 refine Calls.run NoB Tryz.func17 ?_
 intro ac β S
 refine S.gd 11 .nil (decide (x ≥ a)) (fun ac w β h1 g2 S => ?_) (fun ac w β h1 g2 S => ?_)
 ·exact S.gf 8 .nil [B (decide (x ≤ b))] (retB k0_spec_l01In)
 exact S.gf 8 .nil [B false] (retB k0_spec_l01In)

theorem c_spec_ActOk (w0 : World) (a : TAct) : Calls Tryz.prog 15 [GT.val a ()].toArray w0 (fun e w' => e = .returned (B (f_actOk a)) ∧ Chg NoB w0 w') := by
 refine Calls.run NoB Tryz.func15 ?_
 intro ac β S
 exact S.gf 15 (.cons (Q_call fun w hw => c_spec_l01In w a.kind 1 17) .nil) [B (f_within a.kind 1 17)] (retB (by clear S; first | rfl | (simp [f_actOk, *]; done) | (simp [f_actOk, *]; omega) | (simp_all [f_actOk]; done) | (simp_all [f_actOk]; omega)))

theorem c_spec_IsOuter (w0 : World) (k : Int) : Calls Tryz.prog 16 [I k].toArray w0 (fun e w' => e = .returned (B (f_isOuter k)) ∧ Chg NoB w0 w') := by
 refine Calls.run NoB Tryz.func16 ?_
 intro ac β S
 exact S.gf 13 (.cons (Q_call fun w hw => c_spec_l01In w k 13 17) .nil) [B (f_within k 13 17)] (retB (by clear S; first | rfl | (simp [f_isOuter, *]; done) | (simp [f_isOuter, *]; omega) | (simp_all [f_isOuter]; done) | (simp_all [f_isOuter]; omega)))

theorem k0_spec_GuestAt {p : Prop} (h : p := by clear S; (first | (unfold f_guestAt; rw [if_pos (by omega)]; done) | (unfold f_guestAt; rw [if_pos (by omega)]; first | rfl | (simp; done)) | (unfold f_guestAt; rw [if_neg (by omega)]; done) | (unfold f_guestAt; rw [if_neg (by omega)]; first | rfl | (simp; done)))) : p := h
theorem c_spec_GuestAt (w0 : World) (b : TBare) (pb : PBare) (hb : RD w0 b pb) (g : Int) : Calls Tryz.prog 49 [GT.val b pb, I g].toArray w0 (Ret2 NoB w0 ((f_guestAt b g).1 : TGuest) ((f_guestAt b g).2 : Bool)) := by
 refine Calls.run NoB Tryz.func49 ?_
 intro ac β S
 have hleb_mem : b.mem.length ≤ 4194304 := LRd.le (RBare.mem (d := b) hb)
 have hleb_guests : b.guests.length ≤ 4194304 := LRd.le (RBare.guests (d := b) hb)
 have hleb_outs : b.outs.length ≤ 4194304 := LRd.le (RBare.outs (d := b) hb)
 refine S.gb 19 (.cons (qm (b.guests.length : Int) 1) (.cons (Q_call fun w hw => c_spec_l01In w g 0 ((b.guests.length : Int) - 1)) .nil)) (!(f_within g 0 ((b.guests.length : Int) - 1))) (fun ac w β h1 S => ?_) (fun ac w β h1 S => ?_)
 ·have h2 := not_t h1
  have g3 := within_f h2
  refine S.gr 9 (.cons (Q_sem (s := Instr.build 81 [].toArray) (v := .agg [slv ([] : List TIns).length (GT.pdflt (α := List TIns)).1, I 0, I 0, slv ([] : List TSlot).length (GT.pdflt (α := List TSlot)).1, slv ([] : List TSlot).length (GT.pdflt (α := List TSlot)).1, I 0, I 0, B false, I 0, I 0, I 0, B false, I 0, B false, slv ([] : List Int).length (GT.pdflt (α := List Int)).1].toArray) (fun w => by kernel_rfl)) .nil) [GT.val (⟨([] : List TIns), 0, 0, ([] : List TSlot), ([] : List TSlot), (⟨0, 0, false⟩ : TCtl), 0, (⟨0, 0, false, 0⟩ : TExit), false, ([] : List Int)⟩ : TGuest) (⟨(GT.pdflt (α := List TIns)), (GT.pdflt (α := List TSlot)), (GT.pdflt (α := List TSlot)), (GT.pdflt (α := List Int))⟩ : PGuest), B false] fun ac w β S => ?_
  have o4 := S.nilOw (α := TIns)
  have o5 := S.nilOw (α := TSlot)
  have o6 := S.nilOw (α := TSlot)
  have o7 := S.nilOw (α := Int)
  have o8 := ow_Guest (x := (⟨([] : List TIns), 0, 0, ([] : List TSlot), ([] : List TSlot), (⟨0, 0, false⟩ : TCtl), 0, (⟨0, 0, false, 0⟩ : TExit), false, ([] : List Int)⟩ : TGuest)) (p := (⟨(GT.pdflt (α := List TIns)), (GT.pdflt (α := List TSlot)), (GT.pdflt (α := List TSlot)), (GT.pdflt (α := List Int))⟩ : PGuest)) o4 o5 o6 o7 (fun b _ h => False.elim h) (fun b _ h => False.elim h) (fun b _ h => False.elim h) (fun b _ h => False.elim h) (fun b _ h => False.elim h) (fun b _ h => False.elim h) (show In64 0 from ⟨by decide, by decide⟩) (show In64 0 from ⟨by decide, by decide⟩) (show RCtl (⟨0, 0, false⟩ : TCtl) from ⟨(show In64 0 from ⟨by decide, by decide⟩), (show In64 0 from ⟨by decide, by decide⟩)⟩) (show In64 0 from ⟨by decide, by decide⟩) (show RExit (⟨0, 0, false, 0⟩ : TExit) from ⟨(show In64 0 from ⟨by decide, by decide⟩), (show In64 0 from ⟨by decide, by decide⟩), (show In64 0 from ⟨by decide, by decide⟩)⟩)
  exact ret2_of (p' := ()) S (show (f_guestAt b g).1 = (⟨([] : List TIns), 0, 0, ([] : List TSlot), ([] : List TSlot), (⟨0, 0, false⟩ : TCtl), 0, (⟨0, 0, false, 0⟩ : TExit), false, ([] : List Int)⟩ : TGuest) from k0_spec_GuestAt) (show (f_guestAt b g).2 = false from k0_spec_GuestAt) rfl rfl o8 trivial
 have h9 := not_f h1
 have g10 := within_t h9
 refine S.go 10 (.cons (qt (RBare.guests (d := b) (S.arg hb)) g Tryz.underlying48) (.cons (qs (RBare.guests (d := b) (S.arg hb)) 81 g.toNat) .nil)) fun ac w β S => S.K1 (r := (el b.guests g.toNat)) (d := 19) (c_spec_l15Copy w (el b.guests g.toNat) (pb.guests.2 g.toNat) (S.rd (LRd.el (RBare.guests (d := b) (S.arg hb)) g.toNat (by omega)))) fun ac w N q11 F12 S up o13 d14 => ?_
 clear up d14
 refine S.gr 5 .nil [GT.val (el b.guests g.toNat) q11, B true] fun ac w β S => ?_
 exact ret2_of (p' := ()) S (show (f_guestAt b g).1 = (el b.guests g.toNat) from k0_spec_GuestAt) (show (f_guestAt b g).2 = true from k0_spec_GuestAt) rfl rfl o13 trivial

theorem k0_spec_CanRun {p : Prop} (h : p := by clear S; first | rfl | (simp [f_canRun, *]; done) | (simp [f_canRun, *]; omega) | (simp_all [f_canRun]; done) | (simp_all [f_canRun]; omega)) : p := h
theorem c_spec_CanRun (w0 : World) (g : TGuest) (pg : PGuest) (hg : RD w0 g pg) : Calls Tryz.prog 110 [GT.val g pg].toArray w0 (fun e w' => e = .returned (B (f_canRun g)) ∧ Chg NoB w0 w') := by
 refine Calls.run NoB Tryz.func110 ?_
 intro ac β S
 have hleg_prog : g.prog.length ≤ 4194304 := LRd.le (RGuest.prog (d := g) hg)
 have hleg_written : g.written.length ≤ 4194304 := LRd.le (RGuest.written (d := g) hg)
 have hleg_live : g.live.length ≤ 4194304 := LRd.le (RGuest.live (d := g) hg)
 have hleg_seen : g.seen.length ≤ 4194304 := LRd.le (RGuest.seen (d := g) hg)
 refine S.gb 13 (.cons (Q_sem (s := Instr.build 79 [].toArray) (v := .agg [I 0, I 0, B false, I 0].toArray) (fun w => by kernel_rfl)) (.cons (Eq_eq_Exit (t := 79) g.exit (⟨0, 0, false, 0⟩ : TExit) (by kernel_rfl)) .nil)) (decide (g.exit = (⟨0, 0, false, 0⟩ : TExit))) (fun ac w β h1 S => ?_) (fun ac w β h1 S => ?_)
 ·exact S.gf 8 .nil [B (!g.halted)] (retB k0_spec_CanRun)
 exact S.gf 8 .nil [B false] (retB k0_spec_CanRun)

theorem c_spec_PendOk (w0 : World) (p : Int) : Calls Tryz.prog 114 [I p].toArray w0 (fun e w' => e = .returned (B (f_within p 0 255)) ∧ Chg NoB w0 w') := by
 refine Calls.run NoB Tryz.func114 ?_
 intro ac β S
 exact S.gf 13 (.cons (Q_call fun w hw => c_spec_l01In w p 0 255) .nil) [B (f_within p 0 255)] (retB (by clear S; first | rfl | (simp [f_within, *]; done) | (simp [f_within, *]; omega) | (simp_all [f_within]; done) | (simp_all [f_within]; omega)))

theorem k0_spec_TopIrq {p : Prop} (h : p := by clear S; (first | (exact (topIrq_hit (by assumption) hn (by omega) (by assumption) hb).symm) | (rcases Bool.eq_false_or_eq_true (f_within p 0 255) with hp | hp; exact (topIrq_none hp (by omega) hb).symm; exact (topIrq_out hp).symm) | (exact (topIrq_out (by assumption)).symm))) : p := h
theorem c_spec_TopIrq (w0 : World) (p : Int) : Calls Tryz.prog 124 [I p].toArray w0 (fun e w' => e = .returned (I (f_topIrq p)) ∧ Chg NoB w0 w') := by
 refine Calls.run NoB Tryz.func124 ?_
 intro ac β S
 refine S.go 12 .nil fun ac w β S => ?_
 refine lp (fun mm ac w => ∃ (n : Int)  (u : _) (N : _) (β : _), mm = (n + 1).toNat ∧ (-1 ≤ n ∧ n ≤ 7) ∧ (∀ j : Nat, n < (j : Int) → j < 8 → ¬ land64 (shr64 p (j : Int)) 1 = 1) ∧ St Tryz.prog Tryz.f124.ntmps w0 NoB u N β ⟨[(0, .v (I p)), (3, .v (I n))], []⟩ ac w) _ ⟨7, _, _, _, rfl, (by omega), (by (intro j h1 h2; omega)), S.z⟩ ?_
 clear S
 rintro f1 mm hf2 ac w ⟨n, u, N, β, rfl, hn, hb, S⟩
 refine S.rs fun S => ?_
 refine S.gd 6 .nil (decide (n ≥ 0)) (fun ac w β h3 g4 S => ?_) (fun ac w β h3 g4 S => ?_)
 ·refine S.gb 5 (.cons (Q_call fun w hw => c_spec_PendOk w p) .nil) (f_within p 0 255) (fun ac w β h5 S => ?_) (fun ac w β h5 S => ?_)
  ·have g6 := within_t h5
   refine S.gd 15 (.cons (Q_convu (s := 3) (d := 131) (x := n) Tryz.underlying3 Tryz.underlying131 (by omega) (by omega)) (.cons (Q_shr (yk := .u64) (x := p) (y := n) (by omega)) (.cons (Q_land64 (x := (shr64 p n)) (y := 1)) .nil))) ((land64 (shr64 p n) 1) == 1) (fun ac w β h7 g8 S => ?_) (fun ac w β h7 g8 S => ?_)
   ·exact S.gf 8 .nil [I n] (retI k0_spec_TopIrq)
   refine S.ge 9 (.cons (qm n 1) .nil) f1 fun ac w β S => hf2.of ((n - 1) + 1).toNat _ _ (by omega) ⟨(n - 1), _, _, _, rfl, ?_, ?_, S.z⟩
   ·clear S; omega
   ·clear S; (intro j h1 h2; by_cases e : (j : Int) = n; rw [e]; assumption; exact hb j (by omega) h2)
  have g9 := within_f h5
  exact S.gf 12 .nil [I (-1)] (retI k0_spec_TopIrq)
 exact S.gf 17 .nil [I (-1)] (retI k0_spec_TopIrq)

theorem c_spec_TakesIrq (w0 : World) (g : TGuest) (pg : PGuest) (hg : RD w0 g pg) : Calls Tryz.prog 111 [GT.val g pg].toArray w0 (fun e w' => e = .returned (B (f_takesIrq g)) ∧ Chg NoB w0 w') := by
 refine Calls.run NoB Tryz.func111 ?_
 intro ac β S
 have hleg_prog : g.prog.length ≤ 4194304 := LRd.le (RGuest.prog (d := g) hg)
 have hleg_written : g.written.length ≤ 4194304 := LRd.le (RGuest.written (d := g) hg)
 have hleg_live : g.live.length ≤ 4194304 := LRd.le (RGuest.live (d := g) hg)
 have hleg_seen : g.seen.length ≤ 4194304 := LRd.le (RGuest.seen (d := g) hg)
 refine S.gb 11 (.cons (Q_call fun w hw => c_spec_CanRun w g pg (rd_of (S.arg hg) hw)) .nil) (f_canRun g) (fun ac w β h1 S => ?_) (fun ac w β h1 S => ?_)
 ·refine S.gb 5 .nil g.ctl.opn (fun ac w β h2 S => ?_) (fun ac w β h2 S => ?_)
  ·have b3 := topIrq_bd g.pend
   exact S.gf 9 (.cons (Q_call fun w hw => c_spec_TopIrq w g.pend) .nil) [B (decide ((f_topIrq g.pend) ≥ 0))] (retB (by clear S; (simp [f_takesIrq, *])))
  exact S.gf 9 .nil [B false] (retB (by clear S; (simp [f_takesIrq, *])))
 exact S.gf 14 .nil [B false] (retB (by clear S; (simp [f_takesIrq, *])))

theorem k0_spec_InsAt {p : Prop} (h : p := by clear S; (first | (unfold f_insAt; rw [if_pos (by omega)]; done) | (unfold f_insAt; rw [if_pos (by omega)]; first | rfl | (simp; done)) | (unfold f_insAt; rw [if_neg (by omega)]; done) | (unfold f_insAt; rw [if_neg (by omega)]; first | rfl | (simp; done)))) : p := h
theorem c_spec_InsAt (w0 : World) (p : List TIns) (pp : LP TIns) (hp : RD w0 p pp) (pc : Int) : Calls Tryz.prog 67 [slv p.length pp.1, I pc].toArray w0 (fun e w' => e = .returned (GT.val (f_insAt p pc) ()) ∧ Chg NoB w0 w') := by
 refine Calls.run NoB Tryz.func67 ?_
 intro ac β S
 have hlep : p.length ≤ 4194304 := LRd.le hp
 refine S.gb 16 (.cons (qm (p.length : Int) 1) (.cons (Q_call fun w hw => c_spec_l01In w pc 0 ((p.length : Int) - 1)) .nil)) (!(f_within pc 0 ((p.length : Int) - 1))) (fun ac w β h1 S => ?_) (fun ac w β h1 S => ?_)
 ·have h2 := not_t h1
  have g3 := within_f h2
  exact S.gf 8 (.cons (Q_sem (s := Instr.build 98 [(0, I 7)].toArray) (v := .agg [I 7, I 0].toArray) (fun w => by kernel_rfl)) .nil) [GT.val (⟨7, 0⟩ : TIns) ()] (retV (p := ()) k0_spec_InsAt)
 have h4 := not_f h1
 have g5 := within_t h4
 exact S.gf 13 (.cons (qt (S.arg hp) pc Tryz.underlying76) (.cons (qs (S.arg hp) 98 pc.toNat) .nil)) [GT.val (el p pc.toNat) ()] (retV (p := ()) k0_spec_InsAt)

theorem k0_spec_WantOf {p : Prop} (h : p := by clear S; (unfold f_wantOf; first | (rw [if_pos (by assumption)]; done) | (rw [if_neg (by simp [*]), if_pos (by assumption)]; done) | (rw [if_neg (by simp [*]), if_neg (by simp [*])]; unfold f_wantOp; first | (rw [if_pos (by assumption)]; done) | (rw [if_neg (by assumption), if_pos (by assumption)]; done) | (rw [if_neg (by assumption), if_neg (by assumption), if_pos (by assumption)]; done) | (rw [if_neg (by assumption), if_neg (by assumption), if_neg (by assumption), if_pos (by assumption)]; done) | (rw [if_neg (by assumption), if_neg (by assumption), if_neg (by assumption), if_neg (by assumption), if_pos (by assumption)]; done) | (rw [if_neg (by assumption), if_neg (by assumption), if_neg (by assumption), if_neg (by assumption), if_neg (by assumption)]; done)))) : p := h
theorem c_spec_WantOf (w0 : World) (g : TGuest) (pg : PGuest) (hg : RD w0 g pg) : Calls Tryz.prog 50 [GT.val g pg].toArray w0 (fun e w' => e = .returned (I (f_wantOf g)) ∧ Chg NoB w0 w') := by
 refine Calls.run NoB Tryz.func50 ?_
 intro ac β S
 have hleg_prog : g.prog.length ≤ 4194304 := LRd.le (RGuest.prog (d := g) hg)
 have hleg_written : g.written.length ≤ 4194304 := LRd.le (RGuest.written (d := g) hg)
 have hleg_live : g.live.length ≤ 4194304 := LRd.le (RGuest.live (d := g) hg)
 have hleg_seen : g.seen.length ≤ 4194304 := LRd.le (RGuest.seen (d := g) hg)
 refine S.gb 14 (.cons (Q_call fun w hw => c_spec_CanRun w g pg (rd_of (S.arg hg) hw)) .nil) (!(f_canRun g)) (fun ac w β h1 S => ?_) (fun ac w β h1 S => ?_)
 ·have h2 := not_t h1
  exact S.gf 7 .nil [I 0] (retI k0_spec_WantOf)
 have h3 := not_f h1
 refine S.gb 10 (.cons (Q_call fun w hw => c_spec_TakesIrq w g pg (rd_of (S.arg hg) hw)) .nil) (f_takesIrq g) (fun ac w β h4 S => ?_) (fun ac w β h4 S => ?_)
 ·exact S.gf 7 .nil [I 1] (retI k0_spec_WantOf)
 refine S.gd 21 (.cons (Q_call fun w hw => c_spec_InsAt w g.prog pg.prog (rd_of (RGuest.prog (d := g) (S.arg hg)) hw) g.pc) .nil) ((f_insAt g.prog g.pc).opc == 3) (fun ac w β h5 g6 S => ?_) (fun ac w β h5 g6 S => ?_)
 ·exact S.gf 7 .nil [I 3] (retI k0_spec_WantOf)
 refine S.gd 7 .nil ((f_insAt g.prog g.pc).opc == 4) (fun ac w β h7 g8 S => ?_) (fun ac w β h7 g8 S => ?_)
 ·exact S.gf 7 .nil [I 4] (retI k0_spec_WantOf)
 refine S.gd 7 .nil ((f_insAt g.prog g.pc).opc == 5) (fun ac w β h9 g10 S => ?_) (fun ac w β h9 g10 S => ?_)
 ·exact S.gf 7 .nil [I 5] (retI k0_spec_WantOf)
 refine S.gd 7 .nil ((f_insAt g.prog g.pc).opc == 6) (fun ac w β h11 g12 S => ?_) (fun ac w β h11 g12 S => ?_)
 ·exact S.gf 7 .nil [I 6] (retI k0_spec_WantOf)
 refine S.gd 7 .nil ((f_insAt g.prog g.pc).opc == 7) (fun ac w β h13 g14 S => ?_) (fun ac w β h13 g14 S => ?_)
 ·exact S.gf 7 .nil [I 7] (retI k0_spec_WantOf)
 exact S.gf 10 .nil [I 2] (retI k0_spec_WantOf)

theorem k0_spec_InsOk {p : Prop} (h : p := by clear S; first | rfl | (simp [f_insOk, *]; done) | (simp [f_insOk, *]; omega) | (simp_all [f_insOk]; done) | (simp_all [f_insOk]; omega)) : p := h
theorem c_spec_InsOk (w0 : World) (i : TIns) : Calls Tryz.prog 198 [GT.val i ()].toArray w0 (fun e w' => e = .returned (B (f_insOk i)) ∧ Chg NoB w0 w') := by
 refine Calls.run NoB Tryz.func198 ?_
 intro ac β S
 refine S.gd 21 .nil (i.opc == 1) (fun ac w β h1 g2 S => ?_) (fun ac w β h1 g2 S => ?_)
 ·exact S.gf 13 (.cons (Q_call fun w hw => c_spec_l01In w i.x 0 99) .nil) [B (f_within i.x 0 99)] (retB k0_spec_InsOk)
 refine S.gd 7 .nil (i.opc == 2) (fun ac w β h3 g4 S => ?_) (fun ac w β h3 g4 S => ?_)
 ·exact S.gf 13 (.cons (Q_call fun w hw => c_spec_l01In w i.x 0 99) .nil) [B (f_within i.x 0 99)] (retB k0_spec_InsOk)
 refine S.gd 7 .nil (i.opc == 5) (fun ac w β h5 g6 S => ?_) (fun ac w β h5 g6 S => ?_)
 ·exact S.gf 13 (.cons (Q_call fun w hw => c_spec_l01In w i.x 0 99) .nil) [B (f_within i.x 0 99)] (retB k0_spec_InsOk)
 refine S.gd 6 .nil (i.opc == 6) (fun ac w β h7 g8 S => ?_) (fun ac w β h7 g8 S => ?_)
 ·exact S.gf 10 (.cons (Q_call fun w hw => c_spec_l01In w i.x 0 99) .nil) [B (f_within i.x 0 99)] (retB k0_spec_InsOk)
 refine S.gd 8 .nil (i.opc == 3) (fun ac w β h9 g10 S => ?_) (fun ac w β h9 g10 S => ?_)
 ·exact S.gf 13 (.cons (Q_call fun w hw => c_spec_l01In w i.x 0 15) .nil) [B (f_within i.x 0 15)] (retB k0_spec_InsOk)
 refine S.gd 6 .nil (i.opc == 4) (fun ac w β h11 g12 S => ?_) (fun ac w β h11 g12 S => ?_)
 ·exact S.gf 10 (.cons (Q_call fun w hw => c_spec_l01In w i.x 0 15) .nil) [B (f_within i.x 0 15)] (retB k0_spec_InsOk)
 refine S.gd 7 .nil (i.opc == 7) (fun ac w β h13 g14 S => ?_) (fun ac w β h13 g14 S => ?_)
 ·exact S.gf 10 .nil [B (i.x == 0)] (retB k0_spec_InsOk)
 refine S.gd 7 .nil (i.opc == 8) (fun ac w β h15 g16 S => ?_) (fun ac w β h15 g16 S => ?_)
 ·exact S.gf 10 (.cons (Q_call fun w hw => c_spec_l01In w i.x 0 11) .nil) [B (f_within i.x 0 11)] (retB k0_spec_InsOk)
 exact S.gf 10 .nil [B false] (retB k0_spec_InsOk)

theorem c_spec_ProgOk (w0 : World) (p : List TIns) (pp : LP TIns) (hp : RD w0 p pp) : Calls Tryz.prog 171 [slv p.length pp.1].toArray w0 (fun e w' => e = .returned (B (f_progOk p)) ∧ Chg NoB w0 w') := by
 refine Calls.run NoB Tryz.func171 ?_
 intro ac β S
 have hlep : p.length ≤ 4194304 := LRd.le hp
 refine S.go 12 .nil fun ac w β S => ?_
 refine lp (fun mm ac w => ∃ (k : Nat)  (u : _) (N : _) (β : _), mm = p.length - k ∧ (k ≤ p.length) ∧ ((p.take k).all f_insOk = true) ∧ St Tryz.prog Tryz.f171.ntmps w0 NoB u N β ⟨[(0, .v (slv p.length pp.1)), (3, .v (I (k : Int)))], []⟩ ac w) _ ⟨0, _, _, _, rfl, o0, (by simp), S.z⟩ ?_
 clear S
 rintro f1 mm hf2 ac w ⟨k, u, N, β, rfl, hk, he, S⟩
 refine S.rs fun S => ?_
 refine S.gd 9 .nil (decide ((k : Int) < (p.length : Int))) (fun ac w β h3 g4 S => ?_) (fun ac w β h3 g4 S => ?_)
 ·refine S.gb 15 (.cons (qn (S.arg hp) k Tryz.underlying76) (.cons (qs (S.arg hp) 98 k) (.cons (Q_call fun w hw => c_spec_InsOk w (el p k)) .nil))) (!(f_insOk (el p k))) (fun ac w β h5 S => ?_) (fun ac w β h5 S => ?_)
  ·have h6 := not_t h5
   exact S.gf 7 .nil [B false] (retB (by clear S; (first | (unfold f_progOk; rw [all_bad (k := k) (by omega) (by first | assumption | simp_all)]; simp; done) | (unfold f_progOk; rw [all_end (by omega) he]; simp; done) | (unfold f_progOk; rw [all_end (by omega) he]; simp [*]; done) | (unfold f_progOk; rw [all_end (by omega) he]; simp; omega))))
  have h7 := not_f h5
  refine S.ge 9 (.cons (qp (k : Int) 1) .nil) f1 fun ac w β S => hf2.of (p.length - (k + 1)) _ _ (by omega) ⟨k + 1, _, _, _, rfl, ?_, ?_, S.z⟩
  ·exact oz
  ·clear S; exact all_step (by omega) he (by first | assumption | (simp only [f_slotOk, f_within] at *; simp_all; done) | (simp_all; done) | (simp_all; omega))
 exact S.gf 15 (.cons (Q_call fun w hw => c_spec_l01In w (p.length : Int) 1 12) .nil) [B (f_within (p.length : Int) 1 12)] (retB (by clear S; (first | (unfold f_progOk; rw [all_end (by omega) he]; simp; done) | (unfold f_progOk; rw [all_end (by omega) he]; simp [*]; done) | (unfold f_progOk; rw [all_end (by omega) he]; simp; omega) | (unfold f_progOk; rw [all_bad (k := k) (by omega) (by first | assumption | simp_all)]; simp; done))))

theorem c_spec_NoSlot (w0 : World)  : Calls Tryz.prog 121 [].toArray w0 (fun e w' => e = .returned (GT.val (⟨-1, 0⟩ : TSlot) ()) ∧ Chg NoB w0 w') := by
 refine Calls.run NoB Tryz.func121 ?_
 intro ac β S
 exact S.gf 12 (.cons (Q_sem (s := Instr.build 55 [(0, I (-1))].toArray) (v := .agg [I (-1), I 0].toArray) (fun w => by kernel_rfl)) .nil) [GT.val (⟨(-1), 0⟩ : TSlot) ()] (retV (p := ()) (by clear S; first | rfl | (simp [id, *]; done) | (simp [id, *]; omega) | (simp_all [id]; done) | (simp_all [id]; omega)))

theorem k0_spec_SlotOk {p : Prop} (h : p := by clear S; first | rfl | (simp [f_slotOk, *]; done) | (simp [f_slotOk, *]; omega) | (simp_all [f_slotOk]; done) | (simp_all [f_slotOk]; omega)) : p := h
theorem c_spec_SlotOk (w0 : World) (s : TSlot) (pages : Int) (pre0 : 0 ≤ pages) (pre1 : pages ≤ 1000) : Calls Tryz.prog 69 [GT.val s (), I pages].toArray w0 (fun e w' => e = .returned (B (f_slotOk s pages)) ∧ Chg NoB w0 w') := by
 refine Calls.run NoB Tryz.func69 ?_
 intro ac β S
 refine S.go 7 .nil fun ac w β S => ?_
 refine drw ?_
 rcases Bool.eq_false_or_eq_true (decide (s = (⟨-1, 0⟩ : TSlot))) with h1 | h1
 ·refine S.drawnO [(3, true)] (keep := [4]) (m := 0) (σ' := ⟨[(4, .v (B true))], []⟩) (.cons (Q_call fun w hw => c_spec_NoSlot w ) (.cons (Eq_eq_Slot (t := 55) s (⟨-1, 0⟩ : TSlot) (by kernel_rfl)) .nil)) rfl (by kernel_rfl) (by kernel_rfl) (.cons h1 .nil) fun ac w S => ?_
  refine S.ex fun S => ?_
  exact S.gf 2 .nil [B true] (retB k0_spec_SlotOk)
 ·rcases Bool.eq_false_or_eq_true (f_within s.page 0 (pages - 1)) with h2 | h2
  ·have g3 := within_t h2
   rcases Bool.eq_false_or_eq_true (decide (pages > 0)) with h4 | h4
   ·have g5 := of_decide_eq_true h4
    refine S.drawnO [(3, false), (9, true), (13, true)] (keep := [4]) (m := 0) (σ' := ⟨[(4, .v (B (f_within s.rights 1 3)))], []⟩) (.cons (Q_call fun w hw => c_spec_NoSlot w ) (.cons (Eq_eq_Slot (t := 55) s (⟨-1, 0⟩ : TSlot) (by kernel_rfl)) (.cons (qm pages 1) (.cons (Q_call fun w hw => c_spec_l01In w s.page 0 (pages - 1)) (.cons (Q_call fun w hw => c_spec_l01In w s.rights 1 3) .nil))))) rfl (by kernel_rfl) (by kernel_rfl) (.cons h1 (.cons h2 (.cons h4 .nil))) fun ac w S => ?_
    refine S.ex fun S => ?_
    exact S.gf 2 .nil [B (f_within s.rights 1 3)] (retB k0_spec_SlotOk)
   ·have g6 := of_decide_eq_false h4
    refine S.drawnO [(3, false), (9, true), (13, false)] (keep := [4]) (m := 0) (σ' := ⟨[(4, .v (B false))], []⟩) (.cons (Q_call fun w hw => c_spec_NoSlot w ) (.cons (Eq_eq_Slot (t := 55) s (⟨-1, 0⟩ : TSlot) (by kernel_rfl)) (.cons (qm pages 1) (.cons (Q_call fun w hw => c_spec_l01In w s.page 0 (pages - 1)) .nil)))) rfl (by kernel_rfl) (by kernel_rfl) (.cons h1 (.cons h2 (.cons h4 .nil))) fun ac w S => ?_
    refine S.ex fun S => ?_
    exact S.gf 2 .nil [B false] (retB k0_spec_SlotOk)
  ·have g7 := within_f h2
   refine S.drawnO [(3, false), (9, false)] (keep := [4]) (m := 0) (σ' := ⟨[(4, .v (B false))], []⟩) (.cons (Q_call fun w hw => c_spec_NoSlot w ) (.cons (Eq_eq_Slot (t := 55) s (⟨-1, 0⟩ : TSlot) (by kernel_rfl)) (.cons (qm pages 1) (.cons (Q_call fun w hw => c_spec_l01In w s.page 0 (pages - 1)) .nil)))) rfl (by kernel_rfl) (by kernel_rfl) (.cons h1 (.cons h2 .nil)) fun ac w S => ?_
   refine S.ex fun S => ?_
   exact S.gf 2 .nil [B false] (retB k0_spec_SlotOk)

theorem c_spec_TableOk (w0 : World) (t : List TSlot) (pt : LP TSlot) (ht : RD w0 t pt) (size : Int) (pages : Int) (pre0 : 0 ≤ pages) (pre1 : pages ≤ 1000) : Calls Tryz.prog 172 [slv t.length pt.1, I size, I pages].toArray w0 (fun e w' => e = .returned (B (f_tableOk t size pages)) ∧ Chg NoB w0 w') := by
 refine Calls.run NoB Tryz.func172 ?_
 intro ac β S
 have hlet : t.length ≤ 4194304 := LRd.le ht
 refine S.go 12 .nil fun ac w β S => ?_
 refine lp (fun mm ac w => ∃ (k : Nat)  (u : _) (N : _) (β : _), mm = t.length - k ∧ (k ≤ t.length) ∧ ((t.take k).all (fun s => f_slotOk s pages) = true) ∧ St Tryz.prog Tryz.f172.ntmps w0 NoB u N β ⟨[(0, .v (slv t.length pt.1)), (1, .v (I size)), (2, .v (I pages)), (7, .v (I (k : Int)))], []⟩ ac w) _ ⟨0, _, _, _, rfl, o0, (by simp), S.z⟩ ?_
 clear S
 rintro f1 mm hf2 ac w ⟨k, u, N, β, rfl, hk, he, S⟩
 refine S.rs fun S => ?_
 refine S.gd 9 .nil (decide ((k : Int) < (t.length : Int))) (fun ac w β h3 g4 S => ?_) (fun ac w β h3 g4 S => ?_)
 ·refine S.gb 16 (.cons (qn (S.arg ht) k Tryz.underlying77) (.cons (qs (S.arg ht) 55 k) (.cons (Q_call fun w hw => c_spec_SlotOk w (el t k) pages (by omega) (by omega)) .nil))) (!(f_slotOk (el t k) pages)) (fun ac w β h5 S => ?_) (fun ac w β h5 S => ?_)
  ·have h6 := not_t h5
   exact S.gf 7 .nil [B false] (retB (by clear S; (first | (unfold f_tableOk; rw [all_bad (k := k) (by omega) (by first | assumption | simp_all)]; simp; done) | (unfold f_tableOk; rw [all_end (by omega) he]; simp; done) | (unfold f_tableOk; rw [all_end (by omega) he]; simp [*]; done) | (unfold f_tableOk; rw [all_end (by omega) he]; simp; omega))))
  have h7 := not_f h5
  refine S.ge 9 (.cons (qp (k : Int) 1) .nil) f1 fun ac w β S => hf2.of (t.length - (k + 1)) _ _ (by omega) ⟨k + 1, _, _, _, rfl, ?_, ?_, S.z⟩
  ·exact oz
  ·clear S; exact all_step (by omega) he (by first | assumption | (simp only [f_slotOk, f_within] at *; simp_all; done) | (simp_all; done) | (simp_all; omega))
 exact S.gf 16 .nil [B ((t.length : Int) == size)] (retB (by clear S; (first | (unfold f_tableOk; rw [all_end (by omega) he]; simp; done) | (unfold f_tableOk; rw [all_end (by omega) he]; simp [*]; done) | (unfold f_tableOk; rw [all_end (by omega) he]; simp; omega) | (unfold f_tableOk; rw [all_bad (k := k) (by omega) (by first | assumption | simp_all)]; simp; done))))

theorem c_spec_CtlFaults (w0 : World) (c : TCtl) : Calls Tryz.prog 122 [GT.val c ()].toArray w0 (Ret1 NoB w0 (f_ctlFaults c : List Int)) := by
 refine Calls.run NoB Tryz.func122 ?_
 intro ac β S
 refine S.go 8 .nil fun ac w β S => S.B0 (α := Int) (d := 4) fun ac w N q1 F2 S up o3 d4 => ?_
 clear up d4
 refine S.go 12 (.cons (Q_call fun w hw => c_spec_l01In w c.traps 0 3) .nil) fun ac w β S => ?_
 refine cutC S (fun ac w => ∃ (acc1 : List Int) (q5 : _) (F6 : _) (u : _) (N : _) (β : _), (acc1 = (if f_within c.traps 0 3 then [] else [1])) ∧ St Tryz.prog Tryz.f122.ntmps w0 NoB u N β ⟨[(1, .p 0 0), (3, .v (slv acc1.length q5.1))], [GT.cells c ()]⟩ ac w ∧ Ow w0 NoB u N F6 acc1 q5) ?_ ?_
 ·clear S; intro S
  refine S.gb 0 .nil (!(f_within c.traps 0 3)) (fun ac w β h8 S => ?_) (fun ac w β h8 S => ?_)
  ·have h9 := not_t h8
   have g10 := within_f h9
   refine S.go 3 .nil fun ac w β S => S.B1 (α := Int) (x := 1) (p := ()) (F := NoB) (show In64 1 from ⟨by decide, by decide⟩) (fun b h => False.elim h) (fun b h => False.elim h) (d := 10) fun ac w N q11 F12 S up o13 d14 => ?_
   replace o3 := o3.up up
   clear up d14
   refine S.AF0 (α := Int) o3 o13.rn (fun _ _ h => h) (by' := 8) (d := 11) (lx := 0) (ly := 1) rfl fun ac w N q16 F17 S up o18 d19 => ?_
   clear up d19
   exact S.gn 2 .nil fun ac w β S => ⟨rfl, ([1]), q16, F17, _, _, _, (by clear S; (first | (rw [if_pos (by assumption)]; simp [*]; done) | (rw [if_neg (by simp [*])]; simp [*]; done) | ((repeat' split) <;> first | rfl | (simp; done) | (exfalso; simp_all; done) | (simp_all; done)))), S.z, o18⟩
  have h21 := not_f h8
  have g22 := within_t h21
  exact S.gn 2 .nil fun ac w β S => ⟨rfl, ([] : List Int), q1, F2, _, _, _, (by clear S; (first | (rw [if_pos (by assumption)]; simp [*]; done) | (rw [if_neg (by simp [*])]; simp [*]; done) | ((repeat' split) <;> first | rfl | (simp; done) | (exfalso; simp_all; done) | (simp_all; done)))), S.z, o3⟩
 clear S o3
 rintro ac w ⟨acc1, q5, F6, u, N, β, ha1, S, o7⟩
 have hl1 : acc1.length ≤ 1 := by rw [ha1]; (repeat' split) <;> simp
 refine S.ex fun S => ?_
 refine S.go 10 (.cons (Q_call fun w hw => c_spec_l01In w c.post 0 255) .nil) fun ac w β S => ?_
 refine cutC S (fun ac w => ∃ (acc2 : List Int) (q23 : _) (F24 : _) (u : _) (N : _) (β : _), (acc2 = (if f_within c.traps 0 3 then [] else [1]) ++ (if f_within c.post 0 255 then [] else [2])) ∧ St Tryz.prog Tryz.f122.ntmps w0 NoB u N β ⟨[(1, .p 0 0), (3, .v (slv acc2.length q23.1))], [GT.cells c ()]⟩ ac w ∧ Ow w0 NoB u N F24 acc2 q23) ?_ ?_
 ·clear S; intro S
  refine S.gb 0 .nil (!(f_within c.post 0 255)) (fun ac w β h26 S => ?_) (fun ac w β h26 S => ?_)
  ·have h27 := not_t h26
   have g28 := within_f h27
   refine S.go 3 .nil fun ac w β S => S.B1 (α := Int) (x := 2) (p := ()) (F := NoB) (show In64 2 from ⟨by decide, by decide⟩) (fun b h => False.elim h) (fun b h => False.elim h) (d := 17) fun ac w N q29 F30 S up o31 d32 => ?_
   replace o7 := o7.up up
   clear up d32
   refine S.AF (α := Int) o7 o31.rn (fun _ _ h => h) (by' := 8) (d := 18) (lx := acc1.length) (ly := 1) rfl rfl (show _ ≤ 4194304 by simp only [List.length_append, List.length_cons, List.length_nil]; omega) fun ac w N q34 F35 S up o36 d37 => ?_
   clear up d37
   exact S.gn 2 .nil fun ac w β S => ⟨rfl, (acc1 ++ [2]), q34, F35, _, _, _, (by clear S; (first | (rw [if_pos (by assumption)]; simp [*]; done) | (rw [if_neg (by simp [*])]; simp [*]; done) | (rw [ha1]; (repeat' split) <;> first | rfl | (simp; done) | (exfalso; simp_all; done) | (simp_all; done)))), S.z, o36⟩
  have h39 := not_f h26
  have g40 := within_t h39
  exact S.gn 2 .nil fun ac w β S => ⟨rfl, acc1, q5, F6, _, _, _, (by clear S; (first | (rw [if_pos (by assumption)]; simp [*]; done) | (rw [if_neg (by simp [*])]; simp [*]; done) | (rw [ha1]; (repeat' split) <;> first | rfl | (simp; done) | (exfalso; simp_all; done) | (simp_all; done)))), S.z, o7⟩
 clear S o7
 rintro ac w ⟨acc2, q23, F24, u, N, β, ha2, S, o25⟩
 have hl2 : acc2.length ≤ 2 := by rw [ha2]; (repeat' split) <;> simp
 refine S.ex fun S => ?_
 refine S.gd 8 .nil (c.post != 0) (fun ac w β h41 g42 S => ?_) (fun ac w β h41 g42 S => ?_)
 ·refine S.go 6 .nil fun ac w β S => ?_
  refine cutC S (fun ac w => ∃ (acc3 : List Int) (q43 : _) (F44 : _) (u : _) (N : _) (β : _), (acc3 = (if f_within c.traps 0 3 then [] else [1]) ++ (if f_within c.post 0 255 then [] else [2]) ++ (if c.post ≠ 0 ∧ c.opn = false then [3] else [])) ∧ St Tryz.prog Tryz.f122.ntmps w0 NoB u N β ⟨[(1, .p 0 0), (3, .v (slv acc3.length q43.1))], [GT.cells c ()]⟩ ac w ∧ Ow w0 NoB u N F44 acc3 q43) ?_ ?_
  ·clear S; intro S
   refine S.gb 0 .nil (!c.opn) (fun ac w β h46 S => ?_) (fun ac w β h46 S => ?_)
   ·have h47 := not_t h46
    refine S.go 3 .nil fun ac w β S => S.B1 (α := Int) (x := 3) (p := ()) (F := NoB) (show In64 3 from ⟨by decide, by decide⟩) (fun b h => False.elim h) (fun b h => False.elim h) (d := 28) fun ac w N q48 F49 S up o50 d51 => ?_
    replace o25 := o25.up up
    clear up d51
    refine S.AF (α := Int) o25 o50.rn (fun _ _ h => h) (by' := 8) (d := 29) (lx := acc2.length) (ly := 1) rfl rfl (show _ ≤ 4194304 by simp only [List.length_append, List.length_cons, List.length_nil]; omega) fun ac w N q53 F54 S up o55 d56 => ?_
    clear up d56
    exact S.gn 2 .nil fun ac w β S => ⟨rfl, (acc2 ++ [3]), q53, F54, _, _, _, (by clear S; (first | (rw [if_pos (by assumption)]; simp [*]; done) | (rw [if_neg (by simp [*])]; simp [*]; done) | (rw [ha2]; (repeat' split) <;> first | rfl | (simp; done) | (exfalso; simp_all; done) | (simp_all; done)))), S.z, o55⟩
   have h58 := not_f h46
   exact S.gn 2 .nil fun ac w β S => ⟨rfl, acc2, q23, F24, _, _, _, (by clear S; (first | (rw [if_pos (by assumption)]; simp [*]; done) | (rw [if_neg (by simp [*])]; simp [*]; done) | (rw [ha2]; (repeat' split) <;> first | rfl | (simp; done) | (exfalso; simp_all; done) | (simp_all; done)))), S.z, o25⟩
  clear S o25
  rintro ac w ⟨acc3, q43, F44, u, N, β, ha3, S, o45⟩
  have hl3 : acc3.length ≤ 3 := by rw [ha3]; (repeat' split) <;> simp
  refine S.ex fun S => ?_
  refine S.gd 8 .nil (c.traps == 2) (fun ac w β h59 g60 S => ?_) (fun ac w β h59 g60 S => ?_)
  ·refine S.go 6 .nil fun ac w β S => ?_
   refine cutC S (fun ac w => ∃ (acc4 : List Int) (q61 : _) (F62 : _) (u : _) (N : _) (β : _), (acc4 = (if f_within c.traps 0 3 then [] else [1]) ++ (if f_within c.post 0 255 then [] else [2]) ++ (if c.post ≠ 0 ∧ c.opn = false then [3] else []) ++ (if c.traps = 2 ∧ c.post ≠ 0 then [4] else [])) ∧ St Tryz.prog Tryz.f122.ntmps w0 NoB u N β ⟨[(3, .v (slv acc4.length q61.1))], []⟩ ac w ∧ Ow w0 NoB u N F62 acc4 q61) ?_ ?_
   ·clear S; intro S
    refine S.lt 37 h41 fun S => ?_
    refine S.go 3 .nil fun ac w β S => S.B1 (α := Int) (x := 4) (p := ()) (F := NoB) (show In64 4 from ⟨by decide, by decide⟩) (fun b h => False.elim h) (fun b h => False.elim h) (d := 39) fun ac w N q64 F65 S up o66 d67 => ?_
    replace o45 := o45.up up
    clear up d67
    refine S.AF (α := Int) o45 o66.rn (fun _ _ h => h) (by' := 8) (d := 40) (lx := acc3.length) (ly := 1) rfl rfl (show _ ≤ 4194304 by simp only [List.length_append, List.length_cons, List.length_nil]; omega) fun ac w N q69 F70 S up o71 d72 => ?_
    clear up d72
    exact S.gn 2 .nil fun ac w β S => ⟨rfl, (acc3 ++ [4]), q69, F70, _, _, _, (by clear S; (first | (rw [if_pos (by assumption)]; simp [*]; done) | (rw [if_neg (by simp [*])]; simp [*]; done) | (rw [ha3]; (repeat' split) <;> first | rfl | (simp; done) | (exfalso; simp_all; done) | (simp_all; done)))), S.z, o71⟩
   clear S o45
   rintro ac w ⟨acc4, q61, F62, u, N, β, ha4, S, o63⟩
   have hl4 : acc4.length ≤ 4 := by rw [ha4]; (repeat' split) <;> simp
   refine S.ex fun S => ?_
   refine S.gr 8 .nil [slv acc4.length q61.1] fun ac w β S => ?_
   exact ret1_of S (show f_ctlFaults c = acc4 by clear S; (rw [ha4]; rfl)) rfl o63
  refine S.go 6 .nil fun ac w β S => ?_
  refine cutC S (fun ac w => ∃ (acc4 : List Int) (q74 : _) (F75 : _) (u : _) (N : _) (β : _), (acc4 = (if f_within c.traps 0 3 then [] else [1]) ++ (if f_within c.post 0 255 then [] else [2]) ++ (if c.post ≠ 0 ∧ c.opn = false then [3] else []) ++ (if c.traps = 2 ∧ c.post ≠ 0 then [4] else [])) ∧ St Tryz.prog Tryz.f122.ntmps w0 NoB u N β ⟨[(3, .v (slv acc4.length q74.1))], []⟩ ac w ∧ Ow w0 NoB u N F75 acc4 q74) ?_ ?_
  ·clear S; intro S
   exact S.gn 2 .nil fun ac w β S => ⟨rfl, acc3, q43, F44, _, _, _, (by clear S; (first | (rw [if_pos (by assumption)]; simp [*]; done) | (rw [if_neg (by simp [*])]; simp [*]; done) | (rw [ha3]; (repeat' split) <;> first | rfl | (simp; done) | (exfalso; simp_all; done) | (simp_all; done)))), S.z, o45⟩
  clear S o45
  rintro ac w ⟨acc4, q74, F75, u, N, β, ha4, S, o76⟩
  have hl4 : acc4.length ≤ 4 := by rw [ha4]; (repeat' split) <;> simp
  refine S.ex fun S => ?_
  refine S.gr 8 .nil [slv acc4.length q74.1] fun ac w β S => ?_
  exact ret1_of S (show f_ctlFaults c = acc4 by clear S; (rw [ha4]; rfl)) rfl o76
 refine S.go 6 .nil fun ac w β S => ?_
 refine cutC S (fun ac w => ∃ (acc3 : List Int) (q77 : _) (F78 : _) (u : _) (N : _) (β : _), (acc3 = (if f_within c.traps 0 3 then [] else [1]) ++ (if f_within c.post 0 255 then [] else [2]) ++ (if c.post ≠ 0 ∧ c.opn = false then [3] else [])) ∧ St Tryz.prog Tryz.f122.ntmps w0 NoB u N β ⟨[(1, .p 0 0), (3, .v (slv acc3.length q77.1))], [GT.cells c ()]⟩ ac w ∧ Ow w0 NoB u N F78 acc3 q77) ?_ ?_
 ·clear S; intro S
  exact S.gn 2 .nil fun ac w β S => ⟨rfl, acc2, q23, F24, _, _, _, (by clear S; (first | (rw [if_pos (by assumption)]; simp [*]; done) | (rw [if_neg (by simp [*])]; simp [*]; done) | (rw [ha2]; (repeat' split) <;> first | rfl | (simp; done) | (exfalso; simp_all; done) | (simp_all; done)))), S.z, o25⟩
 clear S o25
 rintro ac w ⟨acc3, q77, F78, u, N, β, ha3, S, o79⟩
 have hl3 : acc3.length ≤ 3 := by rw [ha3]; (repeat' split) <;> simp
 refine S.ex fun S => ?_
 refine S.gd 8 .nil (c.traps == 2) (fun ac w β h80 g81 S => ?_) (fun ac w β h80 g81 S => ?_)
 ·refine S.go 6 .nil fun ac w β S => ?_
  refine cutC S (fun ac w => ∃ (acc4 : List Int) (q82 : _) (F83 : _) (u : _) (N : _) (β : _), (acc4 = (if f_within c.traps 0 3 then [] else [1]) ++ (if f_within c.post 0 255 then [] else [2]) ++ (if c.post ≠ 0 ∧ c.opn = false then [3] else []) ++ (if c.traps = 2 ∧ c.post ≠ 0 then [4] else [])) ∧ St Tryz.prog Tryz.f122.ntmps w0 NoB u N β ⟨[(3, .v (slv acc4.length q82.1))], []⟩ ac w ∧ Ow w0 NoB u N F83 acc4 q82) ?_ ?_
  ·clear S; intro S
   refine S.lt 37 h41 fun S => ?_
   exact S.gn 2 .nil fun ac w β S => ⟨rfl, acc3, q77, F78, _, _, _, (by clear S; (first | (rw [if_pos (by assumption)]; simp [*]; done) | (rw [if_neg (by simp [*])]; simp [*]; done) | (rw [ha3]; (repeat' split) <;> first | rfl | (simp; done) | (exfalso; simp_all; done) | (simp_all; done)))), S.z, o79⟩
  clear S o79
  rintro ac w ⟨acc4, q82, F83, u, N, β, ha4, S, o84⟩
  have hl4 : acc4.length ≤ 4 := by rw [ha4]; (repeat' split) <;> simp
  refine S.ex fun S => ?_
  refine S.gr 8 .nil [slv acc4.length q82.1] fun ac w β S => ?_
  exact ret1_of S (show f_ctlFaults c = acc4 by clear S; (rw [ha4]; rfl)) rfl o84
 refine S.go 6 .nil fun ac w β S => ?_
 refine cutC S (fun ac w => ∃ (acc4 : List Int) (q85 : _) (F86 : _) (u : _) (N : _) (β : _), (acc4 = (if f_within c.traps 0 3 then [] else [1]) ++ (if f_within c.post 0 255 then [] else [2]) ++ (if c.post ≠ 0 ∧ c.opn = false then [3] else []) ++ (if c.traps = 2 ∧ c.post ≠ 0 then [4] else [])) ∧ St Tryz.prog Tryz.f122.ntmps w0 NoB u N β ⟨[(3, .v (slv acc4.length q85.1))], []⟩ ac w ∧ Ow w0 NoB u N F86 acc4 q85) ?_ ?_
 ·clear S; intro S
  exact S.gn 2 .nil fun ac w β S => ⟨rfl, acc3, q77, F78, _, _, _, (by clear S; (first | (rw [if_pos (by assumption)]; simp [*]; done) | (rw [if_neg (by simp [*])]; simp [*]; done) | (rw [ha3]; (repeat' split) <;> first | rfl | (simp; done) | (exfalso; simp_all; done) | (simp_all; done)))), S.z, o79⟩
 clear S o79
 rintro ac w ⟨acc4, q85, F86, u, N, β, ha4, S, o87⟩
 have hl4 : acc4.length ≤ 4 := by rw [ha4]; (repeat' split) <;> simp
 refine S.ex fun S => ?_
 refine S.gr 8 .nil [slv acc4.length q85.1] fun ac w β S => ?_
 exact ret1_of S (show f_ctlFaults c = acc4 by clear S; (rw [ha4]; rfl)) rfl o87

theorem c_spec_CtlOk (w0 : World) (c : TCtl) : Calls Tryz.prog 75 [GT.val c ()].toArray w0 (fun e w' => e = .returned (B (f_ctlOk c)) ∧ Chg NoB w0 w') := by
 refine Calls.run NoB Tryz.func75 ?_
 intro ac β S
 refine S.go 9 .nil fun ac w β S => S.K1 (r := f_ctlFaults c) (d := 4) (c_spec_CtlFaults w c) fun ac w N q1 F2 S up o3 d4 => ?_
 clear up d4
 exact S.gf 6 .nil [B (((f_ctlFaults c).length : Int) == 0)] (retB (by clear S; first | rfl | (simp [f_ctlOk, *]; done) | (simp [f_ctlOk, *]; omega) | (simp_all [f_ctlOk]; done) | (simp_all [f_ctlOk]; omega)))

theorem k0_spec_ExitOk {p : Prop} (h : p := by clear S; (unfold f_exitOk; (repeat' split) <;> first | rfl | (exfalso; simp_all; done) | (exfalso; omega) | (rw [Bool.eq_iff_iff]; simp [TExit.ext_iff, *]; done) | (rw [Bool.eq_iff_iff]; simp_all [TExit.ext_iff, and_assoc]; done) | (rw [Bool.eq_iff_iff]; simp_all [TExit.ext_iff, and_assoc]; omega))) : p := h
theorem c_spec_ExitOk (w0 : World) (x : TExit) : Calls Tryz.prog 173 [GT.val x ()].toArray w0 (fun e w' => e = .returned (B (f_exitOk x)) ∧ Chg NoB w0 w') := by
 refine Calls.run NoB Tryz.func173 ?_
 intro ac β S
 refine S.gd 21 .nil (x.kind == 0) (fun ac w β h1 g2 S => ?_) (fun ac w β h1 g2 S => ?_)
 ·exact S.gf 15 (.cons (Q_sem (s := Instr.build 79 [(0, I x.kind)].toArray) (v := .agg [I x.kind, I 0, B false, I 0].toArray) (fun w => by kernel_rfl)) (.cons (Eq_eq_Exit (t := 79) x (⟨x.kind, 0, false, 0⟩ : TExit) (by kernel_rfl)) .nil)) [B (decide (x = (⟨x.kind, 0, false, 0⟩ : TExit)))] (retB k0_spec_ExitOk)
 refine S.gd 6 .nil (x.kind == 4) (fun ac w β h3 g4 S => ?_) (fun ac w β h3 g4 S => ?_)
 ·exact S.gf 12 (.cons (Q_sem (s := Instr.build 79 [(0, I x.kind)].toArray) (v := .agg [I x.kind, I 0, B false, I 0].toArray) (fun w => by kernel_rfl)) (.cons (Eq_eq_Exit (t := 79) x (⟨x.kind, 0, false, 0⟩ : TExit) (by kernel_rfl)) .nil)) [B (decide (x = (⟨x.kind, 0, false, 0⟩ : TExit)))] (retB k0_spec_ExitOk)
 refine S.gd 7 .nil (x.kind == 1) (fun ac w β h5 g6 S => ?_) (fun ac w β h5 g6 S => ?_)
 ·refine S.gb 7 (.cons (Q_call fun w hw => c_spec_l01In w x.page 0 3) .nil) (f_within x.page 0 3) (fun ac w β h7 S => ?_) (fun ac w β h7 S => ?_)
  ·have g8 := within_t h7
   exact S.gf 8 .nil [B (x.n == 0)] (retB k0_spec_ExitOk)
  have g9 := within_f h7
  exact S.gf 8 .nil [B false] (retB k0_spec_ExitOk)
 refine S.gd 8 .nil (x.kind == 2) (fun ac w β h10 g11 S => ?_) (fun ac w β h10 g11 S => ?_)
 ·refine S.gb 10 (.cons (Q_call fun w hw => c_spec_l01In w x.n 0 99) .nil) (f_within x.n 0 99) (fun ac w β h12 S => ?_) (fun ac w β h12 S => ?_)
  ·have g13 := within_t h12
   refine S.gd 5 .nil (x.page == 0) (fun ac w β h14 g15 S => ?_) (fun ac w β h14 g15 S => ?_)
   ·exact S.gf 8 .nil [B (!x.wr)] (retB k0_spec_ExitOk)
   exact S.gf 8 .nil [B false] (retB k0_spec_ExitOk)
  have g16 := within_f h12
  exact S.gf 13 .nil [B false] (retB k0_spec_ExitOk)
 refine S.gd 6 .nil (x.kind == 3) (fun ac w β h17 g18 S => ?_) (fun ac w β h17 g18 S => ?_)
 ·refine S.gb 7 (.cons (Q_call fun w hw => c_spec_l01In w x.n 0 99) .nil) (f_within x.n 0 99) (fun ac w β h19 S => ?_) (fun ac w β h19 S => ?_)
  ·have g20 := within_t h19
   refine S.gd 5 .nil (x.page == 0) (fun ac w β h21 g22 S => ?_) (fun ac w β h21 g22 S => ?_)
   ·exact S.gf 8 .nil [B (!x.wr)] (retB k0_spec_ExitOk)
   exact S.gf 8 .nil [B false] (retB k0_spec_ExitOk)
  have g23 := within_f h19
  exact S.gf 13 .nil [B false] (retB k0_spec_ExitOk)
 exact S.gf 10 .nil [B false] (retB k0_spec_ExitOk)

theorem k0_spec_GuestOk {p : Prop} (h : p := by clear S; first | rfl | (simp [f_guestOk, *]; done) | (simp [f_guestOk, *]; omega) | (simp_all [f_guestOk]; done) | (simp_all [f_guestOk]; omega)) : p := h
theorem c_spec_GuestOk (w0 : World) (g : TGuest) (pg : PGuest) (hg : RD w0 g pg) : Calls Tryz.prog 112 [GT.val g pg].toArray w0 (fun e w' => e = .returned (B (f_guestOk g)) ∧ Chg NoB w0 w') := by
 refine Calls.run NoB Tryz.func112 ?_
 intro ac β S
 have hleg_prog : g.prog.length ≤ 4194304 := LRd.le (RGuest.prog (d := g) hg)
 have hleg_written : g.written.length ≤ 4194304 := LRd.le (RGuest.written (d := g) hg)
 have hleg_live : g.live.length ≤ 4194304 := LRd.le (RGuest.live (d := g) hg)
 have hleg_seen : g.seen.length ≤ 4194304 := LRd.le (RGuest.seen (d := g) hg)
 refine S.gb 12 (.cons (Q_call fun w hw => c_spec_ProgOk w g.prog pg.prog (rd_of (RGuest.prog (d := g) (S.arg hg)) hw)) .nil) (f_progOk g.prog) (fun ac w β h1 S => ?_) (fun ac w β h1 S => ?_)
 ·refine S.gb 5 (.cons (Q_call fun w hw => c_spec_l01In w g.acc 0 99) .nil) (f_within g.acc 0 99) (fun ac w β h2 S => ?_) (fun ac w β h2 S => ?_)
  ·have g3 := within_t h2
   refine S.gb 5 (.cons (Q_call fun w hw => c_spec_l01In w g.pc 0 12) .nil) (f_within g.pc 0 12) (fun ac w β h4 S => ?_) (fun ac w β h4 S => ?_)
   ·have g5 := within_t h4
    refine S.gb 5 (.cons (Q_call fun w hw => c_spec_TableOk w g.written pg.written (rd_of (RGuest.written (d := g) (S.arg hg)) hw) 4 8 (by omega) (by omega)) .nil) (f_tableOk g.written 4 8) (fun ac w β h6 S => ?_) (fun ac w β h6 S => ?_)
    ·have g7 := tableOk_t h6
     refine S.gb 5 (.cons (Q_call fun w hw => c_spec_TableOk w g.live pg.live (rd_of (RGuest.live (d := g) (S.arg hg)) hw) 4 8 (by omega) (by omega)) .nil) (f_tableOk g.live 4 8) (fun ac w β h8 S => ?_) (fun ac w β h8 S => ?_)
     ·have g9 := tableOk_t h8
      refine S.gb 5 (.cons (Q_call fun w hw => c_spec_CtlOk w g.ctl) .nil) (f_ctlOk g.ctl) (fun ac w β h10 S => ?_) (fun ac w β h10 S => ?_)
      ·refine S.gb 5 (.cons (Q_call fun w hw => c_spec_PendOk w g.pend) .nil) (f_within g.pend 0 255) (fun ac w β h11 S => ?_) (fun ac w β h11 S => ?_)
       ·have g12 := within_t h11
        refine S.gb 5 (.cons (Q_call fun w hw => c_spec_ExitOk w g.exit) .nil) (f_exitOk g.exit) (fun ac w β h13 S => ?_) (fun ac w β h13 S => ?_)
        ·exact S.gf 9 .nil [B (decide ((g.seen.length : Int) ≤ 40))] (retB k0_spec_GuestOk)
        exact S.gf 9 .nil [B false] (retB k0_spec_GuestOk)
       have g14 := within_f h11
       exact S.gf 14 .nil [B false] (retB k0_spec_GuestOk)
      exact S.gf 19 .nil [B false] (retB k0_spec_GuestOk)
     exact S.gf 24 .nil [B false] (retB k0_spec_GuestOk)
    exact S.gf 29 .nil [B false] (retB k0_spec_GuestOk)
   have g15 := within_f h4
   exact S.gf 34 .nil [B false] (retB k0_spec_GuestOk)
  have g16 := within_f h2
  exact S.gf 39 .nil [B false] (retB k0_spec_GuestOk)
 exact S.gf 44 .nil [B false] (retB k0_spec_GuestOk)

theorem c_spec_PageOk (w0 : World) (cells : List Int) (pcells : LP Int) (hcells : RD w0 cells pcells) : Calls Tryz.prog 174 [slv cells.length pcells.1].toArray w0 (fun e w' => e = .returned (B (f_pageOk cells)) ∧ Chg NoB w0 w') := by
 refine Calls.run NoB Tryz.func174 ?_
 intro ac β S
 have hlecells : cells.length ≤ 4194304 := LRd.le hcells
 refine S.go 12 .nil fun ac w β S => ?_
 refine lp (fun mm ac w => ∃ (k : Nat)  (u : _) (N : _) (β : _), mm = cells.length - k ∧ (k ≤ cells.length) ∧ ((cells.take k).all (fun v => f_within v 0 99) = true) ∧ St Tryz.prog Tryz.f174.ntmps w0 NoB u N β ⟨[(0, .v (slv cells.length pcells.1)), (3, .v (I (k : Int)))], []⟩ ac w) _ ⟨0, _, _, _, rfl, o0, (by simp), S.z⟩ ?_
 clear S
 rintro f1 mm hf2 ac w ⟨k, u, N, β, rfl, hk, he, S⟩
 refine S.rs fun S => ?_
 refine S.gd 9 .nil (decide ((k : Int) < (cells.length : Int))) (fun ac w β h3 g4 S => ?_) (fun ac w β h3 g4 S => ?_)
 ·refine S.gb 15 (.cons (qn (S.arg hcells) k Tryz.underlying41) (.cons (qx (S.arg hcells) 3 k) (.cons (Q_call fun w hw => c_spec_l01In w (el cells k) 0 99) .nil))) (!(f_within (el cells k) 0 99)) (fun ac w β h5 S => ?_) (fun ac w β h5 S => ?_)
  ·have h6 := not_t h5
   have g7 := within_f h6
   exact S.gf 7 .nil [B false] (retB (by clear S; (first | (unfold f_pageOk; rw [all_bad (k := k) (by omega) (by first | assumption | simp_all)]; simp; done) | (unfold f_pageOk; rw [all_end (by omega) he]; simp; done) | (unfold f_pageOk; rw [all_end (by omega) he]; simp [*]; done) | (unfold f_pageOk; rw [all_end (by omega) he]; simp; omega))))
  have h8 := not_f h5
  have g9 := within_t h8
  refine S.ge 9 (.cons (qp (k : Int) 1) .nil) f1 fun ac w β S => hf2.of (cells.length - (k + 1)) _ _ (by omega) ⟨k + 1, _, _, _, rfl, ?_, ?_, S.z⟩
  ·exact oz
  ·clear S; exact all_step (by omega) he (by first | assumption | (simp only [f_slotOk, f_within] at *; simp_all; done) | (simp_all; done) | (simp_all; omega))
 exact S.gf 15 .nil [B ((cells.length : Int) == 4)] (retB (by clear S; (first | (unfold f_pageOk; rw [all_end (by omega) he]; simp; done) | (unfold f_pageOk; rw [all_end (by omega) he]; simp [*]; done) | (unfold f_pageOk; rw [all_end (by omega) he]; simp; omega) | (unfold f_pageOk; rw [all_bad (k := k) (by omega) (by first | assumption | simp_all)]; simp; done))))

theorem c_spec_MemOk (w0 : World) (m : List (List Int)) (pm : LP (List Int)) (hm : RD w0 m pm) (pages : Int) : Calls Tryz.prog 113 [slv m.length pm.1, I pages].toArray w0 (fun e w' => e = .returned (B (f_memOk m pages)) ∧ Chg NoB w0 w') := by
 refine Calls.run NoB Tryz.func113 ?_
 intro ac β S
 have hlem : m.length ≤ 4194304 := LRd.le hm
 refine S.go 12 .nil fun ac w β S => ?_
 refine lp (fun mm ac w => ∃ (k : Nat)  (u : _) (N : _) (β : _), mm = m.length - k ∧ (k ≤ m.length) ∧ ((m.take k).all f_pageOk = true) ∧ St Tryz.prog Tryz.f113.ntmps w0 NoB u N β ⟨[(0, .v (slv m.length pm.1)), (1, .v (I pages)), (5, .v (I (k : Int)))], []⟩ ac w) _ ⟨0, _, _, _, rfl, o0, (by simp), S.z⟩ ?_
 clear S
 rintro f1 mm hf2 ac w ⟨k, u, N, β, rfl, hk, he, S⟩
 refine S.rs fun S => ?_
 refine S.gd 9 .nil (decide ((k : Int) < (m.length : Int))) (fun ac w β h3 g4 S => ?_) (fun ac w β h3 g4 S => ?_)
 ·refine S.gb 15 (.cons (qn (S.arg hm) k Tryz.underlying39) (.cons (qx (S.arg hm) 41 k) (.cons (Q_call fun w hw => c_spec_PageOk w (el m k) (pm.2 k) (rd_of (LRd.el (S.arg hm) k (by omega)) hw)) .nil))) (!(f_pageOk (el m k))) (fun ac w β h5 S => ?_) (fun ac w β h5 S => ?_)
  ·have h6 := not_t h5
   exact S.gf 7 .nil [B false] (retB (by clear S; (first | (unfold f_memOk; rw [all_bad (k := k) (by omega) (by first | assumption | simp_all)]; simp; done) | (unfold f_memOk; rw [all_end (by omega) he]; simp; done) | (unfold f_memOk; rw [all_end (by omega) he]; simp [*]; done) | (unfold f_memOk; rw [all_end (by omega) he]; simp; omega))))
  have h7 := not_f h5
  refine S.ge 9 (.cons (qp (k : Int) 1) .nil) f1 fun ac w β S => hf2.of (m.length - (k + 1)) _ _ (by omega) ⟨k + 1, _, _, _, rfl, ?_, ?_, S.z⟩
  ·exact oz
  ·clear S; exact all_step (by omega) he (by first | assumption | (simp only [f_slotOk, f_within] at *; simp_all; done) | (simp_all; done) | (simp_all; omega))
 exact S.gf 16 .nil [B ((m.length : Int) == pages)] (retB (by clear S; (first | (unfold f_memOk; rw [all_end (by omega) he]; simp; done) | (unfold f_memOk; rw [all_end (by omega) he]; simp [*]; done) | (unfold f_memOk; rw [all_end (by omega) he]; simp; omega) | (unfold f_memOk; rw [all_bad (k := k) (by omega) (by first | assumption | simp_all)]; simp; done))))

theorem k1_spec_BareOk {p : Prop} (h : p := by clear S; (symm; rw [← Bool.not_eq_true]; intro hc; simp only [f_bareOk, Bool.and_eq_true, decide_eq_true_eq, beq_iff_eq] at hc; first | omega | (simp_all; done) | (simp_all; omega) | (have hx := all_el (k := k) hc.1.1.1.1 (by omega); simp_all; done))) : p := h
theorem c_spec_BareOk (w0 : World) (b : TBare) (pb : PBare) (hb : RD w0 b pb) : Calls Tryz.prog 51 [GT.val b pb].toArray w0 (fun e w' => e = .returned (B (f_bareOk b)) ∧ Chg NoB w0 w') := by
 refine Calls.run NoB Tryz.func51 ?_
 intro ac β S
 have hleb_mem : b.mem.length ≤ 4194304 := LRd.le (RBare.mem (d := b) hb)
 have hleb_guests : b.guests.length ≤ 4194304 := LRd.le (RBare.guests (d := b) hb)
 have hleb_outs : b.outs.length ≤ 4194304 := LRd.le (RBare.outs (d := b) hb)
 refine S.go 13 .nil fun ac w β S => ?_
 refine lp (fun mm ac w => ∃ (k : Nat)  (u : _) (N : _) (β : _), mm = b.guests.length - k ∧ (k ≤ b.guests.length) ∧ ((b.guests.take k).all f_guestOk = true) ∧ St Tryz.prog Tryz.f51.ntmps w0 NoB u N β ⟨[(1, .p 0 0), (3, .v (I (k : Int)))], [GT.cells b pb]⟩ ac w) _ ⟨0, _, _, _, rfl, o0, (by simp), S.z⟩ ?_
 clear S
 rintro f1 mm hf2 ac w ⟨k, u, N, β, rfl, hk, he, S⟩
 refine S.rs fun S => ?_
 refine S.gd 10 .nil (decide ((k : Int) < (b.guests.length : Int))) (fun ac w β h3 g4 S => ?_) (fun ac w β h3 g4 S => ?_)
 ·refine S.gb 16 (.cons (qn (RBare.guests (d := b) (S.arg hb)) k Tryz.underlying48) (.cons (qs (RBare.guests (d := b) (S.arg hb)) 81 k) (.cons (Q_call fun w hw => c_spec_GuestOk w (el b.guests k) (pb.guests.2 k) (rd_of (LRd.el (RBare.guests (d := b) (S.arg hb)) k (by omega)) hw)) .nil))) (!(f_guestOk (el b.guests k))) (fun ac w β h5 S => ?_) (fun ac w β h5 S => ?_)
  ·have h6 := not_t h5
   exact S.gf 7 .nil [B false] (retB k1_spec_BareOk)
  have h7 := not_f h5
  refine S.ge 9 (.cons (qp (k : Int) 1) .nil) f1 fun ac w β S => hf2.of (b.guests.length - (k + 1)) _ _ (by omega) ⟨k + 1, _, _, _, rfl, ?_, ?_, S.z⟩
  ·exact oz
  ·clear S; exact all_step (by omega) he (by first | assumption | simp_all)
 refine S.gb 12 (.cons (Q_call fun w hw => c_spec_MemOk w b.mem pb.mem (rd_of (RBare.mem (d := b) (S.arg hb)) hw) 8) .nil) (f_memOk b.mem 8) (fun ac w β h8 S => ?_) (fun ac w β h8 S => ?_)
 ·refine S.gb 6 (.cons (Q_call fun w hw => c_spec_l01In w (b.guests.length : Int) 1 2) .nil) (f_within (b.guests.length : Int) 1 2) (fun ac w β h9 S => ?_) (fun ac w β h9 S => ?_)
  ·have g10 := within_t h9
   refine S.gd 6 .nil (decide ((b.outs.length : Int) ≤ 40)) (fun ac w β h11 g12 S => ?_) (fun ac w β h11 g12 S => ?_)
   ·exact S.gf 8 (.cons (Q_call fun w hw => c_spec_PendOk w b.pend) .nil) [B (f_within b.pend 0 255)] (retB (by clear S; (first | rfl | (symm; rw [← Bool.not_eq_true]; intro hc; simp only [f_bareOk, Bool.and_eq_true, decide_eq_true_eq, beq_iff_eq] at hc; first | omega | (simp_all; done) | (simp_all; omega) | (have hx := all_el (k := k) hc.1.1.1.1 (by omega); simp_all; done)) | (symm; simp only [f_bareOk, Bool.and_eq_true, decide_eq_true_eq, beq_iff_eq]; (repeat' apply And.intro); all_goals first | assumption | omega | (simp_all; done) | (simp_all; omega) | (exact all_end (by omega) he)) | (rw [Bool.eq_iff_iff]; simp only [f_bareOk, Bool.and_eq_true, decide_eq_true_eq, beq_iff_eq]; refine ⟨fun hr => ?_, fun hc => ?_⟩ <;> ((repeat' apply And.intro); all_goals first | assumption | omega | (simp_all; done) | (simp_all; omega) | (exact all_end (by omega) he))))))
   exact S.gf 8 .nil [B false] (retB k1_spec_BareOk)
  have g13 := within_f h9
  exact S.gf 14 .nil [B false] (retB k1_spec_BareOk)
 exact S.gf 20 .nil [B false] (retB k1_spec_BareOk)

theorem k0_spec_TakeIrq {p : Prop} (h : p := by clear S; (first | (unfold f_takeIrq; rw [if_pos (by assumption)]; done) | (unfold f_takeIrq; rw [if_neg (by assumption)]; done) | (unfold f_takeIrq; rw [if_neg (by assumption)]; exact take_eq (by assumption)) | (unfold f_takeIrq; rw [if_neg (by assumption)]; exact (take_eq (by assumption)).symm))) : p := h
theorem c_spec_TakeIrq (w0 : World) (p : Int) (hp : In64 p) : Calls Tryz.prog 77 [I p].toArray w0 (fun e w' => e = .returned (.tuple #[I (f_takeIrq p).1, I (f_takeIrq p).2.1, B (f_takeIrq p).2.2]) ∧ Chg NoB w0 w') := by
 refine Calls.run NoB Tryz.func77 ?_
 intro ac β S
 have hlop := hp.lo; have hhip := hp.hi
 have b1 := topIrq_bd p
 refine S.gd 21 (.cons (Q_call fun w hw => c_spec_TopIrq w p) .nil) (decide ((f_topIrq p) < 0)) (fun ac w β h2 g3 S => ?_) (fun ac w β h2 g3 S => ?_)
 ·exact S.gf 10 .nil [I p, I (-1), B false] (ret3v (eqI (show p = (f_takeIrq p).1 from k0_spec_TakeIrq)) (eqI (show (-1) = (f_takeIrq p).2.1 from k0_spec_TakeIrq)) (eqB (show false = (f_takeIrq p).2.2 from k0_spec_TakeIrq)))
 exact S.gf 17 (.cons (Q_convu (s := 3) (d := 131) (x := (f_topIrq p)) Tryz.underlying3 Tryz.underlying131 (by omega) (by omega)) (.cons (Q_shl (yk := .u64) (x := 1) (y := (f_topIrq p)) (by omega)) (.cons (Q_subw (x := p) (y := (shl64 1 (f_topIrq p)))) .nil))) [I (IntKind.i64.wrap (p - (shl64 1 (f_topIrq p)))), I (f_topIrq p), B true] (ret3v (eqI (show (IntKind.i64.wrap (p - (shl64 1 (f_topIrq p)))) = (f_takeIrq p).1 from k0_spec_TakeIrq)) (eqI (show (f_topIrq p) = (f_takeIrq p).2.1 from k0_spec_TakeIrq)) (eqB (show true = (f_takeIrq p).2.2 from k0_spec_TakeIrq)))

theorem k0_spec_Saw {p : Prop} (h : p := by clear S; (first | (unfold f_saw; rw [if_pos (by omega)]; done) | (unfold f_saw; rw [if_pos (by omega)]; first | rfl | (simp; done)) | (unfold f_saw; rw [if_neg (by omega)]; done) | (unfold f_saw; rw [if_neg (by omega)]; first | rfl | (simp; done)))) : p := h
theorem c_spec_Saw (w0 : World) (g : TGuest) (pg : PGuest) (hg : RD w0 g pg) (n : Int) (hn : In64 n) : Calls Tryz.prog 115 [GT.val g pg, I n].toArray w0 (Ret1 NoB w0 (f_saw g n : TGuest)) := by
 refine Calls.run NoB Tryz.func115 ?_
 intro ac β S
 have hleg_prog : g.prog.length ≤ 4194304 := LRd.le (RGuest.prog (d := g) hg)
 have hleg_written : g.written.length ≤ 4194304 := LRd.le (RGuest.written (d := g) hg)
 have hleg_live : g.live.length ≤ 4194304 := LRd.le (RGuest.live (d := g) hg)
 have hleg_seen : g.seen.length ≤ 4194304 := LRd.le (RGuest.seen (d := g) hg)
 have hlon := hn.lo; have hhin := hn.hi
 refine S.go 9 .nil fun ac w β S => S.K1 (r := g) (d := 6) (c_spec_l15Copy w g pg (S.rd (S.arg hg))) fun ac w N q1 F2 S up o3 d4 => ?_
 clear up d4
 have i8 : In64 g.acc := RGuest.acc (d := g) o3.rn
 have i9 : In64 g.pc := RGuest.pc (d := g) o3.rn
 have i16 : RCtl g.ctl := RGuest.ctl (d := g) o3.rn
 have i17 : In64 g.pend := RGuest.pend (d := g) o3.rn
 have i18 : RExit g.exit := RGuest.exit (d := g) o3.rn
 obtain ⟨F5, F10, F13, F19, o6, o11, o14, o20, _, _, _, _, d22, d23, d24, d25, d26, d27⟩ := sp_Guest o3
 refine S.gd 12 .nil (decide ((g.seen.length : Int) < 40)) (fun ac w β h28 g29 S => ?_) (fun ac w β h28 g29 S => ?_)
 ·refine S.go 5 .nil fun ac w β S => S.B1 (α := Int) (x := n) (p := ()) (F := NoB) hn (fun b h => False.elim h) (fun b h => False.elim h) (d := 14) fun ac w N q30 F31 S up o32 d33 => ?_
  replace o6 := o6.up up
  replace o11 := o11.up up
  replace o14 := o14.up up
  replace o20 := o20.up up
  clear up d33
  refine S.AF (α := Int) o20 o32.rn (fun _ _ h => h) (by' := 8) (d := 15) (lx := g.seen.length) (ly := 1) rfl rfl (show _ ≤ 4194304 by simp only [List.length_append, List.length_cons, List.length_nil]; omega) fun ac w N q38 F39 S up o40 d41 => ?_
  have d42 := d41 _ d24 o6.sub
  have d43 := d41 _ d26 o11.sub
  have d44 := d41 _ d27 o14.sub
  replace o6 := o6.upF d24 up
  replace o11 := o11.upF d26 up
  replace o14 := o14.upF d27 up
  clear up d41
  refine S.gr 11 .nil [GT.val (⟨g.prog, g.acc, g.pc, g.written, g.live, g.ctl, g.pend, g.exit, g.halted, (g.seen ++ [n])⟩ : TGuest) (⟨q1.prog, q1.written, q1.live, q38⟩ : PGuest)] fun ac w β S => ?_
  have o46 := ow_Guest (x := (⟨g.prog, g.acc, g.pc, g.written, g.live, g.ctl, g.pend, g.exit, g.halted, (g.seen ++ [n])⟩ : TGuest)) (p := (⟨q1.prog, q1.written, q1.live, q38⟩ : PGuest)) o6 o11 o14 o40 d22 d23 d42 d25 d43 d44 i8 i9 i16 i17 i18
  exact ret1_of S (show f_saw g n = (⟨g.prog, g.acc, g.pc, g.written, g.live, g.ctl, g.pend, g.exit, g.halted, (g.seen ++ [n])⟩ : TGuest) from k0_spec_Saw) rfl o46
 refine S.gr 10 .nil [GT.val g q1] fun ac w β S => ?_
 have o47 := ow_Guest (x := g) (p := q1) o6 o11 o14 o20 d22 d23 d24 d25 d26 d27 i8 i9 i16 i17 i18
 exact ret1_of S (show f_saw g n = g from k0_spec_Saw) rfl o47

theorem k0_spec_Interrupted {p : Prop} (h : p := by clear S; (unfold f_interrupted; first | (rw [if_pos (by assumption)]; done) | (rw [if_neg (by simp [*])]; done))) : p := h
theorem c_spec_Interrupted (w0 : World) (g : TGuest) (pg : PGuest) (hg : RD w0 g pg) : Calls Tryz.prog 52 [GT.val g pg].toArray w0 (Ret1 NoB w0 (f_interrupted g : TGuest)) := by
 refine Calls.run NoB Tryz.func52 ?_
 intro ac β S
 have hleg_prog : g.prog.length ≤ 4194304 := LRd.le (RGuest.prog (d := g) hg)
 have hleg_written : g.written.length ≤ 4194304 := LRd.le (RGuest.written (d := g) hg)
 have hleg_live : g.live.length ≤ 4194304 := LRd.le (RGuest.live (d := g) hg)
 have hleg_seen : g.seen.length ≤ 4194304 := LRd.le (RGuest.seen (d := g) hg)
 refine S.gb 14 (.cons (Q_call fun w hw => c_spec_TakesIrq w g pg (rd_of (S.arg hg) hw)) .nil) (!(f_takesIrq g)) (fun ac w β h1 S => ?_) (fun ac w β h1 S => ?_)
 ·have h2 := not_t h1
  refine S.go 4 .nil fun ac w β S => S.K1 (r := g) (d := 10) (c_spec_l15Copy w g pg (S.rd (S.arg hg))) fun ac w N q3 F4 S up o5 d6 => ?_
  clear up d6
  refine S.gr 4 .nil [GT.val g q3] fun ac w β S => ?_
  exact ret1_of S (show f_interrupted g = g from k0_spec_Interrupted) rfl o5
 have h7 := not_f h1
 have b8 := takeIrq_bd g.pend
 refine S.go 29 (.cons (Q_call fun w hw => c_spec_TakeIrq w g.pend (RGuest.pend (d := g) (S.arg hg))) (.cons (qp 100 ((f_takeIrq g.pend).2.1)) .nil)) fun ac w β S => S.K1 (r := f_saw (⟨g.prog, g.acc, g.pc, g.written, g.live, g.ctl, (f_takeIrq g.pend).1, g.exit, g.halted, g.seen⟩ : TGuest) (100 + (f_takeIrq g.pend).2.1)) (d := 23) (c_spec_Saw w (⟨g.prog, g.acc, g.pc, g.written, g.live, g.ctl, (f_takeIrq g.pend).1, g.exit, g.halted, g.seen⟩ : TGuest) (⟨pg.prog, pg.written, pg.live, pg.seen⟩ : PGuest) (S.rd (show GT.rd KK _ _ (⟨g.prog, g.acc, g.pc, g.written, g.live, g.ctl, (f_takeIrq g.pend).1, g.exit, g.halted, g.seen⟩ : TGuest) (⟨pg.prog, pg.written, pg.live, pg.seen⟩ : PGuest) from ⟨(RGuest.prog (p := pg) (d := g) (S.arg hg)), (RGuest.acc (d := g) (S.arg hg)), (RGuest.pc (d := g) (S.arg hg)), (RGuest.written (p := pg) (d := g) (S.arg hg)), (RGuest.live (p := pg) (d := g) (S.arg hg)), (RGuest.ctl (d := g) (S.arg hg)), (takeIrq_in64 (RGuest.pend (d := g) (S.arg hg))), (RGuest.exit (d := g) (S.arg hg)), (RGuest.seen (p := pg) (d := g) (S.arg hg))⟩)) (100 + (f_takeIrq g.pend).2.1) ⟨by omega, by omega⟩) fun ac w N q9 F10 S up o11 d12 => ?_
 clear up d12
 refine S.gr 4 .nil [GT.val (f_saw (⟨g.prog, g.acc, g.pc, g.written, g.live, g.ctl, (f_takeIrq g.pend).1, g.exit, g.halted, g.seen⟩ : TGuest) (100 + (f_takeIrq g.pend).2.1)) q9] fun ac w β S => ?_
 exact ret1_of S (show f_interrupted g = (f_saw (⟨g.prog, g.acc, g.pc, g.written, g.live, g.ctl, (f_takeIrq g.pend).1, g.exit, g.halted, g.seen⟩ : TGuest) (100 + (f_takeIrq g.pend).2.1)) from k0_spec_Interrupted) rfl o11

theorem k0_spec_Moved {p : Prop} (h : p := by clear S; (unfold f_moved; first | (rw [if_pos (by omega)]; done) | (rw [if_neg (by omega)]; done))) : p := h
theorem c_spec_Moved (w0 : World) (g : TGuest) (pg : PGuest) (hg : RD w0 g pg) : Calls Tryz.prog 72 [GT.val g pg].toArray w0 (Ret1 NoB w0 (f_moved g : TGuest)) := by
 refine Calls.run NoB Tryz.func72 ?_
 intro ac β S
 have hpc := RGuest.pc (d := g) hg
 have hpl := hpc.lo
 have hph := hpc.hi
 have hleg_prog : g.prog.length ≤ 4194304 := LRd.le (RGuest.prog (d := g) hg)
 have hleg_written : g.written.length ≤ 4194304 := LRd.le (RGuest.written (d := g) hg)
 have hleg_live : g.live.length ≤ 4194304 := LRd.le (RGuest.live (d := g) hg)
 have hleg_seen : g.seen.length ≤ 4194304 := LRd.le (RGuest.seen (d := g) hg)
 refine S.go 9 .nil fun ac w β S => S.K1 (r := g) (d := 4) (c_spec_l15Copy w g pg (S.rd (S.arg hg))) fun ac w N q1 F2 S up o3 d4 => ?_
 clear up d4
 have i8 : In64 g.acc := RGuest.acc (d := g) o3.rn
 have i16 : RCtl g.ctl := RGuest.ctl (d := g) o3.rn
 have i17 : In64 g.pend := RGuest.pend (d := g) o3.rn
 have i18 : RExit g.exit := RGuest.exit (d := g) o3.rn
 obtain ⟨F5, F10, F13, F19, o6, o11, o14, o20, _, _, _, _, d22, d23, d24, d25, d26, d27⟩ := sp_Guest o3
 refine S.gd 11 .nil (decide (g.pc ≥ 12)) (fun ac w β h28 g29 S => ?_) (fun ac w β h28 g29 S => ?_)
 ·refine S.gr 13 .nil [GT.val (⟨g.prog, g.acc, 12, g.written, g.live, g.ctl, g.pend, g.exit, g.halted, g.seen⟩ : TGuest) (⟨q1.prog, q1.written, q1.live, q1.seen⟩ : PGuest)] fun ac w β S => ?_
  have o30 := ow_Guest (x := (⟨g.prog, g.acc, 12, g.written, g.live, g.ctl, g.pend, g.exit, g.halted, g.seen⟩ : TGuest)) (p := (⟨q1.prog, q1.written, q1.live, q1.seen⟩ : PGuest)) o6 o11 o14 o20 d22 d23 d24 d25 d26 d27 i8 (show In64 12 from ⟨by decide, by decide⟩) i16 i17 i18
  exact ret1_of S (show f_moved g = (⟨g.prog, g.acc, 12, g.written, g.live, g.ctl, g.pend, g.exit, g.halted, g.seen⟩ : TGuest) from k0_spec_Moved) rfl o30
 refine S.gr 16 (.cons (qp g.pc 1) .nil) [GT.val (⟨g.prog, g.acc, (g.pc + 1), g.written, g.live, g.ctl, g.pend, g.exit, g.halted, g.seen⟩ : TGuest) (⟨q1.prog, q1.written, q1.live, q1.seen⟩ : PGuest)] fun ac w β S => ?_
 have o31 := ow_Guest (x := (⟨g.prog, g.acc, (g.pc + 1), g.written, g.live, g.ctl, g.pend, g.exit, g.halted, g.seen⟩ : TGuest)) (p := (⟨q1.prog, q1.written, q1.live, q1.seen⟩ : PGuest)) o6 o11 o14 o20 d22 d23 d24 d25 d26 d27 i8 (show In64 (g.pc + 1) from ⟨by omega, by omega⟩) i16 i17 i18
 exact ret1_of S (show f_moved g = (⟨g.prog, g.acc, (g.pc + 1), g.written, g.live, g.ctl, g.pend, g.exit, g.halted, g.seen⟩ : TGuest) from k0_spec_Moved) rfl o31

theorem k0_spec_Plainly {p : Prop} (h : p := by clear S; (unfold f_plainly; first | (rw [if_neg (by assumption)]; done) | (rw [if_pos (by assumption)]; unfold f_plainTo; (repeat' split) <;> first | rfl | (exfalso; omega) | (exfalso; simp_all; done) | (exfalso; simp_all; omega) | (simp_all; done) | (simp_all [f_moved]; done)))) : p := h
theorem c_spec_Plainly (w0 : World) (g : TGuest) (pg : PGuest) (hg : RD w0 g pg) : Calls Tryz.prog 53 [GT.val g pg].toArray w0 (Ret1 NoB w0 (f_plainly g : TGuest)) := by
 refine Calls.run NoB Tryz.func53 ?_
 intro ac β S
 have hleg_prog : g.prog.length ≤ 4194304 := LRd.le (RGuest.prog (d := g) hg)
 have hleg_written : g.written.length ≤ 4194304 := LRd.le (RGuest.written (d := g) hg)
 have hleg_live : g.live.length ≤ 4194304 := LRd.le (RGuest.live (d := g) hg)
 have hleg_seen : g.seen.length ≤ 4194304 := LRd.le (RGuest.seen (d := g) hg)
 have b1 := wantOf_bd g
 refine S.gd 14 (.cons (Q_call fun w hw => c_spec_WantOf w g pg (rd_of (S.arg hg) hw)) .nil) ((f_wantOf g) != 2) (fun ac w β h2 g3 S => ?_) (fun ac w β h2 g3 S => ?_)
 ·refine S.go 4 .nil fun ac w β S => S.K1 (r := g) (d := 9) (c_spec_l15Copy w g pg (S.rd (S.arg hg))) fun ac w N q4 F5 S up o6 d7 => ?_
  clear up d7
  have i11 : In64 g.acc := RGuest.acc (d := g) o6.rn
  have i12 : In64 g.pc := RGuest.pc (d := g) o6.rn
  have i19 : RCtl g.ctl := RGuest.ctl (d := g) o6.rn
  have i20 : In64 g.pend := RGuest.pend (d := g) o6.rn
  have i21 : RExit g.exit := RGuest.exit (d := g) o6.rn
  obtain ⟨F8, F13, F16, F22, o9, o14, o17, o23, _, _, _, _, d25, d26, d27, d28, d29, d30⟩ := sp_Guest o6
  refine S.gr 4 .nil [GT.val g q4] fun ac w β S => ?_
  have o31 := ow_Guest (x := g) (p := q4) o9 o14 o17 o23 d25 d26 d27 d28 d29 d30 i11 i12 i19 i20 i21
  exact ret1_of S (show f_plainly g = g from k0_spec_Plainly) rfl o31
 refine S.gb 20 (.cons (Q_call fun w hw => c_spec_InsAt w g.prog pg.prog (rd_of (RGuest.prog (d := g) (S.arg hg)) hw) g.pc) (.cons (Q_call fun w hw => c_spec_l01In w g.acc 0 99) .nil)) (f_within g.acc 0 99) (fun ac w β h32 S => ?_) (fun ac w β h32 S => ?_)
 ·have g33 := within_t h32
  refine S.gb 13 (.cons (Q_call fun w hw => c_spec_l01In w (f_insAt g.prog g.pc).x 0 99) .nil) (f_within (f_insAt g.prog g.pc).x 0 99) (fun ac w β h34 S => ?_) (fun ac w β h34 S => ?_)
  ·have g35 := within_t h34
   refine S.lt 4 h34 fun S => ?_
   refine S.gd 7 .nil ((f_insAt g.prog g.pc).opc == 1) (fun ac w β h36 g37 S => ?_) (fun ac w β h36 g37 S => ?_)
   ·refine S.go 12 .nil fun ac w β S => S.K1 (r := f_moved (⟨g.prog, (f_insAt g.prog g.pc).x, g.pc, g.written, g.live, g.ctl, g.pend, g.exit, g.halted, g.seen⟩ : TGuest)) (d := 66) (c_spec_Moved w (⟨g.prog, (f_insAt g.prog g.pc).x, g.pc, g.written, g.live, g.ctl, g.pend, g.exit, g.halted, g.seen⟩ : TGuest) (⟨pg.prog, pg.written, pg.live, pg.seen⟩ : PGuest) (S.rd (show GT.rd KK _ _ (⟨g.prog, (f_insAt g.prog g.pc).x, g.pc, g.written, g.live, g.ctl, g.pend, g.exit, g.halted, g.seen⟩ : TGuest) (⟨pg.prog, pg.written, pg.live, pg.seen⟩ : PGuest) from ⟨(RGuest.prog (p := pg) (d := g) (S.arg hg)), (RIns.x (d := (f_insAt g.prog g.pc)) (insAt_r (RGuest.prog (d := g) (S.arg hg)) g.pc)), (RGuest.pc (d := g) (S.arg hg)), (RGuest.written (p := pg) (d := g) (S.arg hg)), (RGuest.live (p := pg) (d := g) (S.arg hg)), (RGuest.ctl (d := g) (S.arg hg)), (RGuest.pend (d := g) (S.arg hg)), (RGuest.exit (d := g) (S.arg hg)), (RGuest.seen (p := pg) (d := g) (S.arg hg))⟩))) fun ac w N q38 F39 S up o40 d41 => ?_
    clear up d41
    have i45 : In64 (f_moved (⟨g.prog, (f_insAt g.prog g.pc).x, g.pc, g.written, g.live, g.ctl, g.pend, g.exit, g.halted, g.seen⟩ : TGuest)).acc := RGuest.acc (d := (f_moved (⟨g.prog, (f_insAt g.prog g.pc).x, g.pc, g.written, g.live, g.ctl, g.pend, g.exit, g.halted, g.seen⟩ : TGuest))) o40.rn
    have i46 : In64 (f_moved (⟨g.prog, (f_insAt g.prog g.pc).x, g.pc, g.written, g.live, g.ctl, g.pend, g.exit, g.halted, g.seen⟩ : TGuest)).pc := RGuest.pc (d := (f_moved (⟨g.prog, (f_insAt g.prog g.pc).x, g.pc, g.written, g.live, g.ctl, g.pend, g.exit, g.halted, g.seen⟩ : TGuest))) o40.rn
    have i53 : RCtl (f_moved (⟨g.prog, (f_insAt g.prog g.pc).x, g.pc, g.written, g.live, g.ctl, g.pend, g.exit, g.halted, g.seen⟩ : TGuest)).ctl := RGuest.ctl (d := (f_moved (⟨g.prog, (f_insAt g.prog g.pc).x, g.pc, g.written, g.live, g.ctl, g.pend, g.exit, g.halted, g.seen⟩ : TGuest))) o40.rn
    have i54 : In64 (f_moved (⟨g.prog, (f_insAt g.prog g.pc).x, g.pc, g.written, g.live, g.ctl, g.pend, g.exit, g.halted, g.seen⟩ : TGuest)).pend := RGuest.pend (d := (f_moved (⟨g.prog, (f_insAt g.prog g.pc).x, g.pc, g.written, g.live, g.ctl, g.pend, g.exit, g.halted, g.seen⟩ : TGuest))) o40.rn
    have i55 : RExit (f_moved (⟨g.prog, (f_insAt g.prog g.pc).x, g.pc, g.written, g.live, g.ctl, g.pend, g.exit, g.halted, g.seen⟩ : TGuest)).exit := RGuest.exit (d := (f_moved (⟨g.prog, (f_insAt g.prog g.pc).x, g.pc, g.written, g.live, g.ctl, g.pend, g.exit, g.halted, g.seen⟩ : TGuest))) o40.rn
    obtain ⟨F42, F47, F50, F56, o43, o48, o51, o57, _, _, _, _, d59, d60, d61, d62, d63, d64⟩ := sp_Guest o40
    refine S.gr 4 .nil [GT.val (f_moved (⟨g.prog, (f_insAt g.prog g.pc).x, g.pc, g.written, g.live, g.ctl, g.pend, g.exit, g.halted, g.seen⟩ : TGuest)) q38] fun ac w β S => ?_
    have o65 := ow_Guest (x := (f_moved (⟨g.prog, (f_insAt g.prog g.pc).x, g.pc, g.written, g.live, g.ctl, g.pend, g.exit, g.halted, g.seen⟩ : TGuest))) (p := q38) o43 o48 o51 o57 d59 d60 d61 d62 d63 d64 i45 i46 i53 i54 i55
    exact ret1_of S (show f_plainly g = (f_moved (⟨g.prog, (f_insAt g.prog g.pc).x, g.pc, g.written, g.live, g.ctl, g.pend, g.exit, g.halted, g.seen⟩ : TGuest)) from k0_spec_Plainly) rfl o65
   refine S.gd 12 .nil ((f_insAt g.prog g.pc).opc == 2) (fun ac w β h66 g67 S => ?_) (fun ac w β h66 g67 S => ?_)
   ·refine S.go 16 (.cons (qp g.acc ((f_insAt g.prog g.pc).x)) (.cons (Q_rem (x := (g.acc + (f_insAt g.prog g.pc).x)) (y := 100) (by decide)) .nil)) fun ac w β S => S.K1 (r := f_moved (⟨g.prog, (Int.tmod (g.acc + (f_insAt g.prog g.pc).x) 100), g.pc, g.written, g.live, g.ctl, g.pend, g.exit, g.halted, g.seen⟩ : TGuest)) (d := 66) (c_spec_Moved w (⟨g.prog, (Int.tmod (g.acc + (f_insAt g.prog g.pc).x) 100), g.pc, g.written, g.live, g.ctl, g.pend, g.exit, g.halted, g.seen⟩ : TGuest) (⟨pg.prog, pg.written, pg.live, pg.seen⟩ : PGuest) (S.rd (show GT.rd KK _ _ (⟨g.prog, (Int.tmod (g.acc + (f_insAt g.prog g.pc).x) 100), g.pc, g.written, g.live, g.ctl, g.pend, g.exit, g.halted, g.seen⟩ : TGuest) (⟨pg.prog, pg.written, pg.live, pg.seen⟩ : PGuest) from ⟨(RGuest.prog (p := pg) (d := g) (S.arg hg)), (tmod_in64 (by decide)), (RGuest.pc (d := g) (S.arg hg)), (RGuest.written (p := pg) (d := g) (S.arg hg)), (RGuest.live (p := pg) (d := g) (S.arg hg)), (RGuest.ctl (d := g) (S.arg hg)), (RGuest.pend (d := g) (S.arg hg)), (RGuest.exit (d := g) (S.arg hg)), (RGuest.seen (p := pg) (d := g) (S.arg hg))⟩))) fun ac w N q68 F69 S up o70 d71 => ?_
    clear up d71
    have i75 : In64 (f_moved (⟨g.prog, (Int.tmod (g.acc + (f_insAt g.prog g.pc).x) 100), g.pc, g.written, g.live, g.ctl, g.pend, g.exit, g.halted, g.seen⟩ : TGuest)).acc := RGuest.acc (d := (f_moved (⟨g.prog, (Int.tmod (g.acc + (f_insAt g.prog g.pc).x) 100), g.pc, g.written, g.live, g.ctl, g.pend, g.exit, g.halted, g.seen⟩ : TGuest))) o70.rn
    have i76 : In64 (f_moved (⟨g.prog, (Int.tmod (g.acc + (f_insAt g.prog g.pc).x) 100), g.pc, g.written, g.live, g.ctl, g.pend, g.exit, g.halted, g.seen⟩ : TGuest)).pc := RGuest.pc (d := (f_moved (⟨g.prog, (Int.tmod (g.acc + (f_insAt g.prog g.pc).x) 100), g.pc, g.written, g.live, g.ctl, g.pend, g.exit, g.halted, g.seen⟩ : TGuest))) o70.rn
    have i83 : RCtl (f_moved (⟨g.prog, (Int.tmod (g.acc + (f_insAt g.prog g.pc).x) 100), g.pc, g.written, g.live, g.ctl, g.pend, g.exit, g.halted, g.seen⟩ : TGuest)).ctl := RGuest.ctl (d := (f_moved (⟨g.prog, (Int.tmod (g.acc + (f_insAt g.prog g.pc).x) 100), g.pc, g.written, g.live, g.ctl, g.pend, g.exit, g.halted, g.seen⟩ : TGuest))) o70.rn
    have i84 : In64 (f_moved (⟨g.prog, (Int.tmod (g.acc + (f_insAt g.prog g.pc).x) 100), g.pc, g.written, g.live, g.ctl, g.pend, g.exit, g.halted, g.seen⟩ : TGuest)).pend := RGuest.pend (d := (f_moved (⟨g.prog, (Int.tmod (g.acc + (f_insAt g.prog g.pc).x) 100), g.pc, g.written, g.live, g.ctl, g.pend, g.exit, g.halted, g.seen⟩ : TGuest))) o70.rn
    have i85 : RExit (f_moved (⟨g.prog, (Int.tmod (g.acc + (f_insAt g.prog g.pc).x) 100), g.pc, g.written, g.live, g.ctl, g.pend, g.exit, g.halted, g.seen⟩ : TGuest)).exit := RGuest.exit (d := (f_moved (⟨g.prog, (Int.tmod (g.acc + (f_insAt g.prog g.pc).x) 100), g.pc, g.written, g.live, g.ctl, g.pend, g.exit, g.halted, g.seen⟩ : TGuest))) o70.rn
    obtain ⟨F72, F77, F80, F86, o73, o78, o81, o87, _, _, _, _, d89, d90, d91, d92, d93, d94⟩ := sp_Guest o70
    refine S.gr 4 .nil [GT.val (f_moved (⟨g.prog, (Int.tmod (g.acc + (f_insAt g.prog g.pc).x) 100), g.pc, g.written, g.live, g.ctl, g.pend, g.exit, g.halted, g.seen⟩ : TGuest)) q68] fun ac w β S => ?_
    have o95 := ow_Guest (x := (f_moved (⟨g.prog, (Int.tmod (g.acc + (f_insAt g.prog g.pc).x) 100), g.pc, g.written, g.live, g.ctl, g.pend, g.exit, g.halted, g.seen⟩ : TGuest))) (p := q68) o73 o78 o81 o87 d89 d90 d91 d92 d93 d94 i75 i76 i83 i84 i85
    exact ret1_of S (show f_plainly g = (f_moved (⟨g.prog, (Int.tmod (g.acc + (f_insAt g.prog g.pc).x) 100), g.pc, g.written, g.live, g.ctl, g.pend, g.exit, g.halted, g.seen⟩ : TGuest)) from k0_spec_Plainly) rfl o95
   refine S.gd 10 .nil ((f_insAt g.prog g.pc).opc == 8) (fun ac w β h96 g97 S => ?_) (fun ac w β h96 g97 S => ?_)
   ·refine S.gd 7 .nil (g.acc == 0) (fun ac w β h98 g99 S => ?_) (fun ac w β h98 g99 S => ?_)
    ·refine S.go 4 .nil fun ac w β S => S.K1 (r := g) (d := 60) (c_spec_l15Copy w g pg (S.rd (S.arg hg))) fun ac w N q100 F101 S up o102 d103 => ?_
     clear up d103
     have i107 : In64 g.acc := RGuest.acc (d := g) o102.rn
     have i115 : RCtl g.ctl := RGuest.ctl (d := g) o102.rn
     have i116 : In64 g.pend := RGuest.pend (d := g) o102.rn
     have i117 : RExit g.exit := RGuest.exit (d := g) o102.rn
     obtain ⟨F104, F109, F112, F118, o105, o110, o113, o119, _, _, _, _, d121, d122, d123, d124, d125, d126⟩ := sp_Guest o102
     refine S.gr 18 .nil [GT.val (⟨g.prog, g.acc, (f_insAt g.prog g.pc).x, g.written, g.live, g.ctl, g.pend, g.exit, g.halted, g.seen⟩ : TGuest) (⟨q100.prog, q100.written, q100.live, q100.seen⟩ : PGuest)] fun ac w β S => ?_
     have o127 := ow_Guest (x := (⟨g.prog, g.acc, (f_insAt g.prog g.pc).x, g.written, g.live, g.ctl, g.pend, g.exit, g.halted, g.seen⟩ : TGuest)) (p := (⟨q100.prog, q100.written, q100.live, q100.seen⟩ : PGuest)) o105 o110 o113 o119 d121 d122 d123 d124 d125 d126 i107 (RIns.x (d := (f_insAt g.prog g.pc)) (insAt_r (RGuest.prog (d := g) (S.arg hg)) g.pc)) i115 i116 i117
     exact ret1_of S (show f_plainly g = (⟨g.prog, g.acc, (f_insAt g.prog g.pc).x, g.written, g.live, g.ctl, g.pend, g.exit, g.halted, g.seen⟩ : TGuest) from k0_spec_Plainly) rfl o127
    refine S.go 7 .nil fun ac w β S => S.K1 (r := f_moved g) (d := 66) (c_spec_Moved w g pg (S.rd (S.arg hg))) fun ac w N q128 F129 S up o130 d131 => ?_
    clear up d131
    have i135 : In64 (f_moved g).acc := RGuest.acc (d := (f_moved g)) o130.rn
    have i136 : In64 (f_moved g).pc := RGuest.pc (d := (f_moved g)) o130.rn
    have i143 : RCtl (f_moved g).ctl := RGuest.ctl (d := (f_moved g)) o130.rn
    have i144 : In64 (f_moved g).pend := RGuest.pend (d := (f_moved g)) o130.rn
    have i145 : RExit (f_moved g).exit := RGuest.exit (d := (f_moved g)) o130.rn
    obtain ⟨F132, F137, F140, F146, o133, o138, o141, o147, _, _, _, _, d149, d150, d151, d152, d153, d154⟩ := sp_Guest o130
    refine S.gr 4 .nil [GT.val (f_moved g) q128] fun ac w β S => ?_
    have o155 := ow_Guest (x := (f_moved g)) (p := q128) o133 o138 o141 o147 d149 d150 d151 d152 d153 d154 i135 i136 i143 i144 i145
    exact ret1_of S (show f_plainly g = (f_moved g) from k0_spec_Plainly) rfl o155
   refine S.go 14 .nil fun ac w β S => S.K1 (r := f_moved g) (d := 66) (c_spec_Moved w g pg (S.rd (S.arg hg))) fun ac w N q156 F157 S up o158 d159 => ?_
   clear up d159
   have i163 : In64 (f_moved g).acc := RGuest.acc (d := (f_moved g)) o158.rn
   have i164 : In64 (f_moved g).pc := RGuest.pc (d := (f_moved g)) o158.rn
   have i171 : RCtl (f_moved g).ctl := RGuest.ctl (d := (f_moved g)) o158.rn
   have i172 : In64 (f_moved g).pend := RGuest.pend (d := (f_moved g)) o158.rn
   have i173 : RExit (f_moved g).exit := RGuest.exit (d := (f_moved g)) o158.rn
   obtain ⟨F160, F165, F168, F174, o161, o166, o169, o175, _, _, _, _, d177, d178, d179, d180, d181, d182⟩ := sp_Guest o158
   refine S.gr 4 .nil [GT.val (f_moved g) q156] fun ac w β S => ?_
   have o183 := ow_Guest (x := (f_moved g)) (p := q156) o161 o166 o169 o175 d177 d178 d179 d180 d181 d182 i163 i164 i171 i172 i173
   exact ret1_of S (show f_plainly g = (f_moved g) from k0_spec_Plainly) rfl o183
  have g184 := within_f h34
  refine S.lt 4 h34 fun S => ?_
  refine S.go 43 .nil fun ac w β S => S.K1 (r := f_moved g) (d := 66) (c_spec_Moved w g pg (S.rd (S.arg hg))) fun ac w N q185 F186 S up o187 d188 => ?_
  clear up d188
  have i192 : In64 (f_moved g).acc := RGuest.acc (d := (f_moved g)) o187.rn
  have i193 : In64 (f_moved g).pc := RGuest.pc (d := (f_moved g)) o187.rn
  have i200 : RCtl (f_moved g).ctl := RGuest.ctl (d := (f_moved g)) o187.rn
  have i201 : In64 (f_moved g).pend := RGuest.pend (d := (f_moved g)) o187.rn
  have i202 : RExit (f_moved g).exit := RGuest.exit (d := (f_moved g)) o187.rn
  obtain ⟨F189, F194, F197, F203, o190, o195, o198, o204, _, _, _, _, d206, d207, d208, d209, d210, d211⟩ := sp_Guest o187
  refine S.gr 4 .nil [GT.val (f_moved g) q185] fun ac w β S => ?_
  have o212 := ow_Guest (x := (f_moved g)) (p := q185) o190 o195 o198 o204 d206 d207 d208 d209 d210 d211 i192 i193 i200 i201 i202
  exact ret1_of S (show f_plainly g = (f_moved g) from k0_spec_Plainly) rfl o212
 have g213 := within_f h32
 refine S.go 56 .nil fun ac w β S => S.K1 (r := f_moved g) (d := 66) (c_spec_Moved w g pg (S.rd (S.arg hg))) fun ac w N q214 F215 S up o216 d217 => ?_
 clear up d217
 have i221 : In64 (f_moved g).acc := RGuest.acc (d := (f_moved g)) o216.rn
 have i222 : In64 (f_moved g).pc := RGuest.pc (d := (f_moved g)) o216.rn
 have i229 : RCtl (f_moved g).ctl := RGuest.ctl (d := (f_moved g)) o216.rn
 have i230 : In64 (f_moved g).pend := RGuest.pend (d := (f_moved g)) o216.rn
 have i231 : RExit (f_moved g).exit := RGuest.exit (d := (f_moved g)) o216.rn
 obtain ⟨F218, F223, F226, F232, o219, o224, o227, o233, _, _, _, _, d235, d236, d237, d238, d239, d240⟩ := sp_Guest o216
 refine S.gr 4 .nil [GT.val (f_moved g) q214] fun ac w β S => ?_
 have o241 := ow_Guest (x := (f_moved g)) (p := q214) o219 o224 o227 o233 d235 d236 d237 d238 d239 d240 i221 i222 i229 i230 i231
 exact ret1_of S (show f_plainly g = (f_moved g) from k0_spec_Plainly) rfl o241

theorem k0_spec_Address {p : Prop} (h : p := by clear S; (unfold f_address; first | (rw [if_pos (by first | exact Or.inl (by assumption) | exact Or.inr (by assumption) | omega)]; done) | (rw [if_neg (by omega)]; done))) : p := h
theorem c_spec_Address (w0 : World) (g : TGuest) (pg : PGuest) (hg : RD w0 g pg) : Calls Tryz.prog 54 [GT.val g pg].toArray w0 (fun e w' => e = .returned (I (f_address g)) ∧ Chg NoB w0 w') := by
 refine Calls.run NoB Tryz.func54 ?_
 intro ac β S
 have hleg_prog : g.prog.length ≤ 4194304 := LRd.le (RGuest.prog (d := g) hg)
 have hleg_written : g.written.length ≤ 4194304 := LRd.le (RGuest.written (d := g) hg)
 have hleg_live : g.live.length ≤ 4194304 := LRd.le (RGuest.live (d := g) hg)
 have hleg_seen : g.seen.length ≤ 4194304 := LRd.le (RGuest.seen (d := g) hg)
 have b1 := wantOf_bd g
 refine S.gd 19 (.cons (Q_call fun w hw => c_spec_WantOf w g pg (rd_of (S.arg hg) hw)) .nil) ((f_wantOf g) != 3) (fun ac w β h2 g3 S => ?_) (fun ac w β h2 g3 S => ?_)
 ·refine S.gd 5 .nil ((f_wantOf g) != 4) (fun ac w β h4 g5 S => ?_) (fun ac w β h4 g5 S => ?_)
  ·exact S.gf 7 .nil [I (-1)] (retI k0_spec_Address)
  exact S.gf 15 (.cons (Q_call fun w hw => c_spec_InsAt w g.prog pg.prog (rd_of (RGuest.prog (d := g) (S.arg hg)) hw) g.pc) .nil) [I (f_insAt g.prog g.pc).x] (retI k0_spec_Address)
 exact S.gf 20 (.cons (Q_call fun w hw => c_spec_InsAt w g.prog pg.prog (rd_of (RGuest.prog (d := g) (S.arg hg)) hw) g.pc) .nil) [I (f_insAt g.prog g.pc).x] (retI k0_spec_Address)

theorem k0_spec_AddrPage {p : Prop} (h : p := by clear S; (first | (unfold f_addrPage; rw [if_pos (by omega)]; done) | (unfold f_addrPage; rw [if_pos (by omega)]; first | rfl | (simp; done)) | (unfold f_addrPage; rw [if_neg (by omega)]; done) | (unfold f_addrPage; rw [if_neg (by omega)]; first | rfl | (simp; done)))) : p := h
theorem c_spec_AddrPage (w0 : World) (addr : Int) (haddr : In64 addr) : Calls Tryz.prog 56 [I addr].toArray w0 (fun e w' => e = .returned (I (f_addrPage addr)) ∧ Chg NoB w0 w') := by
 refine Calls.run NoB Tryz.func56 ?_
 intro ac β S
 have hloaddr := haddr.lo; have hhiaddr := haddr.hi
 refine S.gd 12 .nil (decide (addr < 0)) (fun ac w β h1 g2 S => ?_) (fun ac w β h1 g2 S => ?_)
 ·exact S.gf 7 .nil [I (-1)] (retI k0_spec_AddrPage)
 exact S.gf 11 (.cons (Q_quo (x := addr) (y := 4) (by decide) (tdiv4_in64 haddr (by omega))) .nil) [I (Int.tdiv addr 4)] (retI k0_spec_AddrPage)

theorem c_spec_NeedOf (w0 : World) (write : Bool) : Calls Tryz.prog 57 [B write].toArray w0 (fun e w' => e = .returned (I (f_needOf write)) ∧ Chg NoB w0 w') := by
 refine Calls.run NoB Tryz.func57 ?_
 intro ac β S
 refine S.gb 11 .nil write (fun ac w β h1 S => ?_) (fun ac w β h1 S => ?_)
 ·exact S.gf 7 .nil [I 2] (retI (by clear S; (simp [f_needOf, *])))
 exact S.gf 9 .nil [I 1] (retI (by clear S; (simp [f_needOf, *])))

theorem k0_spec_SlotAt {p : Prop} (h : p := by clear S; (first | (unfold f_slotAt; rw [if_pos (by omega)]) | (unfold f_slotAt; rw [if_neg (by omega)]))) : p := h
theorem c_spec_SlotAt (w0 : World) (t : List TSlot) (pt : LP TSlot) (ht : RD w0 t pt) (page : Int) : Calls Tryz.prog 71 [slv t.length pt.1, I page].toArray w0 (fun e w' => e = .returned (GT.val (f_slotAt t page) ()) ∧ Chg NoB w0 w') := by
 refine Calls.run NoB Tryz.func71 ?_
 intro ac β S
 have hlet : t.length ≤ 4194304 := LRd.le ht
 refine S.gb 16 (.cons (qm (t.length : Int) 1) (.cons (Q_call fun w hw => c_spec_l01In w page 0 ((t.length : Int) - 1)) .nil)) (!(f_within page 0 ((t.length : Int) - 1))) (fun ac w β h1 S => ?_) (fun ac w β h1 S => ?_)
 ·have h2 := not_t h1
  have g3 := within_f h2
  exact S.gf 8 (.cons (Q_call fun w hw => c_spec_NoSlot w ) .nil) [GT.val (⟨-1, 0⟩ : TSlot) ()] (retV (p := ()) k0_spec_SlotAt)
 have h4 := not_f h1
 have g5 := within_t h4
 exact S.gf 13 (.cons (qt (S.arg ht) page Tryz.underlying77) (.cons (qs (S.arg ht) 55 page.toNat) .nil)) [GT.val (el t page.toNat) ()] (retV (p := ()) k0_spec_SlotAt)

theorem c_spec_RightsOk (w0 : World) (r : Int) : Calls Tryz.prog 175 [I r].toArray w0 (fun e w' => e = .returned (B (f_within r 0 3)) ∧ Chg NoB w0 w') := by
 refine Calls.run NoB Tryz.func175 ?_
 intro ac β S
 exact S.gf 13 (.cons (Q_call fun w hw => c_spec_l01In w r 0 3) .nil) [B (f_within r 0 3)] (retB (by clear S; first | rfl | (simp [f_within, *]; done) | (simp [f_within, *]; omega) | (simp_all [f_within]; done) | (simp_all [f_within]; omega)))

theorem k0_spec_Enough {p : Prop} (h : p := by clear S; first | rfl | (simp [f_enough, *]; done) | (simp [f_enough, *]; omega) | (simp_all [f_enough]; done) | (simp_all [f_enough]; omega)) : p := h
theorem c_spec_Enough (w0 : World) (rights : Int) (need : Int) : Calls Tryz.prog 116 [I rights, I need].toArray w0 (fun e w' => e = .returned (B (f_enough rights need)) ∧ Chg NoB w0 w') := by
 refine Calls.run NoB Tryz.func116 ?_
 intro ac β S
 refine S.gb 10 (.cons (Q_call fun w hw => c_spec_RightsOk w rights) .nil) (f_within rights 0 3) (fun ac w β h1 S => ?_) (fun ac w β h1 S => ?_)
 ·have g2 := within_t h1
  refine S.gb 4 (.cons (Q_call fun w hw => c_spec_RightsOk w need) .nil) (f_within need 0 3) (fun ac w β h3 S => ?_) (fun ac w β h3 S => ?_)
  ·have g4 := within_t h3
   exact S.gf 10 (.cons (Q_land64 (x := rights) (y := need)) .nil) [B ((land64 rights need) == need)] (retB k0_spec_Enough)
  have g5 := within_f h3
  exact S.gf 10 .nil [B false] (retB k0_spec_Enough)
 have g6 := within_f h1
 exact S.gf 14 .nil [B false] (retB k0_spec_Enough)

theorem k0_spec_WalkInner {p : Prop} (h : p := by clear S; (unfold f_walkInner; (repeat' split) <;> first | rfl | (exfalso; omega) | (exfalso; simp_all; done) | (exfalso; simp_all; omega))) : p := h
theorem c_spec_WalkInner (w0 : World) (inner : List TSlot) (pinner : LP TSlot) (hinner : RD w0 inner pinner) (page : Int) (need : Int) : Calls Tryz.prog 55 [slv inner.length pinner.1, I page, I need].toArray w0 (fun e w' => e = .returned (.tuple #[I (f_walkInner inner page need).1, B (f_walkInner inner page need).2]) ∧ Chg NoB w0 w') := by
 refine Calls.run NoB Tryz.func55 ?_
 intro ac β S
 have hleinner : inner.length ≤ 4194304 := LRd.le hinner
 refine S.gd 22 (.cons (Q_call fun w hw => c_spec_SlotAt w inner pinner (rd_of (S.arg hinner) hw) page) .nil) ((f_slotAt inner page).page == (-1)) (fun ac w β h1 g2 S => ?_) (fun ac w β h1 g2 S => ?_)
 ·exact S.gf 20 .nil [I (-1), B false] (ret2v (eqI (show (-1) = (f_walkInner inner page need).1 from k0_spec_WalkInner)) (eqB (show false = (f_walkInner inner page need).2 from k0_spec_WalkInner)))
 refine S.gb 7 (.cons (Q_call fun w hw => c_spec_Enough w (f_slotAt inner page).rights need) .nil) (!(f_enough (f_slotAt inner page).rights need)) (fun ac w β h3 S => ?_) (fun ac w β h3 S => ?_)
 ·have h4 := not_t h3
  exact S.gf 13 .nil [I (-1), B false] (ret2v (eqI (show (-1) = (f_walkInner inner page need).1 from k0_spec_WalkInner)) (eqB (show false = (f_walkInner inner page need).2 from k0_spec_WalkInner)))
 have h5 := not_f h3
 have g6 := enough_t h5
 refine S.gd 5 .nil (need == 0) (fun ac w β h7 g8 S => ?_) (fun ac w β h7 g8 S => ?_)
 ·exact S.gf 8 .nil [I (-1), B false] (ret2v (eqI (show (-1) = (f_walkInner inner page need).1 from k0_spec_WalkInner)) (eqB (show false = (f_walkInner inner page need).2 from k0_spec_WalkInner)))
 exact S.gf 12 .nil [I (f_slotAt inner page).page, B true] (ret2v (eqI (show (f_slotAt inner page).page = (f_walkInner inner page need).1 from k0_spec_WalkInner)) (eqB (show true = (f_walkInner inner page need).2 from k0_spec_WalkInner)))

theorem c_spec_FaultExit (w0 : World) (page : Int) (hpage : In64 page) (write : Bool) : Calls Tryz.prog 59 [I page, B write].toArray w0 (fun e w' => e = .returned (GT.val (f_faultExit page write) ()) ∧ Chg NoB w0 w') := by
 refine Calls.run NoB Tryz.func59 ?_
 intro ac β S
 have hlopage := hpage.lo; have hhipage := hpage.hi
 exact S.gf 14 (.cons (Q_sem (s := Instr.build 79 [(0, I 1), (1, I page), (2, B write)].toArray) (v := .agg [I 1, I page, B write, I 0].toArray) (fun w => by kernel_rfl)) .nil) [GT.val (⟨1, page, write, 0⟩ : TExit) ()] (retV (p := ()) (by clear S; rfl))

theorem c_spec_Stopped (w0 : World) (g : TGuest) (pg : PGuest) (hg : RD w0 g pg) (e : TExit) (he : RExit e) : Calls Tryz.prog 58 [GT.val g pg, GT.val e ()].toArray w0 (Ret1 NoB w0 (({ g with exit := e } : TGuest) : TGuest)) := by
 refine Calls.run NoB Tryz.func58 ?_
 intro ac β S
 have hleg_prog : g.prog.length ≤ 4194304 := LRd.le (RGuest.prog (d := g) hg)
 have hleg_written : g.written.length ≤ 4194304 := LRd.le (RGuest.written (d := g) hg)
 have hleg_live : g.live.length ≤ 4194304 := LRd.le (RGuest.live (d := g) hg)
 have hleg_seen : g.seen.length ≤ 4194304 := LRd.le (RGuest.seen (d := g) hg)
 refine S.go 10 .nil fun ac w β S => S.K1 (r := g) (d := 6) (c_spec_l15Copy w g pg (S.rd (S.arg hg))) fun ac w N q1 F2 S up o3 d4 => ?_
 clear up d4
 have i8 : In64 g.acc := RGuest.acc (d := g) o3.rn
 have i9 : In64 g.pc := RGuest.pc (d := g) o3.rn
 have i16 : RCtl g.ctl := RGuest.ctl (d := g) o3.rn
 have i17 : In64 g.pend := RGuest.pend (d := g) o3.rn
 obtain ⟨F5, F10, F13, F19, o6, o11, o14, o20, _, _, _, _, d22, d23, d24, d25, d26, d27⟩ := sp_Guest o3
 refine S.gr 17 .nil [GT.val (⟨g.prog, g.acc, g.pc, g.written, g.live, g.ctl, g.pend, e, g.halted, g.seen⟩ : TGuest) (⟨q1.prog, q1.written, q1.live, q1.seen⟩ : PGuest)] fun ac w β S => ?_
 have o28 := ow_Guest (x := (⟨g.prog, g.acc, g.pc, g.written, g.live, g.ctl, g.pend, e, g.halted, g.seen⟩ : TGuest)) (p := (⟨q1.prog, q1.written, q1.live, q1.seen⟩ : PGuest)) o6 o11 o14 o20 d22 d23 d24 d25 d26 d27 i8 i9 i16 i17 he
 exact ret1_of S (show ({ g with exit := e } : TGuest) = (⟨g.prog, g.acc, g.pc, g.written, g.live, g.ctl, g.pend, e, g.halted, g.seen⟩ : TGuest) by clear S; rfl) rfl o28

theorem k0_spec_AddrCell {p : Prop} (h : p := by clear S; (first | (unfold f_addrCell; rw [if_pos (by omega)]; done) | (unfold f_addrCell; rw [if_pos (by omega)]; first | rfl | (simp; done)) | (unfold f_addrCell; rw [if_neg (by omega)]; done) | (unfold f_addrCell; rw [if_neg (by omega)]; first | rfl | (simp; done)))) : p := h
theorem c_spec_AddrCell (w0 : World) (addr : Int) (haddr : In64 addr) : Calls Tryz.prog 61 [I addr].toArray w0 (fun e w' => e = .returned (I (f_addrCell addr)) ∧ Chg NoB w0 w') := by
 refine Calls.run NoB Tryz.func61 ?_
 intro ac β S
 have hloaddr := haddr.lo; have hhiaddr := haddr.hi
 refine S.gd 12 .nil (decide (addr < 0)) (fun ac w β h1 g2 S => ?_) (fun ac w β h1 g2 S => ?_)
 ·exact S.gf 7 .nil [I (-1)] (retI k0_spec_AddrCell)
 exact S.gf 11 (.cons (Q_rem (x := addr) (y := 4) (by decide)) .nil) [I (Int.tmod addr 4)] (retI k0_spec_AddrCell)

theorem k0_spec_l04Has {p : Prop} (h : p := by clear S; (unfold f_hasCell; (repeat' split) <;> first | rfl | (rw [Bool.eq_iff_iff]; simp [f_within]; omega) | (rw [Bool.eq_iff_iff]; simp_all; omega))) : p := h
theorem c_spec_l04Has (w0 : World) (m : List (List Int)) (pm : LP (List Int)) (hm : RD w0 m pm) (page : Int) (cell : Int) : Calls Tryz.prog 117 [slv m.length pm.1, I page, I cell].toArray w0 (fun e w' => e = .returned (B (f_hasCell m page cell)) ∧ Chg NoB w0 w') := by
 refine Calls.run NoB Tryz.func117 ?_
 intro ac β S
 have hlem : m.length ≤ 4194304 := LRd.le hm
 refine S.gb 13 (.cons (qm (m.length : Int) 1) (.cons (Q_call fun w hw => c_spec_l01In w page 0 ((m.length : Int) - 1)) .nil)) (f_within page 0 ((m.length : Int) - 1)) (fun ac w β h1 S => ?_) (fun ac w β h1 S => ?_)
 ·have g2 := within_t h1
  have b3 : (el m page.toNat).length ≤ 4194304 := LRd.le (LRd.el (S.arg hm) page.toNat (by omega))
  exact S.gf 13 (.cons (qt (S.arg hm) page Tryz.underlying39) (.cons (qx (S.arg hm) 41 page.toNat) (.cons (qm ((el m page.toNat).length : Int) 1) (.cons (Q_call fun w hw => c_spec_l01In w cell 0 (((el m page.toNat).length : Int) - 1)) .nil)))) [B (f_within cell 0 (((el m page.toNat).length : Int) - 1))] (retB k0_spec_l04Has)
 have g4 := within_f h1
 exact S.gf 13 .nil [B false] (retB k0_spec_l04Has)

theorem k0_spec_WithCell {p : Prop} (h : p := by clear S; (unfold f_withCell; (repeat' split) <;> first | rfl | (simp; done) | (exfalso; omega) | (exfalso; simp_all; done) | (exfalso; simp_all; omega))) : p := h
theorem c_spec_WithCell (w0 : World) (m : List (List Int)) (pm : LP (List Int)) (hm : RD w0 m pm) (page : Int) (cell : Int) (v : Int) (hv : In64 v) : Calls Tryz.prog 60 [slv m.length pm.1, I page, I cell, I v].toArray w0 (Ret1 NoB w0 (f_withCell m page cell v : List (List Int))) := by
 refine Calls.run NoB Tryz.func60 ?_
 intro ac β S
 have hlem : m.length ≤ 4194304 := LRd.le hm
 have hlov := hv.lo; have hhiv := hv.hi
 refine S.go 8 .nil fun ac w β S => S.K1 (r := m) (d := 11) (c_spec_l04Copy w m pm (S.rd (S.arg hm))) fun ac w N q1 F2 S up o3 d4 => ?_
 clear up d4
 refine S.gb 11 (.cons (Q_call fun w hw => c_spec_l04Has w m pm (rd_of (S.arg hm) hw) page cell) .nil) (f_hasCell m page cell) (fun ac w β h5 S => ?_) (fun ac w β h5 S => ?_)
 ·have g6 := hasCell_t h5
  refine S.gb 5 (.cons (Q_call fun w hw => c_spec_l01In w v 0 99) .nil) (f_within v 0 99) (fun ac w β h7 S => ?_) (fun ac w β h7 S => ?_)
  ·have g8 := within_t h7
   obtain ⟨F9, o10, _, b12⟩ := foc2_id o3 (k := page.toNat) (show page.toNat < m.length by omega)
   have l13 := LRd.le o10.rn
   have n14 := o10.sub
   refine S.go 9 (.cons (qt o3.rn page Tryz.underlying39) (.cons (qx o3.rn 41 page.toNat) (.cons (qt (LRd.el o3.rn page.toNat (by omega)) cell Tryz.underlying41) .nil))) fun ac w β S => S.SF (α := Int) o10 (t := 3) (k := cell.toNat) (j := 0) (off := (q1.2 page.toNat).1.off + cell.toNat * 1) (v := I v) (y := v) (q := ()) (fun _ _ _ => ⟨NoB, hv, fun _ h => False.elim h⟩) fun w N F16 q17 S up o15 d18 s19 n20 => ?_
   clear d18 o10
   obtain ⟨p21, o22, c23⟩ := b12 _ _ _ _ _ NoB up o15 s19 (fun b _ h => False.elim h) (by show [slv _ _] = [slv _ _]; rw [List.length_set]) (fun b h => n20 b (n14 b h))
   clear up o15 n20
   have l24 : (m.set page.toNat ((el m page.toNat).set cell.toNat v)).length = m.length := List.length_set
   refine S.gr 9 .nil [slv m.length q1.1] fun ac w β S => ?_
   exact ret1_of S (show f_withCell m page cell v = (m.set page.toNat ((el m page.toNat).set cell.toNat v)) from k0_spec_WithCell) (by rw [show m.length = (m.set page.toNat ((el m page.toNat).set cell.toNat v)).length from (by omega)]; rfl) o22
  have g25 := within_f h7
  refine S.gr 10 .nil [slv m.length q1.1] fun ac w β S => ?_
  exact ret1_of S (show f_withCell m page cell v = m from k0_spec_WithCell) rfl o3
 have g26 := hasCell_f h5
 refine S.gr 15 .nil [slv m.length q1.1] fun ac w β S => ?_
 exact ret1_of S (show f_withCell m page cell v = m from k0_spec_WithCell) rfl o3

theorem c_spec_Stored (w0 : World) (g : TGuest) (pg : PGuest) (hg : RD w0 g pg) : Calls Tryz.prog 62 [GT.val g pg].toArray w0 (Ret1 NoB w0 (f_moved g : TGuest)) := by
 refine Calls.run NoB Tryz.func62 ?_
 intro ac β S
 have hleg_prog : g.prog.length ≤ 4194304 := LRd.le (RGuest.prog (d := g) hg)
 have hleg_written : g.written.length ≤ 4194304 := LRd.le (RGuest.written (d := g) hg)
 have hleg_live : g.live.length ≤ 4194304 := LRd.le (RGuest.live (d := g) hg)
 have hleg_seen : g.seen.length ≤ 4194304 := LRd.le (RGuest.seen (d := g) hg)
 refine S.go 9 .nil fun ac w β S => S.K1 (r := f_moved g) (d := 4) (c_spec_Moved w g pg (S.rd (S.arg hg))) fun ac w N q1 F2 S up o3 d4 => ?_
 clear up d4
 refine S.gr 4 .nil [GT.val (f_moved g) q1] fun ac w β S => ?_
 exact ret1_of S (show f_moved g = (f_moved g) by clear S; rfl) rfl o3

theorem k0_spec_CellAt {p : Prop} (h : p := by clear S; (first | (unfold f_cellAt; rw [if_pos (by omega)]; done) | (unfold f_cellAt; rw [if_pos (by omega)]; first | rfl | (simp; done)) | (unfold f_cellAt; rw [if_neg (by omega)]; done) | (unfold f_cellAt; rw [if_neg (by omega)]; first | rfl | (simp; done)))) : p := h
theorem c_spec_CellAt (w0 : World) (m : List (List Int)) (pm : LP (List Int)) (hm : RD w0 m pm) (page : Int) (cell : Int) : Calls Tryz.prog 64 [slv m.length pm.1, I page, I cell].toArray w0 (fun e w' => e = .returned (I (f_cellAt m page cell)) ∧ Chg NoB w0 w') := by
 refine Calls.run NoB Tryz.func64 ?_
 intro ac β S
 have hlem : m.length ≤ 4194304 := LRd.le hm
 refine S.gb 15 (.cons (Q_call fun w hw => c_spec_l04Has w m pm (rd_of (S.arg hm) hw) page cell) .nil) (!(f_hasCell m page cell)) (fun ac w β h1 S => ?_) (fun ac w β h1 S => ?_)
 ·have h2 := not_t h1
  have g3 := hasCell_f h2
  exact S.gf 7 .nil [I 0] (retI k0_spec_CellAt)
 have h4 := not_f h1
 have g5 := hasCell_t h4
 exact S.gf 16 (.cons (qt (S.arg hm) page Tryz.underlying39) (.cons (qx (S.arg hm) 41 page.toNat) (.cons (qt (LRd.el (S.arg hm) page.toNat (by omega)) cell Tryz.underlying41) (.cons (qx (LRd.el (S.arg hm) page.toNat (by omega)) 3 cell.toNat) .nil)))) [I (el (el m page.toNat) cell.toNat)] (retI k0_spec_CellAt)

theorem c_spec_Loaded (w0 : World) (g : TGuest) (pg : PGuest) (hg : RD w0 g pg) (v : Int) (hv : In64 v) : Calls Tryz.prog 63 [GT.val g pg, I v].toArray w0 (Ret1 NoB w0 (f_loaded g v : TGuest)) := by
 refine Calls.run NoB Tryz.func63 ?_
 intro ac β S
 have hleg_prog : g.prog.length ≤ 4194304 := LRd.le (RGuest.prog (d := g) hg)
 have hleg_written : g.written.length ≤ 4194304 := LRd.le (RGuest.written (d := g) hg)
 have hleg_live : g.live.length ≤ 4194304 := LRd.le (RGuest.live (d := g) hg)
 have hleg_seen : g.seen.length ≤ 4194304 := LRd.le (RGuest.seen (d := g) hg)
 have hlov := hv.lo; have hhiv := hv.hi
 refine S.go 17 .nil fun ac w β S => S.K1 (r := f_saw (⟨g.prog, v, g.pc, g.written, g.live, g.ctl, g.pend, g.exit, g.halted, g.seen⟩ : TGuest) v) (d := 9) (c_spec_Saw w (⟨g.prog, v, g.pc, g.written, g.live, g.ctl, g.pend, g.exit, g.halted, g.seen⟩ : TGuest) (⟨pg.prog, pg.written, pg.live, pg.seen⟩ : PGuest) (S.rd (show GT.rd KK _ _ (⟨g.prog, v, g.pc, g.written, g.live, g.ctl, g.pend, g.exit, g.halted, g.seen⟩ : TGuest) (⟨pg.prog, pg.written, pg.live, pg.seen⟩ : PGuest) from ⟨(RGuest.prog (p := pg) (d := g) (S.arg hg)), hv, (RGuest.pc (d := g) (S.arg hg)), (RGuest.written (p := pg) (d := g) (S.arg hg)), (RGuest.live (p := pg) (d := g) (S.arg hg)), (RGuest.ctl (d := g) (S.arg hg)), (RGuest.pend (d := g) (S.arg hg)), (RGuest.exit (d := g) (S.arg hg)), (RGuest.seen (p := pg) (d := g) (S.arg hg))⟩)) v hv) fun ac w N q1 F2 S up o3 d4 => ?_
 clear up d4
 refine S.K1 (r := f_moved (f_saw (⟨g.prog, v, g.pc, g.written, g.live, g.ctl, g.pend, g.exit, g.halted, g.seen⟩ : TGuest) v)) (d := 10) (c_spec_Moved w (f_saw (⟨g.prog, v, g.pc, g.written, g.live, g.ctl, g.pend, g.exit, g.halted, g.seen⟩ : TGuest) v) q1 (S.rd o3.rn)) fun ac w N q5 F6 S up o7 d8 => ?_
 clear up d8
 refine S.gr 4 .nil [GT.val (f_moved (f_saw (⟨g.prog, v, g.pc, g.written, g.live, g.ctl, g.pend, g.exit, g.halted, g.seen⟩ : TGuest) v)) q5] fun ac w β S => ?_
 exact ret1_of S (show f_loaded g v = (f_moved (f_saw (⟨g.prog, v, g.pc, g.written, g.live, g.ctl, g.pend, g.exit, g.halted, g.seen⟩ : TGuest) v)) by clear S; rfl) rfl o7

theorem c_spec_CallExit (w0 : World) (n : Int) (hn : In64 n) : Calls Tryz.prog 118 [I n].toArray w0 (fun e w' => e = .returned (GT.val (f_callExit n) ()) ∧ Chg NoB w0 w') := by
 refine Calls.run NoB Tryz.func118 ?_
 intro ac β S
 have hlon := hn.lo; have hhin := hn.hi
 exact S.gf 13 (.cons (Q_sem (s := Instr.build 79 [(0, I 2), (3, I n)].toArray) (v := .agg [I 2, I 0, B false, I n].toArray) (fun w => by kernel_rfl)) .nil) [GT.val (⟨2, 0, false, n⟩ : TExit) ()] (retV (p := ()) (by clear S; rfl))

theorem k0_spec_HasTrap {p : Prop} (h : p := by clear S; (unfold f_hasTrap; first | (rw [Bool.eq_iff_iff]; simp_all; done) | (rw [Bool.eq_iff_iff]; simp_all [f_within]; omega) | (simp_all; done))) : p := h
theorem c_spec_HasTrap (w0 : World) (traps : Int) (trap : Int) : Calls Tryz.prog 119 [I traps, I trap].toArray w0 (fun e w' => e = .returned (B (f_hasTrap traps trap)) ∧ Chg NoB w0 w') := by
 refine Calls.run NoB Tryz.func119 ?_
 intro ac β S
 refine S.gb 10 (.cons (Q_call fun w hw => c_spec_l01In w traps 0 3) .nil) (f_within traps 0 3) (fun ac w β h1 S => ?_) (fun ac w β h1 S => ?_)
 ·have g2 := within_t h1
  refine S.gb 4 (.cons (Q_call fun w hw => c_spec_l01In w trap 1 2) .nil) (f_within trap 1 2) (fun ac w β h3 S => ?_) (fun ac w β h3 S => ?_)
  ·have g4 := within_t h3
   exact S.gf 9 (.cons (Q_land64 (x := traps) (y := trap)) .nil) [B ((land64 traps trap) != 0)] (retB k0_spec_HasTrap)
  have g5 := within_f h3
  exact S.gf 9 .nil [B false] (retB k0_spec_HasTrap)
 have g6 := within_f h1
 exact S.gf 13 .nil [B false] (retB k0_spec_HasTrap)

theorem c_spec_OutExit (w0 : World) (n : Int) (hn : In64 n) : Calls Tryz.prog 120 [I n].toArray w0 (fun e w' => e = .returned (GT.val (f_outExit n) ()) ∧ Chg NoB w0 w') := by
 refine Calls.run NoB Tryz.func120 ?_
 intro ac β S
 have hlon := hn.lo; have hhin := hn.hi
 exact S.gf 13 (.cons (Q_sem (s := Instr.build 79 [(0, I 3), (3, I n)].toArray) (v := .agg [I 3, I 0, B false, I n].toArray) (fun w => by kernel_rfl)) .nil) [GT.val (⟨3, 0, false, n⟩ : TExit) ()] (retV (p := ()) (by clear S; rfl))

theorem c_spec_Held (w0 : World) (g : TGuest) (pg : PGuest) (hg : RD w0 g pg) : Calls Tryz.prog 73 [GT.val g pg].toArray w0 (Ret1 NoB w0 (f_held g : TGuest)) := by
 refine Calls.run NoB Tryz.func73 ?_
 intro ac β S
 have hleg_prog : g.prog.length ≤ 4194304 := LRd.le (RGuest.prog (d := g) hg)
 have hleg_written : g.written.length ≤ 4194304 := LRd.le (RGuest.written (d := g) hg)
 have hleg_live : g.live.length ≤ 4194304 := LRd.le (RGuest.live (d := g) hg)
 have hleg_seen : g.seen.length ≤ 4194304 := LRd.le (RGuest.seen (d := g) hg)
 refine S.go 15 .nil fun ac w β S => S.K1 (r := f_moved (⟨g.prog, g.acc, g.pc, g.written, g.live, g.ctl, g.pend, g.exit, true, g.seen⟩ : TGuest)) (d := 5) (c_spec_Moved w (⟨g.prog, g.acc, g.pc, g.written, g.live, g.ctl, g.pend, g.exit, true, g.seen⟩ : TGuest) (⟨pg.prog, pg.written, pg.live, pg.seen⟩ : PGuest) (S.rd (show GT.rd KK _ _ (⟨g.prog, g.acc, g.pc, g.written, g.live, g.ctl, g.pend, g.exit, true, g.seen⟩ : TGuest) (⟨pg.prog, pg.written, pg.live, pg.seen⟩ : PGuest) from ⟨(RGuest.prog (p := pg) (d := g) (S.arg hg)), (RGuest.acc (d := g) (S.arg hg)), (RGuest.pc (d := g) (S.arg hg)), (RGuest.written (p := pg) (d := g) (S.arg hg)), (RGuest.live (p := pg) (d := g) (S.arg hg)), (RGuest.ctl (d := g) (S.arg hg)), (RGuest.pend (d := g) (S.arg hg)), (RGuest.exit (d := g) (S.arg hg)), (RGuest.seen (p := pg) (d := g) (S.arg hg))⟩))) fun ac w N q1 F2 S up o3 d4 => ?_
 clear up d4
 refine S.gr 4 .nil [GT.val (f_moved (⟨g.prog, g.acc, g.pc, g.written, g.live, g.ctl, g.pend, g.exit, true, g.seen⟩ : TGuest)) q1] fun ac w β S => ?_
 exact ret1_of S (show f_held g = (f_moved (⟨g.prog, g.acc, g.pc, g.written, g.live, g.ctl, g.pend, g.exit, true, g.seen⟩ : TGuest)) by clear S; rfl) rfl o3

theorem k0_spec_l18Trap {p : Prop} (h : p := by clear S; (unfold f_trap; (repeat' split) <;> first | rfl | (exfalso; omega) | (exfalso; simp_all; done) | (exfalso; simp_all; omega) | (simp_all; done))) : p := h
theorem c_spec_l18Trap (w0 : World) (x : TGuest) (px : PGuest) (hx : RD w0 x px) (traps : Int) (want : Int) : Calls Tryz.prog 65 [GT.val x px, I traps, I want].toArray w0 (Ret2 NoB w0 ((f_trap x traps want).1 : TGuest) ((f_trap x traps want).2 : Bool)) := by
 refine Calls.run NoB Tryz.func65 ?_
 intro ac β S
 have hlex_prog : x.prog.length ≤ 4194304 := LRd.le (RGuest.prog (d := x) hx)
 have hlex_written : x.written.length ≤ 4194304 := LRd.le (RGuest.written (d := x) hx)
 have hlex_live : x.live.length ≤ 4194304 := LRd.le (RGuest.live (d := x) hx)
 have hlex_seen : x.seen.length ≤ 4194304 := LRd.le (RGuest.seen (d := x) hx)
 refine S.gd 27 (.cons (Q_call fun w hw => c_spec_InsAt w x.prog px.prog (rd_of (RGuest.prog (d := x) (S.arg hx)) hw) x.pc) .nil) (want == 6) (fun ac w β h1 g2 S => ?_) (fun ac w β h1 g2 S => ?_)
 ·refine S.go 2 .nil fun ac w β S => ?_
  refine drw ?_
  refine S.draw0 (f := 7) 5 (by kernel_rfl) (by kernel_rfl) fun w S => ?_
  refine S.hq 0 [0] [] [(17, .v (GT.val x px))] .nil fun ac S => ?_
  refine S.hq 1 [1] [] [(18, .p 2 1)] .nil fun ac S => ?_
  refine S.hq 2 [2] [] [(19, .v (I (f_insAt x.prog x.pc).x))] .nil fun ac S => ?_
  refine S.sq 3 [] [(20, .v (GT.val (f_callExit (f_insAt x.prog x.pc).x) ()))] 3 [] (.cons (Q_call fun w hw => c_spec_CallExit w (f_insAt x.prog x.pc).x (RIns.x (d := (f_insAt x.prog x.pc)) (insAt_r (RGuest.prog (d := x) (S.arg hx)) x.pc))) .nil) fun ac w β S => ?_
  refine WD.one (i := 4) (by kernel_rfl) ?_
  refine id (S.k1 21 (c_spec_Stopped w x px (S.rd (S.arg hx)) (f_callExit (f_insAt x.prog x.pc).x) (callExit_r (RIns.x (d := (f_insAt x.prog x.pc)) (insAt_r (RGuest.prog (d := x) (S.arg hx)) x.pc)))) fun ac w N q3 F4 S up o5 d6 => ?_)
  refine WD.next S up (by kernel_rfl) ?_
  clear up d6
  refine S.sl 5 [] [] 3 [(1, GT.cells ({ x with exit := (f_callExit (f_insAt x.prog x.pc).x) } : TGuest) q3)] .nil fun ac w β S => ?_
  refine S.sl 6 [] [(7, .v (B false))] 3 [] .nil fun ac w β S => ?_
  refine WD.done (by kernel_rfl) ?_ _
  refine S.ex fun S => ?_
  refine S.gr 2 .nil [GT.val ({ x with exit := (f_callExit (f_insAt x.prog x.pc).x) } : TGuest) q3, B false] fun ac w β S => ?_
  exact ret2_of (p' := ()) S (show (f_trap x traps want).1 = ({ x with exit := (f_callExit (f_insAt x.prog x.pc).x) } : TGuest) from k0_spec_l18Trap) (show (f_trap x traps want).2 = false from k0_spec_l18Trap) rfl rfl o5 trivial
 refine S.gd 6 .nil (want == 5) (fun ac w β h7 g8 S => ?_) (fun ac w β h7 g8 S => ?_)
 ·refine S.gb 6 (.cons (Q_call fun w hw => c_spec_HasTrap w traps 1) .nil) (f_hasTrap traps 1) (fun ac w β h9 S => ?_) (fun ac w β h9 S => ?_)
  ·refine S.go 2 .nil fun ac w β S => ?_
   refine drw ?_
   refine S.draw0 (f := 7) 5 (by kernel_rfl) (by kernel_rfl) fun w S => ?_
   refine S.hq 0 [0] [] [(29, .v (GT.val x px))] .nil fun ac S => ?_
   refine S.hq 1 [1] [] [(30, .p 2 1)] .nil fun ac S => ?_
   refine S.hq 2 [2] [] [(31, .v (I (f_insAt x.prog x.pc).x))] .nil fun ac S => ?_
   refine S.sq 3 [] [(32, .v (GT.val (f_outExit (f_insAt x.prog x.pc).x) ()))] 3 [] (.cons (Q_call fun w hw => c_spec_OutExit w (f_insAt x.prog x.pc).x (RIns.x (d := (f_insAt x.prog x.pc)) (insAt_r (RGuest.prog (d := x) (S.arg hx)) x.pc))) .nil) fun ac w β S => ?_
   refine WD.one (i := 4) (by kernel_rfl) ?_
   refine id (S.k1 33 (c_spec_Stopped w x px (S.rd (S.arg hx)) (f_outExit (f_insAt x.prog x.pc).x) (outExit_r (RIns.x (d := (f_insAt x.prog x.pc)) (insAt_r (RGuest.prog (d := x) (S.arg hx)) x.pc)))) fun ac w N q10 F11 S up o12 d13 => ?_)
   refine WD.next S up (by kernel_rfl) ?_
   clear up d13
   refine S.sl 5 [] [] 3 [(1, GT.cells ({ x with exit := (f_outExit (f_insAt x.prog x.pc).x) } : TGuest) q10)] .nil fun ac w β S => ?_
   refine S.sl 6 [] [(7, .v (B false))] 3 [] .nil fun ac w β S => ?_
   refine WD.done (by kernel_rfl) ?_ _
   refine S.ex fun S => ?_
   refine S.gr 2 .nil [GT.val ({ x with exit := (f_outExit (f_insAt x.prog x.pc).x) } : TGuest) q10, B false] fun ac w β S => ?_
   exact ret2_of (p' := ()) S (show (f_trap x traps want).1 = ({ x with exit := (f_outExit (f_insAt x.prog x.pc).x) } : TGuest) from k0_spec_l18Trap) (show (f_trap x traps want).2 = false from k0_spec_l18Trap) rfl rfl o12 trivial
  refine S.gd 6 .nil (want == 7) (fun ac w β h14 g15 S => ?_) (fun ac w β h14 g15 S => ?_)
  ·refine S.gb 6 (.cons (Q_call fun w hw => c_spec_HasTrap w traps 2) .nil) (f_hasTrap traps 2) (fun ac w β h16 S => ?_) (fun ac w β h16 S => ?_)
   ·refine S.go 5 (.cons (Q_sem (s := Instr.build 79 [(0, I 4)].toArray) (v := .agg [I 4, I 0, B false, I 0].toArray) (fun w => by kernel_rfl)) .nil) fun ac w β S => S.K1 (r := ({ x with exit := (⟨4, 0, false, 0⟩ : TExit) } : TGuest)) (d := 43) (c_spec_Stopped w x px (S.rd (S.arg hx)) (⟨4, 0, false, 0⟩ : TExit) (show RExit (⟨4, 0, false, 0⟩ : TExit) from ⟨(show In64 4 from ⟨by decide, by decide⟩), (show In64 0 from ⟨by decide, by decide⟩), (show In64 0 from ⟨by decide, by decide⟩)⟩)) fun ac w N q17 F18 S up o19 d20 => ?_
    clear up d20
    refine S.gr 5 .nil [GT.val ({ x with exit := (⟨4, 0, false, 0⟩ : TExit) } : TGuest) q17, B false] fun ac w β S => ?_
    exact ret2_of (p' := ()) S (show (f_trap x traps want).1 = ({ x with exit := (⟨4, 0, false, 0⟩ : TExit) } : TGuest) from k0_spec_l18Trap) (show (f_trap x traps want).2 = false from k0_spec_l18Trap) rfl rfl o19 trivial
   refine S.go 8 .nil fun ac w β S => ?_
   refine S.lt 44 h14 fun S => ?_
   refine S.go 4 .nil fun ac w β S => S.K1 (r := f_held x) (d := 48) (c_spec_Held w x px (S.rd (S.arg hx))) fun ac w N q21 F22 S up o23 d24 => ?_
   clear up d24
   refine S.gr 5 .nil [GT.val (f_held x) q21, B true] fun ac w β S => ?_
   exact ret2_of (p' := ()) S (show (f_trap x traps want).1 = (f_held x) from k0_spec_l18Trap) (show (f_trap x traps want).2 = true from k0_spec_l18Trap) rfl rfl o23 trivial
  refine S.go 14 .nil fun ac w β S => ?_
  refine S.lt 44 h14 fun S => ?_
  refine S.go 7 .nil fun ac w β S => S.K1 (r := f_moved x) (d := 50) (c_spec_Moved w x px (S.rd (S.arg hx))) fun ac w N q25 F26 S up o27 d28 => ?_
  clear up d28
  refine S.gr 5 .nil [GT.val (f_moved x) q25, B true] fun ac w β S => ?_
  exact ret2_of (p' := ()) S (show (f_trap x traps want).1 = (f_moved x) from k0_spec_l18Trap) (show (f_trap x traps want).2 = true from k0_spec_l18Trap) rfl rfl o27 trivial
 refine S.gd 12 .nil (want == 7) (fun ac w β h29 g30 S => ?_) (fun ac w β h29 g30 S => ?_)
 ·refine S.gb 6 (.cons (Q_call fun w hw => c_spec_HasTrap w traps 2) .nil) (f_hasTrap traps 2) (fun ac w β h31 S => ?_) (fun ac w β h31 S => ?_)
  ·refine S.go 5 (.cons (Q_sem (s := Instr.build 79 [(0, I 4)].toArray) (v := .agg [I 4, I 0, B false, I 0].toArray) (fun w => by kernel_rfl)) .nil) fun ac w β S => S.K1 (r := ({ x with exit := (⟨4, 0, false, 0⟩ : TExit) } : TGuest)) (d := 43) (c_spec_Stopped w x px (S.rd (S.arg hx)) (⟨4, 0, false, 0⟩ : TExit) (show RExit (⟨4, 0, false, 0⟩ : TExit) from ⟨(show In64 4 from ⟨by decide, by decide⟩), (show In64 0 from ⟨by decide, by decide⟩), (show In64 0 from ⟨by decide, by decide⟩)⟩)) fun ac w N q32 F33 S up o34 d35 => ?_
   clear up d35
   refine S.gr 5 .nil [GT.val ({ x with exit := (⟨4, 0, false, 0⟩ : TExit) } : TGuest) q32, B false] fun ac w β S => ?_
   exact ret2_of (p' := ()) S (show (f_trap x traps want).1 = ({ x with exit := (⟨4, 0, false, 0⟩ : TExit) } : TGuest) from k0_spec_l18Trap) (show (f_trap x traps want).2 = false from k0_spec_l18Trap) rfl rfl o34 trivial
  refine S.go 8 .nil fun ac w β S => ?_
  refine S.lt 44 h29 fun S => ?_
  refine S.go 4 .nil fun ac w β S => S.K1 (r := f_held x) (d := 48) (c_spec_Held w x px (S.rd (S.arg hx))) fun ac w N q36 F37 S up o38 d39 => ?_
  clear up d39
  refine S.gr 5 .nil [GT.val (f_held x) q36, B true] fun ac w β S => ?_
  exact ret2_of (p' := ()) S (show (f_trap x traps want).1 = (f_held x) from k0_spec_l18Trap) (show (f_trap x traps want).2 = true from k0_spec_l18Trap) rfl rfl o38 trivial
 refine S.go 14 .nil fun ac w β S => ?_
 refine S.lt 44 h29 fun S => ?_
 refine S.go 7 .nil fun ac w β S => S.K1 (r := f_moved x) (d := 50) (c_spec_Moved w x px (S.rd (S.arg hx))) fun ac w N q40 F41 S up o42 d43 => ?_
 clear up d43
 refine S.gr 5 .nil [GT.val (f_moved x) q40, B true] fun ac w β S => ?_
 exact ret2_of (p' := ()) S (show (f_trap x traps want).1 = (f_moved x) from k0_spec_l18Trap) (show (f_trap x traps want).2 = true from k0_spec_l18Trap) rfl rfl o42 trivial

theorem k0_spec_PutOut {p : Prop} (h : p := by clear S; (first | (unfold f_putOut; rw [if_pos (by omega)]; done) | (unfold f_putOut; rw [if_pos (by omega)]; first | rfl | (simp; done)) | (unfold f_putOut; rw [if_neg (by omega)]; done) | (unfold f_putOut; rw [if_neg (by omega)]; first | rfl | (simp; done)))) : p := h
theorem c_spec_PutOut (w0 : World) (b : TBare) (pb : PBare) (hb : RD w0 b pb) (n : Int) (hn : In64 n) : Calls Tryz.prog 66 [GT.val b pb, I n].toArray w0 (Ret1 NoB w0 (f_putOut b n : TBare)) := by
 refine Calls.run NoB Tryz.func66 ?_
 intro ac β S
 have hleb_mem : b.mem.length ≤ 4194304 := LRd.le (RBare.mem (d := b) hb)
 have hleb_guests : b.guests.length ≤ 4194304 := LRd.le (RBare.guests (d := b) hb)
 have hleb_outs : b.outs.length ≤ 4194304 := LRd.le (RBare.outs (d := b) hb)
 have hlon := hn.lo; have hhin := hn.hi
 refine S.go 9 .nil fun ac w β S => S.K1 (r := b) (d := 6) (c_spec_l17Copy w b pb (S.rd (S.arg hb))) fun ac w N q1 F2 S up o3 d4 => ?_
 clear up d4
 have i14 : In64 b.pend := RBare.pend (d := b) o3.rn
 obtain ⟨F5, F8, F11, o6, o9, o12, _, _, _, d15, d16, d17⟩ := sp_Bare o3
 refine S.gd 12 .nil (decide ((b.outs.length : Int) < 40)) (fun ac w β h18 g19 S => ?_) (fun ac w β h18 g19 S => ?_)
 ·refine S.go 5 .nil fun ac w β S => S.B1 (α := Int) (x := n) (p := ()) (F := NoB) hn (fun b h => False.elim h) (fun b h => False.elim h) (d := 14) fun ac w N q20 F21 S up o22 d23 => ?_
  replace o6 := o6.up up
  replace o9 := o9.up up
  replace o12 := o12.up up
  clear up d23
  refine S.AF (α := Int) o12 o22.rn (fun _ _ h => h) (by' := 8) (d := 15) (lx := b.outs.length) (ly := 1) rfl rfl (show _ ≤ 4194304 by simp only [List.length_append, List.length_cons, List.length_nil]; omega) fun ac w N q27 F28 S up o29 d30 => ?_
  have d31 := d30 _ d16 o6.sub
  have d32 := d30 _ d17 o9.sub
  replace o6 := o6.upF d16 up
  replace o9 := o9.upF d17 up
  clear up d30
  refine S.gr 11 .nil [GT.val (⟨b.mem, b.guests, (b.outs ++ [n]), b.pend⟩ : TBare) (⟨q1.mem, q1.guests, q27⟩ : PBare)] fun ac w β S => ?_
  have o34 := ow_Bare (x := (⟨b.mem, b.guests, (b.outs ++ [n]), b.pend⟩ : TBare)) (p := (⟨q1.mem, q1.guests, q27⟩ : PBare)) o6 o9 o29 d15 d31 d32 i14
  exact ret1_of S (show f_putOut b n = (⟨b.mem, b.guests, (b.outs ++ [n]), b.pend⟩ : TBare) from k0_spec_PutOut) rfl o34
 refine S.gr 10 .nil [GT.val b q1] fun ac w β S => ?_
 have o35 := ow_Bare (x := b) (p := q1) o6 o9 o12 d15 d16 d17 i14
 exact ret1_of S (show f_putOut b n = b from k0_spec_PutOut) rfl o35

theorem k0_spec_BareStep {p : Prop} (h : p := by clear S; (first | (rw [bareStep_no (.inl (by assumption))]; done) | (rw [bareStep_no (.inr (.inl (by assumption)))]; done) | (rw [bareStep_no (.inr (.inr (by omega)))]; done) | (rw [bareStep_yes (by assumption) (by assumption) (by omega)]; first | (rw [bareTo1 (by omega)]; first | done | rfl) | (rw [bareTo2 (by omega)]; first | done | rfl) | (rw [mem_no (by omega) (by assumption)]; first | done | rfl) | (rw [mem_store (by omega) (by assumption)]; first | done | rfl) | (rw [mem_load (by omega) (by assumption)]; first | done | rfl) | (rw [bareTo5 (by omega) (by omega) (by omega) (by omega)]; unfold f_bareOutIf; first | (rw [if_pos ⟨by assumption, by omega⟩]; first | done | rfl) | (rw [if_neg (by rintro ⟨h1, h2⟩; first | omega | simp_all)]; first | done | rfl))))) : p := h
theorem k1_spec_BareStep {p : Prop} (h : p := by clear S; (first | (rw [bareStep_no (.inl (by assumption))]; done) | (rw [bareStep_no (.inr (.inl (by assumption)))]; done) | (rw [bareStep_no (.inr (.inr (by omega)))]; done) | (rw [bareStep_yes (by assumption) (by assumption) (by omega)]; done))) : p := h
theorem c_spec_BareStep (w0 : World) (b : TBare) (pb : PBare) (hb : RD w0 b pb) (g : Int) : Calls Tryz.prog 18 [GT.val b pb, I g].toArray w0 (Ret2 NoB w0 ((f_bareStep b g).1 : TBare) ((f_bareStep b g).2 : Bool)) := by
 refine Calls.run NoB Tryz.func18 ?_
 intro ac β S
 have hleb_mem : b.mem.length ≤ 4194304 := LRd.le (RBare.mem (d := b) hb)
 have hleb_guests : b.guests.length ≤ 4194304 := LRd.le (RBare.guests (d := b) hb)
 have hleb_outs : b.outs.length ≤ 4194304 := LRd.le (RBare.outs (d := b) hb)
 refine S.go 10 .nil fun ac w β S => S.K1 (r := b) (d := 16) (c_spec_l17Copy w b pb (S.rd (S.arg hb))) fun ac w N q1 F2 S up o3 d4 => ?_
 clear up d4
 have i14 : In64 b.pend := RBare.pend (d := b) o3.rn
 obtain ⟨F5, F8, F11, o6, o9, o12, _, _, _, d15, d16, d17⟩ := sp_Bare o3
 refine S.go 7 .nil fun ac w β S => S.K2 (r := (f_guestAt b g).1) (r' := (f_guestAt b g).2) (d := 20) (c_spec_GuestAt w b q1 (S.rd (show GT.rd KK _ _ b q1 from ⟨o6.rn, o9.rn, o12.rn, i14⟩)) g) fun ac w N q18 q19 F20 F21 S up o22 o23 d24 d25 d26 => ?_
 have d31 := Disj.w d24 o9.sub
 replace o6 := o6.up up
 replace o9 := o9.up up
 replace o12 := o12.up up
 clear up d24
 clear d25
 have b33 := wantOf_bd (f_guestAt b g).1
 refine S.gb 21 (.cons (Q_call fun w hw => c_spec_WantOf w (f_guestAt b g).1 q18 (rd_of o22.rn hw)) .nil) (!(f_guestAt b g).2) (fun ac w β h34 S => ?_) (fun ac w β h34 S => ?_)
 ·have h35 := not_t h34
  have g36 := guestAt_f h35
  refine S.gr 19 .nil [GT.val b q1, B false] fun ac w β S => ?_
  have o37 := ow_Bare (x := b) (p := q1) o6 o9 o12 d15 d16 d17 i14
  exact ret2_of (p' := ()) S (show (f_bareStep b g).1 = b from k0_spec_BareStep) (show (f_bareStep b g).2 = false from k1_spec_BareStep) rfl rfl o37 trivial
 have h38 := not_f h34
 have g39 := guestAt_t h38
 refine S.gb 5 (.cons (Q_call fun w hw => c_spec_BareOk w b q1 (rd_of (show GT.rd KK _ _ b q1 from ⟨o6.rn, o9.rn, o12.rn, i14⟩) hw)) .nil) (!(f_bareOk b)) (fun ac w β h40 S => ?_) (fun ac w β h40 S => ?_)
 ·have h41 := not_t h40
  refine S.gr 14 .nil [GT.val b q1, B false] fun ac w β S => ?_
  have o42 := ow_Bare (x := b) (p := q1) o6 o9 o12 d15 d16 d17 i14
  exact ret2_of (p' := ()) S (show (f_bareStep b g).1 = b from k0_spec_BareStep) (show (f_bareStep b g).2 = false from k1_spec_BareStep) rfl rfl o42 trivial
 have h43 := not_f h40
 have g44 := bareOk_t h43
 refine S.gd 5 .nil ((f_wantOf (f_guestAt b g).1) == 0) (fun ac w β h45 g46 S => ?_) (fun ac w β h45 g46 S => ?_)
 ·refine S.gr 9 .nil [GT.val b q1, B false] fun ac w β S => ?_
  have o47 := ow_Bare (x := b) (p := q1) o6 o9 o12 d15 d16 d17 i14
  exact ret2_of (p' := ()) S (show (f_bareStep b g).1 = b from k0_spec_BareStep) (show (f_bareStep b g).2 = false from k1_spec_BareStep) rfl rfl o47 trivial
 refine S.gd 16 .nil ((f_wantOf (f_guestAt b g).1) == 1) (fun ac w β h48 g49 S => ?_) (fun ac w β h48 g49 S => ?_)
 ·refine S.go 1 .nil fun ac w β S => ?_
  refine drw ?_
  refine S.draw0 (f := 7) 6 (by kernel_rfl) (by kernel_rfl) fun w S => ?_
  refine S.hq 0 [0] [] [(67, .p 0 1)] .nil fun ac S => ?_
  refine S.hq 1 [1] [] [(68, .v (slv b.guests.length q1.guests.1))] .nil fun ac S => ?_
  refine S.hq 2 [2] [] [(69, .v (I g))] .nil fun ac S => ?_
  refine S.hq 3 [3] [] [(70, .v (GT.val (f_guestAt b g).1 q18))] .nil fun ac S => ?_
  refine WD.one (i := 4) (by kernel_rfl) ?_
  refine id (S.k1 71 (c_spec_Interrupted w (f_guestAt b g).1 q18 (S.rd o22.rn)) fun ac w N q50 F51 S up o52 d53 => ?_)
  refine WD.next S up (by kernel_rfl) ?_
  have d54 := Disj.w d53 o6.sub
  have d55 := Disj.w d53 o9.sub
  have d56 := Disj.w d53 o12.sub
  replace o6 := o6.up up
  replace o9 := o9.up up
  replace o12 := o12.up up
  replace o22 := o22.up up
  clear up d53
  refine S.hq 5 [5] [] [(72, .v (pt q1.guests.1.b (q1.guests.1.off + g.toNat * 15)))] (.cons (qt o9.rn g Tryz.underlying48) .nil) fun ac S => ?_
  refine WD.one (i := 6) (by kernel_rfl) ?_
  refine id (S.sV (α := TGuest) o9 (t := 81) (k := g.toNat) (off := q1.guests.1.off + g.toNat * 15) o52 d55 fun w N F59 q60 S up o58 d61 s62 n63 => ?_)
  refine WD.last (by kernel_rfl) ?_
  have d64 := d61 _ d15 d54 o6.sub
  have d65 := d61 _ (Disj.symm d17) d56 o12.sub
  replace o6 := o6.upF d15 up
  replace o12 := o12.upF (Disj.symm d17) up
  replace o22 := o22.upF (Disj.symm d31) up
  clear up d61 o9 n63
  have l67 : (b.guests.set g.toNat (f_interrupted (f_guestAt b g).1)).length = b.guests.length := List.length_set
  replace S := S.z (σ' := ⟨[(2, .p 0 0), (4, .p 1 0), (71, .v (GT.val (f_interrupted (f_guestAt b g).1) q50)), (72, .v (pt q1.guests.1.b (q1.guests.1.off + g.toNat * 15)))], [[slv b.mem.length q1.mem.1, slv b.guests.length q1.guests.1, slv b.outs.length q1.outs.1, I b.pend], Zc TBare, GT.cells (f_guestAt b g).1 q18]⟩)
  replace S := S.cast (σ' := ⟨[(2, .p 0 0), (4, .p 1 0), (71, .v (GT.val (f_interrupted (f_guestAt b g).1) q50)), (72, .v (pt q1.guests.1.b (q1.guests.1.off + g.toNat * 15)))], [[slv b.mem.length q1.mem.1, slv (b.guests.set g.toNat (f_interrupted (f_guestAt b g).1)).length q1.guests.1, slv b.outs.length q1.outs.1, I b.pend], Zc TBare, GT.cells (f_guestAt b g).1 q18]⟩) (by rw [show (b.guests.set g.toNat (f_interrupted (f_guestAt b g).1)).length = b.guests.length by omega])
  refine WD.done (by kernel_rfl) ?_ _
  refine S.ex fun S => ?_
  refine S.gr 10 .nil [GT.val (⟨b.mem, (b.guests.set g.toNat (f_interrupted (f_guestAt b g).1)), b.outs, b.pend⟩ : TBare) (⟨q1.mem, (q1.guests.1, q60), q1.outs⟩ : PBare), B true] fun ac w β S => ?_
  have o68 := ow_Bare (x := (⟨b.mem, (b.guests.set g.toNat (f_interrupted (f_guestAt b g).1)), b.outs, b.pend⟩ : TBare)) (p := (⟨q1.mem, (q1.guests.1, q60), q1.outs⟩ : PBare)) o6 o58 o12 d64 d16 (Disj.symm d65) i14
  exact ret2_of (p' := ()) S (show (f_bareStep b g).1 = (⟨b.mem, (b.guests.set g.toNat (f_interrupted (f_guestAt b g).1)), b.outs, b.pend⟩ : TBare) from k0_spec_BareStep) (show (f_bareStep b g).2 = true from k1_spec_BareStep) rfl rfl o68 trivial
 refine S.gd 7 .nil ((f_wantOf (f_guestAt b g).1) == 2) (fun ac w β h69 g70 S => ?_) (fun ac w β h69 g70 S => ?_)
 ·refine S.go 1 .nil fun ac w β S => ?_
  refine drw ?_
  refine S.draw0 (f := 7) 6 (by kernel_rfl) (by kernel_rfl) fun w S => ?_
  refine S.hq 0 [0] [] [(75, .p 0 1)] .nil fun ac S => ?_
  refine S.hq 1 [1] [] [(76, .v (slv b.guests.length q1.guests.1))] .nil fun ac S => ?_
  refine S.hq 2 [2] [] [(77, .v (I g))] .nil fun ac S => ?_
  refine S.hq 3 [3] [] [(78, .v (GT.val (f_guestAt b g).1 q18))] .nil fun ac S => ?_
  refine WD.one (i := 4) (by kernel_rfl) ?_
  refine id (S.k1 79 (c_spec_Plainly w (f_guestAt b g).1 q18 (S.rd o22.rn)) fun ac w N q71 F72 S up o73 d74 => ?_)
  refine WD.next S up (by kernel_rfl) ?_
  have d75 := Disj.w d74 o6.sub
  have d76 := Disj.w d74 o9.sub
  have d77 := Disj.w d74 o12.sub
  replace o6 := o6.up up
  replace o9 := o9.up up
  replace o12 := o12.up up
  replace o22 := o22.up up
  clear up d74
  refine S.hq 5 [5] [] [(80, .v (pt q1.guests.1.b (q1.guests.1.off + g.toNat * 15)))] (.cons (qt o9.rn g Tryz.underlying48) .nil) fun ac S => ?_
  refine WD.one (i := 6) (by kernel_rfl) ?_
  refine id (S.sV (α := TGuest) o9 (t := 81) (k := g.toNat) (off := q1.guests.1.off + g.toNat * 15) o73 d76 fun w N F80 q81 S up o79 d82 s83 n84 => ?_)
  refine WD.last (by kernel_rfl) ?_
  have d85 := d82 _ d15 d75 o6.sub
  have d86 := d82 _ (Disj.symm d17) d77 o12.sub
  replace o6 := o6.upF d15 up
  replace o12 := o12.upF (Disj.symm d17) up
  replace o22 := o22.upF (Disj.symm d31) up
  clear up d82 o9 n84
  have l88 : (b.guests.set g.toNat (f_plainly (f_guestAt b g).1)).length = b.guests.length := List.length_set
  replace S := S.z (σ' := ⟨[(2, .p 0 0), (4, .p 1 0), (79, .v (GT.val (f_plainly (f_guestAt b g).1) q71)), (80, .v (pt q1.guests.1.b (q1.guests.1.off + g.toNat * 15)))], [[slv b.mem.length q1.mem.1, slv b.guests.length q1.guests.1, slv b.outs.length q1.outs.1, I b.pend], Zc TBare, GT.cells (f_guestAt b g).1 q18]⟩)
  replace S := S.cast (σ' := ⟨[(2, .p 0 0), (4, .p 1 0), (79, .v (GT.val (f_plainly (f_guestAt b g).1) q71)), (80, .v (pt q1.guests.1.b (q1.guests.1.off + g.toNat * 15)))], [[slv b.mem.length q1.mem.1, slv (b.guests.set g.toNat (f_plainly (f_guestAt b g).1)).length q1.guests.1, slv b.outs.length q1.outs.1, I b.pend], Zc TBare, GT.cells (f_guestAt b g).1 q18]⟩) (by rw [show (b.guests.set g.toNat (f_plainly (f_guestAt b g).1)).length = b.guests.length by omega])
  refine WD.done (by kernel_rfl) ?_ _
  refine S.ex fun S => ?_
  refine S.gr 10 .nil [GT.val (⟨b.mem, (b.guests.set g.toNat (f_plainly (f_guestAt b g).1)), b.outs, b.pend⟩ : TBare) (⟨q1.mem, (q1.guests.1, q81), q1.outs⟩ : PBare), B true] fun ac w β S => ?_
  have o89 := ow_Bare (x := (⟨b.mem, (b.guests.set g.toNat (f_plainly (f_guestAt b g).1)), b.outs, b.pend⟩ : TBare)) (p := (⟨q1.mem, (q1.guests.1, q81), q1.outs⟩ : PBare)) o6 o79 o12 d85 d16 (Disj.symm d86) i14
  exact ret2_of (p' := ()) S (show (f_bareStep b g).1 = (⟨b.mem, (b.guests.set g.toNat (f_plainly (f_guestAt b g).1)), b.outs, b.pend⟩ : TBare) from k0_spec_BareStep) (show (f_bareStep b g).2 = true from k1_spec_BareStep) rfl rfl o89 trivial
 refine S.gd 8 .nil ((f_wantOf (f_guestAt b g).1) == 3) (fun ac w β h90 g91 S => ?_) (fun ac w β h90 g91 S => ?_)
 ·refine S.gb 29 (.cons (Q_call fun w hw => c_spec_Address w (f_guestAt b g).1 q18 (rd_of o22.rn hw)) (.cons (Q_call fun w hw => c_spec_AddrPage w (f_address (f_guestAt b g).1) (address_in64 o22.rn)) (.cons (Q_call fun w hw => c_spec_NeedOf w ((f_wantOf (f_guestAt b g).1) == 4)) (.cons (Q_call fun w hw => c_spec_WalkInner w (f_guestAt b g).1.live q18.live (rd_of (RGuest.live (d := (f_guestAt b g).1) o22.rn) hw) (f_addrPage (f_address (f_guestAt b g).1)) (f_needOf ((f_wantOf (f_guestAt b g).1) == 4))) .nil)))) (!(f_walkInner (f_guestAt b g).1.live (f_addrPage (f_address (f_guestAt b g).1)) (f_needOf ((f_wantOf (f_guestAt b g).1) == 4))).2) (fun ac w β h92 S => ?_) (fun ac w β h92 S => ?_)
  ·have h93 := not_t h92
   refine S.go 1 .nil fun ac w β S => ?_
   refine drw ?_
   refine S.draw0 (f := 11) 10 (by kernel_rfl) (by kernel_rfl) fun w S => ?_
   refine S.hq 0 [0] [] [(113, .p 0 1)] .nil fun ac S => ?_
   refine S.hq 1 [1] [] [(114, .v (slv b.guests.length q1.guests.1))] .nil fun ac S => ?_
   refine S.hq 2 [2] [] [(115, .v (I g))] .nil fun ac S => ?_
   refine S.hq 3 [3] [] [(116, .v (GT.val (f_guestAt b g).1 q18))] .nil fun ac S => ?_
   refine S.hq 4 [4] [] [(117, .v (I (f_address (f_guestAt b g).1)))] .nil fun ac S => ?_
   refine S.hq 6 [6] [] [(119, .v (B ((f_wantOf (f_guestAt b g).1) == 4)))] .nil fun ac S => ?_
   refine S.sq 5 [] [(118, .v (I (f_addrPage (f_address (f_guestAt b g).1))))] 3 [] (.cons (Q_call fun w hw => c_spec_AddrPage w (f_address (f_guestAt b g).1) (address_in64 o22.rn)) .nil) fun ac w β S => ?_
   refine S.sq 7 [] [(120, .v (GT.val (f_faultExit (f_addrPage (f_address (f_guestAt b g).1)) ((f_wantOf (f_guestAt b g).1) == 4)) ()))] 3 [] (.cons (Q_call fun w hw => c_spec_FaultExit w (f_addrPage (f_address (f_guestAt b g).1)) (addrPage_in64 (address_in64 o22.rn)) ((f_wantOf (f_guestAt b g).1) == 4)) .nil) fun ac w β S => ?_
   refine WD.one (i := 8) (by kernel_rfl) ?_
   refine id (S.k1 121 (c_spec_Stopped w (f_guestAt b g).1 q18 (S.rd o22.rn) (f_faultExit (f_addrPage (f_address (f_guestAt b g).1)) ((f_wantOf (f_guestAt b g).1) == 4)) (faultExit_r (addrPage_in64 (address_in64 o22.rn)) ((f_wantOf (f_guestAt b g).1) == 4))) fun ac w N q94 F95 S up o96 d97 => ?_)
   refine WD.next S up (by kernel_rfl) ?_
   have d98 := Disj.w d97 o6.sub
   have d99 := Disj.w d97 o9.sub
   have d100 := Disj.w d97 o12.sub
   replace o6 := o6.up up
   replace o9 := o9.up up
   replace o12 := o12.up up
   replace o22 := o22.up up
   clear up d97
   refine S.hq 9 [9] [] [(122, .v (pt q1.guests.1.b (q1.guests.1.off + g.toNat * 15)))] (.cons (qt o9.rn g Tryz.underlying48) .nil) fun ac S => ?_
   refine WD.one (i := 10) (by kernel_rfl) ?_
   refine id (S.sV (α := TGuest) o9 (t := 81) (k := g.toNat) (off := q1.guests.1.off + g.toNat * 15) o96 d99 fun w N F103 q104 S up o102 d105 s106 n107 => ?_)
   refine WD.last (by kernel_rfl) ?_
   have d108 := d105 _ d15 d98 o6.sub
   have d109 := d105 _ (Disj.symm d17) d100 o12.sub
   replace o6 := o6.upF d15 up
   replace o12 := o12.upF (Disj.symm d17) up
   replace o22 := o22.upF (Disj.symm d31) up
   clear up d105 o9 n107
   have l111 : (b.guests.set g.toNat ({ (f_guestAt b g).1 with exit := (f_faultExit (f_addrPage (f_address (f_guestAt b g).1)) ((f_wantOf (f_guestAt b g).1) == 4)) } : TGuest)).length = b.guests.length := List.length_set
   replace S := S.z (σ' := ⟨[(2, .p 0 0), (4, .p 1 0), (121, .v (GT.val ({ (f_guestAt b g).1 with exit := (f_faultExit (f_addrPage (f_address (f_guestAt b g).1)) ((f_wantOf (f_guestAt b g).1) == 4)) } : TGuest) q94)), (122, .v (pt q1.guests.1.b (q1.guests.1.off + g.toNat * 15)))], [[slv b.mem.length q1.mem.1, slv b.guests.length q1.guests.1, slv b.outs.length q1.outs.1, I b.pend], Zc TBare, GT.cells (f_guestAt b g).1 q18]⟩)
   replace S := S.cast (σ' := ⟨[(2, .p 0 0), (4, .p 1 0), (121, .v (GT.val ({ (f_guestAt b g).1 with exit := (f_faultExit (f_addrPage (f_address (f_guestAt b g).1)) ((f_wantOf (f_guestAt b g).1) == 4)) } : TGuest) q94)), (122, .v (pt q1.guests.1.b (q1.guests.1.off + g.toNat * 15)))], [[slv b.mem.length q1.mem.1, slv (b.guests.set g.toNat ({ (f_guestAt b g).1 with exit := (f_faultExit (f_addrPage (f_address (f_guestAt b g).1)) ((f_wantOf (f_guestAt b g).1) == 4)) } : TGuest)).length q1.guests.1, slv b.outs.length q1.outs.1, I b.pend], Zc TBare, GT.cells (f_guestAt b g).1 q18]⟩) (by rw [show (b.guests.set g.toNat ({ (f_guestAt b g).1 with exit := (f_faultExit (f_addrPage (f_address (f_guestAt b g).1)) ((f_wantOf (f_guestAt b g).1) == 4)) } : TGuest)).length = b.guests.length by omega])
   refine WD.done (by kernel_rfl) ?_ _
   refine S.ex fun S => ?_
   refine S.gr 11 .nil [GT.val (⟨b.mem, (b.guests.set g.toNat ({ (f_guestAt b g).1 with exit := (f_faultExit (f_addrPage (f_address (f_guestAt b g).1)) ((f_wantOf (f_guestAt b g).1) == 4)) } : TGuest)), b.outs, b.pend⟩ : TBare) (⟨q1.mem, (q1.guests.1, q104), q1.outs⟩ : PBare), B true] fun ac w β S => ?_
   have o112 := ow_Bare (x := (⟨b.mem, (b.guests.set g.toNat ({ (f_guestAt b g).1 with exit := (f_faultExit (f_addrPage (f_address (f_guestAt b g).1)) ((f_wantOf (f_guestAt b g).1) == 4)) } : TGuest)), b.outs, b.pend⟩ : TBare)) (p := (⟨q1.mem, (q1.guests.1, q104), q1.outs⟩ : PBare)) o6 o102 o12 d108 d16 (Disj.symm d109) i14
   exact ret2_of (p' := ()) S (show (f_bareStep b g).1 = (⟨b.mem, (b.guests.set g.toNat ({ (f_guestAt b g).1 with exit := (f_faultExit (f_addrPage (f_address (f_guestAt b g).1)) ((f_wantOf (f_guestAt b g).1) == 4)) } : TGuest)), b.outs, b.pend⟩ : TBare) from k0_spec_BareStep) (show (f_bareStep b g).2 = true from k1_spec_BareStep) rfl rfl o112 trivial
  have h113 := not_f h92
  refine S.gd 7 .nil ((f_wantOf (f_guestAt b g).1) == 4) (fun ac w β h114 g115 S => ?_) (fun ac w β h114 g115 S => ?_)
  ·refine S.go 2 .nil fun ac w β S => ?_
   refine drw ?_
   refine S.draw0 (f := 10) 9 (by kernel_rfl) (by kernel_rfl) fun w S => ?_
   refine S.hq 0 [0] [] [(125, .p 0 0)] .nil fun ac S => ?_
   refine S.hq 1 [1] [] [(126, .v (slv b.mem.length q1.mem.1))] .nil fun ac S => ?_
   refine S.hq 2 [2] [] [(127, .v (I (f_walkInner (f_guestAt b g).1.live (f_addrPage (f_address (f_guestAt b g).1)) (f_needOf ((f_wantOf (f_guestAt b g).1) == 4))).1))] .nil fun ac S => ?_
   refine S.hq 3 [3] [] [(128, .v (I (f_address (f_guestAt b g).1)))] .nil fun ac S => ?_
   refine S.hq 5 [5] [] [(130, .p 2 1)] .nil fun ac S => ?_
   refine S.hq 6 [6] [] [(131, .v (I (f_guestAt b g).1.acc))] .nil fun ac S => ?_
   refine S.sq 4 [] [(129, .v (I (f_addrCell (f_address (f_guestAt b g).1))))] 3 [] (.cons (Q_call fun w hw => c_spec_AddrCell w (f_address (f_guestAt b g).1) (address_in64 o22.rn)) .nil) fun ac w β S => ?_
   refine WD.one (i := 7) (by kernel_rfl) ?_
   refine id (S.k1 132 (c_spec_WithCell w b.mem q1.mem (S.rd o6.rn) (f_walkInner (f_guestAt b g).1.live (f_addrPage (f_address (f_guestAt b g).1)) (f_needOf ((f_wantOf (f_guestAt b g).1) == 4))).1 (f_addrCell (f_address (f_guestAt b g).1)) (f_guestAt b g).1.acc (RGuest.acc (d := (f_guestAt b g).1) o22.rn)) fun ac w N q116 F117 S up o118 d119 => ?_)
   refine WD.next S up (by kernel_rfl) ?_
   have d121 := Disj.w d119 o9.sub
   have d122 := Disj.w d119 o12.sub
   replace o6 := o6.up up
   replace o9 := o9.up up
   replace o12 := o12.up up
   replace o22 := o22.up up
   clear up d119
   refine S.hq 8 [8] [] [(133, .p 0 0)] .nil fun ac S => ?_
   refine S.sl 9 [] [] 3 [(0, [slv (f_withCell b.mem (f_walkInner (f_guestAt b g).1.live (f_addrPage (f_address (f_guestAt b g).1)) (f_needOf ((f_wantOf (f_guestAt b g).1) == 4))).1 (f_addrCell (f_address (f_guestAt b g).1)) (f_guestAt b g).1.acc).length q116.1, slv b.guests.length q1.guests.1, slv b.outs.length q1.outs.1, I b.pend])] .nil fun ac w β S => ?_
   refine WD.done (by kernel_rfl) ?_ _
   refine S.ex fun S => ?_
   refine S.go 1 .nil fun ac w β S => ?_
   refine drw ?_
   refine S.draw0 (f := 7) 6 (by kernel_rfl) (by kernel_rfl) fun w S => ?_
   refine S.hq 0 [0] [] [(134, .p 0 1)] .nil fun ac S => ?_
   refine S.hq 1 [1] [] [(135, .v (slv b.guests.length q1.guests.1))] .nil fun ac S => ?_
   refine S.hq 2 [2] [] [(136, .v (I g))] .nil fun ac S => ?_
   refine S.hq 3 [3] [] [(137, .v (GT.val (f_guestAt b g).1 q18))] .nil fun ac S => ?_
   refine WD.one (i := 4) (by kernel_rfl) ?_
   refine id (S.k1 138 (c_spec_Stored w (f_guestAt b g).1 q18 (S.rd o22.rn)) fun ac w N q124 F125 S up o126 d127 => ?_)
   refine WD.next S up (by kernel_rfl) ?_
   have d128 := Disj.w d127 o9.sub
   have d129 := Disj.w d127 o12.sub
   have d131 := Disj.w d127 o118.sub
   replace o9 := o9.up up
   replace o12 := o12.up up
   replace o22 := o22.up up
   replace o118 := o118.up up
   clear up d127
   refine S.hq 5 [5] [] [(139, .v (pt q1.guests.1.b (q1.guests.1.off + g.toNat * 15)))] (.cons (qt o9.rn g Tryz.underlying48) .nil) fun ac S => ?_
   refine WD.one (i := 6) (by kernel_rfl) ?_
   refine id (S.sV (α := TGuest) o9 (t := 81) (k := g.toNat) (off := q1.guests.1.off + g.toNat * 15) o126 d128 fun w N F133 q134 S up o132 d135 s136 n137 => ?_)
   refine WD.last (by kernel_rfl) ?_
   have d138 := d135 _ (Disj.symm d17) d129 o12.sub
   have d140 := d135 _ (Disj.symm d121) d131 o118.sub
   replace o12 := o12.upF (Disj.symm d17) up
   replace o22 := o22.upF (Disj.symm d31) up
   replace o118 := o118.upF (Disj.symm d121) up
   clear up d135 o9 n137
   have l141 : (b.guests.set g.toNat (f_moved (f_guestAt b g).1)).length = b.guests.length := List.length_set
   replace S := S.z (σ' := ⟨[(2, .p 0 0), (4, .p 1 0), (138, .v (GT.val (f_moved (f_guestAt b g).1) q124)), (139, .v (pt q1.guests.1.b (q1.guests.1.off + g.toNat * 15)))], [[slv (f_withCell b.mem (f_walkInner (f_guestAt b g).1.live (f_addrPage (f_address (f_guestAt b g).1)) (f_needOf ((f_wantOf (f_guestAt b g).1) == 4))).1 (f_addrCell (f_address (f_guestAt b g).1)) (f_guestAt b g).1.acc).length q116.1, slv b.guests.length q1.guests.1, slv b.outs.length q1.outs.1, I b.pend], Zc TBare, GT.cells (f_guestAt b g).1 q18]⟩)
   replace S := S.cast (σ' := ⟨[(2, .p 0 0), (4, .p 1 0), (138, .v (GT.val (f_moved (f_guestAt b g).1) q124)), (139, .v (pt q1.guests.1.b (q1.guests.1.off + g.toNat * 15)))], [[slv (f_withCell b.mem (f_walkInner (f_guestAt b g).1.live (f_addrPage (f_address (f_guestAt b g).1)) (f_needOf ((f_wantOf (f_guestAt b g).1) == 4))).1 (f_addrCell (f_address (f_guestAt b g).1)) (f_guestAt b g).1.acc).length q116.1, slv (b.guests.set g.toNat (f_moved (f_guestAt b g).1)).length q1.guests.1, slv b.outs.length q1.outs.1, I b.pend], Zc TBare, GT.cells (f_guestAt b g).1 q18]⟩) (by rw [show (b.guests.set g.toNat (f_moved (f_guestAt b g).1)).length = b.guests.length by omega])
   refine WD.done (by kernel_rfl) ?_ _
   refine S.ex fun S => ?_
   refine S.gr 11 .nil [GT.val (⟨(f_withCell b.mem (f_walkInner (f_guestAt b g).1.live (f_addrPage (f_address (f_guestAt b g).1)) (f_needOf ((f_wantOf (f_guestAt b g).1) == 4))).1 (f_addrCell (f_address (f_guestAt b g).1)) (f_guestAt b g).1.acc), (b.guests.set g.toNat (f_moved (f_guestAt b g).1)), b.outs, b.pend⟩ : TBare) (⟨q116, (q1.guests.1, q134), q1.outs⟩ : PBare), B true] fun ac w β S => ?_
   have o142 := ow_Bare (x := (⟨(f_withCell b.mem (f_walkInner (f_guestAt b g).1.live (f_addrPage (f_address (f_guestAt b g).1)) (f_needOf ((f_wantOf (f_guestAt b g).1) == 4))).1 (f_addrCell (f_address (f_guestAt b g).1)) (f_guestAt b g).1.acc), (b.guests.set g.toNat (f_moved (f_guestAt b g).1)), b.outs, b.pend⟩ : TBare)) (p := (⟨q116, (q1.guests.1, q134), q1.outs⟩ : PBare)) o118 o132 o12 d140 (Disj.symm d122) (Disj.symm d138) i14
   exact ret2_of (p' := ()) S (show (f_bareStep b g).1 = (⟨(f_withCell b.mem (f_walkInner (f_guestAt b g).1.live (f_addrPage (f_address (f_guestAt b g).1)) (f_needOf ((f_wantOf (f_guestAt b g).1) == 4))).1 (f_addrCell (f_address (f_guestAt b g).1)) (f_guestAt b g).1.acc), (b.guests.set g.toNat (f_moved (f_guestAt b g).1)), b.outs, b.pend⟩ : TBare) from k0_spec_BareStep) (show (f_bareStep b g).2 = true from k1_spec_BareStep) rfl rfl o142 trivial
  refine S.go 1 .nil fun ac w β S => ?_
  refine drw ?_
  refine S.draw0 (f := 13) 12 (by kernel_rfl) (by kernel_rfl) fun w S => ?_
  refine S.hq 0 [0] [] [(98, .p 0 1)] .nil fun ac S => ?_
  refine S.hq 1 [1] [] [(99, .v (slv b.guests.length q1.guests.1))] .nil fun ac S => ?_
  refine S.hq 2 [2] [] [(100, .v (I g))] .nil fun ac S => ?_
  refine S.hq 3 [3] [] [(101, .v (GT.val (f_guestAt b g).1 q18))] .nil fun ac S => ?_
  refine S.hq 4 [4] [] [(102, .p 0 0)] .nil fun ac S => ?_
  refine S.hq 5 [5] [] [(103, .v (slv b.mem.length q1.mem.1))] .nil fun ac S => ?_
  refine S.hq 6 [6] [] [(104, .v (I (f_walkInner (f_guestAt b g).1.live (f_addrPage (f_address (f_guestAt b g).1)) (f_needOf ((f_wantOf (f_guestAt b g).1) == 4))).1))] .nil fun ac S => ?_
  refine S.hq 7 [7] [] [(105, .v (I (f_address (f_guestAt b g).1)))] .nil fun ac S => ?_
  refine S.sq 8 [] [(106, .v (I (f_addrCell (f_address (f_guestAt b g).1))))] 3 [] (.cons (Q_call fun w hw => c_spec_AddrCell w (f_address (f_guestAt b g).1) (address_in64 o22.rn)) .nil) fun ac w β S => ?_
  refine S.sq 9 [] [(107, .v (I (f_cellAt b.mem (f_walkInner (f_guestAt b g).1.live (f_addrPage (f_address (f_guestAt b g).1)) (f_needOf ((f_wantOf (f_guestAt b g).1) == 4))).1 (f_addrCell (f_address (f_guestAt b g).1)))))] 3 [] (.cons (Q_call fun w hw => c_spec_CellAt w b.mem q1.mem (rd_of o6.rn hw) (f_walkInner (f_guestAt b g).1.live (f_addrPage (f_address (f_guestAt b g).1)) (f_needOf ((f_wantOf (f_guestAt b g).1) == 4))).1 (f_addrCell (f_address (f_guestAt b g).1))) .nil) fun ac w β S => ?_
  refine WD.one (i := 10) (by kernel_rfl) ?_
  refine id (S.k1 108 (c_spec_Loaded w (f_guestAt b g).1 q18 (S.rd o22.rn) (f_cellAt b.mem (f_walkInner (f_guestAt b g).1.live (f_addrPage (f_address (f_guestAt b g).1)) (f_needOf ((f_wantOf (f_guestAt b g).1) == 4))).1 (f_addrCell (f_address (f_guestAt b g).1))) (cellAt_in64 o6.rn (f_walkInner (f_guestAt b g).1.live (f_addrPage (f_address (f_guestAt b g).1)) (f_needOf ((f_wantOf (f_guestAt b g).1) == 4))).1 (f_addrCell (f_address (f_guestAt b g).1)))) fun ac w N q143 F144 S up o145 d146 => ?_)
  refine WD.next S up (by kernel_rfl) ?_
  have d147 := Disj.w d146 o6.sub
  have d148 := Disj.w d146 o9.sub
  have d149 := Disj.w d146 o12.sub
  replace o6 := o6.up up
  replace o9 := o9.up up
  replace o12 := o12.up up
  replace o22 := o22.up up
  clear up d146
  refine S.hq 11 [11] [] [(109, .v (pt q1.guests.1.b (q1.guests.1.off + g.toNat * 15)))] (.cons (qt o9.rn g Tryz.underlying48) .nil) fun ac S => ?_
  refine WD.one (i := 12) (by kernel_rfl) ?_
  refine id (S.sV (α := TGuest) o9 (t := 81) (k := g.toNat) (off := q1.guests.1.off + g.toNat * 15) o145 d148 fun w N F152 q153 S up o151 d154 s155 n156 => ?_)
  refine WD.last (by kernel_rfl) ?_
  have d157 := d154 _ d15 d147 o6.sub
  have d158 := d154 _ (Disj.symm d17) d149 o12.sub
  replace o6 := o6.upF d15 up
  replace o12 := o12.upF (Disj.symm d17) up
  replace o22 := o22.upF (Disj.symm d31) up
  clear up d154 o9 n156
  have l160 : (b.guests.set g.toNat (f_loaded (f_guestAt b g).1 (f_cellAt b.mem (f_walkInner (f_guestAt b g).1.live (f_addrPage (f_address (f_guestAt b g).1)) (f_needOf ((f_wantOf (f_guestAt b g).1) == 4))).1 (f_addrCell (f_address (f_guestAt b g).1))))).length = b.guests.length := List.length_set
  replace S := S.z (σ' := ⟨[(2, .p 0 0), (4, .p 1 0), (108, .v (GT.val (f_loaded (f_guestAt b g).1 (f_cellAt b.mem (f_walkInner (f_guestAt b g).1.live (f_addrPage (f_address (f_guestAt b g).1)) (f_needOf ((f_wantOf (f_guestAt b g).1) == 4))).1 (f_addrCell (f_address (f_guestAt b g).1)))) q143)), (109, .v (pt q1.guests.1.b (q1.guests.1.off + g.toNat * 15)))], [[slv b.mem.length q1.mem.1, slv b.guests.length q1.guests.1, slv b.outs.length q1.outs.1, I b.pend], Zc TBare, GT.cells (f_guestAt b g).1 q18]⟩)
  replace S := S.cast (σ' := ⟨[(2, .p 0 0), (4, .p 1 0), (108, .v (GT.val (f_loaded (f_guestAt b g).1 (f_cellAt b.mem (f_walkInner (f_guestAt b g).1.live (f_addrPage (f_address (f_guestAt b g).1)) (f_needOf ((f_wantOf (f_guestAt b g).1) == 4))).1 (f_addrCell (f_address (f_guestAt b g).1)))) q143)), (109, .v (pt q1.guests.1.b (q1.guests.1.off + g.toNat * 15)))], [[slv b.mem.length q1.mem.1, slv (b.guests.set g.toNat (f_loaded (f_guestAt b g).1 (f_cellAt b.mem (f_walkInner (f_guestAt b g).1.live (f_addrPage (f_address (f_guestAt b g).1)) (f_needOf ((f_wantOf (f_guestAt b g).1) == 4))).1 (f_addrCell (f_address (f_guestAt b g).1))))).length q1.guests.1, slv b.outs.length q1.outs.1, I b.pend], Zc TBare, GT.cells (f_guestAt b g).1 q18]⟩) (by rw [show (b.guests.set g.toNat (f_loaded (f_guestAt b g).1 (f_cellAt b.mem (f_walkInner (f_guestAt b g).1.live (f_addrPage (f_address (f_guestAt b g).1)) (f_needOf ((f_wantOf (f_guestAt b g).1) == 4))).1 (f_addrCell (f_address (f_guestAt b g).1))))).length = b.guests.length by omega])
  refine WD.done (by kernel_rfl) ?_ _
  refine S.ex fun S => ?_
  refine S.gr 11 .nil [GT.val (⟨b.mem, (b.guests.set g.toNat (f_loaded (f_guestAt b g).1 (f_cellAt b.mem (f_walkInner (f_guestAt b g).1.live (f_addrPage (f_address (f_guestAt b g).1)) (f_needOf ((f_wantOf (f_guestAt b g).1) == 4))).1 (f_addrCell (f_address (f_guestAt b g).1))))), b.outs, b.pend⟩ : TBare) (⟨q1.mem, (q1.guests.1, q153), q1.outs⟩ : PBare), B true] fun ac w β S => ?_
  have o161 := ow_Bare (x := (⟨b.mem, (b.guests.set g.toNat (f_loaded (f_guestAt b g).1 (f_cellAt b.mem (f_walkInner (f_guestAt b g).1.live (f_addrPage (f_address (f_guestAt b g).1)) (f_needOf ((f_wantOf (f_guestAt b g).1) == 4))).1 (f_addrCell (f_address (f_guestAt b g).1))))), b.outs, b.pend⟩ : TBare)) (p := (⟨q1.mem, (q1.guests.1, q153), q1.outs⟩ : PBare)) o6 o151 o12 d157 d16 (Disj.symm d158) i14
  exact ret2_of (p' := ()) S (show (f_bareStep b g).1 = (⟨b.mem, (b.guests.set g.toNat (f_loaded (f_guestAt b g).1 (f_cellAt b.mem (f_walkInner (f_guestAt b g).1.live (f_addrPage (f_address (f_guestAt b g).1)) (f_needOf ((f_wantOf (f_guestAt b g).1) == 4))).1 (f_addrCell (f_address (f_guestAt b g).1))))), b.outs, b.pend⟩ : TBare) from k0_spec_BareStep) (show (f_bareStep b g).2 = true from k1_spec_BareStep) rfl rfl o161 trivial
 refine S.gd 6 .nil ((f_wantOf (f_guestAt b g).1) == 4) (fun ac w β h162 g163 S => ?_) (fun ac w β h162 g163 S => ?_)
 ·refine S.gb 26 (.cons (Q_call fun w hw => c_spec_Address w (f_guestAt b g).1 q18 (rd_of o22.rn hw)) (.cons (Q_call fun w hw => c_spec_AddrPage w (f_address (f_guestAt b g).1) (address_in64 o22.rn)) (.cons (Q_call fun w hw => c_spec_NeedOf w ((f_wantOf (f_guestAt b g).1) == 4)) (.cons (Q_call fun w hw => c_spec_WalkInner w (f_guestAt b g).1.live q18.live (rd_of (RGuest.live (d := (f_guestAt b g).1) o22.rn) hw) (f_addrPage (f_address (f_guestAt b g).1)) (f_needOf ((f_wantOf (f_guestAt b g).1) == 4))) .nil)))) (!(f_walkInner (f_guestAt b g).1.live (f_addrPage (f_address (f_guestAt b g).1)) (f_needOf ((f_wantOf (f_guestAt b g).1) == 4))).2) (fun ac w β h164 S => ?_) (fun ac w β h164 S => ?_)
  ·have h165 := not_t h164
   refine S.go 1 .nil fun ac w β S => ?_
   refine drw ?_
   refine S.draw0 (f := 11) 10 (by kernel_rfl) (by kernel_rfl) fun w S => ?_
   refine S.hq 0 [0] [] [(113, .p 0 1)] .nil fun ac S => ?_
   refine S.hq 1 [1] [] [(114, .v (slv b.guests.length q1.guests.1))] .nil fun ac S => ?_
   refine S.hq 2 [2] [] [(115, .v (I g))] .nil fun ac S => ?_
   refine S.hq 3 [3] [] [(116, .v (GT.val (f_guestAt b g).1 q18))] .nil fun ac S => ?_
   refine S.hq 4 [4] [] [(117, .v (I (f_address (f_guestAt b g).1)))] .nil fun ac S => ?_
   refine S.hq 6 [6] [] [(119, .v (B ((f_wantOf (f_guestAt b g).1) == 4)))] .nil fun ac S => ?_
   refine S.sq 5 [] [(118, .v (I (f_addrPage (f_address (f_guestAt b g).1))))] 3 [] (.cons (Q_call fun w hw => c_spec_AddrPage w (f_address (f_guestAt b g).1) (address_in64 o22.rn)) .nil) fun ac w β S => ?_
   refine S.sq 7 [] [(120, .v (GT.val (f_faultExit (f_addrPage (f_address (f_guestAt b g).1)) ((f_wantOf (f_guestAt b g).1) == 4)) ()))] 3 [] (.cons (Q_call fun w hw => c_spec_FaultExit w (f_addrPage (f_address (f_guestAt b g).1)) (addrPage_in64 (address_in64 o22.rn)) ((f_wantOf (f_guestAt b g).1) == 4)) .nil) fun ac w β S => ?_
   refine WD.one (i := 8) (by kernel_rfl) ?_
   refine id (S.k1 121 (c_spec_Stopped w (f_guestAt b g).1 q18 (S.rd o22.rn) (f_faultExit (f_addrPage (f_address (f_guestAt b g).1)) ((f_wantOf (f_guestAt b g).1) == 4)) (faultExit_r (addrPage_in64 (address_in64 o22.rn)) ((f_wantOf (f_guestAt b g).1) == 4))) fun ac w N q166 F167 S up o168 d169 => ?_)
   refine WD.next S up (by kernel_rfl) ?_
   have d170 := Disj.w d169 o6.sub
   have d171 := Disj.w d169 o9.sub
   have d172 := Disj.w d169 o12.sub
   replace o6 := o6.up up
   replace o9 := o9.up up
   replace o12 := o12.up up
   replace o22 := o22.up up
   clear up d169
   refine S.hq 9 [9] [] [(122, .v (pt q1.guests.1.b (q1.guests.1.off + g.toNat * 15)))] (.cons (qt o9.rn g Tryz.underlying48) .nil) fun ac S => ?_
   refine WD.one (i := 10) (by kernel_rfl) ?_
   refine id (S.sV (α := TGuest) o9 (t := 81) (k := g.toNat) (off := q1.guests.1.off + g.toNat * 15) o168 d171 fun w N F175 q176 S up o174 d177 s178 n179 => ?_)
   refine WD.last (by kernel_rfl) ?_
   have d180 := d177 _ d15 d170 o6.sub
   have d181 := d177 _ (Disj.symm d17) d172 o12.sub
   replace o6 := o6.upF d15 up
   replace o12 := o12.upF (Disj.symm d17) up
   replace o22 := o22.upF (Disj.symm d31) up
   clear up d177 o9 n179
   have l183 : (b.guests.set g.toNat ({ (f_guestAt b g).1 with exit := (f_faultExit (f_addrPage (f_address (f_guestAt b g).1)) ((f_wantOf (f_guestAt b g).1) == 4)) } : TGuest)).length = b.guests.length := List.length_set
   replace S := S.z (σ' := ⟨[(2, .p 0 0), (4, .p 1 0), (121, .v (GT.val ({ (f_guestAt b g).1 with exit := (f_faultExit (f_addrPage (f_address (f_guestAt b g).1)) ((f_wantOf (f_guestAt b g).1) == 4)) } : TGuest) q166)), (122, .v (pt q1.guests.1.b (q1.guests.1.off + g.toNat * 15)))], [[slv b.mem.length q1.mem.1, slv b.guests.length q1.guests.1, slv b.outs.length q1.outs.1, I b.pend], Zc TBare, GT.cells (f_guestAt b g).1 q18]⟩)
   replace S := S.cast (σ' := ⟨[(2, .p 0 0), (4, .p 1 0), (121, .v (GT.val ({ (f_guestAt b g).1 with exit := (f_faultExit (f_addrPage (f_address (f_guestAt b g).1)) ((f_wantOf (f_guestAt b g).1) == 4)) } : TGuest) q166)), (122, .v (pt q1.guests.1.b (q1.guests.1.off + g.toNat * 15)))], [[slv b.mem.length q1.mem.1, slv (b.guests.set g.toNat ({ (f_guestAt b g).1 with exit := (f_faultExit (f_addrPage (f_address (f_guestAt b g).1)) ((f_wantOf (f_guestAt b g).1) == 4)) } : TGuest)).length q1.guests.1, slv b.outs.length q1.outs.1, I b.pend], Zc TBare, GT.cells (f_guestAt b g).1 q18]⟩) (by rw [show (b.guests.set g.toNat ({ (f_guestAt b g).1 with exit := (f_faultExit (f_addrPage (f_address (f_guestAt b g).1)) ((f_wantOf (f_guestAt b g).1) == 4)) } : TGuest)).length = b.guests.length by omega])
   refine WD.done (by kernel_rfl) ?_ _
   refine S.ex fun S => ?_
   refine S.gr 11 .nil [GT.val (⟨b.mem, (b.guests.set g.toNat ({ (f_guestAt b g).1 with exit := (f_faultExit (f_addrPage (f_address (f_guestAt b g).1)) ((f_wantOf (f_guestAt b g).1) == 4)) } : TGuest)), b.outs, b.pend⟩ : TBare) (⟨q1.mem, (q1.guests.1, q176), q1.outs⟩ : PBare), B true] fun ac w β S => ?_
   have o184 := ow_Bare (x := (⟨b.mem, (b.guests.set g.toNat ({ (f_guestAt b g).1 with exit := (f_faultExit (f_addrPage (f_address (f_guestAt b g).1)) ((f_wantOf (f_guestAt b g).1) == 4)) } : TGuest)), b.outs, b.pend⟩ : TBare)) (p := (⟨q1.mem, (q1.guests.1, q176), q1.outs⟩ : PBare)) o6 o174 o12 d180 d16 (Disj.symm d181) i14
   exact ret2_of (p' := ()) S (show (f_bareStep b g).1 = (⟨b.mem, (b.guests.set g.toNat ({ (f_guestAt b g).1 with exit := (f_faultExit (f_addrPage (f_address (f_guestAt b g).1)) ((f_wantOf (f_guestAt b g).1) == 4)) } : TGuest)), b.outs, b.pend⟩ : TBare) from k0_spec_BareStep) (show (f_bareStep b g).2 = true from k1_spec_BareStep) rfl rfl o184 trivial
  have h185 := not_f h164
  refine S.go 7 .nil fun ac w β S => ?_
  refine S.lt 123 h162 fun S => ?_
  refine S.go 2 .nil fun ac w β S => ?_
  refine drw ?_
  refine S.draw0 (f := 10) 9 (by kernel_rfl) (by kernel_rfl) fun w S => ?_
  refine S.hq 0 [0] [] [(125, .p 0 0)] .nil fun ac S => ?_
  refine S.hq 1 [1] [] [(126, .v (slv b.mem.length q1.mem.1))] .nil fun ac S => ?_
  refine S.hq 2 [2] [] [(127, .v (I (f_walkInner (f_guestAt b g).1.live (f_addrPage (f_address (f_guestAt b g).1)) (f_needOf ((f_wantOf (f_guestAt b g).1) == 4))).1))] .nil fun ac S => ?_
  refine S.hq 3 [3] [] [(128, .v (I (f_address (f_guestAt b g).1)))] .nil fun ac S => ?_
  refine S.hq 5 [5] [] [(130, .p 2 1)] .nil fun ac S => ?_
  refine S.hq 6 [6] [] [(131, .v (I (f_guestAt b g).1.acc))] .nil fun ac S => ?_
  refine S.sq 4 [] [(129, .v (I (f_addrCell (f_address (f_guestAt b g).1))))] 3 [] (.cons (Q_call fun w hw => c_spec_AddrCell w (f_address (f_guestAt b g).1) (address_in64 o22.rn)) .nil) fun ac w β S => ?_
  refine WD.one (i := 7) (by kernel_rfl) ?_
  refine id (S.k1 132 (c_spec_WithCell w b.mem q1.mem (S.rd o6.rn) (f_walkInner (f_guestAt b g).1.live (f_addrPage (f_address (f_guestAt b g).1)) (f_needOf ((f_wantOf (f_guestAt b g).1) == 4))).1 (f_addrCell (f_address (f_guestAt b g).1)) (f_guestAt b g).1.acc (RGuest.acc (d := (f_guestAt b g).1) o22.rn)) fun ac w N q186 F187 S up o188 d189 => ?_)
  refine WD.next S up (by kernel_rfl) ?_
  have d191 := Disj.w d189 o9.sub
  have d192 := Disj.w d189 o12.sub
  replace o6 := o6.up up
  replace o9 := o9.up up
  replace o12 := o12.up up
  replace o22 := o22.up up
  clear up d189
  refine S.hq 8 [8] [] [(133, .p 0 0)] .nil fun ac S => ?_
  refine S.sl 9 [] [] 3 [(0, [slv (f_withCell b.mem (f_walkInner (f_guestAt b g).1.live (f_addrPage (f_address (f_guestAt b g).1)) (f_needOf ((f_wantOf (f_guestAt b g).1) == 4))).1 (f_addrCell (f_address (f_guestAt b g).1)) (f_guestAt b g).1.acc).length q186.1, slv b.guests.length q1.guests.1, slv b.outs.length q1.outs.1, I b.pend])] .nil fun ac w β S => ?_
  refine WD.done (by kernel_rfl) ?_ _
  refine S.ex fun S => ?_
  refine S.go 1 .nil fun ac w β S => ?_
  refine drw ?_
  refine S.draw0 (f := 7) 6 (by kernel_rfl) (by kernel_rfl) fun w S => ?_
  refine S.hq 0 [0] [] [(134, .p 0 1)] .nil fun ac S => ?_
  refine S.hq 1 [1] [] [(135, .v (slv b.guests.length q1.guests.1))] .nil fun ac S => ?_
  refine S.hq 2 [2] [] [(136, .v (I g))] .nil fun ac S => ?_
  refine S.hq 3 [3] [] [(137, .v (GT.val (f_guestAt b g).1 q18))] .nil fun ac S => ?_
  refine WD.one (i := 4) (by kernel_rfl) ?_
  refine id (S.k1 138 (c_spec_Stored w (f_guestAt b g).1 q18 (S.rd o22.rn)) fun ac w N q194 F195 S up o196 d197 => ?_)
  refine WD.next S up (by kernel_rfl) ?_
  have d198 := Disj.w d197 o9.sub
  have d199 := Disj.w d197 o12.sub
  have d201 := Disj.w d197 o188.sub
  replace o9 := o9.up up
  replace o12 := o12.up up
  replace o22 := o22.up up
  replace o188 := o188.up up
  clear up d197
  refine S.hq 5 [5] [] [(139, .v (pt q1.guests.1.b (q1.guests.1.off + g.toNat * 15)))] (.cons (qt o9.rn g Tryz.underlying48) .nil) fun ac S => ?_
  refine WD.one (i := 6) (by kernel_rfl) ?_
  refine id (S.sV (α := TGuest) o9 (t := 81) (k := g.toNat) (off := q1.guests.1.off + g.toNat * 15) o196 d198 fun w N F203 q204 S up o202 d205 s206 n207 => ?_)
  refine WD.last (by kernel_rfl) ?_
  have d208 := d205 _ (Disj.symm d17) d199 o12.sub
  have d210 := d205 _ (Disj.symm d191) d201 o188.sub
  replace o12 := o12.upF (Disj.symm d17) up
  replace o22 := o22.upF (Disj.symm d31) up
  replace o188 := o188.upF (Disj.symm d191) up
  clear up d205 o9 n207
  have l211 : (b.guests.set g.toNat (f_moved (f_guestAt b g).1)).length = b.guests.length := List.length_set
  replace S := S.z (σ' := ⟨[(2, .p 0 0), (4, .p 1 0), (138, .v (GT.val (f_moved (f_guestAt b g).1) q194)), (139, .v (pt q1.guests.1.b (q1.guests.1.off + g.toNat * 15)))], [[slv (f_withCell b.mem (f_walkInner (f_guestAt b g).1.live (f_addrPage (f_address (f_guestAt b g).1)) (f_needOf ((f_wantOf (f_guestAt b g).1) == 4))).1 (f_addrCell (f_address (f_guestAt b g).1)) (f_guestAt b g).1.acc).length q186.1, slv b.guests.length q1.guests.1, slv b.outs.length q1.outs.1, I b.pend], Zc TBare, GT.cells (f_guestAt b g).1 q18]⟩)
  replace S := S.cast (σ' := ⟨[(2, .p 0 0), (4, .p 1 0), (138, .v (GT.val (f_moved (f_guestAt b g).1) q194)), (139, .v (pt q1.guests.1.b (q1.guests.1.off + g.toNat * 15)))], [[slv (f_withCell b.mem (f_walkInner (f_guestAt b g).1.live (f_addrPage (f_address (f_guestAt b g).1)) (f_needOf ((f_wantOf (f_guestAt b g).1) == 4))).1 (f_addrCell (f_address (f_guestAt b g).1)) (f_guestAt b g).1.acc).length q186.1, slv (b.guests.set g.toNat (f_moved (f_guestAt b g).1)).length q1.guests.1, slv b.outs.length q1.outs.1, I b.pend], Zc TBare, GT.cells (f_guestAt b g).1 q18]⟩) (by rw [show (b.guests.set g.toNat (f_moved (f_guestAt b g).1)).length = b.guests.length by omega])
  refine WD.done (by kernel_rfl) ?_ _
  refine S.ex fun S => ?_
  refine S.gr 11 .nil [GT.val (⟨(f_withCell b.mem (f_walkInner (f_guestAt b g).1.live (f_addrPage (f_address (f_guestAt b g).1)) (f_needOf ((f_wantOf (f_guestAt b g).1) == 4))).1 (f_addrCell (f_address (f_guestAt b g).1)) (f_guestAt b g).1.acc), (b.guests.set g.toNat (f_moved (f_guestAt b g).1)), b.outs, b.pend⟩ : TBare) (⟨q186, (q1.guests.1, q204), q1.outs⟩ : PBare), B true] fun ac w β S => ?_
  have o212 := ow_Bare (x := (⟨(f_withCell b.mem (f_walkInner (f_guestAt b g).1.live (f_addrPage (f_address (f_guestAt b g).1)) (f_needOf ((f_wantOf (f_guestAt b g).1) == 4))).1 (f_addrCell (f_address (f_guestAt b g).1)) (f_guestAt b g).1.acc), (b.guests.set g.toNat (f_moved (f_guestAt b g).1)), b.outs, b.pend⟩ : TBare)) (p := (⟨q186, (q1.guests.1, q204), q1.outs⟩ : PBare)) o188 o202 o12 d210 (Disj.symm d192) (Disj.symm d208) i14
  exact ret2_of (p' := ()) S (show (f_bareStep b g).1 = (⟨(f_withCell b.mem (f_walkInner (f_guestAt b g).1.live (f_addrPage (f_address (f_guestAt b g).1)) (f_needOf ((f_wantOf (f_guestAt b g).1) == 4))).1 (f_addrCell (f_address (f_guestAt b g).1)) (f_guestAt b g).1.acc), (b.guests.set g.toNat (f_moved (f_guestAt b g).1)), b.outs, b.pend⟩ : TBare) from k0_spec_BareStep) (show (f_bareStep b g).2 = true from k1_spec_BareStep) rfl rfl o212 trivial
 refine S.go 8 .nil fun ac w β S => S.K2 (r := (f_trap (f_guestAt b g).1 (f_guestAt b g).1.ctl.traps (f_wantOf (f_guestAt b g).1)).1) (r' := (f_trap (f_guestAt b g).1 (f_guestAt b g).1.ctl.traps (f_wantOf (f_guestAt b g).1)).2) (d := 44) (c_spec_l18Trap w (f_guestAt b g).1 q18 (S.rd o22.rn) (f_guestAt b g).1.ctl.traps (f_wantOf (f_guestAt b g).1)) fun ac w N q213 q214 F215 F216 S up o217 o218 d219 d220 d221 => ?_
 have d226 := Disj.w d219 o6.sub
 have d227 := Disj.w d219 o9.sub
 have d228 := Disj.w d219 o12.sub
 replace o6 := o6.up up
 replace o9 := o9.up up
 replace o12 := o12.up up
 replace o22 := o22.up up
 clear up d219
 clear d220
 refine S.gb 13 .nil (f_trap (f_guestAt b g).1 (f_guestAt b g).1.ctl.traps (f_wantOf (f_guestAt b g).1)).2 (fun ac w β h230 S => ?_) (fun ac w β h230 S => ?_)
 ·refine S.gd 5 .nil ((f_wantOf (f_guestAt b g).1) == 5) (fun ac w β h231 g232 S => ?_) (fun ac w β h231 g232 S => ?_)
  ·refine S.go 1 .nil fun ac w β S => ?_
   refine drw ?_
   refine S.draw0 (f := 9) 8 (by kernel_rfl) (by kernel_rfl) fun w S => ?_
   refine S.hq 0 [0] [] [(52, .v (GT.val b q1))] .nil fun ac S => ?_
   refine S.hq 1 [1] [] [(53, .p 2 0)] .nil fun ac S => ?_
   refine S.hq 2 [2] [] [(54, .v (slv (f_guestAt b g).1.prog.length q18.prog.1))] .nil fun ac S => ?_
   refine S.hq 3 [3] [] [(55, .p 2 2)] .nil fun ac S => ?_
   refine S.hq 4 [4] [] [(56, .v (I (f_guestAt b g).1.pc))] .nil fun ac S => ?_
   refine S.sq 5 [] [(57, .v (GT.val (f_insAt (f_guestAt b g).1.prog (f_guestAt b g).1.pc) ()))] 4 [] (.cons (Q_call fun w hw => c_spec_InsAt w (f_guestAt b g).1.prog q18.prog (rd_of (RGuest.prog (d := (f_guestAt b g).1) o22.rn) hw) (f_guestAt b g).1.pc) .nil) fun ac w β S => ?_
   refine S.hq 6 [6] [] [(58, .v (I (f_insAt (f_guestAt b g).1.prog (f_guestAt b g).1.pc).x))] .nil fun ac S => ?_
   refine WD.one (i := 7) (by kernel_rfl) ?_
   have b233 := congrArg List.length (putOut_guests b (f_insAt (f_guestAt b g).1.prog (f_guestAt b g).1.pc).x)
   refine id (S.k1 59 (c_spec_PutOut w b q1 (S.rd (show GT.rd KK _ _ b q1 from ⟨o6.rn, o9.rn, o12.rn, i14⟩)) (f_insAt (f_guestAt b g).1.prog (f_guestAt b g).1.pc).x (RIns.x (d := (f_insAt (f_guestAt b g).1.prog (f_guestAt b g).1.pc)) (insAt_r (RGuest.prog (d := (f_guestAt b g).1) o22.rn) (f_guestAt b g).1.pc))) fun ac w N q234 F235 S up o236 d237 => ?_)
   refine WD.next S up (by kernel_rfl) ?_
   have d242 := Disj.w d237 o217.sub
   replace o6 := o6.up up
   replace o9 := o9.up up
   replace o12 := o12.up up
   replace o217 := o217.up up
   clear up d237
   have i252 : In64 (f_putOut b (f_insAt (f_guestAt b g).1.prog (f_guestAt b g).1.pc).x).pend := RBare.pend (d := (f_putOut b (f_insAt (f_guestAt b g).1.prog (f_guestAt b g).1.pc).x)) o236.rn
   obtain ⟨F243, F246, F249, o244, o247, o250, s245, s248, s251, d253, d254, d255⟩ := sp_Bare o236
   refine S.sl 8 [] [] 4 [(0, [slv (f_putOut b (f_insAt (f_guestAt b g).1.prog (f_guestAt b g).1.pc).x).mem.length q234.mem.1, slv (f_putOut b (f_insAt (f_guestAt b g).1.prog (f_guestAt b g).1.pc).x).guests.length q234.guests.1, slv (f_putOut b (f_insAt (f_guestAt b g).1.prog (f_guestAt b g).1.pc).x).outs.length q234.outs.1, I (f_putOut b (f_insAt (f_guestAt b g).1.prog (f_guestAt b g).1.pc).x).pend])] .nil fun ac w β S => ?_
   refine WD.done (by kernel_rfl) ?_ _
   refine S.ex fun S => ?_
   refine S.go 7 (.cons (qt o247.rn g Tryz.underlying48) .nil) fun ac w β S => S.SV (α := TGuest) o247 (t := 81) (k := g.toNat) (off := q234.guests.1.off + g.toNat * 15) o217 (Disj.part (Disj.symm d242) s248) fun w N F257 q258 S up o256 d259 s260 n261 => ?_
   have d262 := d259 _ d253 (Disj.part (Disj.symm d242) s245) o244.sub
   have d263 := d259 _ (Disj.symm d255) (Disj.part (Disj.symm d242) s251) o250.sub
   replace o244 := o244.upF d253 up
   replace o250 := o250.upF (Disj.symm d255) up
   clear up d259 o247 n261
   have l264 : ((f_putOut b (f_insAt (f_guestAt b g).1.prog (f_guestAt b g).1.pc).x).guests.set g.toNat (f_trap (f_guestAt b g).1 (f_guestAt b g).1.ctl.traps (f_wantOf (f_guestAt b g).1)).1).length = (f_putOut b (f_insAt (f_guestAt b g).1.prog (f_guestAt b g).1.pc).x).guests.length := List.length_set
   replace S := S.z (σ' := ⟨[(2, .p 0 0), (4, .p 1 0), (63, .v (GT.val (f_trap (f_guestAt b g).1 (f_guestAt b g).1.ctl.traps (f_wantOf (f_guestAt b g).1)).1 q213)), (64, .v (pt q234.guests.1.b (q234.guests.1.off + g.toNat * 15)))], [[slv (f_putOut b (f_insAt (f_guestAt b g).1.prog (f_guestAt b g).1.pc).x).mem.length q234.mem.1, slv (f_putOut b (f_insAt (f_guestAt b g).1.prog (f_guestAt b g).1.pc).x).guests.length q234.guests.1, slv (f_putOut b (f_insAt (f_guestAt b g).1.prog (f_guestAt b g).1.pc).x).outs.length q234.outs.1, I (f_putOut b (f_insAt (f_guestAt b g).1.prog (f_guestAt b g).1.pc).x).pend], Zc TBare, GT.cells (f_guestAt b g).1 q18, GT.cells (f_trap (f_guestAt b g).1 (f_guestAt b g).1.ctl.traps (f_wantOf (f_guestAt b g).1)).1 q213]⟩)
   replace S := S.cast (σ' := ⟨[(2, .p 0 0), (4, .p 1 0), (63, .v (GT.val (f_trap (f_guestAt b g).1 (f_guestAt b g).1.ctl.traps (f_wantOf (f_guestAt b g).1)).1 q213)), (64, .v (pt q234.guests.1.b (q234.guests.1.off + g.toNat * 15)))], [[slv (f_putOut b (f_insAt (f_guestAt b g).1.prog (f_guestAt b g).1.pc).x).mem.length q234.mem.1, slv ((f_putOut b (f_insAt (f_guestAt b g).1.prog (f_guestAt b g).1.pc).x).guests.set g.toNat (f_trap (f_guestAt b g).1 (f_guestAt b g).1.ctl.traps (f_wantOf (f_guestAt b g).1)).1).length q234.guests.1, slv (f_putOut b (f_insAt (f_guestAt b g).1.prog (f_guestAt b g).1.pc).x).outs.length q234.outs.1, I (f_putOut b (f_insAt (f_guestAt b g).1.prog (f_guestAt b g).1.pc).x).pend], Zc TBare, GT.cells (f_guestAt b g).1 q18, GT.cells (f_trap (f_guestAt b g).1 (f_guestAt b g).1.ctl.traps (f_wantOf (f_guestAt b g).1)).1 q213]⟩) (by rw [show ((f_putOut b (f_insAt (f_guestAt b g).1.prog (f_guestAt b g).1.pc).x).guests.set g.toNat (f_trap (f_guestAt b g).1 (f_guestAt b g).1.ctl.traps (f_wantOf (f_guestAt b g).1)).1).length = (f_putOut b (f_insAt (f_guestAt b g).1.prog (f_guestAt b g).1.pc).x).guests.length by omega])
   refine S.is fun S => ?_
   refine S.gr 11 .nil [GT.val (⟨(f_putOut b (f_insAt (f_guestAt b g).1.prog (f_guestAt b g).1.pc).x).mem, ((f_putOut b (f_insAt (f_guestAt b g).1.prog (f_guestAt b g).1.pc).x).guests.set g.toNat (f_trap (f_guestAt b g).1 (f_guestAt b g).1.ctl.traps (f_wantOf (f_guestAt b g).1)).1), (f_putOut b (f_insAt (f_guestAt b g).1.prog (f_guestAt b g).1.pc).x).outs, (f_putOut b (f_insAt (f_guestAt b g).1.prog (f_guestAt b g).1.pc).x).pend⟩ : TBare) (⟨q234.mem, (q234.guests.1, q258), q234.outs⟩ : PBare), B true] fun ac w β S => ?_
   have o265 := ow_Bare (x := (⟨(f_putOut b (f_insAt (f_guestAt b g).1.prog (f_guestAt b g).1.pc).x).mem, ((f_putOut b (f_insAt (f_guestAt b g).1.prog (f_guestAt b g).1.pc).x).guests.set g.toNat (f_trap (f_guestAt b g).1 (f_guestAt b g).1.ctl.traps (f_wantOf (f_guestAt b g).1)).1), (f_putOut b (f_insAt (f_guestAt b g).1.prog (f_guestAt b g).1.pc).x).outs, (f_putOut b (f_insAt (f_guestAt b g).1.prog (f_guestAt b g).1.pc).x).pend⟩ : TBare)) (p := (⟨q234.mem, (q234.guests.1, q258), q234.outs⟩ : PBare)) o244 o256 o250 d262 d254 (Disj.symm d263) i252
   exact ret2_of (p' := ()) S (show (f_bareStep b g).1 = (⟨(f_putOut b (f_insAt (f_guestAt b g).1.prog (f_guestAt b g).1.pc).x).mem, ((f_putOut b (f_insAt (f_guestAt b g).1.prog (f_guestAt b g).1.pc).x).guests.set g.toNat (f_trap (f_guestAt b g).1 (f_guestAt b g).1.ctl.traps (f_wantOf (f_guestAt b g).1)).1), (f_putOut b (f_insAt (f_guestAt b g).1.prog (f_guestAt b g).1.pc).x).outs, (f_putOut b (f_insAt (f_guestAt b g).1.prog (f_guestAt b g).1.pc).x).pend⟩ : TBare) from k0_spec_BareStep) (show (f_bareStep b g).2 = true from k1_spec_BareStep) rfl rfl o265 trivial
  refine S.go 9 (.cons (qt o9.rn g Tryz.underlying48) .nil) fun ac w β S => S.SV (α := TGuest) o9 (t := 81) (k := g.toNat) (off := q1.guests.1.off + g.toNat * 15) o217 d227 fun w N F267 q268 S up o266 d269 s270 n271 => ?_
  have d272 := d269 _ d15 d226 o6.sub
  have d273 := d269 _ (Disj.symm d17) d228 o12.sub
  replace o6 := o6.upF d15 up
  replace o12 := o12.upF (Disj.symm d17) up
  clear up d269 o9 n271
  have l274 : (b.guests.set g.toNat (f_trap (f_guestAt b g).1 (f_guestAt b g).1.ctl.traps (f_wantOf (f_guestAt b g).1)).1).length = b.guests.length := List.length_set
  replace S := S.z (σ' := ⟨[(2, .p 0 0), (4, .p 1 0), (63, .v (GT.val (f_trap (f_guestAt b g).1 (f_guestAt b g).1.ctl.traps (f_wantOf (f_guestAt b g).1)).1 q213)), (64, .v (pt q1.guests.1.b (q1.guests.1.off + g.toNat * 15)))], [[slv b.mem.length q1.mem.1, slv b.guests.length q1.guests.1, slv b.outs.length q1.outs.1, I b.pend], Zc TBare, GT.cells (f_guestAt b g).1 q18, GT.cells (f_trap (f_guestAt b g).1 (f_guestAt b g).1.ctl.traps (f_wantOf (f_guestAt b g).1)).1 q213]⟩)
  replace S := S.cast (σ' := ⟨[(2, .p 0 0), (4, .p 1 0), (63, .v (GT.val (f_trap (f_guestAt b g).1 (f_guestAt b g).1.ctl.traps (f_wantOf (f_guestAt b g).1)).1 q213)), (64, .v (pt q1.guests.1.b (q1.guests.1.off + g.toNat * 15)))], [[slv b.mem.length q1.mem.1, slv (b.guests.set g.toNat (f_trap (f_guestAt b g).1 (f_guestAt b g).1.ctl.traps (f_wantOf (f_guestAt b g).1)).1).length q1.guests.1, slv b.outs.length q1.outs.1, I b.pend], Zc TBare, GT.cells (f_guestAt b g).1 q18, GT.cells (f_trap (f_guestAt b g).1 (f_guestAt b g).1.ctl.traps (f_wantOf (f_guestAt b g).1)).1 q213]⟩) (by rw [show (b.guests.set g.toNat (f_trap (f_guestAt b g).1 (f_guestAt b g).1.ctl.traps (f_wantOf (f_guestAt b g).1)).1).length = b.guests.length by omega])
  refine S.is fun S => ?_
  refine S.gr 11 .nil [GT.val (⟨b.mem, (b.guests.set g.toNat (f_trap (f_guestAt b g).1 (f_guestAt b g).1.ctl.traps (f_wantOf (f_guestAt b g).1)).1), b.outs, b.pend⟩ : TBare) (⟨q1.mem, (q1.guests.1, q268), q1.outs⟩ : PBare), B true] fun ac w β S => ?_
  have o275 := ow_Bare (x := (⟨b.mem, (b.guests.set g.toNat (f_trap (f_guestAt b g).1 (f_guestAt b g).1.ctl.traps (f_wantOf (f_guestAt b g).1)).1), b.outs, b.pend⟩ : TBare)) (p := (⟨q1.mem, (q1.guests.1, q268), q1.outs⟩ : PBare)) o6 o266 o12 d272 d16 (Disj.symm d273) i14
  exact ret2_of (p' := ()) S (show (f_bareStep b g).1 = (⟨b.mem, (b.guests.set g.toNat (f_trap (f_guestAt b g).1 (f_guestAt b g).1.ctl.traps (f_wantOf (f_guestAt b g).1)).1), b.outs, b.pend⟩ : TBare) from k0_spec_BareStep) (show (f_bareStep b g).2 = true from k1_spec_BareStep) rfl rfl o275 trivial
 refine S.go 14 (.cons (qt o9.rn g Tryz.underlying48) .nil) fun ac w β S => S.SV (α := TGuest) o9 (t := 81) (k := g.toNat) (off := q1.guests.1.off + g.toNat * 15) o217 d227 fun w N F277 q278 S up o276 d279 s280 n281 => ?_
 have d282 := d279 _ d15 d226 o6.sub
 have d283 := d279 _ (Disj.symm d17) d228 o12.sub
 replace o6 := o6.upF d15 up
 replace o12 := o12.upF (Disj.symm d17) up
 clear up d279 o9 n281
 have l284 : (b.guests.set g.toNat (f_trap (f_guestAt b g).1 (f_guestAt b g).1.ctl.traps (f_wantOf (f_guestAt b g).1)).1).length = b.guests.length := List.length_set
 replace S := S.z (σ' := ⟨[(2, .p 0 0), (4, .p 1 0), (63, .v (GT.val (f_trap (f_guestAt b g).1 (f_guestAt b g).1.ctl.traps (f_wantOf (f_guestAt b g).1)).1 q213)), (64, .v (pt q1.guests.1.b (q1.guests.1.off + g.toNat * 15)))], [[slv b.mem.length q1.mem.1, slv b.guests.length q1.guests.1, slv b.outs.length q1.outs.1, I b.pend], Zc TBare, GT.cells (f_guestAt b g).1 q18, GT.cells (f_trap (f_guestAt b g).1 (f_guestAt b g).1.ctl.traps (f_wantOf (f_guestAt b g).1)).1 q213]⟩)
 replace S := S.cast (σ' := ⟨[(2, .p 0 0), (4, .p 1 0), (63, .v (GT.val (f_trap (f_guestAt b g).1 (f_guestAt b g).1.ctl.traps (f_wantOf (f_guestAt b g).1)).1 q213)), (64, .v (pt q1.guests.1.b (q1.guests.1.off + g.toNat * 15)))], [[slv b.mem.length q1.mem.1, slv (b.guests.set g.toNat (f_trap (f_guestAt b g).1 (f_guestAt b g).1.ctl.traps (f_wantOf (f_guestAt b g).1)).1).length q1.guests.1, slv b.outs.length q1.outs.1, I b.pend], Zc TBare, GT.cells (f_guestAt b g).1 q18, GT.cells (f_trap (f_guestAt b g).1 (f_guestAt b g).1.ctl.traps (f_wantOf (f_guestAt b g).1)).1 q213]⟩) (by rw [show (b.guests.set g.toNat (f_trap (f_guestAt b g).1 (f_guestAt b g).1.ctl.traps (f_wantOf (f_guestAt b g).1)).1).length = b.guests.length by omega])
 refine S.is fun S => ?_
 refine S.gr 11 .nil [GT.val (⟨b.mem, (b.guests.set g.toNat (f_trap (f_guestAt b g).1 (f_guestAt b g).1.ctl.traps (f_wantOf (f_guestAt b g).1)).1), b.outs, b.pend⟩ : TBare) (⟨q1.mem, (q1.guests.1, q278), q1.outs⟩ : PBare), B true] fun ac w β S => ?_
 have o285 := ow_Bare (x := (⟨b.mem, (b.guests.set g.toNat (f_trap (f_guestAt b g).1 (f_guestAt b g).1.ctl.traps (f_wantOf (f_guestAt b g).1)).1), b.outs, b.pend⟩ : TBare)) (p := (⟨q1.mem, (q1.guests.1, q278), q1.outs⟩ : PBare)) o6 o276 o12 d282 d16 (Disj.symm d283) i14
 exact ret2_of (p' := ()) S (show (f_bareStep b g).1 = (⟨b.mem, (b.guests.set g.toNat (f_trap (f_guestAt b g).1 (f_guestAt b g).1.ctl.traps (f_wantOf (f_guestAt b g).1)).1), b.outs, b.pend⟩ : TBare) from k0_spec_BareStep) (show (f_bareStep b g).2 = true from k1_spec_BareStep) rfl rfl o285 trivial

theorem k0_spec_l19Is {p : Prop} (h : p := by clear S; first | rfl | (simp [f_l19Is, *]; done) | (simp [f_l19Is, *]; omega) | (simp_all [f_l19Is]; done) | (simp_all [f_l19Is]; omega)) : p := h
theorem c_spec_l19Is (w0 : World) (b : TBare) (pb : PBare) (hb : RD w0 b pb) (g : Int) : Calls Tryz.prog 68 [GT.val b pb, I g].toArray w0 (fun e w' => e = .returned (B (f_l19Is b g)) ∧ Chg NoB w0 w') := by
 refine Calls.run NoB Tryz.func68 ?_
 intro ac β S
 have hleb_mem : b.mem.length ≤ 4194304 := LRd.le (RBare.mem (d := b) hb)
 have hleb_guests : b.guests.length ≤ 4194304 := LRd.le (RBare.guests (d := b) hb)
 have hleb_outs : b.outs.length ≤ 4194304 := LRd.le (RBare.outs (d := b) hb)
 refine S.gb 11 (.cons (Q_call fun w hw => c_spec_BareOk w b pb (rd_of (S.arg hb) hw)) .nil) (f_bareOk b) (fun ac w β h1 S => ?_) (fun ac w β h1 S => ?_)
 ·have g2 := bareOk_t h1
  exact S.gf 11 (.cons (qm (b.guests.length : Int) 1) (.cons (Q_call fun w hw => c_spec_l01In w g 0 ((b.guests.length : Int) - 1)) .nil)) [B (f_within g 0 ((b.guests.length : Int) - 1))] (retB k0_spec_l19Is)
 exact S.gf 11 .nil [B false] (retB k0_spec_l19Is)

theorem k0_spec_WithSlot {p : Prop} (h : p := by clear S; (first | (unfold f_withSlot; rw [if_pos (by omega)]; done) | (unfold f_withSlot; rw [if_pos (by omega)]; first | rfl | (simp; done)) | (unfold f_withSlot; rw [if_neg (by omega)]; done) | (unfold f_withSlot; rw [if_neg (by omega)]; first | rfl | (simp; done)))) : p := h
theorem c_spec_WithSlot (w0 : World) (tb : List TSlot) (ptb : LP TSlot) (htb : RD w0 tb ptb) (page : Int) (s : TSlot) (hs : RSlot s) : Calls Tryz.prog 70 [slv tb.length ptb.1, I page, GT.val s ()].toArray w0 (Ret1 NoB w0 (f_withSlot tb page s : List TSlot)) := by
 refine Calls.run NoB Tryz.func70 ?_
 intro ac β S
 have hnl : (([] : List TSlot) ++ tb).length = tb.length := rfl
 have hletb : tb.length ≤ 4194304 := LRd.le htb
 refine S.go 8 .nil fun ac w β S => S.B0 (α := TSlot) (d := 8) fun ac w N q1 F2 S up o3 d4 => ?_
 clear up d4
 have b9 : tb.length ≤ 4194304 := LRd.le (S.arg htb)
 refine S.go 1 .nil fun ac w β S => S.AF0 (α := TSlot) o3 (S.arg htb) (fun _ _ h => h) (by' := 16) (d := 10) (lx := 0) (ly := tb.length) rfl fun ac w N q5 F6 S up o7 d8 => ?_
 clear up d8
 refine S.gb 13 (.cons (qm (tb.length : Int) 1) (.cons (Q_call fun w hw => c_spec_l01In w page 0 ((tb.length : Int) - 1)) .nil)) (f_within page 0 ((tb.length : Int) - 1)) (fun ac w β h10 S => ?_) (fun ac w β h10 S => ?_)
 ·have g11 := within_t h10
  have e12 : RSlot (el tb page.toNat) := (LRd.el o7.rn page.toNat (by omega))
  refine S.go 6 (.cons (qt o7.rn page Tryz.underlying77) .nil) fun ac w β S => S.SF (α := TSlot) o7 (t := 55) (k := page.toNat) (j := 0) (off := q5.1.off + page.toNat * 2) (v := GT.val s ()) (y := s) (q := ()) (fun _ _ _ => ⟨NoB, hs, fun _ h => False.elim h⟩) fun w N F14 q15 S up o13 d16 s17 n18 => ?_
  clear up d16 o7 n18
  have l19 : (tb.set page.toNat s).length = tb.length := List.length_set
  refine S.gr 9 .nil [slv tb.length q5.1] fun ac w β S => ?_
  exact ret1_of S (show f_withSlot tb page s = (tb.set page.toNat s) from k0_spec_WithSlot) (by rw [show tb.length = (tb.set page.toNat s).length from (by rw [List.length_set])]; rfl) o13
 have g20 := within_f h10
 refine S.gr 10 .nil [slv tb.length q5.1] fun ac w β S => ?_
 exact ret1_of S (show f_withSlot tb page s = tb from k0_spec_WithSlot) rfl o7

theorem k0_spec_BareSet {p : Prop} (h : p := by clear S; (first | (unfold f_bareSet; rw [changed_out (by assumption)]; done) | (rw [set_no1 (by assumption)]; done) | (rw [set_no2 (by assumption)]; done) | (rw [set_in (by assumption) (by assumption) (by assumption)]; done))) : p := h
theorem c_spec_BareSet (w0 : World) (b : TBare) (pb : PBare) (hb : RD w0 b pb) (g : Int) (page : Int) (hpage : In64 page) (s : TSlot) (hs : RSlot s) : Calls Tryz.prog 19 [GT.val b pb, I g, I page, GT.val s ()].toArray w0 (Ret2 NoB w0 ((f_bareSet b g page s).1 : TBare) ((f_bareSet b g page s).2 : Bool)) := by
 refine Calls.run NoB Tryz.func19 ?_
 intro ac β S
 have hleb_mem : b.mem.length ≤ 4194304 := LRd.le (RBare.mem (d := b) hb)
 have hleb_guests : b.guests.length ≤ 4194304 := LRd.le (RBare.guests (d := b) hb)
 have hleb_outs : b.outs.length ≤ 4194304 := LRd.le (RBare.outs (d := b) hb)
 have hlopage := hpage.lo; have hhipage := hpage.hi
 refine S.go 11 .nil fun ac w β S => S.K1 (r := b) (d := 11) (c_spec_l17Copy w b pb (S.rd (S.arg hb))) fun ac w N q1 F2 S up o3 d4 => ?_
 clear up d4
 have i14 : In64 b.pend := RBare.pend (d := b) o3.rn
 obtain ⟨F5, F8, F11, o6, o9, o12, _, _, _, d15, d16, d17⟩ := sp_Bare o3
 refine S.gb 11 (.cons (Q_call fun w hw => c_spec_l19Is w b q1 (rd_of (show GT.rd KK _ _ b q1 from ⟨o6.rn, o9.rn, o12.rn, i14⟩) hw) g) .nil) (!(f_l19Is b g)) (fun ac w β h18 S => ?_) (fun ac w β h18 S => ?_)
 ·have h19 := not_t h18
  refine S.gr 20 .nil [GT.val b q1, B false] fun ac w β S => ?_
  have o20 := ow_Bare (x := b) (p := q1) o6 o9 o12 d15 d16 d17 i14
  exact ret2_of (p' := ()) S (show (f_bareSet b g page s).1 = b from k0_spec_BareSet) (show (f_bareSet b g page s).2 = false from k0_spec_BareSet) rfl rfl o20 trivial
 have h21 := not_f h18
 have g22 := l19Is_t h21
 refine S.gb 5 (.cons (Q_call fun w hw => c_spec_l01In w page 0 3) .nil) (!(f_within page 0 3)) (fun ac w β h23 S => ?_) (fun ac w β h23 S => ?_)
 ·have h24 := not_t h23
  have g25 := within_f h24
  refine S.gr 15 .nil [GT.val b q1, B false] fun ac w β S => ?_
  have o26 := ow_Bare (x := b) (p := q1) o6 o9 o12 d15 d16 d17 i14
  exact ret2_of (p' := ()) S (show (f_bareSet b g page s).1 = b from k0_spec_BareSet) (show (f_bareSet b g page s).2 = false from k0_spec_BareSet) rfl rfl o26 trivial
 have h27 := not_f h23
 have g28 := within_t h27
 refine S.gb 6 (.cons (Q_call fun w hw => c_spec_SlotOk w s 8 (by omega) (by omega)) .nil) (!(f_slotOk s 8)) (fun ac w β h29 S => ?_) (fun ac w β h29 S => ?_)
 ·have h30 := not_t h29
  refine S.gr 9 .nil [GT.val b q1, B false] fun ac w β S => ?_
  have o31 := ow_Bare (x := b) (p := q1) o6 o9 o12 d15 d16 d17 i14
  exact ret2_of (p' := ()) S (show (f_bareSet b g page s).1 = b from k0_spec_BareSet) (show (f_bareSet b g page s).2 = false from k0_spec_BareSet) rfl rfl o31 trivial
 have h32 := not_f h29
 refine S.go 4 .nil fun ac w β S => ?_
 refine drw ?_
 refine S.draw0 (f := 15) 14 (by kernel_rfl) (by kernel_rfl) fun w S => ?_
 refine S.hq 0 [0] [] [(27, .p 0 1)] .nil fun ac S => ?_
 refine S.hq 1 [1] [] [(28, .v (slv b.guests.length q1.guests.1))] .nil fun ac S => ?_
 refine S.hq 2 [2] [] [(29, .v (I g))] .nil fun ac S => ?_
 refine S.hq 3 [3] [] [(30, .p 0 1)] .nil fun ac S => ?_
 refine S.hq 4 [4] [] [(31, .v (slv b.guests.length q1.guests.1))] .nil fun ac S => ?_
 refine S.hq 5 [5] [] [(32, .v (I g))] .nil fun ac S => ?_
 refine S.hq 6 [6] [] [(33, .v (pt q1.guests.1.b (q1.guests.1.off + g.toNat * 15)))] (.cons (qt o9.rn g Tryz.underlying48) .nil) fun ac S => ?_
 refine S.hq 7 [7] [] [(34, .v (pt q1.guests.1.b (q1.guests.1.off + g.toNat * 15 + 3)))] .nil fun ac S => ?_
 refine S.hq 8 [8] [] [(35, .v (slv (el b.guests g.toNat).written.length (q1.guests.2 g.toNat).written.1))] (.cons (qc o9.rn 77 g.toNat 3 (slv (el b.guests g.toNat).written.length (q1.guests.2 g.toNat).written.1)) .nil) fun ac S => ?_
 refine S.hq 9 [9] [] [(36, .v (I page))] .nil fun ac S => ?_
 refine S.hq 10 [10] [] [(37, .v (GT.val s ()))] .nil fun ac S => ?_
 refine WD.one (i := 11) (by kernel_rfl) ?_
 refine id (S.k1 38 (c_spec_WithSlot w (el b.guests g.toNat).written (q1.guests.2 g.toNat).written (S.rd (RGuest.written (d := (el b.guests g.toNat)) (LRd.el o9.rn g.toNat (by omega)))) page s hs) fun ac w N q33 F34 S up o35 d36 => ?_)
 refine WD.next S up (by kernel_rfl) ?_
 have d37 := Disj.w d36 o6.sub
 have d38 := Disj.w d36 o9.sub
 have d39 := Disj.w d36 o12.sub
 replace o6 := o6.up up
 replace o9 := o9.up up
 replace o12 := o12.up up
 clear up d36
 refine S.hq 12 [13, 12] [] [(39, .v (pt q1.guests.1.b (q1.guests.1.off + g.toNat * 15)))] (.cons (qt o9.rn g Tryz.underlying48) .nil) fun ac S => ?_
 refine S.hq 13 [13] [] [(40, .v (pt q1.guests.1.b (q1.guests.1.off + g.toNat * 15 + 3)))] .nil fun ac S => ?_
 refine WD.one (i := 14) (by kernel_rfl) ?_
 refine id (S.sE (α := TGuest) o9 (t := 77) (k := g.toNat) (j := 3) (off := q1.guests.1.off + g.toNat * 15 + 3) (v := slv (f_withSlot (el b.guests g.toNat).written page s).length q33.1) (y := ({ el b.guests g.toNat with written := (f_withSlot (el b.guests g.toNat).written page s) } : TGuest)) (q := ({ q1.guests.2 g.toNat with written := q33 } : PGuest)) (fun G g_ gF => ⟨_, owl_Guest_written g_ o35.own (fun b h h2 => d38 b (gF b h) h2), fun _ h => h⟩) d38 o35.sub o35.young fun w N F41 q42 S up o40 d43 s44 n45 => ?_)
 refine WD.last (by kernel_rfl) ?_
 have d46 := d43 _ d15 d37 o6.sub
 have d47 := d43 _ (Disj.symm d17) d39 o12.sub
 replace o6 := o6.upF d15 up
 replace o12 := o12.upF (Disj.symm d17) up
 clear up d43 o9 n45
 have l48 : (b.guests.set g.toNat ({ el b.guests g.toNat with written := (f_withSlot (el b.guests g.toNat).written page s) })).length = b.guests.length := List.length_set
 replace S := S.z (σ' := ⟨[(4, .p 0 0), (8, .p 2 0), (38, .v (slv (f_withSlot (el b.guests g.toNat).written page s).length q33.1)), (40, .v (pt q1.guests.1.b (q1.guests.1.off + g.toNat * 15 + 3)))], [[slv b.mem.length q1.mem.1, slv b.guests.length q1.guests.1, slv b.outs.length q1.outs.1, I b.pend], GT.cells s (), Zc TBare]⟩)
 replace S := S.cast (σ' := ⟨[(4, .p 0 0), (8, .p 2 0), (38, .v (slv (f_withSlot (el b.guests g.toNat).written page s).length q33.1)), (40, .v (pt q1.guests.1.b (q1.guests.1.off + g.toNat * 15 + 3)))], [[slv b.mem.length q1.mem.1, slv (b.guests.set g.toNat ({ el b.guests g.toNat with written := (f_withSlot (el b.guests g.toNat).written page s) })).length q1.guests.1, slv b.outs.length q1.outs.1, I b.pend], GT.cells s (), Zc TBare]⟩) (by rw [show (b.guests.set g.toNat ({ el b.guests g.toNat with written := (f_withSlot (el b.guests g.toNat).written page s) })).length = b.guests.length by omega])
 refine WD.done (by kernel_rfl) ?_ _
 refine S.ex fun S => ?_
 refine S.gr 9 .nil [GT.val (⟨b.mem, (b.guests.set g.toNat ({ el b.guests g.toNat with written := (f_withSlot (el b.guests g.toNat).written page s) })), b.outs, b.pend⟩ : TBare) (⟨q1.mem, (q1.guests.1, q42), q1.outs⟩ : PBare), B true] fun ac w β S => ?_
 have o49 := ow_Bare (x := (⟨b.mem, (b.guests.set g.toNat ({ el b.guests g.toNat with written := (f_withSlot (el b.guests g.toNat).written page s) })), b.outs, b.pend⟩ : TBare)) (p := (⟨q1.mem, (q1.guests.1, q42), q1.outs⟩ : PBare)) o6 o40 o12 d46 d16 (Disj.symm d47) i14
 exact ret2_of (p' := ()) S (show (f_bareSet b g page s).1 = (⟨b.mem, (b.guests.set g.toNat ({ el b.guests g.toNat with written := (f_withSlot (el b.guests g.toNat).written page s) })), b.outs, b.pend⟩ : TBare) from k0_spec_BareSet) (show (f_bareSet b g page s).2 = true from k0_spec_BareSet) rfl rfl o49 trivial

end Go.Proofs.YtlpaefknpmdaoaaGreat
