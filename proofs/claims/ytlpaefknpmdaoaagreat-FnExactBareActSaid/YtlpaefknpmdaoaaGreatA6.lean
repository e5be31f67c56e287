/- The walks: what each function that the laws reach computes (part 4). -/
import Derived.Test.YtlpaefknpmdaoaaGreatA5
import Derived.Test.YtlpaefknpmdaoaaGreatProg
import Derived.KernelRfl
namespace Go.Proofs.YtlpaefknpmdaoaaGreat
open Go
set_option linter.unusedVariables false
set_option linter.unusedSimpArgs false
set_option maxRecDepth 100000
set_option maxHeartbeats 2000000

theorem c_laws_markIntS (w0 : World) (a : List Int) (pa : LP Int) (F : Bl) (ha : GT.own KK F w0 a pa) (hF : ∀ b, F b → b < w0.heap.size) (k : Int) (pre0 : 0 ≤ k) (pre1 : k + 16 * (SZ.sz a : Int) ≤ 4611686018427387904) : Calls Tryz.prog 41 [slv a.length pa.1, I k].toArray w0 (RetX hdl F w0 pa a k) := by
 refine Calls.run F Tryz.func41 ?_
 intro ac β S
 have oa : Ow w0 F w0 (Lt w0.heap.size) F a pa := ⟨ha, hF, fun b hb => .inr hb⟩
 have hz := szl_Int a
 have hlea : a.length ≤ 4194304 := LOwn.le ha
 refine S.go 12 .nil fun ac w β S => ?_
 refine lp (fun mm ac w => ∃ (i : Nat) (acc : List Int) (j : Int) (q1 : _) (F2 : _) (u : _) (N : _) (β : _), mm = a.length - i ∧ (i ≤ a.length) ∧ (acc = f_marksInt i k ++ a.drop i) ∧ (j = k + 1 * (i : Int)) ∧ St Tryz.prog Tryz.f41.ntmps w0 F u N β ⟨[(0, .v (slv a.length q1.1)), (1, .v (I j)), (5, .v (I (i : Int)))], []⟩ ac w ∧ Ow w0 F u N F2 acc q1 ∧ q1.1 = pa.1 ∧ (∀ b, F2 b → F b)) _ ⟨0, a, k, pa, F, _, _, _, rfl, o0, (by simp [f_marksInt]), (by simp), S.z, oa, rfl, (fun _ h => h)⟩ ?_
 clear S oa
 rintro f4 mm hf5 ac w ⟨i, acc, j, q1, F2, u, N, β, rfl, hi, hacc, hj, S, o3, hq, hs⟩
 refine S.rs fun S => ?_
 have hlacc : acc.length = a.length := by rw [hacc]; simp [f_marksInt]; omega
 refine S.gd 9 .nil (decide ((i : Int) < (a.length : Int))) (fun ac w β h6 g7 S => ?_) (fun ac w β h6 g7 S => ?_)
 ·refine S.go 11 (.cons (Q_idx o3.rn (l := a.length) (k := i) (i := (i : Int)) (by rw [hacc]; simp [f_marksInt]; omega) rfl (by omega) Tryz.underlying41 (by kernel_rfl)) .nil) fun ac w β S => S.SF (α := Int) o3 (t := 3) (k := i) (j := 0) (off := q1.1.off + i * 1) (v := I j) (y := j) (q := ()) (fun _ _ _ => ⟨NoB, ⟨by omega, by omega⟩, fun _ h => False.elim h⟩) fun w N F9 q10 S up o8 d11 s12 n13 => ?_
  have s14 : ∀ b, F9 b → F b := fun b h => (s12 b h).elim (hs b) (fun h => False.elim h)
  clear up d11 o3 n13
  have l15 : (acc.set i j).length = acc.length := List.length_set
  refine S.ge 14 (.cons (qp j 1) (.cons (qp (i : Int) 1) .nil)) f4 fun ac w β S => hf5.of (a.length - (i + 1)) _ _ (by omega) ⟨i + 1, (acc.set i j), (j + 1), (q1.1, q10), F9, _, _, _, rfl, ?_, ?_, ?_, S.z, o8, hq, s14⟩
  ·exact oz
  ·clear S; (have hlt : i < acc.length := (by omega)); rw [hacc, ← marksInt_step (by omega) hj]; (first | rfl | (simp [g_markInt, Int.add_assoc]; done))
  ·clear S; omega
 refine S.gr 13 .nil [I j] fun ac w β S => ?_
 have hyd : hdl acc k = j := by clear S; (have e : i = a.length := (by omega)); subst e; rw [hacc, List.drop_length, List.append_nil, hj]; exact hd_marksInt k (by omega) _ (by omega) id
 have hyb : k ≤ j ∧ j ≤ k + 16 * ((SZ.sz a : Nat) : Int) := by clear S; skip; constructor <;> omega
 exact retX_of S hyd hyb.1 hyb.2 (by show [slv _ _] = [slv _ _]; rw [hlacc, hq]) o3 hs

theorem c_laws_markIntSS (w0 : World) (a : List (List Int)) (pa : LP (List Int)) (F : Bl) (ha : GT.own KK F w0 a pa) (hF : ∀ b, F b → b < w0.heap.size) (k : Int) (pre0 : 0 ≤ k) (pre1 : k + 16 * (SZ.sz a : Int) ≤ 4611686018427387904) : Calls Tryz.prog 39 [slv a.length pa.1, I k].toArray w0 (RetX hdl F w0 pa a k) := by
 refine Calls.run F Tryz.func39 ?_
 intro ac β S
 have oa : Ow w0 F w0 (Lt w0.heap.size) F a pa := ⟨ha, hF, fun b hb => .inr hb⟩
 have hz := sz_list a
 have hlea : a.length ≤ 4194304 := LOwn.le ha
 refine S.go 12 .nil fun ac w β S => ?_
 refine lp (fun mm ac w => ∃ (i : Nat) (acc : List (List Int)) (j : Int) (q1 : _) (F2 : _) (u : _) (N : _) (β : _), mm = a.length - i ∧ (i ≤ a.length) ∧ (acc.length = a.length) ∧ (∀ f, hdlc (acc.take i) k f = f j) ∧ (acc.drop i = a.drop i) ∧ (k ≤ j) ∧ (j ≤ k + 16 * ((i : Int) + (szsum (a.take i) : Nat))) ∧ St Tryz.prog Tryz.f39.ntmps w0 F u N β ⟨[(0, .v (slv a.length q1.1)), (1, .v (I j)), (5, .v (I (i : Int)))], []⟩ ac w ∧ Ow w0 F u N F2 acc q1 ∧ q1.1 = pa.1 ∧ (∀ b, F2 b → F b)) _ ⟨0, a, k, pa, F, _, _, _, rfl, o0, (by rfl), (by intro f; rfl), (by rfl), o0, (by simp [szsum_nil]), S.z, oa, rfl, (fun _ h => h)⟩ ?_
 clear S oa
 rintro f4 mm hf5 ac w ⟨i, acc, j, q1, F2, u, N, β, rfl, hi, hl, hM, hD, hj0, hj1, S, o3, hq, hs⟩
 refine S.rs fun S => ?_
 have hel := el_of_drop hD
 have hsl := szsum_take_le a i
 refine S.gd 9 .nil (decide ((i : Int) < (a.length : Int))) (fun ac w β h6 g7 S => ?_) (fun ac w β h6 g7 S => ?_)
 ·obtain ⟨F8, o9, s10, b11⟩ := foc_id o3 (k := i) (show i < acc.length by omega)
  have z12 := szsum_take (xs := a) (k := i) (by omega)
  have z13 := szsum_take_le a (i + 1)
  have e14 : (el acc i) = el a i := by simp only [hel]
  refine S.go 11 (.cons (Q_idx o3.rn (l := a.length) (k := i) (i := (i : Int)) (by omega) rfl (by omega) Tryz.underlying39 (by kernel_rfl)) (.cons (qx o3.rn 41 i) .nil)) fun ac w β S => S.KX (hd := hdl) (d := 17) o9 (c_laws_markIntS w (el acc i) (q1.2 i) F8 (S.ownw o9) (fun b hb => (S.sep b (o9.sub b hb)).1) j (by omega) (by rw [e14]; omega)) fun ac w N q15 y16 k17 S up o18 c19 x20 b21 b22 => ?_
  rw [e14] at b22
  obtain ⟨p23, o24⟩ := b11 _ _ _ _ up o18 c19
  clear up o3 o9 s10 b11 o18 c19
  obtain ⟨a25, e26⟩ : ∃ z, z = acc.set i y16 := ⟨_, rfl⟩
  rw [← e26] at o24
  have l27 : a25.length = acc.length := by rw [e26]; exact List.length_set
  have e28 : el a25 i = y16 := by rw [e26]; exact el_set_self (show i < acc.length by omega)
  have t29 : a25.take i = acc.take i := by rw [e26]; exact take_set_self
  have d30 : a25.drop (i + 1) = acc.drop (i + 1) := by rw [e26]; exact drop_set_self
  clear e26
  refine S.ge 9 (.cons (qp (i : Int) 1) .nil) f4 fun ac w β S => hf5.of (a.length - (i + 1)) _ _ (by omega) ⟨i + 1, a25, k17, (q1.1, p23), F2, _, _, _, rfl, ?_, ?_, ?_, ?_, ?_, ?_, S.z, o24, hq, hs⟩
  ·exact oz
  ·clear S; omega
  ·clear S; refine mk_step (acc := a25) (by omega) (by intro f; rw [t29]; exact hM f) ?_; intro f; simp (disch := first | omega | rfl) only [he_list, he_list, e28, x20, hdc_pos, hdi_eq, hdb_eq]
  ·clear S; rw [d30]; exact drop_more hD
  ·clear S; omega
  ·clear S; omega
 refine S.gr 13 .nil [I j] fun ac w β S => ?_
 have hyd : hdl acc k = j := by clear S; exact mk_end (by omega) hM
 have hyb : k ≤ j ∧ j ≤ k + 16 * ((SZ.sz a : Nat) : Int) := by clear S; have hs2 := szsum_take_le a i; constructor <;> omega
 exact retX_of S hyd hyb.1 hyb.2 (by show [slv _ _] = [slv _ _]; rw [hl, hq]) o3 hs

theorem c_laws_markInsS (w0 : World) (a : List TIns) (pa : LP TIns) (F : Bl) (ha : GT.own KK F w0 a pa) (hF : ∀ b, F b → b < w0.heap.size) (k : Int) (pre0 : 0 ≤ k) (pre1 : k + 16 * (SZ.sz a : Int) ≤ 4611686018427387904) : Calls Tryz.prog 102 [slv a.length pa.1, I k].toArray w0 (RetX hdl F w0 pa a k) := by
 refine Calls.run F Tryz.func102 ?_
 intro ac β S
 have oa : Ow w0 F w0 (Lt w0.heap.size) F a pa := ⟨ha, hF, fun b hb => .inr hb⟩
 have hz := szl_TIns a
 have hlea : a.length ≤ 4194304 := LOwn.le ha
 refine S.go 12 .nil fun ac w β S => ?_
 refine lp (fun mm ac w => ∃ (i : Nat) (acc : List TIns) (j : Int) (q1 : _) (F2 : _) (u : _) (N : _) (β : _), mm = a.length - i ∧ (i ≤ a.length) ∧ (acc = f_marksIns i k ++ a.drop i) ∧ (j = k + 2 * (i : Int)) ∧ St Tryz.prog Tryz.f102.ntmps w0 F u N β ⟨[(0, .v (slv a.length q1.1)), (1, .v (I j)), (5, .v (I (i : Int)))], []⟩ ac w ∧ Ow w0 F u N F2 acc q1 ∧ q1.1 = pa.1 ∧ (∀ b, F2 b → F b)) _ ⟨0, a, k, pa, F, _, _, _, rfl, o0, (by simp [f_marksIns]), (by simp), S.z, oa, rfl, (fun _ h => h)⟩ ?_
 clear S oa
 rintro f4 mm hf5 ac w ⟨i, acc, j, q1, F2, u, N, β, rfl, hi, hacc, hj, S, o3, hq, hs⟩
 refine S.rs fun S => ?_
 have hlacc : acc.length = a.length := by rw [hacc]; simp [f_marksIns]; omega
 refine S.gd 9 .nil (decide ((i : Int) < (a.length : Int))) (fun ac w β h6 g7 S => ?_) (fun ac w β h6 g7 S => ?_)
 ·have e8 : RIns (el acc i) := (LRd.el o3.rn i (by omega))
  refine S.go 12 (.cons (Q_idx o3.rn (l := a.length) (k := i) (i := (i : Int)) (by rw [hacc]; simp [f_marksIns]; omega) rfl (by omega) Tryz.underlying76 (by kernel_rfl)) .nil) fun ac w β S => S.SF (α := TIns) o3 (t := 3) (k := i) (j := 0) (off := q1.1.off + i * 2) (v := I j) (y := (⟨j, (el acc i).x⟩ : TIns)) (q := ()) (fun _ _ _ => ⟨NoB, (show RIns (⟨j, (el acc i).x⟩ : TIns) from ⟨(show In64 j from ⟨by omega, by omega⟩), (RIns.x (d := (el acc i)) e8)⟩), fun _ h => False.elim h⟩) fun w N F10 q11 S up o9 d12 s13 n14 => ?_
  have s15 : ∀ b, F10 b → F b := fun b h => (s13 b h).elim (hs b) (fun h => False.elim h)
  clear up d12 o3 n14
  have l16 : (acc.set i (⟨j, (el acc i).x⟩ : TIns)).length = acc.length := List.length_set
  refine S.go 16 (.cons (qp j 1) (.cons (Q_idx o9.rn (l := a.length) (k := i) (i := (i : Int)) (by rw [List.length_set]; exact (by rw [hacc]; simp [f_marksIns]; omega)) rfl (by omega) Tryz.underlying76 (by kernel_rfl)) .nil)) fun ac w β S => S.SL o9 (α := TIns) (t := 3) (v := I (j + 1)) (k := i) (j := 1) (off := q1.1.off + i * 2 + 1) (y := (⟨j, (j + 1)⟩ : TIns)) (q := ()) (Fy := NoB) (by omega) (Nat.le_of_ble_eq_true (by kernel_rfl)) (fun _ _ _ => ⟨NoB, (show RIns (⟨j, (j + 1)⟩ : TIns) from ⟨(show In64 j from ⟨by omega, by omega⟩), (show In64 (j + 1) from ⟨by omega, by omega⟩)⟩), fun _ h => False.elim h⟩) (fun b _ h => False.elim h) (fun b h => False.elim h) (fun b h => False.elim h) ?_ (hc := (by rw [el_set_self (show i < acc.length by omega)]; kernel_rfl))
  clear S; intro w N F18 q19 S up o17 d20 s21 n22
  have s23 : ∀ b, F18 b → F b := fun b h => (s21 b h).elim (s15 b) (fun h => False.elim h)
  clear up d20 o9 n22
  rw [List.set_set] at o17
  have l24 : (acc.set i (⟨j, (j + 1)⟩ : TIns)).length = acc.length := List.length_set
  refine S.ge 14 (.cons (qp (j + 1) 1) (.cons (qp (i : Int) 1) .nil)) f4 fun ac w β S => hf5.of (a.length - (i + 1)) _ _ (by omega) ⟨i + 1, (acc.set i (⟨j, (j + 1)⟩ : TIns)), ((j + 1) + 1), (q1.1, q19), F18, _, _, _, rfl, ?_, ?_, ?_, S.z, o17, hq, s23⟩
  ·exact oz
  ·clear S; (have hlt : i < acc.length := (by omega)); rw [hacc, ← marksIns_step (by omega) hj]; (first | rfl | (simp [g_markIns, Int.add_assoc]; done))
  ·clear S; omega
 refine S.gr 13 .nil [I j] fun ac w β S => ?_
 have hyd : hdl acc k = j := by clear S; (have e : i = a.length := (by omega)); subst e; rw [hacc, List.drop_length, List.append_nil, hj]; exact hd_marksIns k (by omega) _ (by omega) id
 have hyb : k ≤ j ∧ j ≤ k + 16 * ((SZ.sz a : Nat) : Int) := by clear S; skip; constructor <;> omega
 exact retX_of S hyd hyb.1 hyb.2 (by show [slv _ _] = [slv _ _]; rw [hlacc, hq]) o3 hs

theorem c_laws_markSlotS (w0 : World) (a : List TSlot) (pa : LP TSlot) (F : Bl) (ha : GT.own KK F w0 a pa) (hF : ∀ b, F b → b < w0.heap.size) (k : Int) (pre0 : 0 ≤ k) (pre1 : k + 16 * (SZ.sz a : Int) ≤ 4611686018427387904) : Calls Tryz.prog 103 [slv a.length pa.1, I k].toArray w0 (RetX hdl F w0 pa a k) := by
 refine Calls.run F Tryz.func103 ?_
 intro ac β S
 have oa : Ow w0 F w0 (Lt w0.heap.size) F a pa := ⟨ha, hF, fun b hb => .inr hb⟩
 have hz := szl_TSlot a
 have hlea : a.length ≤ 4194304 := LOwn.le ha
 refine S.go 12 .nil fun ac w β S => ?_
 refine lp (fun mm ac w => ∃ (i : Nat) (acc : List TSlot) (j : Int) (q1 : _) (F2 : _) (u : _) (N : _) (β : _), mm = a.length - i ∧ (i ≤ a.length) ∧ (acc = f_marksSlot i k ++ a.drop i) ∧ (j = k + 2 * (i : Int)) ∧ St Tryz.prog Tryz.f103.ntmps w0 F u N β ⟨[(0, .v (slv a.length q1.1)), (1, .v (I j)), (5, .v (I (i : Int)))], []⟩ ac w ∧ Ow w0 F u N F2 acc q1 ∧ q1.1 = pa.1 ∧ (∀ b, F2 b → F b)) _ ⟨0, a, k, pa, F, _, _, _, rfl, o0, (by simp [f_marksSlot]), (by simp), S.z, oa, rfl, (fun _ h => h)⟩ ?_
 clear S oa
 rintro f4 mm hf5 ac w ⟨i, acc, j, q1, F2, u, N, β, rfl, hi, hacc, hj, S, o3, hq, hs⟩
 refine S.rs fun S => ?_
 have hlacc : acc.length = a.length := by rw [hacc]; simp [f_marksSlot]; omega
 refine S.gd 9 .nil (decide ((i : Int) < (a.length : Int))) (fun ac w β h6 g7 S => ?_) (fun ac w β h6 g7 S => ?_)
 ·have e8 : RSlot (el acc i) := (LRd.el o3.rn i (by omega))
  refine S.go 12 (.cons (Q_idx o3.rn (l := a.length) (k := i) (i := (i : Int)) (by rw [hacc]; simp [f_marksSlot]; omega) rfl (by omega) Tryz.underlying77 (by kernel_rfl)) .nil) fun ac w β S => S.SF (α := TSlot) o3 (t := 3) (k := i) (j := 0) (off := q1.1.off + i * 2) (v := I j) (y := (⟨j, (el acc i).rights⟩ : TSlot)) (q := ()) (fun _ _ _ => ⟨NoB, (show RSlot (⟨j, (el acc i).rights⟩ : TSlot) from ⟨(show In64 j from ⟨by omega, by omega⟩), (RSlot.rights (d := (el acc i)) e8)⟩), fun _ h => False.elim h⟩) fun w N F10 q11 S up o9 d12 s13 n14 => ?_
  have s15 : ∀ b, F10 b → F b := fun b h => (s13 b h).elim (hs b) (fun h => False.elim h)
  clear up d12 o3 n14
  have l16 : (acc.set i (⟨j, (el acc i).rights⟩ : TSlot)).length = acc.length := List.length_set
  refine S.go 16 (.cons (qp j 1) (.cons (Q_idx o9.rn (l := a.length) (k := i) (i := (i : Int)) (by rw [List.length_set]; exact (by rw [hacc]; simp [f_marksSlot]; omega)) rfl (by omega) Tryz.underlying77 (by kernel_rfl)) .nil)) fun ac w β S => S.SL o9 (α := TSlot) (t := 3) (v := I (j + 1)) (k := i) (j := 1) (off := q1.1.off + i * 2 + 1) (y := (⟨j, (j + 1)⟩ : TSlot)) (q := ()) (Fy := NoB) (by omega) (Nat.le_of_ble_eq_true (by kernel_rfl)) (fun _ _ _ => ⟨NoB, (show RSlot (⟨j, (j + 1)⟩ : TSlot) from ⟨(show In64 j from ⟨by omega, by omega⟩), (show In64 (j + 1) from ⟨by omega, by omega⟩)⟩), fun _ h => False.elim h⟩) (fun b _ h => False.elim h) (fun b h => False.elim h) (fun b h => False.elim h) ?_ (hc := (by rw [el_set_self (show i < acc.length by omega)]; kernel_rfl))
  clear S; intro w N F18 q19 S up o17 d20 s21 n22
  have s23 : ∀ b, F18 b → F b := fun b h => (s21 b h).elim (s15 b) (fun h => False.elim h)
  clear up d20 o9 n22
  rw [List.set_set] at o17
  have l24 : (acc.set i (⟨j, (j + 1)⟩ : TSlot)).length = acc.length := List.length_set
  refine S.ge 14 (.cons (qp (j + 1) 1) (.cons (qp (i : Int) 1) .nil)) f4 fun ac w β S => hf5.of (a.length - (i + 1)) _ _ (by omega) ⟨i + 1, (acc.set i (⟨j, (j + 1)⟩ : TSlot)), ((j + 1) + 1), (q1.1, q19), F18, _, _, _, rfl, ?_, ?_, ?_, S.z, o17, hq, s23⟩
  ·exact oz
  ·clear S; (have hlt : i < acc.length := (by omega)); rw [hacc, ← marksSlot_step (by omega) hj]; (first | rfl | (simp [g_markSlot, Int.add_assoc]; done))
  ·clear S; omega
 refine S.gr 13 .nil [I j] fun ac w β S => ?_
 have hyd : hdl acc k = j := by clear S; (have e : i = a.length := (by omega)); subst e; rw [hacc, List.drop_length, List.append_nil, hj]; exact hd_marksSlot k (by omega) _ (by omega) id
 have hyb : k ≤ j ∧ j ≤ k + 16 * ((SZ.sz a : Nat) : Int) := by clear S; skip; constructor <;> omega
 exact retX_of S hyd hyb.1 hyb.2 (by show [slv _ _] = [slv _ _]; rw [hlacc, hq]) o3 hs

theorem c_laws_markGuestS (w0 : World) (a : List TGuest) (pa : LP TGuest) (F : Bl) (ha : GT.own KK F w0 a pa) (hF : ∀ b, F b → b < w0.heap.size) (k : Int) (pre0 : 0 ≤ k) (pre1 : k + 16 * (SZ.sz a : Int) ≤ 4611686018427387904) : Calls Tryz.prog 40 [slv a.length pa.1, I k].toArray w0 (RetX hdl F w0 pa a k) := by
 refine Calls.run F Tryz.func40 ?_
 intro ac β S
 have oa : Ow w0 F w0 (Lt w0.heap.size) F a pa := ⟨ha, hF, fun b hb => .inr hb⟩
 have hz := sz_list a
 have hlea : a.length ≤ 4194304 := LOwn.le ha
 refine S.go 12 .nil fun ac w β S => ?_
 refine lp (fun mm ac w => ∃ (i : Nat) (acc : List TGuest) (j : Int) (q1 : _) (F2 : _) (u : _) (N : _) (β : _), mm = a.length - i ∧ (i ≤ a.length) ∧ (acc.length = a.length) ∧ (∀ f, hdlc (acc.take i) k f = f j) ∧ (acc.drop i = a.drop i) ∧ (k ≤ j) ∧ (j ≤ k + 16 * ((i : Int) + (szsum (a.take i) : Nat))) ∧ St Tryz.prog Tryz.f40.ntmps w0 F u N β ⟨[(0, .v (slv a.length q1.1)), (1, .v (I j)), (5, .v (I (i : Int)))], []⟩ ac w ∧ Ow w0 F u N F2 acc q1 ∧ q1.1 = pa.1 ∧ (∀ b, F2 b → F b)) _ ⟨0, a, k, pa, F, _, _, _, rfl, o0, (by rfl), (by intro f; rfl), (by rfl), o0, (by simp [szsum_nil]), S.z, oa, rfl, (fun _ h => h)⟩ ?_
 clear S oa
 rintro f4 mm hf5 ac w ⟨i, acc, j, q1, F2, u, N, β, rfl, hi, hl, hM, hD, hj0, hj1, S, o3, hq, hs⟩
 refine S.rs fun S => ?_
 have hel := el_of_drop hD
 have hsl := szsum_take_le a i
 refine S.gd 9 .nil (decide ((i : Int) < (a.length : Int))) (fun ac w β h6 g7 S => ?_) (fun ac w β h6 g7 S => ?_)
 ·obtain ⟨F8, o9, s10, b11⟩ := foc_Guest_prog o3 (k := i) (show i < acc.length by omega)
  have z12 := szsum_take (xs := a) (k := i) (by omega)
  have z13 := szsum_take_le a (i + 1)
  have z14 := sz_Guest (el a i)
  have e15 : (el acc i).prog = (el a i).prog := by simp only [hel]
  refine S.go 13 (.cons (Q_idx o3.rn (l := a.length) (k := i) (i := (i : Int)) (by omega) rfl (by omega) Tryz.underlying48 (by kernel_rfl)) (.cons (qc o3.rn 76 i 0 (slv (el acc i).prog.length (q1.2 i).prog.1)) .nil)) fun ac w β S => S.KX (hd := hdl) (d := 18) o9 (c_laws_markInsS w (el acc i).prog (q1.2 i).prog F8 (S.ownw o9) (fun b hb => (S.sep b (o9.sub b hb)).1) j (by omega) (by rw [e15]; omega)) fun ac w N q16 y17 k18 S up o19 c20 x21 b22 b23 => ?_
  rw [e15] at b23
  obtain ⟨p24, o25⟩ := b11 _ _ _ _ up o19 c20
  clear up o3 o9 s10 b11 o19 c20
  obtain ⟨a26, e27⟩ : ∃ z, z = acc.set i ({ el acc i with prog := y17 }) := ⟨_, rfl⟩
  rw [← e27] at o25
  have l28 : a26.length = acc.length := by rw [e27]; exact List.length_set
  have e29 : el a26 i = { el acc i with prog := y17 } := by rw [e27]; exact el_set_self (show i < acc.length by omega)
  have t30 : a26.take i = acc.take i := by rw [e27]; exact take_set_self
  have d31 : a26.drop (i + 1) = acc.drop (i + 1) := by rw [e27]; exact drop_set_self
  clear e27
  refine S.go 10 (.cons (Q_idx o25.rn (l := a.length) (k := i) (i := (i : Int)) (by omega) rfl (by omega) Tryz.underlying48 (by kernel_rfl)) .nil) fun ac w β S => S.SF (α := TGuest) o25 (t := 3) (k := i) (j := 1) (off := q1.1.off + i * 15 + 1) (v := I k18) (y := ({ el a26 i with acc := k18 } : TGuest)) (q := ((q1.1, p24).2 i)) (fun G g_ _ => ⟨G, ows_Guest_acc g_ (⟨by omega, by omega⟩), fun _ h => .inl h⟩) fun w N F33 q34 S up o32 d35 s36 n37 => ?_
  have s38 : ∀ b, F33 b → F b := fun b h => (s36 b h).elim (hs b) (fun h => False.elim h)
  clear up d35 o25 n37
  obtain ⟨a39, e40⟩ : ∃ z, z = a26.set i ({ el a26 i with acc := k18 }) := ⟨_, rfl⟩
  rw [← e40] at o32
  have l41 : a39.length = a26.length := by rw [e40]; exact List.length_set
  have e42 : el a39 i = { el a26 i with acc := k18 } := by rw [e40]; exact el_set_self (show i < a26.length by omega)
  have t43 : a39.take i = a26.take i := by rw [e40]; exact take_set_self
  have d44 : a39.drop (i + 1) = a26.drop (i + 1) := by rw [e40]; exact drop_set_self
  clear e40
  refine S.go 16 (.cons (qp k18 1) (.cons (Q_idx o32.rn (l := a.length) (k := i) (i := (i : Int)) (by omega) rfl (by omega) Tryz.underlying48 (by kernel_rfl)) .nil)) fun ac w β S => S.SF (α := TGuest) o32 (t := 3) (k := i) (j := 2) (off := q1.1.off + i * 15 + 2) (v := I (k18 + 1)) (y := ({ el a39 i with pc := (k18 + 1) } : TGuest)) (q := ((q1.1, q34).2 i)) (fun G g_ _ => ⟨G, ows_Guest_pc g_ (⟨by omega, by omega⟩), fun _ h => .inl h⟩) fun w N F46 q47 S up o45 d48 s49 n50 => ?_
  have s51 : ∀ b, F46 b → F b := fun b h => (s49 b h).elim (s38 b) (fun h => False.elim h)
  clear up d48 o32 n50
  obtain ⟨a52, e53⟩ : ∃ z, z = a39.set i ({ el a39 i with pc := (k18 + 1) }) := ⟨_, rfl⟩
  rw [← e53] at o45
  have l54 : a52.length = a39.length := by rw [e53]; exact List.length_set
  have e55 : el a52 i = { el a39 i with pc := (k18 + 1) } := by rw [e53]; exact el_set_self (show i < a39.length by omega)
  have t56 : a52.take i = a39.take i := by rw [e53]; exact take_set_self
  have d57 : a52.drop (i + 1) = a39.drop (i + 1) := by rw [e53]; exact drop_set_self
  clear e53
  obtain ⟨F58, o59, s60, b61⟩ := foc_Guest_written o45 (k := i) (show i < a52.length by omega)
  have z62 := szsum_take (xs := a) (k := i) (by omega)
  have z63 := szsum_take_le a (i + 1)
  have z64 := sz_Guest (el a i)
  have e65 : (el a52 i).written = (el a i).written := by simp only [e55, e42, e29, hel]
  refine S.go 17 (.cons (qp (k18 + 1) 1) (.cons (Q_idx o45.rn (l := a.length) (k := i) (i := (i : Int)) (by omega) rfl (by omega) Tryz.underlying48 (by kernel_rfl)) (.cons (qc o45.rn 77 i 3 (slv (el a52 i).written.length ((q1.1, q47).2 i).written.1)) .nil))) fun ac w β S => S.KX (hd := hdl) (d := 39) o59 (c_laws_markSlotS w (el a52 i).written ((q1.1, q47).2 i).written F58 (S.ownw o59) (fun b hb => (S.sep b (o59.sub b hb)).1) ((k18 + 1) + 1) (by omega) (by rw [e65]; omega)) fun ac w N q66 y67 k68 S up o69 c70 x71 b72 b73 => ?_
  rw [e65] at b73
  obtain ⟨p74, o75⟩ := b61 _ _ _ _ up o69 c70
  clear up o45 o59 s60 b61 o69 c70
  obtain ⟨a76, e77⟩ : ∃ z, z = a52.set i ({ el a52 i with written := y67 }) := ⟨_, rfl⟩
  rw [← e77] at o75
  have l78 : a76.length = a52.length := by rw [e77]; exact List.length_set
  have e79 : el a76 i = { el a52 i with written := y67 } := by rw [e77]; exact el_set_self (show i < a52.length by omega)
  have t80 : a76.take i = a52.take i := by rw [e77]; exact take_set_self
  have d81 : a76.drop (i + 1) = a52.drop (i + 1) := by rw [e77]; exact drop_set_self
  clear e77
  obtain ⟨F82, o83, s84, b85⟩ := foc_Guest_live o75 (k := i) (show i < a76.length by omega)
  have z86 := szsum_take (xs := a) (k := i) (by omega)
  have z87 := szsum_take_le a (i + 1)
  have z88 := sz_Guest (el a i)
  have e89 : (el a76 i).live = (el a i).live := by simp only [e79, e55, e42, e29, hel]
  refine S.go 11 (.cons (Q_idx o75.rn (l := a.length) (k := i) (i := (i : Int)) (by omega) rfl (by omega) Tryz.underlying48 (by kernel_rfl)) (.cons (qc o75.rn 77 i 4 (slv (el a76 i).live.length ((q1.1, p74).2 i).live.1)) .nil)) fun ac w β S => S.KX (hd := hdl) (d := 46) o83 (c_laws_markSlotS w (el a76 i).live ((q1.1, p74).2 i).live F82 (S.ownw o83) (fun b hb => (S.sep b (o83.sub b hb)).1) k68 (by omega) (by rw [e89]; omega)) fun ac w N q90 y91 k92 S up o93 c94 x95 b96 b97 => ?_
  rw [e89] at b97
  obtain ⟨p98, o99⟩ := b85 _ _ _ _ up o93 c94
  clear up o75 o83 s84 b85 o93 c94
  obtain ⟨a100, e101⟩ : ∃ z, z = a76.set i ({ el a76 i with live := y91 }) := ⟨_, rfl⟩
  rw [← e101] at o99
  have l102 : a100.length = a76.length := by rw [e101]; exact List.length_set
  have e103 : el a100 i = { el a76 i with live := y91 } := by rw [e101]; exact el_set_self (show i < a76.length by omega)
  have t104 : a100.take i = a76.take i := by rw [e101]; exact take_set_self
  have d105 : a100.drop (i + 1) = a76.drop (i + 1) := by rw [e101]; exact drop_set_self
  clear e101
  refine S.go 11 (.cons (Q_idx o99.rn (l := a.length) (k := i) (i := (i : Int)) (by omega) rfl (by omega) Tryz.underlying48 (by kernel_rfl)) .nil) fun ac w β S => S.SF (α := TGuest) o99 (t := 3) (k := i) (j := 5) (off := q1.1.off + i * 15 + 5) (v := I k92) (y := ({ el a100 i with ctl := (⟨k92, (el a100 i).ctl.post, (el a100 i).ctl.opn⟩ : TCtl) } : TGuest)) (q := ((q1.1, p98).2 i)) (fun G g_ _ => ⟨G, ows_Guest_ctl g_ (show RCtl (⟨k92, (el a100 i).ctl.post, (el a100 i).ctl.opn⟩ : TCtl) from ⟨(show In64 k92 from ⟨by omega, by omega⟩), (RCtl.post (d := (el a100 i).ctl) (RGuest.ctl (d := (el a100 i)) (LRd.el o99.rn i (by omega))))⟩), fun _ h => .inl h⟩) fun w N F107 q108 S up o106 d109 s110 n111 => ?_
  have s112 : ∀ b, F107 b → F b := fun b h => (s110 b h).elim (s51 b) (fun h => False.elim h)
  clear up d109 o99 n111
  obtain ⟨a113, e114⟩ : ∃ z, z = a100.set i ({ el a100 i with ctl := (⟨k92, (el a100 i).ctl.post, (el a100 i).ctl.opn⟩ : TCtl) }) := ⟨_, rfl⟩
  rw [← e114] at o106
  have l115 : a113.length = a100.length := by rw [e114]; exact List.length_set
  have e116 : el a113 i = { el a100 i with ctl := (⟨k92, (el a100 i).ctl.post, (el a100 i).ctl.opn⟩ : TCtl) } := by rw [e114]; exact el_set_self (show i < a100.length by omega)
  have t117 : a113.take i = a100.take i := by rw [e114]; exact take_set_self
  have d118 : a113.drop (i + 1) = a100.drop (i + 1) := by rw [e114]; exact drop_set_self
  clear e114
  refine S.go 17 (.cons (qp k92 1) (.cons (Q_idx o106.rn (l := a.length) (k := i) (i := (i : Int)) (by omega) rfl (by omega) Tryz.underlying48 (by kernel_rfl)) .nil)) fun ac w β S => S.SF (α := TGuest) o106 (t := 3) (k := i) (j := 6) (off := q1.1.off + i * 15 + 6) (v := I (k92 + 1)) (y := ({ el a113 i with ctl := (⟨(el a113 i).ctl.traps, (k92 + 1), (el a113 i).ctl.opn⟩ : TCtl) } : TGuest)) (q := ((q1.1, q108).2 i)) (fun G g_ _ => ⟨G, ows_Guest_ctl g_ (show RCtl (⟨(el a113 i).ctl.traps, (k92 + 1), (el a113 i).ctl.opn⟩ : TCtl) from ⟨(RCtl.traps (d := (el a113 i).ctl) (RGuest.ctl (d := (el a113 i)) (LRd.el o106.rn i (by omega)))), (show In64 (k92 + 1) from ⟨by omega, by omega⟩)⟩), fun _ h => .inl h⟩) fun w N F120 q121 S up o119 d122 s123 n124 => ?_
  have s125 : ∀ b, F120 b → F b := fun b h => (s123 b h).elim (s112 b) (fun h => False.elim h)
  clear up d122 o106 n124
  obtain ⟨a126, e127⟩ : ∃ z, z = a113.set i ({ el a113 i with ctl := (⟨(el a113 i).ctl.traps, (k92 + 1), (el a113 i).ctl.opn⟩ : TCtl) }) := ⟨_, rfl⟩
  rw [← e127] at o119
  have l128 : a126.length = a113.length := by rw [e127]; exact List.length_set
  have e129 : el a126 i = { el a113 i with ctl := (⟨(el a113 i).ctl.traps, (k92 + 1), (el a113 i).ctl.opn⟩ : TCtl) } := by rw [e127]; exact el_set_self (show i < a113.length by omega)
  have t130 : a126.take i = a113.take i := by rw [e127]; exact take_set_self
  have d131 : a126.drop (i + 1) = a113.drop (i + 1) := by rw [e127]; exact drop_set_self
  clear e127
  refine S.go 19 (.cons (qp (k92 + 1) 1) (.cons (Q_rem (x := ((k92 + 1) + 1)) (y := 3) (by decide)) (.cons (Q_idx o119.rn (l := a.length) (k := i) (i := (i : Int)) (by omega) rfl (by omega) Tryz.underlying48 (by kernel_rfl)) .nil))) fun ac w β S => S.SF (α := TGuest) o119 (t := 4) (k := i) (j := 7) (off := q1.1.off + i * 15 + 7) (v := B ((Int.tmod ((k92 + 1) + 1) 3) == 0)) (y := ({ el a126 i with ctl := (⟨(el a126 i).ctl.traps, (el a126 i).ctl.post, ((Int.tmod ((k92 + 1) + 1) 3) == 0)⟩ : TCtl) } : TGuest)) (q := ((q1.1, q121).2 i)) (fun G g_ _ => ⟨G, ows_Guest_ctl g_ (show RCtl (⟨(el a126 i).ctl.traps, (el a126 i).ctl.post, ((Int.tmod ((k92 + 1) + 1) 3) == 0)⟩ : TCtl) from ⟨(RCtl.traps (d := (el a126 i).ctl) (RGuest.ctl (d := (el a126 i)) (LRd.el o119.rn i (by omega)))), (RCtl.post (d := (el a126 i).ctl) (RGuest.ctl (d := (el a126 i)) (LRd.el o119.rn i (by omega))))⟩), fun _ h => .inl h⟩) fun w N F133 q134 S up o132 d135 s136 n137 => ?_
  have s138 : ∀ b, F133 b → F b := fun b h => (s136 b h).elim (s125 b) (fun h => False.elim h)
  clear up d135 o119 n137
  obtain ⟨a139, e140⟩ : ∃ z, z = a126.set i ({ el a126 i with ctl := (⟨(el a126 i).ctl.traps, (el a126 i).ctl.post, ((Int.tmod ((k92 + 1) + 1) 3) == 0)⟩ : TCtl) }) := ⟨_, rfl⟩
  rw [← e140] at o132
  have l141 : a139.length = a126.length := by rw [e140]; exact List.length_set
  have e142 : el a139 i = { el a126 i with ctl := (⟨(el a126 i).ctl.traps, (el a126 i).ctl.post, ((Int.tmod ((k92 + 1) + 1) 3) == 0)⟩ : TCtl) } := by rw [e140]; exact el_set_self (show i < a126.length by omega)
  have t143 : a139.take i = a126.take i := by rw [e140]; exact take_set_self
  have d144 : a139.drop (i + 1) = a126.drop (i + 1) := by rw [e140]; exact drop_set_self
  clear e140
  refine S.go 16 (.cons (qp ((k92 + 1) + 1) 1) (.cons (Q_idx o132.rn (l := a.length) (k := i) (i := (i : Int)) (by omega) rfl (by omega) Tryz.underlying48 (by kernel_rfl)) .nil)) fun ac w β S => S.SF (α := TGuest) o132 (t := 3) (k := i) (j := 8) (off := q1.1.off + i * 15 + 8) (v := I (((k92 + 1) + 1) + 1)) (y := ({ el a139 i with pend := (((k92 + 1) + 1) + 1) } : TGuest)) (q := ((q1.1, q134).2 i)) (fun G g_ _ => ⟨G, ows_Guest_pend g_ (⟨by omega, by omega⟩), fun _ h => .inl h⟩) fun w N F146 q147 S up o145 d148 s149 n150 => ?_
  have s151 : ∀ b, F146 b → F b := fun b h => (s149 b h).elim (s138 b) (fun h => False.elim h)
  clear up d148 o132 n150
  obtain ⟨a152, e153⟩ : ∃ z, z = a139.set i ({ el a139 i with pend := (((k92 + 1) + 1) + 1) }) := ⟨_, rfl⟩
  rw [← e153] at o145
  have l154 : a152.length = a139.length := by rw [e153]; exact List.length_set
  have e155 : el a152 i = { el a139 i with pend := (((k92 + 1) + 1) + 1) } := by rw [e153]; exact el_set_self (show i < a139.length by omega)
  have t156 : a152.take i = a139.take i := by rw [e153]; exact take_set_self
  have d157 : a152.drop (i + 1) = a139.drop (i + 1) := by rw [e153]; exact drop_set_self
  clear e153
  refine S.go 17 (.cons (qp (((k92 + 1) + 1) + 1) 1) (.cons (Q_idx o145.rn (l := a.length) (k := i) (i := (i : Int)) (by omega) rfl (by omega) Tryz.underlying48 (by kernel_rfl)) .nil)) fun ac w β S => S.SF (α := TGuest) o145 (t := 3) (k := i) (j := 9) (off := q1.1.off + i * 15 + 9) (v := I ((((k92 + 1) + 1) + 1) + 1)) (y := ({ el a152 i with exit := (⟨((((k92 + 1) + 1) + 1) + 1), (el a152 i).exit.page, (el a152 i).exit.wr, (el a152 i).exit.n⟩ : TExit) } : TGuest)) (q := ((q1.1, q147).2 i)) (fun G g_ _ => ⟨G, ows_Guest_exit g_ (show RExit (⟨((((k92 + 1) + 1) + 1) + 1), (el a152 i).exit.page, (el a152 i).exit.wr, (el a152 i).exit.n⟩ : TExit) from ⟨(show In64 ((((k92 + 1) + 1) + 1) + 1) from ⟨by omega, by omega⟩), (RExit.page (d := (el a152 i).exit) (RGuest.exit (d := (el a152 i)) (LRd.el o145.rn i (by omega)))), (RExit.n (d := (el a152 i).exit) (RGuest.exit (d := (el a152 i)) (LRd.el o145.rn i (by omega))))⟩), fun _ h => .inl h⟩) fun w N F159 q160 S up o158 d161 s162 n163 => ?_
  have s164 : ∀ b, F159 b → F b := fun b h => (s162 b h).elim (s151 b) (fun h => False.elim h)
  clear up d161 o145 n163
  obtain ⟨a165, e166⟩ : ∃ z, z = a152.set i ({ el a152 i with exit := (⟨((((k92 + 1) + 1) + 1) + 1), (el a152 i).exit.page, (el a152 i).exit.wr, (el a152 i).exit.n⟩ : TExit) }) := ⟨_, rfl⟩
  rw [← e166] at o158
  have l167 : a165.length = a152.length := by rw [e166]; exact List.length_set
  have e168 : el a165 i = { el a152 i with exit := (⟨((((k92 + 1) + 1) + 1) + 1), (el a152 i).exit.page, (el a152 i).exit.wr, (el a152 i).exit.n⟩ : TExit) } := by rw [e166]; exact el_set_self (show i < a152.length by omega)
  have t169 : a165.take i = a152.take i := by rw [e166]; exact take_set_self
  have d170 : a165.drop (i + 1) = a152.drop (i + 1) := by rw [e166]; exact drop_set_self
  clear e166
  refine S.go 17 (.cons (qp ((((k92 + 1) + 1) + 1) + 1) 1) (.cons (Q_idx o158.rn (l := a.length) (k := i) (i := (i : Int)) (by omega) rfl (by omega) Tryz.underlying48 (by kernel_rfl)) .nil)) fun ac w β S => S.SF (α := TGuest) o158 (t := 3) (k := i) (j := 10) (off := q1.1.off + i * 15 + 10) (v := I (((((k92 + 1) + 1) + 1) + 1) + 1)) (y := ({ el a165 i with exit := (⟨(el a165 i).exit.kind, (((((k92 + 1) + 1) + 1) + 1) + 1), (el a165 i).exit.wr, (el a165 i).exit.n⟩ : TExit) } : TGuest)) (q := ((q1.1, q160).2 i)) (fun G g_ _ => ⟨G, ows_Guest_exit g_ (show RExit (⟨(el a165 i).exit.kind, (((((k92 + 1) + 1) + 1) + 1) + 1), (el a165 i).exit.wr, (el a165 i).exit.n⟩ : TExit) from ⟨(RExit.kind (d := (el a165 i).exit) (RGuest.exit (d := (el a165 i)) (LRd.el o158.rn i (by omega)))), (show In64 (((((k92 + 1) + 1) + 1) + 1) + 1) from ⟨by omega, by omega⟩), (RExit.n (d := (el a165 i).exit) (RGuest.exit (d := (el a165 i)) (LRd.el o158.rn i (by omega))))⟩), fun _ h => .inl h⟩) fun w N F172 q173 S up o171 d174 s175 n176 => ?_
  have s177 : ∀ b, F172 b → F b := fun b h => (s175 b h).elim (s164 b) (fun h => False.elim h)
  clear up d174 o158 n176
  obtain ⟨a178, e179⟩ : ∃ z, z = a165.set i ({ el a165 i with exit := (⟨(el a165 i).exit.kind, (((((k92 + 1) + 1) + 1) + 1) + 1), (el a165 i).exit.wr, (el a165 i).exit.n⟩ : TExit) }) := ⟨_, rfl⟩
  rw [← e179] at o171
  have l180 : a178.length = a165.length := by rw [e179]; exact List.length_set
  have e181 : el a178 i = { el a165 i with exit := (⟨(el a165 i).exit.kind, (((((k92 + 1) + 1) + 1) + 1) + 1), (el a165 i).exit.wr, (el a165 i).exit.n⟩ : TExit) } := by rw [e179]; exact el_set_self (show i < a165.length by omega)
  have t182 : a178.take i = a165.take i := by rw [e179]; exact take_set_self
  have d183 : a178.drop (i + 1) = a165.drop (i + 1) := by rw [e179]; exact drop_set_self
  clear e179
  refine S.go 19 (.cons (qp (((((k92 + 1) + 1) + 1) + 1) + 1) 1) (.cons (Q_rem (x := ((((((k92 + 1) + 1) + 1) + 1) + 1) + 1)) (y := 3) (by decide)) (.cons (Q_idx o171.rn (l := a.length) (k := i) (i := (i : Int)) (by omega) rfl (by omega) Tryz.underlying48 (by kernel_rfl)) .nil))) fun ac w β S => S.SF (α := TGuest) o171 (t := 4) (k := i) (j := 11) (off := q1.1.off + i * 15 + 11) (v := B ((Int.tmod ((((((k92 + 1) + 1) + 1) + 1) + 1) + 1) 3) == 0)) (y := ({ el a178 i with exit := (⟨(el a178 i).exit.kind, (el a178 i).exit.page, ((Int.tmod ((((((k92 + 1) + 1) + 1) + 1) + 1) + 1) 3) == 0), (el a178 i).exit.n⟩ : TExit) } : TGuest)) (q := ((q1.1, q173).2 i)) (fun G g_ _ => ⟨G, ows_Guest_exit g_ (show RExit (⟨(el a178 i).exit.kind, (el a178 i).exit.page, ((Int.tmod ((((((k92 + 1) + 1) + 1) + 1) + 1) + 1) 3) == 0), (el a178 i).exit.n⟩ : TExit) from ⟨(RExit.kind (d := (el a178 i).exit) (RGuest.exit (d := (el a178 i)) (LRd.el o171.rn i (by omega)))), (RExit.page (d := (el a178 i).exit) (RGuest.exit (d := (el a178 i)) (LRd.el o171.rn i (by omega)))), (RExit.n (d := (el a178 i).exit) (RGuest.exit (d := (el a178 i)) (LRd.el o171.rn i (by omega))))⟩), fun _ h => .inl h⟩) fun w N F185 q186 S up o184 d187 s188 n189 => ?_
  have s190 : ∀ b, F185 b → F b := fun b h => (s188 b h).elim (s177 b) (fun h => False.elim h)
  clear up d187 o171 n189
  obtain ⟨a191, e192⟩ : ∃ z, z = a178.set i ({ el a178 i with exit := (⟨(el a178 i).exit.kind, (el a178 i).exit.page, ((Int.tmod ((((((k92 + 1) + 1) + 1) + 1) + 1) + 1) 3) == 0), (el a178 i).exit.n⟩ : TExit) }) := ⟨_, rfl⟩
  rw [← e192] at o184
  have l193 : a191.length = a178.length := by rw [e192]; exact List.length_set
  have e194 : el a191 i = { el a178 i with exit := (⟨(el a178 i).exit.kind, (el a178 i).exit.page, ((Int.tmod ((((((k92 + 1) + 1) + 1) + 1) + 1) + 1) 3) == 0), (el a178 i).exit.n⟩ : TExit) } := by rw [e192]; exact el_set_self (show i < a178.length by omega)
  have t195 : a191.take i = a178.take i := by rw [e192]; exact take_set_self
  have d196 : a191.drop (i + 1) = a178.drop (i + 1) := by rw [e192]; exact drop_set_self
  clear e192
  refine S.go 17 (.cons (qp ((((((k92 + 1) + 1) + 1) + 1) + 1) + 1) 1) (.cons (Q_idx o184.rn (l := a.length) (k := i) (i := (i : Int)) (by omega) rfl (by omega) Tryz.underlying48 (by kernel_rfl)) .nil)) fun ac w β S => S.SF (α := TGuest) o184 (t := 3) (k := i) (j := 12) (off := q1.1.off + i * 15 + 12) (v := I (((((((k92 + 1) + 1) + 1) + 1) + 1) + 1) + 1)) (y := ({ el a191 i with exit := (⟨(el a191 i).exit.kind, (el a191 i).exit.page, (el a191 i).exit.wr, (((((((k92 + 1) + 1) + 1) + 1) + 1) + 1) + 1)⟩ : TExit) } : TGuest)) (q := ((q1.1, q186).2 i)) (fun G g_ _ => ⟨G, ows_Guest_exit g_ (show RExit (⟨(el a191 i).exit.kind, (el a191 i).exit.page, (el a191 i).exit.wr, (((((((k92 + 1) + 1) + 1) + 1) + 1) + 1) + 1)⟩ : TExit) from ⟨(RExit.kind (d := (el a191 i).exit) (RGuest.exit (d := (el a191 i)) (LRd.el o184.rn i (by omega)))), (RExit.page (d := (el a191 i).exit) (RGuest.exit (d := (el a191 i)) (LRd.el o184.rn i (by omega)))), (show In64 (((((((k92 + 1) + 1) + 1) + 1) + 1) + 1) + 1) from ⟨by omega, by omega⟩)⟩), fun _ h => .inl h⟩) fun w N F198 q199 S up o197 d200 s201 n202 => ?_
  have s203 : ∀ b, F198 b → F b := fun b h => (s201 b h).elim (s190 b) (fun h => False.elim h)
  clear up d200 o184 n202
  obtain ⟨a204, e205⟩ : ∃ z, z = a191.set i ({ el a191 i with exit := (⟨(el a191 i).exit.kind, (el a191 i).exit.page, (el a191 i).exit.wr, (((((((k92 + 1) + 1) + 1) + 1) + 1) + 1) + 1)⟩ : TExit) }) := ⟨_, rfl⟩
  rw [← e205] at o197
  have l206 : a204.length = a191.length := by rw [e205]; exact List.length_set
  have e207 : el a204 i = { el a191 i with exit := (⟨(el a191 i).exit.kind, (el a191 i).exit.page, (el a191 i).exit.wr, (((((((k92 + 1) + 1) + 1) + 1) + 1) + 1) + 1)⟩ : TExit) } := by rw [e205]; exact el_set_self (show i < a191.length by omega)
  have t208 : a204.take i = a191.take i := by rw [e205]; exact take_set_self
  have d209 : a204.drop (i + 1) = a191.drop (i + 1) := by rw [e205]; exact drop_set_self
  clear e205
  refine S.go 18 (.cons (qp (((((((k92 + 1) + 1) + 1) + 1) + 1) + 1) + 1) 1) (.cons (Q_rem (x := ((((((((k92 + 1) + 1) + 1) + 1) + 1) + 1) + 1) + 1)) (y := 3) (by decide)) (.cons (Q_idx o197.rn (l := a.length) (k := i) (i := (i : Int)) (by omega) rfl (by omega) Tryz.underlying48 (by kernel_rfl)) .nil))) fun ac w β S => S.SF (α := TGuest) o197 (t := 4) (k := i) (j := 13) (off := q1.1.off + i * 15 + 13) (v := B ((Int.tmod ((((((((k92 + 1) + 1) + 1) + 1) + 1) + 1) + 1) + 1) 3) == 0)) (y := ({ el a204 i with halted := ((Int.tmod ((((((((k92 + 1) + 1) + 1) + 1) + 1) + 1) + 1) + 1) 3) == 0) } : TGuest)) (q := ((q1.1, q199).2 i)) (fun G g_ _ => ⟨G, ows_Guest_halted g_, fun _ h => .inl h⟩) fun w N F211 q212 S up o210 d213 s214 n215 => ?_
  have s216 : ∀ b, F211 b → F b := fun b h => (s214 b h).elim (s203 b) (fun h => False.elim h)
  clear up d213 o197 n215
  obtain ⟨a217, e218⟩ : ∃ z, z = a204.set i ({ el a204 i with halted := ((Int.tmod ((((((((k92 + 1) + 1) + 1) + 1) + 1) + 1) + 1) + 1) 3) == 0) }) := ⟨_, rfl⟩
  rw [← e218] at o210
  have l219 : a217.length = a204.length := by rw [e218]; exact List.length_set
  have e220 : el a217 i = { el a204 i with halted := ((Int.tmod ((((((((k92 + 1) + 1) + 1) + 1) + 1) + 1) + 1) + 1) 3) == 0) } := by rw [e218]; exact el_set_self (show i < a204.length by omega)
  have t221 : a217.take i = a204.take i := by rw [e218]; exact take_set_self
  have d222 : a217.drop (i + 1) = a204.drop (i + 1) := by rw [e218]; exact drop_set_self
  clear e218
  obtain ⟨F223, o224, s225, b226⟩ := foc_Guest_seen o210 (k := i) (show i < a217.length by omega)
  have z227 := szsum_take (xs := a) (k := i) (by omega)
  have z228 := szsum_take_le a (i + 1)
  have z229 := sz_Guest (el a i)
  have e230 : (el a217 i).seen = (el a i).seen := by simp only [e220, e207, e194, e181, e168, e155, e142, e129, e116, e103, e79, e55, e42, e29, hel]
  refine S.go 16 (.cons (qp ((((((((k92 + 1) + 1) + 1) + 1) + 1) + 1) + 1) + 1) 1) (.cons (Q_idx o210.rn (l := a.length) (k := i) (i := (i : Int)) (by omega) rfl (by omega) Tryz.underlying48 (by kernel_rfl)) (.cons (qc o210.rn 41 i 14 (slv (el a217 i).seen.length ((q1.1, q212).2 i).seen.1)) .nil))) fun ac w β S => S.KX (hd := hdl) (d := 129) o224 (c_laws_markIntS w (el a217 i).seen ((q1.1, q212).2 i).seen F223 (S.ownw o224) (fun b hb => (S.sep b (o224.sub b hb)).1) (((((((((k92 + 1) + 1) + 1) + 1) + 1) + 1) + 1) + 1) + 1) (by omega) (by rw [e230]; omega)) fun ac w N q231 y232 k233 S up o234 c235 x236 b237 b238 => ?_
  rw [e230] at b238
  obtain ⟨p239, o240⟩ := b226 _ _ _ _ up o234 c235
  clear up o210 o224 s225 b226 o234 c235
  obtain ⟨a241, e242⟩ : ∃ z, z = a217.set i ({ el a217 i with seen := y232 }) := ⟨_, rfl⟩
  rw [← e242] at o240
  have l243 : a241.length = a217.length := by rw [e242]; exact List.length_set
  have e244 : el a241 i = { el a217 i with seen := y232 } := by rw [e242]; exact el_set_self (show i < a217.length by omega)
  have t245 : a241.take i = a217.take i := by rw [e242]; exact take_set_self
  have d246 : a241.drop (i + 1) = a217.drop (i + 1) := by rw [e242]; exact drop_set_self
  clear e242
  refine S.ge 9 (.cons (qp (i : Int) 1) .nil) f4 fun ac w β S => hf5.of (a.length - (i + 1)) _ _ (by omega) ⟨i + 1, a241, k233, (q1.1, p239), F211, _, _, _, rfl, ?_, ?_, ?_, ?_, ?_, ?_, S.z, o240, hq, s216⟩
  ·exact oz
  ·clear S; omega
  ·clear S; refine mk_step (acc := a241) (by omega) (by intro f; rw [t245, t221, t208, t195, t182, t169, t156, t143, t130, t117, t104, t80, t56, t43, t30]; exact hM f) ?_; intro f; simp (disch := first | omega | rfl) only [he_list, he_Guest, e244, e220, e207, e194, e181, e168, e155, e142, e129, e116, e103, e79, e55, e42, e29, x21, x71, x95, x236, hdc_pos, hdi_eq, hdb_eq]
  ·clear S; rw [d246, d222, d209, d196, d183, d170, d157, d144, d131, d118, d105, d81, d57, d44, d31]; exact drop_more hD
  ·clear S; omega
  ·clear S; omega
 refine S.gr 13 .nil [I j] fun ac w β S => ?_
 have hyd : hdl acc k = j := by clear S; exact mk_end (by omega) hM
 have hyb : k ≤ j ∧ j ≤ k + 16 * ((SZ.sz a : Nat) : Int) := by clear S; have hs2 := szsum_take_le a i; constructor <;> omega
 exact retX_of S hyd hyb.1 hyb.2 (by show [slv _ _] = [slv _ _]; rw [hl, hq]) o3 hs

theorem c_laws_markBareS (w0 : World) (a : List TBare) (pa : LP TBare) (F : Bl) (ha : GT.own KK F w0 a pa) (hF : ∀ b, F b → b < w0.heap.size) (k : Int) (pre0 : 0 ≤ k) (pre1 : k + 16 * (SZ.sz a : Int) ≤ 4611686018427387904) : Calls Tryz.prog 11 [slv a.length pa.1, I k].toArray w0 (RetX hdl F w0 pa a k) := by
 refine Calls.run F Tryz.func11 ?_
 intro ac β S
 have oa : Ow w0 F w0 (Lt w0.heap.size) F a pa := ⟨ha, hF, fun b hb => .inr hb⟩
 have hz := sz_list a
 have hlea : a.length ≤ 4194304 := LOwn.le ha
 refine S.go 12 .nil fun ac w β S => ?_
 refine lp (fun mm ac w => ∃ (i : Nat) (acc : List TBare) (j : Int) (q1 : _) (F2 : _) (u : _) (N : _) (β : _), mm = a.length - i ∧ (i ≤ a.length) ∧ (acc.length = a.length) ∧ (∀ f, hdlc (acc.take i) k f = f j) ∧ (acc.drop i = a.drop i) ∧ (k ≤ j) ∧ (j ≤ k + 16 * ((i : Int) + (szsum (a.take i) : Nat))) ∧ St Tryz.prog Tryz.f11.ntmps w0 F u N β ⟨[(0, .v (slv a.length q1.1)), (1, .v (I j)), (5, .v (I (i : Int)))], []⟩ ac w ∧ Ow w0 F u N F2 acc q1 ∧ q1.1 = pa.1 ∧ (∀ b, F2 b → F b)) _ ⟨0, a, k, pa, F, _, _, _, rfl, o0, (by rfl), (by intro f; rfl), (by rfl), o0, (by simp [szsum_nil]), S.z, oa, rfl, (fun _ h => h)⟩ ?_
 clear S oa
 rintro f4 mm hf5 ac w ⟨i, acc, j, q1, F2, u, N, β, rfl, hi, hl, hM, hD, hj0, hj1, S, o3, hq, hs⟩
 refine S.rs fun S => ?_
 have hel := el_of_drop hD
 have hsl := szsum_take_le a i
 refine S.gd 9 .nil (decide ((i : Int) < (a.length : Int))) (fun ac w β h6 g7 S => ?_) (fun ac w β h6 g7 S => ?_)
 ·obtain ⟨F8, o9, s10, b11⟩ := foc_Bare_mem o3 (k := i) (show i < acc.length by omega)
  have z12 := szsum_take (xs := a) (k := i) (by omega)
  have z13 := szsum_take_le a (i + 1)
  have z14 := sz_Bare (el a i)
  have e15 : (el acc i).mem = (el a i).mem := by simp only [hel]
  refine S.go 13 (.cons (Q_idx o3.rn (l := a.length) (k := i) (i := (i : Int)) (by omega) rfl (by omega) Tryz.underlying26 (by kernel_rfl)) (.cons (qc o3.rn 39 i 0 (slv (el acc i).mem.length (q1.2 i).mem.1)) .nil)) fun ac w β S => S.KX (hd := hdl) (d := 18) o9 (c_laws_markIntSS w (el acc i).mem (q1.2 i).mem F8 (S.ownw o9) (fun b hb => (S.sep b (o9.sub b hb)).1) j (by omega) (by rw [e15]; omega)) fun ac w N q16 y17 k18 S up o19 c20 x21 b22 b23 => ?_
  rw [e15] at b23
  obtain ⟨p24, o25⟩ := b11 _ _ _ _ up o19 c20
  clear up o3 o9 s10 b11 o19 c20
  obtain ⟨a26, e27⟩ : ∃ z, z = acc.set i ({ el acc i with mem := y17 }) := ⟨_, rfl⟩
  rw [← e27] at o25
  have l28 : a26.length = acc.length := by rw [e27]; exact List.length_set
  have e29 : el a26 i = { el acc i with mem := y17 } := by rw [e27]; exact el_set_self (show i < acc.length by omega)
  have t30 : a26.take i = acc.take i := by rw [e27]; exact take_set_self
  have d31 : a26.drop (i + 1) = acc.drop (i + 1) := by rw [e27]; exact drop_set_self
  clear e27
  obtain ⟨F32, o33, s34, b35⟩ := foc_Bare_guests o25 (k := i) (show i < a26.length by omega)
  have z36 := szsum_take (xs := a) (k := i) (by omega)
  have z37 := szsum_take_le a (i + 1)
  have z38 := sz_Bare (el a i)
  have e39 : (el a26 i).guests = (el a i).guests := by simp only [e29, hel]
  refine S.go 11 (.cons (Q_idx o25.rn (l := a.length) (k := i) (i := (i : Int)) (by omega) rfl (by omega) Tryz.underlying26 (by kernel_rfl)) (.cons (qc o25.rn 48 i 1 (slv (el a26 i).guests.length ((q1.1, p24).2 i).guests.1)) .nil)) fun ac w β S => S.KX (hd := hdl) (d := 25) o33 (c_laws_markGuestS w (el a26 i).guests ((q1.1, p24).2 i).guests F32 (S.ownw o33) (fun b hb => (S.sep b (o33.sub b hb)).1) k18 (by omega) (by rw [e39]; omega)) fun ac w N q40 y41 k42 S up o43 c44 x45 b46 b47 => ?_
  rw [e39] at b47
  obtain ⟨p48, o49⟩ := b35 _ _ _ _ up o43 c44
  clear up o25 o33 s34 b35 o43 c44
  obtain ⟨a50, e51⟩ : ∃ z, z = a26.set i ({ el a26 i with guests := y41 }) := ⟨_, rfl⟩
  rw [← e51] at o49
  have l52 : a50.length = a26.length := by rw [e51]; exact List.length_set
  have e53 : el a50 i = { el a26 i with guests := y41 } := by rw [e51]; exact el_set_self (show i < a26.length by omega)
  have t54 : a50.take i = a26.take i := by rw [e51]; exact take_set_self
  have d55 : a50.drop (i + 1) = a26.drop (i + 1) := by rw [e51]; exact drop_set_self
  clear e51
  obtain ⟨F56, o57, s58, b59⟩ := foc_Bare_outs o49 (k := i) (show i < a50.length by omega)
  have z60 := szsum_take (xs := a) (k := i) (by omega)
  have z61 := szsum_take_le a (i + 1)
  have z62 := sz_Bare (el a i)
  have e63 : (el a50 i).outs = (el a i).outs := by simp only [e53, e29, hel]
  refine S.go 11 (.cons (Q_idx o49.rn (l := a.length) (k := i) (i := (i : Int)) (by omega) rfl (by omega) Tryz.underlying26 (by kernel_rfl)) (.cons (qc o49.rn 41 i 2 (slv (el a50 i).outs.length ((q1.1, p48).2 i).outs.1)) .nil)) fun ac w β S => S.KX (hd := hdl) (d := 32) o57 (c_laws_markIntS w (el a50 i).outs ((q1.1, p48).2 i).outs F56 (S.ownw o57) (fun b hb => (S.sep b (o57.sub b hb)).1) k42 (by omega) (by rw [e63]; omega)) fun ac w N q64 y65 k66 S up o67 c68 x69 b70 b71 => ?_
  rw [e63] at b71
  obtain ⟨p72, o73⟩ := b59 _ _ _ _ up o67 c68
  clear up o49 o57 s58 b59 o67 c68
  obtain ⟨a74, e75⟩ : ∃ z, z = a50.set i ({ el a50 i with outs := y65 }) := ⟨_, rfl⟩
  rw [← e75] at o73
  have l76 : a74.length = a50.length := by rw [e75]; exact List.length_set
  have e77 : el a74 i = { el a50 i with outs := y65 } := by rw [e75]; exact el_set_self (show i < a50.length by omega)
  have t78 : a74.take i = a50.take i := by rw [e75]; exact take_set_self
  have d79 : a74.drop (i + 1) = a50.drop (i + 1) := by rw [e75]; exact drop_set_self
  clear e75
  refine S.go 10 (.cons (Q_idx o73.rn (l := a.length) (k := i) (i := (i : Int)) (by omega) rfl (by omega) Tryz.underlying26 (by kernel_rfl)) .nil) fun ac w β S => S.SF (α := TBare) o73 (t := 3) (k := i) (j := 3) (off := q1.1.off + i * 4 + 3) (v := I k66) (y := ({ el a74 i with pend := k66 } : TBare)) (q := ((q1.1, p72).2 i)) (fun G g_ _ => ⟨G, ows_Bare_pend g_ (⟨by omega, by omega⟩), fun _ h => .inl h⟩) fun w N F81 q82 S up o80 d83 s84 n85 => ?_
  have s86 : ∀ b, F81 b → F b := fun b h => (s84 b h).elim (hs b) (fun h => False.elim h)
  clear up d83 o73 n85
  obtain ⟨a87, e88⟩ : ∃ z, z = a74.set i ({ el a74 i with pend := k66 }) := ⟨_, rfl⟩
  rw [← e88] at o80
  have l89 : a87.length = a74.length := by rw [e88]; exact List.length_set
  have e90 : el a87 i = { el a74 i with pend := k66 } := by rw [e88]; exact el_set_self (show i < a74.length by omega)
  have t91 : a87.take i = a74.take i := by rw [e88]; exact take_set_self
  have d92 : a87.drop (i + 1) = a74.drop (i + 1) := by rw [e88]; exact drop_set_self
  clear e88
  refine S.ge 14 (.cons (qp k66 1) (.cons (qp (i : Int) 1) .nil)) f4 fun ac w β S => hf5.of (a.length - (i + 1)) _ _ (by omega) ⟨i + 1, a87, (k66 + 1), (q1.1, q82), F81, _, _, _, rfl, ?_, ?_, ?_, ?_, ?_, ?_, S.z, o80, hq, s86⟩
  ·exact oz
  ·clear S; omega
  ·clear S; refine mk_step (acc := a87) (by omega) (by intro f; rw [t91, t78, t54, t30]; exact hM f) ?_; intro f; simp (disch := first | omega | rfl) only [he_list, he_Bare, e90, e77, e53, e29, x21, x45, x69, hdc_pos, hdi_eq, hdb_eq]
  ·clear S; rw [d92, d79, d55, d31]; exact drop_more hD
  ·clear S; omega
  ·clear S; omega
 refine S.gr 13 .nil [I j] fun ac w β S => ?_
 have hyd : hdl acc k = j := by clear S; exact mk_end (by omega) hM
 have hyb : k ≤ j ∧ j ≤ k + 16 * ((SZ.sz a : Nat) : Int) := by clear S; have hs2 := szsum_take_le a i; constructor <;> omega
 exact retX_of S hyd hyb.1 hyb.2 (by show [slv _ _] = [slv _ _]; rw [hl, hq]) o3 hs

theorem k0_laws_heldIntS {p : Prop} (h : p := by clear S; (first | (rw [hr, hd_end (by omega)]; done) | (rw [hr, hd_step (by omega)]; simp [he_Int, w1, hdi, hdb, hdc, *]; done) | (rw [hr, hd_step (by omega)]; simp_all [he_Int, w1, hdi, hdb, hdc]; done))) : p := h
theorem c_laws_heldIntS (w0 : World) (a : List Int) (pa : LP Int) (ha : RD w0 a pa) (k : Int) : Calls Tryz.prog 44 [slv a.length pa.1, I k].toArray w0 (fun e w' => e = .returned (I (hdl a k)) ∧ Chg NoB w0 w') := by
 refine Calls.run NoB Tryz.func44 ?_
 intro ac β S
 have hlea : a.length ≤ 4194304 := LRd.le ha
 refine S.go 12 .nil fun ac w β S => ?_
 refine lp (fun mm ac w => ∃ (i : Nat) (j : Int)  (u : _) (N : _) (β : _), mm = a.length - i ∧ (i ≤ a.length) ∧ (hdl a k = hdlc (a.drop i) j id) ∧ St Tryz.prog Tryz.f44.ntmps w0 NoB u N β ⟨[(0, .v (slv a.length pa.1)), (1, .v (I j)), (5, .v (I (i : Int)))], []⟩ ac w) _ ⟨0, k, _, _, _, rfl, o0, (by rfl), S.z⟩ ?_
 clear S
 rintro f1 mm hf2 ac w ⟨i, j, u, N, β, rfl, hi, hr, S⟩
 refine S.rs fun S => ?_
 refine S.gd 9 .nil (decide ((i : Int) < (a.length : Int))) (fun ac w β h3 g4 S => ?_) (fun ac w β h3 g4 S => ?_)
 ·refine S.gd 16 (.cons (qn (S.arg ha) i Tryz.underlying41) (.cons (qx (S.arg ha) 3 i) .nil)) ((el a i) != j) (fun ac w β h5 g6 S => ?_) (fun ac w β h5 g6 S => ?_)
  ·exact S.gf 7 .nil [I (-1)] (retI k0_laws_heldIntS)
  refine S.ge 15 (.cons (Q_addw (x := j) (y := 1)) (.cons (qp (i : Int) 1) .nil)) f1 fun ac w β S => hf2.of (a.length - (i + 1)) _ _ (by omega) ⟨i + 1, (w1 j), _, _, _, rfl, ?_, ?_, S.z⟩
  ·exact oz
  ·clear S; (rw [hr, hd_step (by omega)]; simp [he_Int, w1, hdi, hdb, hdc, *])
 exact S.gf 13 .nil [I j] (retI k0_laws_heldIntS)

theorem k0_laws_heldIntSS {p : Prop} (h : p := by clear S; (first | (rw [hr, hd_end (by omega)]; done) | (rw [hr, hd_step (by omega)]; simp [he_list, w1, hdi, hdb, hdc, *]; done) | (rw [hr, hd_step (by omega)]; simp_all [he_list, w1, hdi, hdb, hdc]; done))) : p := h
theorem c_laws_heldIntSS (w0 : World) (a : List (List Int)) (pa : LP (List Int)) (ha : RD w0 a pa) (k : Int) : Calls Tryz.prog 42 [slv a.length pa.1, I k].toArray w0 (fun e w' => e = .returned (I (hdl a k)) ∧ Chg NoB w0 w') := by
 refine Calls.run NoB Tryz.func42 ?_
 intro ac β S
 have hlea : a.length ≤ 4194304 := LRd.le ha
 refine S.go 12 .nil fun ac w β S => ?_
 refine lp (fun mm ac w => ∃ (i : Nat) (j : Int)  (u : _) (N : _) (β : _), mm = a.length - i ∧ (i ≤ a.length) ∧ (hdl a k = hdlc (a.drop i) j id) ∧ St Tryz.prog Tryz.f42.ntmps w0 NoB u N β ⟨[(0, .v (slv a.length pa.1)), (1, .v (I j)), (5, .v (I (i : Int)))], []⟩ ac w) _ ⟨0, k, _, _, _, rfl, o0, (by rfl), S.z⟩ ?_
 clear S
 rintro f1 mm hf2 ac w ⟨i, j, u, N, β, rfl, hi, hr, S⟩
 refine S.rs fun S => ?_
 refine S.gd 9 .nil (decide ((i : Int) < (a.length : Int))) (fun ac w β h3 g4 S => ?_) (fun ac w β h3 g4 S => ?_)
 ·refine S.gd 22 (.cons (qn (S.arg ha) i Tryz.underlying39) (.cons (qx (S.arg ha) 41 i) (.cons (Q_call fun w hw => c_laws_heldIntS w (el a i) (pa.2 i) (rd_of (LRd.el (S.arg ha) i (by omega)) hw) j) .nil))) (decide ((hdl (el a i) j) < 0)) (fun ac w β h5 g6 S => ?_) (fun ac w β h5 g6 S => ?_)
  ·exact S.gf 7 .nil [I (-1)] (retI k0_laws_heldIntSS)
  refine S.ge 9 (.cons (qp (i : Int) 1) .nil) f1 fun ac w β S => hf2.of (a.length - (i + 1)) _ _ (by omega) ⟨i + 1, (hdl (el a i) j), _, _, _, rfl, ?_, ?_, S.z⟩
  ·exact oz
  ·clear S; (rw [hr, hd_step (by omega)]; simp [he_list, w1, hdi, hdb, hdc, *])
 exact S.gf 13 .nil [I j] (retI k0_laws_heldIntSS)

theorem k0_laws_heldInsS {p : Prop} (h : p := by clear S; (first | (rw [hr, hd_end (by omega)]; done) | (rw [hr, hd_step (by omega)]; simp [he_Ins, w1, hdi, hdb, hdc, *]; done) | (rw [hr, hd_step (by omega)]; simp_all [he_Ins, w1, hdi, hdb, hdc]; done))) : p := h
theorem c_laws_heldInsS (w0 : World) (a : List TIns) (pa : LP TIns) (ha : RD w0 a pa) (k : Int) : Calls Tryz.prog 104 [slv a.length pa.1, I k].toArray w0 (fun e w' => e = .returned (I (hdl a k)) ∧ Chg NoB w0 w') := by
 refine Calls.run NoB Tryz.func104 ?_
 intro ac β S
 have hlea : a.length ≤ 4194304 := LRd.le ha
 refine S.go 12 .nil fun ac w β S => ?_
 refine lp (fun mm ac w => ∃ (i : Nat) (j : Int)  (u : _) (N : _) (β : _), mm = a.length - i ∧ (i ≤ a.length) ∧ (hdl a k = hdlc (a.drop i) j id) ∧ St Tryz.prog Tryz.f104.ntmps w0 NoB u N β ⟨[(0, .v (slv a.length pa.1)), (1, .v (I j)), (5, .v (I (i : Int)))], []⟩ ac w) _ ⟨0, k, _, _, _, rfl, o0, (by rfl), S.z⟩ ?_
 clear S
 rintro f1 mm hf2 ac w ⟨i, j, u, N, β, rfl, hi, hr, S⟩
 refine S.rs fun S => ?_
 refine S.gd 9 .nil (decide ((i : Int) < (a.length : Int))) (fun ac w β h3 g4 S => ?_) (fun ac w β h3 g4 S => ?_)
 ·refine S.gd 17 (.cons (qn (S.arg ha) i Tryz.underlying76) (.cons (qc (S.arg ha) 3 i 0 (I (el a i).opc)) .nil)) ((el a i).opc != j) (fun ac w β h5 g6 S => ?_) (fun ac w β h5 g6 S => ?_)
  ·exact S.gf 7 .nil [I (-1)] (retI k0_laws_heldInsS)
  refine S.gd 22 (.cons (Q_addw (x := j) (y := 1)) (.cons (qn (S.arg ha) i Tryz.underlying76) (.cons (qc (S.arg ha) 3 i 1 (I (el a i).x)) .nil))) ((el a i).x != (w1 j)) (fun ac w β h7 g8 S => ?_) (fun ac w β h7 g8 S => ?_)
  ·exact S.gf 7 .nil [I (-1)] (retI k0_laws_heldInsS)
  refine S.ge 15 (.cons (Q_addw (x := (w1 j)) (y := 1)) (.cons (qp (i : Int) 1) .nil)) f1 fun ac w β S => hf2.of (a.length - (i + 1)) _ _ (by omega) ⟨i + 1, (w1 (w1 j)), _, _, _, rfl, ?_, ?_, S.z⟩
  ·exact oz
  ·clear S; (rw [hr, hd_step (by omega)]; simp [he_Ins, w1, hdi, hdb, hdc, *])
 exact S.gf 13 .nil [I j] (retI k0_laws_heldInsS)

theorem k0_laws_heldSlotS {p : Prop} (h : p := by clear S; (first | (rw [hr, hd_end (by omega)]; done) | (rw [hr, hd_step (by omega)]; simp [he_Slot, w1, hdi, hdb, hdc, *]; done) | (rw [hr, hd_step (by omega)]; simp_all [he_Slot, w1, hdi, hdb, hdc]; done))) : p := h
theorem c_laws_heldSlotS (w0 : World) (a : List TSlot) (pa : LP TSlot) (ha : RD w0 a pa) (k : Int) : Calls Tryz.prog 105 [slv a.length pa.1, I k].toArray w0 (fun e w' => e = .returned (I (hdl a k)) ∧ Chg NoB w0 w') := by
 refine Calls.run NoB Tryz.func105 ?_
 intro ac β S
 have hlea : a.length ≤ 4194304 := LRd.le ha
 refine S.go 12 .nil fun ac w β S => ?_
 refine lp (fun mm ac w => ∃ (i : Nat) (j : Int)  (u : _) (N : _) (β : _), mm = a.length - i ∧ (i ≤ a.length) ∧ (hdl a k = hdlc (a.drop i) j id) ∧ St Tryz.prog Tryz.f105.ntmps w0 NoB u N β ⟨[(0, .v (slv a.length pa.1)), (1, .v (I j)), (5, .v (I (i : Int)))], []⟩ ac w) _ ⟨0, k, _, _, _, rfl, o0, (by rfl), S.z⟩ ?_
 clear S
 rintro f1 mm hf2 ac w ⟨i, j, u, N, β, rfl, hi, hr, S⟩
 refine S.rs fun S => ?_
 refine S.gd 9 .nil (decide ((i : Int) < (a.length : Int))) (fun ac w β h3 g4 S => ?_) (fun ac w β h3 g4 S => ?_)
 ·refine S.gd 17 (.cons (qn (S.arg ha) i Tryz.underlying77) (.cons (qc (S.arg ha) 3 i 0 (I (el a i).page)) .nil)) ((el a i).page != j) (fun ac w β h5 g6 S => ?_) (fun ac w β h5 g6 S => ?_)
  ·exact S.gf 7 .nil [I (-1)] (retI k0_laws_heldSlotS)
  refine S.gd 22 (.cons (Q_addw (x := j) (y := 1)) (.cons (qn (S.arg ha) i Tryz.underlying77) (.cons (qc (S.arg ha) 3 i 1 (I (el a i).rights)) .nil))) ((el a i).rights != (w1 j)) (fun ac w β h7 g8 S => ?_) (fun ac w β h7 g8 S => ?_)
  ·exact S.gf 7 .nil [I (-1)] (retI k0_laws_heldSlotS)
  refine S.ge 15 (.cons (Q_addw (x := (w1 j)) (y := 1)) (.cons (qp (i : Int) 1) .nil)) f1 fun ac w β S => hf2.of (a.length - (i + 1)) _ _ (by omega) ⟨i + 1, (w1 (w1 j)), _, _, _, rfl, ?_, ?_, S.z⟩
  ·exact oz
  ·clear S; (rw [hr, hd_step (by omega)]; simp [he_Slot, w1, hdi, hdb, hdc, *])
 exact S.gf 13 .nil [I j] (retI k0_laws_heldSlotS)

theorem k0_laws_heldGuestS {p : Prop} (h : p := by clear S; (first | (rw [hr, hd_end (by omega)]; done) | (rw [hr, hd_step (by omega)]; simp [he_Guest, w1, hdi, hdb, hdc, *]; done) | (rw [hr, hd_step (by omega)]; simp_all [he_Guest, w1, hdi, hdb, hdc]; done))) : p := h
theorem c_laws_heldGuestS (w0 : World) (a : List TGuest) (pa : LP TGuest) (ha : RD w0 a pa) (k : Int) : Calls Tryz.prog 43 [slv a.length pa.1, I k].toArray w0 (fun e w' => e = .returned (I (hdl a k)) ∧ Chg NoB w0 w') := by
 refine Calls.run NoB Tryz.func43 ?_
 intro ac β S
 have hlea : a.length ≤ 4194304 := LRd.le ha
 refine S.go 12 .nil fun ac w β S => ?_
 refine lp (fun mm ac w => ∃ (i : Nat) (j : Int)  (u : _) (N : _) (β : _), mm = a.length - i ∧ (i ≤ a.length) ∧ (hdl a k = hdlc (a.drop i) j id) ∧ St Tryz.prog Tryz.f43.ntmps w0 NoB u N β ⟨[(0, .v (slv a.length pa.1)), (1, .v (I j)), (5, .v (I (i : Int)))], []⟩ ac w) _ ⟨0, k, _, _, _, rfl, o0, (by rfl), S.z⟩ ?_
 clear S
 rintro f1 mm hf2 ac w ⟨i, j, u, N, β, rfl, hi, hr, S⟩
 refine S.rs fun S => ?_
 refine S.gd 9 .nil (decide ((i : Int) < (a.length : Int))) (fun ac w β h3 g4 S => ?_) (fun ac w β h3 g4 S => ?_)
 ·refine S.gd 24 (.cons (qn (S.arg ha) i Tryz.underlying48) (.cons (qc (S.arg ha) 76 i 0 (slv (el a i).prog.length (pa.2 i).prog.1)) (.cons (Q_call fun w hw => c_laws_heldInsS w (el a i).prog (pa.2 i).prog (rd_of (RGuest.prog (d := (el a i)) (LRd.el (S.arg ha) i (by omega))) hw) j) .nil))) (decide ((hdl (el a i).prog j) < 0)) (fun ac w β h5 g6 S => ?_) (fun ac w β h5 g6 S => ?_)
  ·exact S.gf 7 .nil [I (-1)] (retI k0_laws_heldGuestS)
  refine S.gd 15 (.cons (qn (S.arg ha) i Tryz.underlying48) (.cons (qc (S.arg ha) 3 i 1 (I (el a i).acc)) .nil)) ((el a i).acc != (hdl (el a i).prog j)) (fun ac w β h7 g8 S => ?_) (fun ac w β h7 g8 S => ?_)
  ·exact S.gf 7 .nil [I (-1)] (retI k0_laws_heldGuestS)
  refine S.gd 22 (.cons (Q_addw (x := (hdl (el a i).prog j)) (y := 1)) (.cons (qn (S.arg ha) i Tryz.underlying48) (.cons (qc (S.arg ha) 3 i 2 (I (el a i).pc)) .nil))) ((el a i).pc != (w1 (hdl (el a i).prog j))) (fun ac w β h9 g10 S => ?_) (fun ac w β h9 g10 S => ?_)
  ·exact S.gf 7 .nil [I (-1)] (retI k0_laws_heldGuestS)
  refine S.gd 29 (.cons (Q_addw (x := (w1 (hdl (el a i).prog j))) (y := 1)) (.cons (qn (S.arg ha) i Tryz.underlying48) (.cons (qc (S.arg ha) 77 i 3 (slv (el a i).written.length (pa.2 i).written.1)) (.cons (Q_call fun w hw => c_laws_heldSlotS w (el a i).written (pa.2 i).written (rd_of (RGuest.written (d := (el a i)) (LRd.el (S.arg ha) i (by omega))) hw) (w1 (w1 (hdl (el a i).prog j)))) .nil)))) (decide ((hdl (el a i).written (w1 (w1 (hdl (el a i).prog j)))) < 0)) (fun ac w β h11 g12 S => ?_) (fun ac w β h11 g12 S => ?_)
  ·exact S.gf 7 .nil [I (-1)] (retI k0_laws_heldGuestS)
  refine S.gd 22 (.cons (qn (S.arg ha) i Tryz.underlying48) (.cons (qc (S.arg ha) 77 i 4 (slv (el a i).live.length (pa.2 i).live.1)) (.cons (Q_call fun w hw => c_laws_heldSlotS w (el a i).live (pa.2 i).live (rd_of (RGuest.live (d := (el a i)) (LRd.el (S.arg ha) i (by omega))) hw) (hdl (el a i).written (w1 (w1 (hdl (el a i).prog j))))) .nil))) (decide ((hdl (el a i).live (hdl (el a i).written (w1 (w1 (hdl (el a i).prog j))))) < 0)) (fun ac w β h13 g14 S => ?_) (fun ac w β h13 g14 S => ?_)
  ·exact S.gf 7 .nil [I (-1)] (retI k0_laws_heldGuestS)
  refine S.gd 16 (.cons (qn (S.arg ha) i Tryz.underlying48) (.cons (qc (S.arg ha) 3 i 5 (I (el a i).ctl.traps)) .nil)) ((el a i).ctl.traps != (hdl (el a i).live (hdl (el a i).written (w1 (w1 (hdl (el a i).prog j)))))) (fun ac w β h15 g16 S => ?_) (fun ac w β h15 g16 S => ?_)
  ·exact S.gf 7 .nil [I (-1)] (retI k0_laws_heldGuestS)
  refine S.gd 23 (.cons (Q_addw (x := (hdl (el a i).live (hdl (el a i).written (w1 (w1 (hdl (el a i).prog j)))))) (y := 1)) (.cons (qn (S.arg ha) i Tryz.underlying48) (.cons (qc (S.arg ha) 3 i 6 (I (el a i).ctl.post)) .nil))) ((el a i).ctl.post != (w1 (hdl (el a i).live (hdl (el a i).written (w1 (w1 (hdl (el a i).prog j))))))) (fun ac w β h17 g18 S => ?_) (fun ac w β h17 g18 S => ?_)
  ·exact S.gf 7 .nil [I (-1)] (retI k0_laws_heldGuestS)
  refine S.gb 25 (.cons (Q_addw (x := (w1 (hdl (el a i).live (hdl (el a i).written (w1 (w1 (hdl (el a i).prog j))))))) (y := 1)) (.cons (qn (S.arg ha) i Tryz.underlying48) (.cons (qc (S.arg ha) 4 i 7 (B (el a i).ctl.opn)) (.cons (Q_rem (x := (w1 (w1 (hdl (el a i).live (hdl (el a i).written (w1 (w1 (hdl (el a i).prog j)))))))) (y := 3) (by decide)) .nil)))) (!((el a i).ctl.opn == ((Int.tmod (w1 (w1 (hdl (el a i).live (hdl (el a i).written (w1 (w1 (hdl (el a i).prog j))))))) 3) == 0))) (fun ac w β h19 S => ?_) (fun ac w β h19 S => ?_)
  ·have h20 := not_t h19
   have g21 : ¬ ((el a i).ctl.opn = ((Int.tmod (w1 (w1 (hdl (el a i).live (hdl (el a i).written (w1 (w1 (hdl (el a i).prog j))))))) 3) == 0)) := ne_of_beq_false h20
   exact S.gf 7 .nil [I (-1)] (retI k0_laws_heldGuestS)
  have h22 := not_f h19
  have g23 : (el a i).ctl.opn = ((Int.tmod (w1 (w1 (hdl (el a i).live (hdl (el a i).written (w1 (w1 (hdl (el a i).prog j))))))) 3) == 0) := eq_of_beq h22
  refine S.gd 22 (.cons (Q_addw (x := (w1 (w1 (hdl (el a i).live (hdl (el a i).written (w1 (w1 (hdl (el a i).prog j)))))))) (y := 1)) (.cons (qn (S.arg ha) i Tryz.underlying48) (.cons (qc (S.arg ha) 3 i 8 (I (el a i).pend)) .nil))) ((el a i).pend != (w1 (w1 (w1 (hdl (el a i).live (hdl (el a i).written (w1 (w1 (hdl (el a i).prog j))))))))) (fun ac w β h24 g25 S => ?_) (fun ac w β h24 g25 S => ?_)
  ·exact S.gf 7 .nil [I (-1)] (retI k0_laws_heldGuestS)
  refine S.gd 23 (.cons (Q_addw (x := (w1 (w1 (w1 (hdl (el a i).live (hdl (el a i).written (w1 (w1 (hdl (el a i).prog j))))))))) (y := 1)) (.cons (qn (S.arg ha) i Tryz.underlying48) (.cons (qc (S.arg ha) 3 i 9 (I (el a i).exit.kind)) .nil))) ((el a i).exit.kind != (w1 (w1 (w1 (w1 (hdl (el a i).live (hdl (el a i).written (w1 (w1 (hdl (el a i).prog j)))))))))) (fun ac w β h26 g27 S => ?_) (fun ac w β h26 g27 S => ?_)
  ·exact S.gf 7 .nil [I (-1)] (retI k0_laws_heldGuestS)
  refine S.gd 23 (.cons (Q_addw (x := (w1 (w1 (w1 (w1 (hdl (el a i).live (hdl (el a i).written (w1 (w1 (hdl (el a i).prog j)))))))))) (y := 1)) (.cons (qn (S.arg ha) i Tryz.underlying48) (.cons (qc (S.arg ha) 3 i 10 (I (el a i).exit.page)) .nil))) ((el a i).exit.page != (w1 (w1 (w1 (w1 (w1 (hdl (el a i).live (hdl (el a i).written (w1 (w1 (hdl (el a i).prog j))))))))))) (fun ac w β h28 g29 S => ?_) (fun ac w β h28 g29 S => ?_)
  ·exact S.gf 7 .nil [I (-1)] (retI k0_laws_heldGuestS)
  refine S.gb 25 (.cons (Q_addw (x := (w1 (w1 (w1 (w1 (w1 (hdl (el a i).live (hdl (el a i).written (w1 (w1 (hdl (el a i).prog j))))))))))) (y := 1)) (.cons (qn (S.arg ha) i Tryz.underlying48) (.cons (qc (S.arg ha) 4 i 11 (B (el a i).exit.wr)) (.cons (Q_rem (x := (w1 (w1 (w1 (w1 (w1 (w1 (hdl (el a i).live (hdl (el a i).written (w1 (w1 (hdl (el a i).prog j)))))))))))) (y := 3) (by decide)) .nil)))) (!((el a i).exit.wr == ((Int.tmod (w1 (w1 (w1 (w1 (w1 (w1 (hdl (el a i).live (hdl (el a i).written (w1 (w1 (hdl (el a i).prog j))))))))))) 3) == 0))) (fun ac w β h30 S => ?_) (fun ac w β h30 S => ?_)
  ·have h31 := not_t h30
   have g32 : ¬ ((el a i).exit.wr = ((Int.tmod (w1 (w1 (w1 (w1 (w1 (w1 (hdl (el a i).live (hdl (el a i).written (w1 (w1 (hdl (el a i).prog j))))))))))) 3) == 0)) := ne_of_beq_false h31
   exact S.gf 7 .nil [I (-1)] (retI k0_laws_heldGuestS)
  have h33 := not_f h30
  have g34 : (el a i).exit.wr = ((Int.tmod (w1 (w1 (w1 (w1 (w1 (w1 (hdl (el a i).live (hdl (el a i).written (w1 (w1 (hdl (el a i).prog j))))))))))) 3) == 0) := eq_of_beq h33
  refine S.gd 23 (.cons (Q_addw (x := (w1 (w1 (w1 (w1 (w1 (w1 (hdl (el a i).live (hdl (el a i).written (w1 (w1 (hdl (el a i).prog j)))))))))))) (y := 1)) (.cons (qn (S.arg ha) i Tryz.underlying48) (.cons (qc (S.arg ha) 3 i 12 (I (el a i).exit.n)) .nil))) ((el a i).exit.n != (w1 (w1 (w1 (w1 (w1 (w1 (w1 (hdl (el a i).live (hdl (el a i).written (w1 (w1 (hdl (el a i).prog j))))))))))))) (fun ac w β h35 g36 S => ?_) (fun ac w β h35 g36 S => ?_)
  ·exact S.gf 7 .nil [I (-1)] (retI k0_laws_heldGuestS)
  refine S.gb 24 (.cons (Q_addw (x := (w1 (w1 (w1 (w1 (w1 (w1 (w1 (hdl (el a i).live (hdl (el a i).written (w1 (w1 (hdl (el a i).prog j))))))))))))) (y := 1)) (.cons (qn (S.arg ha) i Tryz.underlying48) (.cons (qc (S.arg ha) 4 i 13 (B (el a i).halted)) (.cons (Q_rem (x := (w1 (w1 (w1 (w1 (w1 (w1 (w1 (w1 (hdl (el a i).live (hdl (el a i).written (w1 (w1 (hdl (el a i).prog j)))))))))))))) (y := 3) (by decide)) .nil)))) (!((el a i).halted == ((Int.tmod (w1 (w1 (w1 (w1 (w1 (w1 (w1 (w1 (hdl (el a i).live (hdl (el a i).written (w1 (w1 (hdl (el a i).prog j))))))))))))) 3) == 0))) (fun ac w β h37 S => ?_) (fun ac w β h37 S => ?_)
  ·have h38 := not_t h37
   have g39 : ¬ ((el a i).halted = ((Int.tmod (w1 (w1 (w1 (w1 (w1 (w1 (w1 (w1 (hdl (el a i).live (hdl (el a i).written (w1 (w1 (hdl (el a i).prog j))))))))))))) 3) == 0)) := ne_of_beq_false h38
   exact S.gf 7 .nil [I (-1)] (retI k0_laws_heldGuestS)
  have h40 := not_f h37
  have g41 : (el a i).halted = ((Int.tmod (w1 (w1 (w1 (w1 (w1 (w1 (w1 (w1 (hdl (el a i).live (hdl (el a i).written (w1 (w1 (hdl (el a i).prog j))))))))))))) 3) == 0) := eq_of_beq h40
  refine S.gd 28 (.cons (Q_addw (x := (w1 (w1 (w1 (w1 (w1 (w1 (w1 (w1 (hdl (el a i).live (hdl (el a i).written (w1 (w1 (hdl (el a i).prog j)))))))))))))) (y := 1)) (.cons (qn (S.arg ha) i Tryz.underlying48) (.cons (qc (S.arg ha) 41 i 14 (slv (el a i).seen.length (pa.2 i).seen.1)) (.cons (Q_call fun w hw => c_laws_heldIntS w (el a i).seen (pa.2 i).seen (rd_of (RGuest.seen (d := (el a i)) (LRd.el (S.arg ha) i (by omega))) hw) (w1 (w1 (w1 (w1 (w1 (w1 (w1 (w1 (w1 (hdl (el a i).live (hdl (el a i).written (w1 (w1 (hdl (el a i).prog j))))))))))))))) .nil)))) (decide ((hdl (el a i).seen (w1 (w1 (w1 (w1 (w1 (w1 (w1 (w1 (w1 (hdl (el a i).live (hdl (el a i).written (w1 (w1 (hdl (el a i).prog j))))))))))))))) < 0)) (fun ac w β h42 g43 S => ?_) (fun ac w β h42 g43 S => ?_)
  ·exact S.gf 7 .nil [I (-1)] (retI k0_laws_heldGuestS)
  refine S.ge 9 (.cons (qp (i : Int) 1) .nil) f1 fun ac w β S => hf2.of (a.length - (i + 1)) _ _ (by omega) ⟨i + 1, (hdl (el a i).seen (w1 (w1 (w1 (w1 (w1 (w1 (w1 (w1 (w1 (hdl (el a i).live (hdl (el a i).written (w1 (w1 (hdl (el a i).prog j))))))))))))))), _, _, _, rfl, ?_, ?_, S.z⟩
  ·exact oz
  ·clear S; (rw [hr, hd_step (by omega)]; simp [he_Guest, w1, hdi, hdb, hdc, *])
 exact S.gf 13 .nil [I j] (retI k0_laws_heldGuestS)

theorem k0_laws_heldBareS {p : Prop} (h : p := by clear S; (first | (rw [hr, hd_end (by omega)]; done) | (rw [hr, hd_step (by omega)]; simp [he_Bare, w1, hdi, hdb, hdc, *]; done) | (rw [hr, hd_step (by omega)]; simp_all [he_Bare, w1, hdi, hdb, hdc]; done))) : p := h
theorem c_laws_heldBareS (w0 : World) (a : List TBare) (pa : LP TBare) (ha : RD w0 a pa) (k : Int) : Calls Tryz.prog 12 [slv a.length pa.1, I k].toArray w0 (fun e w' => e = .returned (I (hdl a k)) ∧ Chg NoB w0 w') := by
 refine Calls.run NoB Tryz.func12 ?_
 intro ac β S
 have hlea : a.length ≤ 4194304 := LRd.le ha
 refine S.go 12 .nil fun ac w β S => ?_
 refine lp (fun mm ac w => ∃ (i : Nat) (j : Int)  (u : _) (N : _) (β : _), mm = a.length - i ∧ (i ≤ a.length) ∧ (hdl a k = hdlc (a.drop i) j id) ∧ St Tryz.prog Tryz.f12.ntmps w0 NoB u N β ⟨[(0, .v (slv a.length pa.1)), (1, .v (I j)), (5, .v (I (i : Int)))], []⟩ ac w) _ ⟨0, k, _, _, _, rfl, o0, (by rfl), S.z⟩ ?_
 clear S
 rintro f1 mm hf2 ac w ⟨i, j, u, N, β, rfl, hi, hr, S⟩
 refine S.rs fun S => ?_
 refine S.gd 9 .nil (decide ((i : Int) < (a.length : Int))) (fun ac w β h3 g4 S => ?_) (fun ac w β h3 g4 S => ?_)
 ·refine S.gd 24 (.cons (qn (S.arg ha) i Tryz.underlying26) (.cons (qc (S.arg ha) 39 i 0 (slv (el a i).mem.length (pa.2 i).mem.1)) (.cons (Q_call fun w hw => c_laws_heldIntSS w (el a i).mem (pa.2 i).mem (rd_of (RBare.mem (d := (el a i)) (LRd.el (S.arg ha) i (by omega))) hw) j) .nil))) (decide ((hdl (el a i).mem j) < 0)) (fun ac w β h5 g6 S => ?_) (fun ac w β h5 g6 S => ?_)
  ·exact S.gf 7 .nil [I (-1)] (retI k0_laws_heldBareS)
  refine S.gd 22 (.cons (qn (S.arg ha) i Tryz.underlying26) (.cons (qc (S.arg ha) 48 i 1 (slv (el a i).guests.length (pa.2 i).guests.1)) (.cons (Q_call fun w hw => c_laws_heldGuestS w (el a i).guests (pa.2 i).guests (rd_of (RBare.guests (d := (el a i)) (LRd.el (S.arg ha) i (by omega))) hw) (hdl (el a i).mem j)) .nil))) (decide ((hdl (el a i).guests (hdl (el a i).mem j)) < 0)) (fun ac w β h7 g8 S => ?_) (fun ac w β h7 g8 S => ?_)
  ·exact S.gf 7 .nil [I (-1)] (retI k0_laws_heldBareS)
  refine S.gd 22 (.cons (qn (S.arg ha) i Tryz.underlying26) (.cons (qc (S.arg ha) 41 i 2 (slv (el a i).outs.length (pa.2 i).outs.1)) (.cons (Q_call fun w hw => c_laws_heldIntS w (el a i).outs (pa.2 i).outs (rd_of (RBare.outs (d := (el a i)) (LRd.el (S.arg ha) i (by omega))) hw) (hdl (el a i).guests (hdl (el a i).mem j))) .nil))) (decide ((hdl (el a i).outs (hdl (el a i).guests (hdl (el a i).mem j))) < 0)) (fun ac w β h9 g10 S => ?_) (fun ac w β h9 g10 S => ?_)
  ·exact S.gf 7 .nil [I (-1)] (retI k0_laws_heldBareS)
  refine S.gd 15 (.cons (qn (S.arg ha) i Tryz.underlying26) (.cons (qc (S.arg ha) 3 i 3 (I (el a i).pend)) .nil)) ((el a i).pend != (hdl (el a i).outs (hdl (el a i).guests (hdl (el a i).mem j)))) (fun ac w β h11 g12 S => ?_) (fun ac w β h11 g12 S => ?_)
  ·exact S.gf 7 .nil [I (-1)] (retI k0_laws_heldBareS)
  refine S.ge 15 (.cons (Q_addw (x := (hdl (el a i).outs (hdl (el a i).guests (hdl (el a i).mem j)))) (y := 1)) (.cons (qp (i : Int) 1) .nil)) f1 fun ac w β S => hf2.of (a.length - (i + 1)) _ _ (by omega) ⟨i + 1, (w1 (hdl (el a i).outs (hdl (el a i).guests (hdl (el a i).mem j)))), _, _, _, rfl, ?_, ?_, S.z⟩
  ·exact oz
  ·clear S; (rw [hr, hd_step (by omega)]; simp [he_Bare, w1, hdi, hdb, hdc, *])
 exact S.gf 13 .nil [I j] (retI k0_laws_heldBareS)

theorem k0_laws_FnExactBareAct {p : Prop} (h : p := by clear S; first | rfl | (exfalso; omega) | (exfalso; simp_all; done) | (exfalso; simp_all; omega)) : p := h
theorem c_laws_FnExactBareAct (w0 : World) (aList : List TBare) (paList : LP TBare) (haList : GT.rd KR (Lt w0.heap.size) w0 aList paList) (aA : TAct) (haA : RAct aA) : Calls Tryz.prog 3 [slv aList.length paList.1, GT.val aA ()].toArray w0 (fun e w' => e = .returned (B true) ∧ Chg NoB w0 w') := by
 refine Calls.run NoB Tryz.func3 ?_
 intro ac β S
 have hleaList : aList.length ≤ 9223372036854775807 := LRd.le haList
 have b1 := f_sz_cs (SZ.sz aList) 1048576
 refine S.gd 26 (.cons (Q_call fun w hw => c_laws_szBareS w aList paList (rd_of (S.arg haList) hw) 1048576 (by omega) (by omega)) .nil) (decide ((f_sz (SZ.sz aList) 1048576) < 0)) (fun ac w β h2 g3 S => ?_) (fun ac w β h2 g3 S => ?_)
 ·exact S.gf 7 .nil [B true] (retB k0_laws_FnExactBareAct)
 have hkaList : RD w0 aList paList := SZ.cut haList (show SZ.sz aList ≤ 4194304 by omega)
 have hcaList : SZ.sz aList ≤ 1048576 := by omega
 refine S.go 4 .nil fun ac w β S => ?_
 refine drw ?_
 let σ4 : Sy := ⟨[(0, .v (slv aList.length paList.1)), (3, .p 0 0), (20, .v (B false))], [GT.cells aA ()]⟩
 obtain ⟨u0, N0, β0, S⟩ : ∃ u0 N0 β0, St Tryz.prog Tryz.f3.ntmps w0 NoB u0 N0 β0 σ4 ac w := ⟨_, _, _, S.z⟩
 refine wp_region_cut (fun ac w => ∃ q36 F37 u N β, St Tryz.prog Tryz.f3.ntmps w0 NoB u N β (σ4.dl [20] [(6, .v (slv (f_bareAct aList aA).1.length q36.1)), (7, .p 1 0)] 2 [(1, GT.cells (f_bareAct aList aA).2 ())]) ac w ∧ Ow w0 NoB u N F37 (f_bareAct aList aA).1 q36 ∧ RTold (f_bareAct aList aA).2) ?_ ?_
 ·refine S.draw0 (f := 11) 10 (by kernel_rfl) (by kernel_rfl) fun w S => ?_
  refine S.hq 0 [0] [] [(22, .v (slv aList.length paList.1))] .nil fun ac S => ?_
  refine S.hq 2 [2] [] [(24, .v (GT.val aA ()))] .nil fun ac S => ?_
  refine WD.nameW fun W hW => ?_
  refine WD.castW (l' := mkL 11 [0, 2]) (by kernel_rfl) ?_
  have hK51 ac w q36 F37 u N β (S : St Tryz.prog Tryz.f3.ntmps w0 NoB u N β (σ4.dl [20] [(6, .v (slv (f_bareAct aList aA).1.length q36.1)), (7, .p 1 0)] 2 [(1, GT.cells (f_bareAct aList aA).2 ())]) ac w) (o35 : Ow w0 NoB u N F37 (f_bareAct aList aA).1 q36) (i34 : RTold (f_bareAct aList aA).2) : W 0 (mkL 11 [0, 1, 2, 3, 4, 5, 6, 7, 8, 9, 10]) ac w := by
   exact od hW ⟨rfl, q36, F37, _, _, _, S.z, o35, i34⟩
  have hK52 ac w q36 F37 u N β (S : St Tryz.prog Tryz.f3.ntmps w0 NoB u N β (σ4.dl [20] [(6, .v (slv (f_bareAct aList aA).1.length q36.1)), (7, .p 1 0), (28, .v (GT.val (f_bareAct aList aA).2 ()))] 2 [(1, Zc TTold)]) ac w) (o35 : Ow w0 NoB u N F37 (f_bareAct aList aA).1 q36) (i34 : RTold (f_bareAct aList aA).2) (hNN : NN N0 u0 N u) (hBB : BB σ4.bx.length β0 β) : W 1 (mkL 11 [0, 1, 2, 3, 4, 5, 6, 7, 8, 9]) ac w := by
   exact ox1 hW 10 (S.wl hW [] .nil fun _ _ _ S => hK51 _ _ q36 F37 _ _ _ S o35 i34)
  have hK53 ac w q32 F33 u N β (S : St Tryz.prog Tryz.f3.ntmps w0 NoB u N β (σ4.dl [20] [(27, .v (slv (f_bareAct aList aA).1.length q32.1)), (28, .v (GT.val (f_bareAct aList aA).2 ()))] 1 []) ac w) (o31 : Ow w0 NoB u N F33 (f_bareAct aList aA).1 q32) (i34 : RTold (f_bareAct aList aA).2) (hNN : NN N0 u0 N u) (hBB : BB σ4.bx.length β0 β) : W 3 (mkL 11 [0, 1, 2, 3, 4, 5, 6, 7]) ac w := by
   exact ox1 hW 8 (S.wq hW hNN hBB [9] .nil fun _ _ _ S hB => hK52 _ _ q32 F33 _ _ _ S o31 i34 hNN hB)
  have hK54 ac w q11 F12 u N β (S : St Tryz.prog Tryz.f3.ntmps w0 NoB u N β (σ4.dl [20] [(7, .p 1 0), (23, .v (slv aList.length q11.1)), (25, .v (GT.val aA ()))] 2 [(1, Zc TTold)]) ac w) (o10 : Ow w0 NoB u N F12 aList q11) (hNN : NN N0 u0 N u) (hBB : BB σ4.bx.length β0 β) : W 6 (mkL 11 [0, 1, 2, 3, 8]) ac w := by
   refine ox1 hW 4 ?_
   refine id (S.call2 (r := (f_bareAct aList aA).1) (r' := (f_bareAct aList aA).2) (d := 26) (c_spec_BareAct w aList q11 (S.rd o10.rn) aA haA) (by kernel_rfl) rfl fun ac w N q55 q56 F57 F58 S up o59 o60 d61 d62 d63 => ?_)
   have hb64 := fun b h => (⟨(up b (hNN b h).1).1, (up b (hNN b h).1).2.trans (hNN b h).2⟩ : _ ∧ _)
   refine WD.sc S hb64 hBB fun hC => ?_
   replace o10 := o10.up up
   clear up d61
   clear d62
   have i67 : RTold (f_bareAct aList aA).2 := o60.own
   exact S.wh hW [5, 6, 7, 9] hC fun _ S => hK52 _ _ q55 F57 _ _ _ S o59 i67 hb64 hBB
  have hK68 ac w q11 F12 u N β (S : St Tryz.prog Tryz.f3.ntmps w0 NoB u N β (σ4.dl [20] [(23, .v (slv aList.length q11.1)), (25, .v (GT.val aA ()))] 1 []) ac w) (o10 : Ow w0 NoB u N F12 aList q11) (hNN : NN N0 u0 N u) (hBB : BB σ4.bx.length β0 β) : W 7 (mkL 11 [0, 1, 2, 3]) ac w := by
   refine ox2 hW 4 8 ?_ (S.wq hW hNN hBB [] .nil fun _ _ _ S hB => hK54 _ _ q11 F12 _ _ _ S o10 hNN hB)
   refine id (S.call2 (r := (f_bareAct aList aA).1) (r' := (f_bareAct aList aA).2) (d := 26) (c_spec_BareAct w aList q11 (S.rd o10.rn) aA haA) (by kernel_rfl) rfl fun ac w N q69 q70 F71 F72 S up o73 o74 d75 d76 d77 => ?_)
   have hb78 := fun b h => (⟨(up b (hNN b h).1).1, (up b (hNN b h).1).2.trans (hNN b h).2⟩ : _ ∧ _)
   refine WD.sc S hb78 hBB fun hC => ?_
   replace o10 := o10.up up
   clear up d75
   clear d76
   have i81 : RTold (f_bareAct aList aA).2 := o74.own
   exact S.wh hW [5, 6, 7] hC fun _ S => hK53 _ _ q69 F71 _ _ _ S o73 i81 hb78 hBB
  have hK82 ac w q11 F12 u N β (S : St Tryz.prog Tryz.f3.ntmps w0 NoB u N β (σ4.dl [20] [(7, .p 1 0), (23, .v (slv aList.length q11.1)), (24, .v (GT.val aA ()))] 2 [(1, Zc TTold)]) ac w) (o10 : Ow w0 NoB u N F12 aList q11) (hNN : NN N0 u0 N u) (hBB : BB σ4.bx.length β0 β) : W 7 (mkL 11 [0, 1, 2, 8]) ac w := by
   exact ox1 hW 3 (S.wq hW hNN hBB [] (.cons (Q_call fun w hw => c_laws_toAct w aA) .nil) fun _ _ _ S hB => hK54 _ _ q11 F12 _ _ _ S o10 hNN hB)
  have hK83 ac w q11 F12 u N β (S : St Tryz.prog Tryz.f3.ntmps w0 NoB u N β (σ4.dl [20] [(23, .v (slv aList.length q11.1)), (24, .v (GT.val aA ()))] 1 []) ac w) (o10 : Ow w0 NoB u N F12 aList q11) (hNN : NN N0 u0 N u) (hBB : BB σ4.bx.length β0 β) : W 8 (mkL 11 [0, 1, 2]) ac w := by
   exact ox2 hW 3 8 (S.wq hW hNN hBB [] (.cons (Q_call fun w hw => c_laws_toAct w aA) .nil) fun _ _ _ S hB => hK68 _ _ q11 F12 _ _ _ S o10 hNN hB) (S.wq hW hNN hBB [] .nil fun _ _ _ S hB => hK82 _ _ q11 F12 _ _ _ S o10 hNN hB)
  have hK84 ac w u N β (S : St Tryz.prog Tryz.f3.ntmps w0 NoB u N β (σ4.dl [20] [(7, .p 1 0), (22, .v (slv aList.length paList.1)), (24, .v (GT.val aA ()))] 2 [(1, Zc TTold)]) ac w) (hNN : NN N0 u0 N u) (hBB : BB σ4.bx.length β0 β) : W 8 (mkL 11 [0, 2, 8]) ac w := by
   refine ox1 hW 1 ?_
   refine id (S.k1 23 (c_laws_toBareS w aList paList (S.rd (S.arg hkaList))) fun ac w N q85 F86 S up o87 d88 => ?_)
   have hb89 := fun b h => (⟨(up b (hNN b h).1).1, (up b (hNN b h).1).2.trans (hNN b h).2⟩ : _ ∧ _)
   refine WD.sc S hb89 hBB fun hC => ?_
   clear up d88
   exact S.wh hW [] hC fun _ S => hK82 _ _ q85 F86 _ _ _ S o87 hb89 hBB
  have hNN : NN N0 u0 N0 u0 := fun b h => ⟨h, rfl⟩
  have hBB : BB σ4.bx.length β0 β0 := fun _ _ => rfl
  refine ox2 hW 1 8 ?_ (S.wq hW hNN hBB [] .nil fun _ _ _ S hB => hK84 _ _ _ _ _ S hNN hB)
  refine id (S.k1 23 (c_laws_toBareS w aList paList (S.rd (S.arg hkaList))) fun ac w N q90 F91 S up o92 d93 => ?_)
  have hb94 := fun b h => (⟨(up b (hNN b h).1).1, (up b (hNN b h).1).2.trans (hNN b h).2⟩ : _ ∧ _)
  refine WD.sc S hb94 hBB fun hC => ?_
  clear up d93
  exact S.wh hW [] hC fun _ S => hK83 _ _ q90 F91 _ _ _ S o92 hb94 hBB
 clear S
 rintro ac w ⟨q36, F37, u, N, β, S, o35, i34⟩
 refine S.ex fun S => ?_
 refine S.go 4 .nil fun ac w β S => S.K1 (r := aList) (d := 30) (c_laws_toBareS w aList paList (S.rd (S.arg hkaList))) fun ac w N q95 F96 S up o97 d98 => ?_
 have d99 := Disj.w d98 o35.sub
 replace o35 := o35.up up
 clear up d98
 refine S.go 8 (.cons (Q_call fun w hw => c_laws_toAct w aA) .nil) fun ac w β S => S.K2 (r := (f_bareAct aList aA).1) (r' := (f_bareAct aList aA).2) (d := 35) (c_impl_BareAct w aList q95 (S.rd o97.rn) aA haA) fun ac w N q100 q101 F102 F103 S up o104 o105 d106 d107 d108 => ?_
 have d111 := Disj.w d106 o35.sub
 have d112 := Disj.w d106 o97.sub
 replace o35 := o35.up up
 replace o97 := o97.up up
 clear up d106
 clear d107
 refine S.gb 16 (.cons (Q_call fun w hw => c_laws_eqBareS w (f_bareAct aList aA).1 q100 (rd_of o104.rn hw) (f_bareAct aList aA).1 q36 (rd_of o35.rn hw)) .nil) (!(decide ((f_bareAct aList aA).1 = (f_bareAct aList aA).1))) (fun ac w β h113 S => ?_) (fun ac w β h113 S => ?_)
 ·have h114 := not_t h113
  have g115 := of_decide_eq_false h114
  exact S.gf 14 .nil [B false] (retB k0_laws_FnExactBareAct)
 have h116 := not_f h113
 have g117 := of_decide_eq_true h116
 refine S.gb 7 (.cons (Q_call fun w hw => c_laws_eqTold w (f_bareAct aList aA).2 (f_bareAct aList aA).2) .nil) (!(decide ((f_bareAct aList aA).2 = (f_bareAct aList aA).2))) (fun ac w β h118 S => ?_) (fun ac w β h118 S => ?_)
 ·have h119 := not_t h118
  have g120 := of_decide_eq_false h119
  exact S.gf 7 .nil [B false] (retB k0_laws_FnExactBareAct)
 have h121 := not_f h118
 have g122 := of_decide_eq_true h121
 refine S.go 8 .nil fun ac w β S => S.K1 (r := aList) (d := 50) (c_laws_toBareS w aList paList (S.rd (S.arg hkaList))) fun ac w N q123 F124 S up o125 d126 => ?_
 replace o35 := o35.up up
 replace o97 := o97.up up
 replace o104 := o104.up up
 clear up d126
 refine S.gb 4 (.cons (Q_call fun w hw => c_laws_eqBareS w aList q95 (rd_of o97.rn hw) aList q123 (rd_of o125.rn hw)) .nil) (!(decide (aList = aList))) (fun ac w β h130 S => ?_) (fun ac w β h130 S => ?_)
 ·have h131 := not_t h130
  have g132 := of_decide_eq_false h131
  exact S.gf 7 .nil [B false] (retB k0_laws_FnExactBareAct)
 have h133 := not_f h130
 have g134 := of_decide_eq_true h133
 refine S.go 12 .nil fun ac w β S => S.KX (hd := hdl) (d := 55) o97 (c_laws_markBareS w aList q95 F96 (S.ownw o97) (fun b hb => (S.sep b (o97.sub b hb)).1) 1 (by omega) (by omega)) fun ac w N q135 y136 k137 S up o138 c139 x140 b141 b142 => ?_
 replace o35 := o35.upF d99 up
 replace o104 := o104.upF (Disj.symm d112) up
 clear up
 refine S.gd 9 .nil (decide (k137 < 0)) (fun ac w β h143 g144 S => ?_) (fun ac w β h143 g144 S => ?_)
 ·exact S.gf 20 .nil [B false] (retB k0_laws_FnExactBareAct)
 refine S.go 6 (.cons (Q_call fun w hw => c_laws_eqBareS w (f_bareAct aList aA).1 q100 (rd_of o104.rn hw) (f_bareAct aList aA).1 q36 (rd_of o35.rn hw)) .nil) fun ac w β S => ?_
 refine S.lt 64 h113 fun S => ?_
 refine S.go 7 (.cons (Q_call fun w hw => c_laws_eqTold w (f_bareAct aList aA).2 (f_bareAct aList aA).2) .nil) fun ac w β S => ?_
 refine S.lt 69 h118 fun S => ?_
 have z153 := sz_bareAct aList aA o104.rn
 refine S.go 12 .nil fun ac w β S => S.KX (hd := hdl) (d := 72) o104 (c_laws_markBareS w (f_bareAct aList aA).1 q100 F102 (S.ownw o104) (fun b hb => (S.sep b (o104.sub b hb)).1) 1 (by omega) (by omega)) fun ac w N q145 y146 k147 S up o148 c149 x150 b151 b152 => ?_
 replace o35 := o35.upF d111 up
 clear up
 replace S := S.z (σ' := ⟨[(0, .v (slv aList.length paList.1)), (3, .p 0 0), (6, .v (slv (f_bareAct aList aA).1.length q36.1)), (7, .p 1 0), (9, .v (slv (f_bareAct aList aA).1.length q100.1)), (71, .v (I 1)), (72, .v (I k147))], [GT.cells aA (), GT.cells (f_bareAct aList aA).2 (), GT.cells (f_bareAct aList aA).2 ()]⟩)
 have hv : slv y146.length q145.1 = slv (f_bareAct aList aA).1.length q100.1 := (List.cons.inj c149).1
 replace S := S.cast (σ' := ⟨[(0, .v (slv aList.length paList.1)), (3, .p 0 0), (6, .v (slv (f_bareAct aList aA).1.length q36.1)), (7, .p 1 0), (9, .v (slv y146.length q145.1)), (71, .v (I 1)), (72, .v (I k147))], [GT.cells aA (), GT.cells (f_bareAct aList aA).2 (), GT.cells (f_bareAct aList aA).2 ()]⟩) (by rw [hv])
 clear hv
 refine S.is fun S => ?_
 refine S.gd 23 (.cons (Q_call fun w hw => c_laws_heldBareS w y146 q145 (rd_of o148.rn hw) 1) .nil) (decide ((hdl y146 1) < 0)) (fun ac w β h154 g155 S => ?_) (fun ac w β h154 g155 S => ?_)
 ·exact S.gf 7 .nil [B false] (retB k0_laws_FnExactBareAct)
 refine S.gd 11 .nil ((hdl y146 1) != k147) (fun ac w β h156 g157 S => ?_) (fun ac w β h156 g157 S => ?_)
 ·exact S.gf 7 .nil [B false] (retB k0_laws_FnExactBareAct)
 refine S.go 4 .nil fun ac w β S => ?_
 refine drw ?_
 let σ158 : Sy := ⟨[(0, .v (slv aList.length paList.1)), (3, .p 0 0), (6, .v (slv (f_bareAct aList aA).1.length q36.1)), (7, .p 1 0), (9, .v (slv y146.length q145.1)), (12, .v (I k147)), (80, .v (B false))], [GT.cells aA (), GT.cells (f_bareAct aList aA).2 (), GT.cells (f_bareAct aList aA).2 ()]⟩
 obtain ⟨u0, N0, β0, S, o35, o148⟩ : ∃ u0 N0 β0, St Tryz.prog Tryz.f3.ntmps w0 NoB u0 N0 β0 σ158 ac w ∧ Ow w0 NoB u0 N0 F37 (f_bareAct aList aA).1 q36 ∧ Ow w0 NoB u0 N0 F102 y146 q145 := ⟨_, _, _, S.z, o35, o148⟩
 refine wp_region_cut (fun ac w => ∃ q197 F198 u N β, St Tryz.prog Tryz.f3.ntmps w0 NoB u N β (σ158.dl [0, 3, 80] [(14, .v (slv (f_bareAct aList aA).1.length q197.1)), (15, .p 3 0)] 4 [(3, GT.cells (f_bareAct aList aA).2 ())]) ac w ∧ Ow w0 NoB u N F37 (f_bareAct aList aA).1 q36 ∧ Ow w0 NoB u N F102 y146 q145 ∧ Ow w0 NoB u N F198 (f_bareAct aList aA).1 q197 ∧ Disj F37 F198 ∧ Disj F102 F198 ∧ RTold (f_bareAct aList aA).2) ?_ ?_
 ·refine S.draw0 (f := 11) 10 (by kernel_rfl) (by kernel_rfl) fun w S => ?_
  refine S.hq 0 [0] [] [(82, .v (slv aList.length paList.1))] .nil fun ac S => ?_
  refine S.hq 2 [2] [] [(84, .v (GT.val aA ()))] .nil fun ac S => ?_
  refine WD.nameW fun W hW => ?_
  refine WD.castW (l' := mkL 11 [0, 2]) (by kernel_rfl) ?_
  have hK215 ac w q197 F198 u N β (S : St Tryz.prog Tryz.f3.ntmps w0 NoB u N β (σ158.dl [0, 3, 80] [(14, .v (slv (f_bareAct aList aA).1.length q197.1)), (15, .p 3 0)] 4 [(3, GT.cells (f_bareAct aList aA).2 ())]) ac w) (o35 : Ow w0 NoB u N F37 (f_bareAct aList aA).1 q36) (o148 : Ow w0 NoB u N F102 y146 q145) (o196 : Ow w0 NoB u N F198 (f_bareAct aList aA).1 q197) (d216 : Disj F37 F198) (d217 : Disj F102 F198) (i169 : RTold (f_bareAct aList aA).2) : W 0 (mkL 11 [0, 1, 2, 3, 4, 5, 6, 7, 8, 9, 10]) ac w := by
   exact od hW ⟨rfl, q197, F198, _, _, _, S.z, o35, o148, o196, d216, d217, i169⟩
  have hK218 ac w q197 F198 u N β (S : St Tryz.prog Tryz.f3.ntmps w0 NoB u N β (σ158.dl [0, 3, 80] [(14, .v (slv (f_bareAct aList aA).1.length q197.1)), (15, .p 3 0), (88, .v (GT.val (f_bareAct aList aA).2 ()))] 4 [(3, Zc TTold)]) ac w) (o35 : Ow w0 NoB u N F37 (f_bareAct aList aA).1 q36) (o148 : Ow w0 NoB u N F102 y146 q145) (o196 : Ow w0 NoB u N F198 (f_bareAct aList aA).1 q197) (d219 : Disj F37 F198) (d220 : Disj F102 F198) (i169 : RTold (f_bareAct aList aA).2) (hNN : NN N0 u0 N u) (hBB : BB σ158.bx.length β0 β) : W 1 (mkL 11 [0, 1, 2, 3, 4, 5, 6, 7, 8, 9]) ac w := by
   exact ox1 hW 10 (S.wl hW [] .nil fun _ _ _ S => hK215 _ _ q197 F198 _ _ _ S o35 o148 o196 d219 d220 i169)
  have hK221 ac w q194 F195 u N β (S : St Tryz.prog Tryz.f3.ntmps w0 NoB u N β (σ158.dl [0, 3, 80] [(87, .v (slv (f_bareAct aList aA).1.length q194.1)), (88, .v (GT.val (f_bareAct aList aA).2 ()))] 3 []) ac w) (o35 : Ow w0 NoB u N F37 (f_bareAct aList aA).1 q36) (o148 : Ow w0 NoB u N F102 y146 q145) (o193 : Ow w0 NoB u N F195 (f_bareAct aList aA).1 q194) (d222 : Disj F37 F195) (d223 : Disj F102 F195) (i169 : RTold (f_bareAct aList aA).2) (hNN : NN N0 u0 N u) (hBB : BB σ158.bx.length β0 β) : W 3 (mkL 11 [0, 1, 2, 3, 4, 5, 6, 7]) ac w := by
   exact ox1 hW 8 (S.wq hW hNN hBB [9] .nil fun _ _ _ S hB => hK218 _ _ q194 F195 _ _ _ S o35 o148 o193 d222 d223 i169 hNN hB)
  have hK224 ac w q167 F168 u N β (S : St Tryz.prog Tryz.f3.ntmps w0 NoB u N β (σ158.dl [0, 3, 80] [(15, .p 3 0), (83, .v (slv aList.length q167.1)), (85, .v (GT.val aA ()))] 4 [(3, Zc TTold)]) ac w) (o35 : Ow w0 NoB u N F37 (f_bareAct aList aA).1 q36) (o148 : Ow w0 NoB u N F102 y146 q145) (o166 : Ow w0 NoB u N F168 aList q167) (d225 : Disj F37 F168) (d226 : Disj F102 F168) (i169 : RTold (f_bareAct aList aA).2) (hNN : NN N0 u0 N u) (hBB : BB σ158.bx.length β0 β) : W 6 (mkL 11 [0, 1, 2, 3, 8]) ac w := by
   refine ox1 hW 4 ?_
   refine id (S.call2 (r := (f_bareAct aList aA).1) (r' := (f_bareAct aList aA).2) (d := 86) (c_impl_BareAct w aList q167 (S.rd o166.rn) aA haA) (by kernel_rfl) rfl fun ac w N q227 q228 F229 F230 S up o231 o232 d233 d234 d235 => ?_)
   have hb236 := fun b h => (⟨(up b (hNN b h).1).1, (up b (hNN b h).1).2.trans (hNN b h).2⟩ : _ ∧ _)
   refine WD.sc S hb236 hBB fun hC => ?_
   have d240 := Disj.w d233 o35.sub
   have d241 := Disj.w d233 o148.sub
   replace o35 := o35.up up
   replace o148 := o148.up up
   replace o166 := o166.up up
   clear up d233
   clear d234
   exact S.wh hW [5, 6, 7, 9] hC fun _ S => hK218 _ _ q227 F229 _ _ _ S o35 o148 o231 d240 d241 i169 hb236 hBB
  have hK243 ac w q167 F168 u N β (S : St Tryz.prog Tryz.f3.ntmps w0 NoB u N β (σ158.dl [0, 3, 80] [(83, .v (slv aList.length q167.1)), (85, .v (GT.val aA ()))] 3 []) ac w) (o35 : Ow w0 NoB u N F37 (f_bareAct aList aA).1 q36) (o148 : Ow w0 NoB u N F102 y146 q145) (o166 : Ow w0 NoB u N F168 aList q167) (d244 : Disj F37 F168) (d245 : Disj F102 F168) (i169 : RTold (f_bareAct aList aA).2) (hNN : NN N0 u0 N u) (hBB : BB σ158.bx.length β0 β) : W 7 (mkL 11 [0, 1, 2, 3]) ac w := by
   refine ox2 hW 4 8 ?_ (S.wq hW hNN hBB [] .nil fun _ _ _ S hB => hK224 _ _ q167 F168 _ _ _ S o35 o148 o166 d244 d245 i169 hNN hB)
   refine id (S.call2 (r := (f_bareAct aList aA).1) (r' := (f_bareAct aList aA).2) (d := 86) (c_impl_BareAct w aList q167 (S.rd o166.rn) aA haA) (by kernel_rfl) rfl fun ac w N q246 q247 F248 F249 S up o250 o251 d252 d253 d254 => ?_)
   have hb255 := fun b h => (⟨(up b (hNN b h).1).1, (up b (hNN b h).1).2.trans (hNN b h).2⟩ : _ ∧ _)
   refine WD.sc S hb255 hBB fun hC => ?_
   have d259 := Disj.w d252 o35.sub
   have d260 := Disj.w d252 o148.sub
   replace o35 := o35.up up
   replace o148 := o148.up up
   replace o166 := o166.up up
   clear up d252
   clear d253
   exact S.wh hW [5, 6, 7] hC fun _ S => hK221 _ _ q246 F248 _ _ _ S o35 o148 o250 d259 d260 i169 hb255 hBB
  have hK262 ac w q167 F168 u N β (S : St Tryz.prog Tryz.f3.ntmps w0 NoB u N β (σ158.dl [0, 3, 80] [(15, .p 3 0), (83, .v (slv aList.length q167.1)), (84, .v (GT.val aA ()))] 4 [(3, Zc TTold)]) ac w) (o35 : Ow w0 NoB u N F37 (f_bareAct aList aA).1 q36) (o148 : Ow w0 NoB u N F102 y146 q145) (o166 : Ow w0 NoB u N F168 aList q167) (d263 : Disj F37 F168) (d264 : Disj F102 F168) (i169 : RTold (f_bareAct aList aA).2) (hNN : NN N0 u0 N u) (hBB : BB σ158.bx.length β0 β) : W 7 (mkL 11 [0, 1, 2, 8]) ac w := by
   exact ox1 hW 3 (S.wq hW hNN hBB [] (.cons (Q_call fun w hw => c_laws_toAct w aA) .nil) fun _ _ _ S hB => hK224 _ _ q167 F168 _ _ _ S o35 o148 o166 d263 d264 i169 hNN hB)
  have hK265 ac w q167 F168 u N β (S : St Tryz.prog Tryz.f3.ntmps w0 NoB u N β (σ158.dl [0, 3, 80] [(83, .v (slv aList.length q167.1)), (84, .v (GT.val aA ()))] 3 []) ac w) (o35 : Ow w0 NoB u N F37 (f_bareAct aList aA).1 q36) (o148 : Ow w0 NoB u N F102 y146 q145) (o166 : Ow w0 NoB u N F168 aList q167) (d266 : Disj F37 F168) (d267 : Disj F102 F168) (i169 : RTold (f_bareAct aList aA).2) (hNN : NN N0 u0 N u) (hBB : BB σ158.bx.length β0 β) : W 8 (mkL 11 [0, 1, 2]) ac w := by
   exact ox2 hW 3 8 (S.wq hW hNN hBB [] (.cons (Q_call fun w hw => c_laws_toAct w aA) .nil) fun _ _ _ S hB => hK243 _ _ q167 F168 _ _ _ S o35 o148 o166 d266 d267 i169 hNN hB) (S.wq hW hNN hBB [] .nil fun _ _ _ S hB => hK262 _ _ q167 F168 _ _ _ S o35 o148 o166 d266 d267 i169 hNN hB)
  have hK268 ac w u N β (S : St Tryz.prog Tryz.f3.ntmps w0 NoB u N β (σ158.dl [0, 3, 80] [(15, .p 3 0), (82, .v (slv aList.length paList.1)), (84, .v (GT.val aA ()))] 4 [(3, Zc TTold)]) ac w) (o35 : Ow w0 NoB u N F37 (f_bareAct aList aA).1 q36) (o148 : Ow w0 NoB u N F102 y146 q145) (i169 : RTold (f_bareAct aList aA).2) (hNN : NN N0 u0 N u) (hBB : BB σ158.bx.length β0 β) : W 8 (mkL 11 [0, 2, 8]) ac w := by
   refine ox1 hW 1 ?_
   refine id (S.k1 83 (c_laws_toBareS w aList paList (S.rd (S.arg hkaList))) fun ac w N q269 F270 S up o271 d272 => ?_)
   have hb273 := fun b h => (⟨(up b (hNN b h).1).1, (up b (hNN b h).1).2.trans (hNN b h).2⟩ : _ ∧ _)
   refine WD.sc S hb273 hBB fun hC => ?_
   have d274 := Disj.w d272 o35.sub
   have d275 := Disj.w d272 o148.sub
   replace o35 := o35.up up
   replace o148 := o148.up up
   clear up d272
   exact S.wh hW [] hC fun _ S => hK262 _ _ q269 F270 _ _ _ S o35 o148 o271 d274 d275 i169 hb273 hBB
  have hNN : NN N0 u0 N0 u0 := fun b h => ⟨h, rfl⟩
  have hBB : BB σ158.bx.length β0 β0 := fun _ _ => rfl
  refine ox2 hW 1 8 ?_ (S.wq hW hNN hBB [] .nil fun _ _ _ S hB => hK268 _ _ _ _ _ S o35 o148 i34 hNN hB)
  refine id (S.k1 83 (c_laws_toBareS w aList paList (S.rd (S.arg hkaList))) fun ac w N q276 F277 S up o278 d279 => ?_)
  have hb280 := fun b h => (⟨(up b (hNN b h).1).1, (up b (hNN b h).1).2.trans (hNN b h).2⟩ : _ ∧ _)
  refine WD.sc S hb280 hBB fun hC => ?_
  have d281 := Disj.w d279 o35.sub
  have d282 := Disj.w d279 o148.sub
  replace o35 := o35.up up
  replace o148 := o148.up up
  clear up d279
  exact S.wh hW [] hC fun _ S => hK265 _ _ q276 F277 _ _ _ S o35 o148 o278 d281 d282 i34 hb280 hBB
 clear S o35 o148
 rintro ac w ⟨q197, F198, u, N, β, S, o35, o148, o196, d283, d284, i169⟩
 refine S.ex fun S => ?_
 refine S.go 9 (.cons (Q_call fun w hw => c_laws_eqBareS w (f_bareAct aList aA).1 q197 (rd_of o196.rn hw) (f_bareAct aList aA).1 q36 (rd_of o35.rn hw)) .nil) fun ac w β S => ?_
 refine S.lt 93 h113 fun S => ?_
 refine S.go 7 (.cons (Q_call fun w hw => c_laws_eqTold w (f_bareAct aList aA).2 (f_bareAct aList aA).2) .nil) fun ac w β S => ?_
 refine S.lt 98 h118 fun S => ?_
 refine S.go 23 (.cons (Q_call fun w hw => c_laws_heldBareS w y146 q145 (rd_of o148.rn hw) 1) .nil) fun ac w β S => ?_
 refine S.lt 103 h154 fun S => ?_
 refine S.go 11 .nil fun ac w β S => ?_
 refine S.lt 106 h156 fun S => ?_
 exact S.gf 9 .nil [B true] (retB k0_laws_FnExactBareAct)

end Go.Proofs.YtlpaefknpmdaoaaGreat
