/- The walks: what each function that the laws reach computes (part 4). -/
import Derived.Test.YtklppedmchbdmaaGreatW3
import Derived.Test.YtklppedmchbdmaaGreatProg
import Derived.KernelRfl
namespace Go.Proofs.YtklppedmchbdmaaGreat
open Go
set_option linter.unusedVariables false
set_option linter.unusedSimpArgs false

set_option maxRecDepth 100000 in
theorem c_laws_markIntS (w0 : World) (a : List Int) (pa : LP Int) (F : Bl) (ha : GT.own KK F w0 a pa) (hF : ∀ b, F b → b < w0.heap.size) (k : Int) (pre0 : 0 ≤ k) (pre1 : k + 16 * (SZ.sz a : Int) ≤ 4611686018427387904) : Calls Tryz.prog 77 [slv (a).length pa.1, I k].toArray w0 (RetX hdl F w0 pa a k) := by
 refine Calls.walk (args := [slv (a).length pa.1, I k]) F Tryz.func77 rfl rfl ?_
 intro ac β S
 have oa : Ow w0 F w0 (Lt w0.heap.size) F a pa := ⟨ha, hF, fun b hb => .inr hb⟩
 have hz := szl_Int a
 have hlea : a.length ≤ 4194304 := LOwn.le ha
 refine ws (rg ?_)
 refine S.qe 1 [] [] ?_; clear S; intro ac w β S
 refine (nt (ws (ws (rg ?_))))
 refine S.qe 1 [] [(5, .v (I 0))] ?_; clear S; intro ac w β S
 refine (nt (wp_block ?_))
 refine wp_loop_down (fun mm ac w => ∃ (i : Nat) (acc : List Int) (j : Int) (q1 : GT.Ptr (List Int)) (F2 : Bl) (u : World) (N : Bl) (β : Nat → Nat), mm = a.length - i ∧ (i ≤ a.length) ∧ (acc = f_marksInt i k ++ a.drop i) ∧ (j = k + 1 * (i : Int)) ∧ St Tryz.prog Tryz.f77.ntmps w0 F u N β ⟨[(0, .v (slv a.length q1.1)), (1, .v (I j)), (5, .v (I (i : Int)))], []⟩ ac w ∧ Ow w0 F u N F2 acc q1 ∧ q1.1 = pa.1 ∧ (∀ b, F2 b → F b)) _ ⟨0, a, k, pa, F, _, _, _, rfl, (by first | omega | (simp; done) | (simp; omega)), (by simp [f_marksInt]), (by simp), S.z, oa, rfl, (fun _ h => h)⟩ ?_
 clear S oa
 rintro mm ac w ⟨i, acc, j, q1, F2, u, N, β, rfl, hi, hacc, hj, S, o3, hq, hs⟩
 have hlacc : acc.length = a.length := by rw [hacc]; simp [f_marksInt]; omega
 refine ws (ws (rg ?_))
 refine S.qe 4 [] [(9, .v (B (decide ((i : Int) < (a.length : Int)))))] ?_; clear S; intro ac w β S
 refine (nt (S.c (decide ((i : Int) < (a.length : Int))) (fun h4 => ?_) (fun h4 => ?_)))
 ·have g5 := of_decide_eq_true h4
  refine wk (nt (ws (wp_block (ws (rg ?_)))))
  refine S.qb 4 [] [(14, .v (I j)), (15, .v (pt q1.1.b (q1.1.off + i * 1)))] (.cons (Q_idx o3.rn (l := a.length) (k := i) (i := (i : Int)) (by rw [hacc]; simp [f_marksInt]; omega) rfl (by omega) Tryz.underlying50 (by kernel_rfl)) .nil) ?_; clear S; intro ac w β S
  refine RG.op rfl (S.setEl (α := Int) o3 (t := 3) (v := I j) (k := i) (j := 0) (off := q1.1.off + i * 1) (y := j) (q := ()) (Fy := NoB) (by kernel_rfl) (by kernel_rfl) (by omega) (by kernel_rfl) (by kernel_rfl) (Nat.le_of_ble_eq_true (by kernel_rfl)) (by kernel_rfl) (fun _ _ _ => ⟨NoB, ⟨by omega, by omega⟩, fun _ h => False.elim h⟩) (fun b _ h => False.elim h) (fun b h => False.elim h) (fun b h => False.elim h) ?_)
  clear S; intro w N F7 q8 S up o6 d9 s10 n11
  have s12 : ∀ b, F7 b → F b := fun b h => (s10 b h).elim (hs b) (fun h => False.elim h)
  clear up d9 o3 n11
  have l13 : (acc.set i j).length = (acc).length := List.length_set
  refine rd (nt (rg ?_))
  refine S.qg 3 [] [(1, .v (I (j + 1)))] (.cons (Q_add (x := j) (y := 1) ⟨by omega, by omega⟩) .nil) ?_; clear S; intro ac w β S
  refine (nb (nt (rg ?_)))
  refine S.qg 3 [] [(5, .v (I ((i : Int) + 1)))] (.cons (Q_add (x := (i : Int)) (y := 1) ⟨by omega, by omega⟩) .nil) ?_; clear S; intro ac w β S
  refine (nt ?_)
  refine ⟨a.length - (i + 1), by omega, i + 1, (acc.set i j), (j + 1), (q1.1, q8), F7, _, _, _, rfl, ?_, ?_, ?_, S.z, o6, hq, s12⟩
  ·clear S; first | omega | (simp [*]; done) | (simp [*]; omega)
  ·clear S; (have hlt : i < acc.length := (by omega)); rw [hacc, ← marksInt_step (by omega) hj]; (first | rfl | (simp [g_markInt, Int.add_assoc]; done))
  ·clear S; omega
 ·have g14 := of_decide_eq_false h4
  refine wp_exit (ex_then (ex_then (ex_hit (nt (ws (rg ?_))))))
  refine S.qe 2 [] [(4, .v (I j))] ?_; clear S; intro ac w β S
  refine (nt (wr (S.r [I j] ?_)))
  have hyd : hdl acc k = j := by clear S; (have e : i = a.length := (by omega)); subst e; rw [hacc, List.drop_length, List.append_nil, hj]; exact hd_marksInt k (by omega) _ (by omega) id
  have hyb : k ≤ j ∧ j ≤ k + 16 * ((SZ.sz a : Nat) : Int) := by clear S; skip; constructor <;> omega
  exact retX_of S hyd hyb.1 hyb.2 (by show [slv _ _] = [slv _ _]; rw [hlacc, hq]) o3 hs

set_option maxRecDepth 100000 in
theorem c_laws_markIntSS (w0 : World) (a : List (List Int)) (pa : LP (List Int)) (F : Bl) (ha : GT.own KK F w0 a pa) (hF : ∀ b, F b → b < w0.heap.size) (k : Int) (pre0 : 0 ≤ k) (pre1 : k + 16 * (SZ.sz a : Int) ≤ 4611686018427387904) : Calls Tryz.prog 39 [slv (a).length pa.1, I k].toArray w0 (RetX hdl F w0 pa a k) := by
 refine Calls.walk (args := [slv (a).length pa.1, I k]) F Tryz.func39 rfl rfl ?_
 intro ac β S
 have oa : Ow w0 F w0 (Lt w0.heap.size) F a pa := ⟨ha, hF, fun b hb => .inr hb⟩
 have hz := sz_list a
 have hlea : a.length ≤ 4194304 := LOwn.le ha
 refine ws (rg ?_)
 refine S.qe 1 [] [] ?_; clear S; intro ac w β S
 refine (nt (ws (ws (rg ?_))))
 refine S.qe 1 [] [(5, .v (I 0))] ?_; clear S; intro ac w β S
 refine (nt (wp_block ?_))
 refine wp_loop_down (fun mm ac w => ∃ (i : Nat) (acc : List (List Int)) (j : Int) (q1 : GT.Ptr (List (List Int))) (F2 : Bl) (u : World) (N : Bl) (β : Nat → Nat), mm = a.length - i ∧ (i ≤ a.length) ∧ (acc.length = a.length) ∧ (∀ f, hdlc (acc.take i) k f = f j) ∧ (acc.drop i = a.drop i) ∧ (k ≤ j) ∧ (j ≤ k + 16 * ((i : Int) + (szsum (a.take i) : Nat))) ∧ St Tryz.prog Tryz.f39.ntmps w0 F u N β ⟨[(0, .v (slv a.length q1.1)), (1, .v (I j)), (5, .v (I (i : Int)))], []⟩ ac w ∧ Ow w0 F u N F2 acc q1 ∧ q1.1 = pa.1 ∧ (∀ b, F2 b → F b)) _ ⟨0, a, k, pa, F, _, _, _, rfl, (by first | omega | (simp; done) | (simp; omega)), (by rfl), (by intro f; rfl), (by rfl), (by first | omega | (simp; done) | (simp; omega)), (by simp [szsum_nil]), S.z, oa, rfl, (fun _ h => h)⟩ ?_
 clear S oa
 rintro mm ac w ⟨i, acc, j, q1, F2, u, N, β, rfl, hi, hl, hM, hD, hj0, hj1, S, o3, hq, hs⟩
 have hel := el_of_drop hD
 have hsl := szsum_take_le a i
 refine ws (ws (rg ?_))
 refine S.qe 4 [] [(9, .v (B (decide ((i : Int) < (a.length : Int)))))] ?_; clear S; intro ac w β S
 refine (nt (S.c (decide ((i : Int) < (a.length : Int))) (fun h4 => ?_) (fun h4 => ?_)))
 ·have g5 := of_decide_eq_true h4
  refine wk (nt (ws (wp_block (rg ?_))))
  refine S.qb 5 [] [(15, .v (slv ((el acc i)).length (q1.2 i).1)), (16, .v (I j))] (.cons (Q_idx o3.rn (l := a.length) (k := i) (i := (i : Int)) (by omega) rfl (by omega) Tryz.underlying22 (by kernel_rfl)) (.cons (Q_el1 o3.rn (t := 50) (k := i) (by omega) rfl (by kernel_rfl)) .nil)) ?_; clear S; intro ac w β S
  obtain ⟨F6, o7, s8, b9⟩ := foc_id o3 (k := i) (show i < (acc).length by omega)
  have z10 := szsum_take (xs := a) (k := i) (by omega)
  have z11 := szsum_take_le a (i + 1)
  have e12 : (el acc i) = el a i := by simp only [hel]
  refine RG.op rfl (S.callX (hd := hdl) (d := 17) o7 (c_laws_markIntS w (el acc i) (q1.2 i) F6 (S.ownw o7) (fun b hb => (S.sep b (o7.sub b hb)).1) j (by omega) (by rw [e12]; omega)) (by kernel_rfl) rfl ?_)
  clear S; intro ac w N q13 y14 k15 S up o16 c17 x18 b19 b20
  rw [e12] at b20
  obtain ⟨p21, o22⟩ := b9 _ _ _ _ up o16 c17
  clear up o3 o7 s8 b9 o16 c17
  obtain ⟨a23, e24⟩ : ∃ z, z = (acc).set i (y14) := ⟨_, rfl⟩
  rw [← e24] at o22
  have l25 : a23.length = (acc).length := by rw [e24]; exact List.length_set
  have e26 : el a23 i = y14 := by rw [e24]; exact el_set_self (show i < (acc).length by omega)
  have t27 : a23.take i = (acc).take i := by rw [e24]; exact take_set_self
  have d28 : a23.drop (i + 1) = (acc).drop (i + 1) := by rw [e24]; exact drop_set_self
  clear e24
  refine S.qe 1 [] [(1, .v (I k15))] ?_; clear S; intro ac w β S
  refine (nb (nt (rg ?_)))
  refine S.qg 3 [] [(5, .v (I ((i : Int) + 1)))] (.cons (Q_add (x := (i : Int)) (y := 1) ⟨by omega, by omega⟩) .nil) ?_; clear S; intro ac w β S
  refine (nt ?_)
  refine ⟨a.length - (i + 1), by omega, i + 1, a23, k15, (q1.1, p21), F2, _, _, _, rfl, ?_, ?_, ?_, ?_, ?_, ?_, S.z, o22, hq, hs⟩
  ·clear S; first | omega | (simp [*]; done) | (simp [*]; omega)
  ·clear S; omega
  ·clear S; refine mk_step (acc := a23) (by omega) (by intro f; rw [t27]; exact hM f) ?_; intro f; simp (disch := first | omega | rfl) only [he_list, he_list, e26, x18, hdc_pos, hdi_eq, hdb_eq]
  ·clear S; rw [d28]; exact drop_more hD
  ·clear S; omega
  ·clear S; omega
 ·have g29 := of_decide_eq_false h4
  refine wp_exit (ex_then (ex_then (ex_hit (nt (ws (rg ?_))))))
  refine S.qe 2 [] [(4, .v (I j))] ?_; clear S; intro ac w β S
  refine (nt (wr (S.r [I j] ?_)))
  have hyd : hdl acc k = j := by clear S; exact mk_end (by omega) hM
  have hyb : k ≤ j ∧ j ≤ k + 16 * ((SZ.sz a : Nat) : Int) := by clear S; have hs2 := szsum_take_le a i; constructor <;> omega
  exact retX_of S hyd hyb.1 hyb.2 (by show [slv _ _] = [slv _ _]; rw [hl, hq]) o3 hs

set_option maxRecDepth 100000 in
theorem c_laws_markSlotS (w0 : World) (a : List TSlot) (pa : LP TSlot) (F : Bl) (ha : GT.own KK F w0 a pa) (hF : ∀ b, F b → b < w0.heap.size) (k : Int) (pre0 : 0 ≤ k) (pre1 : k + 16 * (SZ.sz a : Int) ≤ 4611686018427387904) : Calls Tryz.prog 78 [slv (a).length pa.1, I k].toArray w0 (RetX hdl F w0 pa a k) := by
 refine Calls.walk (args := [slv (a).length pa.1, I k]) F Tryz.func78 rfl rfl ?_
 intro ac β S
 have oa : Ow w0 F w0 (Lt w0.heap.size) F a pa := ⟨ha, hF, fun b hb => .inr hb⟩
 have hz := szl_TSlot a
 have hlea : a.length ≤ 4194304 := LOwn.le ha
 refine ws (rg ?_)
 refine S.qe 1 [] [] ?_; clear S; intro ac w β S
 refine (nt (ws (ws (rg ?_))))
 refine S.qe 1 [] [(5, .v (I 0))] ?_; clear S; intro ac w β S
 refine (nt (wp_block ?_))
 refine wp_loop_down (fun mm ac w => ∃ (i : Nat) (acc : List TSlot) (j : Int) (q1 : GT.Ptr (List TSlot)) (F2 : Bl) (u : World) (N : Bl) (β : Nat → Nat), mm = a.length - i ∧ (i ≤ a.length) ∧ (acc = f_marksSlot i k ++ a.drop i) ∧ (j = k + 2 * (i : Int)) ∧ St Tryz.prog Tryz.f78.ntmps w0 F u N β ⟨[(0, .v (slv a.length q1.1)), (1, .v (I j)), (5, .v (I (i : Int)))], []⟩ ac w ∧ Ow w0 F u N F2 acc q1 ∧ q1.1 = pa.1 ∧ (∀ b, F2 b → F b)) _ ⟨0, a, k, pa, F, _, _, _, rfl, (by first | omega | (simp; done) | (simp; omega)), (by simp [f_marksSlot]), (by simp), S.z, oa, rfl, (fun _ h => h)⟩ ?_
 clear S oa
 rintro mm ac w ⟨i, acc, j, q1, F2, u, N, β, rfl, hi, hacc, hj, S, o3, hq, hs⟩
 have hlacc : acc.length = a.length := by rw [hacc]; simp [f_marksSlot]; omega
 refine ws (ws (rg ?_))
 refine S.qe 4 [] [(9, .v (B (decide ((i : Int) < (a.length : Int)))))] ?_; clear S; intro ac w β S
 refine (nt (S.c (decide ((i : Int) < (a.length : Int))) (fun h4 => ?_) (fun h4 => ?_)))
 ·have g5 := of_decide_eq_true h4
  refine wk (nt (ws (wp_block (ws (rg ?_)))))
  refine S.qb 5 [] [(14, .v (I j)), (16, .v (pt q1.1.b (q1.1.off + i * 2)))] (.cons (Q_idx o3.rn (l := a.length) (k := i) (i := (i : Int)) (by rw [hacc]; simp [f_marksSlot]; omega) rfl (by omega) Tryz.underlying47 (by kernel_rfl)) .nil) ?_; clear S; intro ac w β S
  have e6 : RSlot (el acc i) := (LRd.el o3.rn i (by omega))
  refine RG.op rfl (S.setEl (α := TSlot) o3 (t := 3) (v := I j) (k := i) (j := 0) (off := q1.1.off + i * 2) (y := (⟨j, (el acc i).rights⟩ : TSlot)) (q := ()) (Fy := NoB) (by kernel_rfl) (by kernel_rfl) (by omega) (by kernel_rfl) (by kernel_rfl) (Nat.le_of_ble_eq_true (by kernel_rfl)) (by kernel_rfl) (fun _ _ _ => ⟨NoB, (show RSlot (⟨j, (el acc i).rights⟩ : TSlot) from ⟨(show In64 j from ⟨by omega, by omega⟩), (RSlot.rights (d := (el acc i)) e6)⟩), fun _ h => False.elim h⟩) (fun b _ h => False.elim h) (fun b h => False.elim h) (fun b h => False.elim h) ?_)
  clear S; intro w N F8 q9 S up o7 d10 s11 n12
  have s13 : ∀ b, F8 b → F b := fun b h => (s11 b h).elim (hs b) (fun h => False.elim h)
  clear up d10 o3 n12
  have l14 : (acc.set i (⟨j, (el acc i).rights⟩ : TSlot)).length = (acc).length := List.length_set
  refine rd (nt (ws (rg ?_)))
  refine S.qg 3 [] [(1, .v (I (j + 1)))] (.cons (Q_add (x := j) (y := 1) ⟨by omega, by omega⟩) .nil) ?_; clear S; intro ac w β S
  refine (nt (ws (rg ?_)))
  refine S.qb 5 [] [(21, .v (I (j + 1))), (23, .v (pt q1.1.b (q1.1.off + i * 2 + 1)))] (.cons (Q_idx o7.rn (l := a.length) (k := i) (i := (i : Int)) (by rw [List.length_set]; exact (by rw [hacc]; simp [f_marksSlot]; omega)) rfl (by omega) Tryz.underlying47 (by kernel_rfl)) .nil) ?_; clear S; intro ac w β S
  refine RG.op rfl (S.setEl (α := TSlot) o7 (t := 3) (v := I (j + 1)) (k := i) (j := 1) (off := q1.1.off + i * 2 + 1) (y := (⟨j, (j + 1)⟩ : TSlot)) (q := ()) (Fy := NoB) (by kernel_rfl) (by kernel_rfl) (by omega) (by kernel_rfl) (by kernel_rfl) (Nat.le_of_ble_eq_true (by kernel_rfl)) (by rw [el_set_self (show i < (acc).length by omega)]; kernel_rfl) (fun _ _ _ => ⟨NoB, (show RSlot (⟨j, (j + 1)⟩ : TSlot) from ⟨(show In64 j from ⟨by omega, by omega⟩), (show In64 (j + 1) from ⟨by omega, by omega⟩)⟩), fun _ h => False.elim h⟩) (fun b _ h => False.elim h) (fun b h => False.elim h) (fun b h => False.elim h) ?_)
  clear S; intro w N F16 q17 S up o15 d18 s19 n20
  have s21 : ∀ b, F16 b → F b := fun b h => (s19 b h).elim (s13 b) (fun h => False.elim h)
  clear up d18 o7 n20
  rw [List.set_set] at o15
  have l22 : (acc.set i (⟨j, (j + 1)⟩ : TSlot)).length = (acc).length := List.length_set
  refine rd (nt (rg ?_))
  refine S.qg 3 [] [(1, .v (I ((j + 1) + 1)))] (.cons (Q_add (x := (j + 1)) (y := 1) ⟨by omega, by omega⟩) .nil) ?_; clear S; intro ac w β S
  refine (nb (nt (rg ?_)))
  refine S.qg 3 [] [(5, .v (I ((i : Int) + 1)))] (.cons (Q_add (x := (i : Int)) (y := 1) ⟨by omega, by omega⟩) .nil) ?_; clear S; intro ac w β S
  refine (nt ?_)
  refine ⟨a.length - (i + 1), by omega, i + 1, (acc.set i (⟨j, (j + 1)⟩ : TSlot)), ((j + 1) + 1), (q1.1, q17), F16, _, _, _, rfl, ?_, ?_, ?_, S.z, o15, hq, s21⟩
  ·clear S; first | omega | (simp [*]; done) | (simp [*]; omega)
  ·clear S; (have hlt : i < acc.length := (by omega)); rw [hacc, ← marksSlot_step (by omega) hj]; (first | rfl | (simp [g_markSlot, Int.add_assoc]; done))
  ·clear S; omega
 ·have g23 := of_decide_eq_false h4
  refine wp_exit (ex_then (ex_then (ex_hit (nt (ws (rg ?_))))))
  refine S.qe 2 [] [(4, .v (I j))] ?_; clear S; intro ac w β S
  refine (nt (wr (S.r [I j] ?_)))
  have hyd : hdl acc k = j := by clear S; (have e : i = a.length := (by omega)); subst e; rw [hacc, List.drop_length, List.append_nil, hj]; exact hd_marksSlot k (by omega) _ (by omega) id
  have hyb : k ≤ j ∧ j ≤ k + 16 * ((SZ.sz a : Nat) : Int) := by clear S; skip; constructor <;> omega
  exact retX_of S hyd hyb.1 hyb.2 (by show [slv _ _] = [slv _ _]; rw [hlacc, hq]) o3 hs

set_option maxRecDepth 100000 in
theorem c_laws_markBoolS (w0 : World) (a : List Bool) (pa : LP Bool) (F : Bl) (ha : GT.own KK F w0 a pa) (hF : ∀ b, F b → b < w0.heap.size) (k : Int) (pre0 : 0 ≤ k) (pre1 : k + 16 * (SZ.sz a : Int) ≤ 4611686018427387904) : Calls Tryz.prog 79 [slv (a).length pa.1, I k].toArray w0 (RetX hdl F w0 pa a k) := by
 refine Calls.walk (args := [slv (a).length pa.1, I k]) F Tryz.func79 rfl rfl ?_
 intro ac β S
 have oa : Ow w0 F w0 (Lt w0.heap.size) F a pa := ⟨ha, hF, fun b hb => .inr hb⟩
 have hz := szl_Bool a
 have hlea : a.length ≤ 4194304 := LOwn.le ha
 refine ws (rg ?_)
 refine S.qe 1 [] [] ?_; clear S; intro ac w β S
 refine (nt (ws (ws (rg ?_))))
 refine S.qe 1 [] [(5, .v (I 0))] ?_; clear S; intro ac w β S
 refine (nt (wp_block ?_))
 refine wp_loop_down (fun mm ac w => ∃ (i : Nat) (acc : List Bool) (j : Int) (q1 : GT.Ptr (List Bool)) (F2 : Bl) (u : World) (N : Bl) (β : Nat → Nat), mm = a.length - i ∧ (i ≤ a.length) ∧ (acc = f_marksBool i k ++ a.drop i) ∧ (j = k + 1 * (i : Int)) ∧ St Tryz.prog Tryz.f79.ntmps w0 F u N β ⟨[(0, .v (slv a.length q1.1)), (1, .v (I j)), (5, .v (I (i : Int)))], []⟩ ac w ∧ Ow w0 F u N F2 acc q1 ∧ q1.1 = pa.1 ∧ (∀ b, F2 b → F b)) _ ⟨0, a, k, pa, F, _, _, _, rfl, (by first | omega | (simp; done) | (simp; omega)), (by simp [f_marksBool]), (by simp), S.z, oa, rfl, (fun _ h => h)⟩ ?_
 clear S oa
 rintro mm ac w ⟨i, acc, j, q1, F2, u, N, β, rfl, hi, hacc, hj, S, o3, hq, hs⟩
 have hlacc : acc.length = a.length := by rw [hacc]; simp [f_marksBool]; omega
 refine ws (ws (rg ?_))
 refine S.qe 4 [] [(9, .v (B (decide ((i : Int) < (a.length : Int)))))] ?_; clear S; intro ac w β S
 refine (nt (S.c (decide ((i : Int) < (a.length : Int))) (fun h4 => ?_) (fun h4 => ?_)))
 ·have g5 := of_decide_eq_true h4
  refine wk (nt (ws (wp_block (ws (rg ?_)))))
  refine S.qb 6 [] [(16, .v (B ((Int.tmod j 3) == 0))), (17, .v (pt q1.1.b (q1.1.off + i * 1)))] (.cons (Q_rem (x := j) (y := 3) (by decide)) (.cons (Q_idx o3.rn (l := a.length) (k := i) (i := (i : Int)) (by rw [hacc]; simp [f_marksBool]; omega) rfl (by omega) Tryz.underlying48 (by kernel_rfl)) .nil)) ?_; clear S; intro ac w β S
  refine RG.op rfl (S.setEl (α := Bool) o3 (t := 4) (v := B ((Int.tmod j 3) == 0)) (k := i) (j := 0) (off := q1.1.off + i * 1) (y := ((Int.tmod j 3) == 0)) (q := ()) (Fy := NoB) (by kernel_rfl) (by kernel_rfl) (by omega) (by kernel_rfl) (by kernel_rfl) (Nat.le_of_ble_eq_true (by kernel_rfl)) (by kernel_rfl) (fun _ _ _ => ⟨NoB, trivial, fun _ h => False.elim h⟩) (fun b _ h => False.elim h) (fun b h => False.elim h) (fun b h => False.elim h) ?_)
  clear S; intro w N F7 q8 S up o6 d9 s10 n11
  have s12 : ∀ b, F7 b → F b := fun b h => (s10 b h).elim (hs b) (fun h => False.elim h)
  clear up d9 o3 n11
  have l13 : (acc.set i ((Int.tmod j 3) == 0)).length = (acc).length := List.length_set
  refine rd (nt (rg ?_))
  refine S.qg 3 [] [(1, .v (I (j + 1)))] (.cons (Q_add (x := j) (y := 1) ⟨by omega, by omega⟩) .nil) ?_; clear S; intro ac w β S
  refine (nb (nt (rg ?_)))
  refine S.qg 3 [] [(5, .v (I ((i : Int) + 1)))] (.cons (Q_add (x := (i : Int)) (y := 1) ⟨by omega, by omega⟩) .nil) ?_; clear S; intro ac w β S
  refine (nt ?_)
  refine ⟨a.length - (i + 1), by omega, i + 1, (acc.set i ((Int.tmod j 3) == 0)), (j + 1), (q1.1, q8), F7, _, _, _, rfl, ?_, ?_, ?_, S.z, o6, hq, s12⟩
  ·clear S; first | omega | (simp [*]; done) | (simp [*]; omega)
  ·clear S; (have hlt : i < acc.length := (by omega)); rw [hacc, ← marksBool_step (by omega) hj]; (first | rfl | (simp [g_markBool, Int.add_assoc]; done))
  ·clear S; omega
 ·have g14 := of_decide_eq_false h4
  refine wp_exit (ex_then (ex_then (ex_hit (nt (ws (rg ?_))))))
  refine S.qe 2 [] [(4, .v (I j))] ?_; clear S; intro ac w β S
  refine (nt (wr (S.r [I j] ?_)))
  have hyd : hdl acc k = j := by clear S; (have e : i = a.length := (by omega)); subst e; rw [hacc, List.drop_length, List.append_nil, hj]; exact hd_marksBool k (by omega) _ (by omega) id
  have hyb : k ≤ j ∧ j ≤ k + 16 * ((SZ.sz a : Nat) : Int) := by clear S; skip; constructor <;> omega
  exact retX_of S hyd hyb.1 hyb.2 (by show [slv _ _] = [slv _ _]; rw [hlacc, hq]) o3 hs

set_option maxRecDepth 100000 in
theorem c_laws_markInsS (w0 : World) (a : List TIns) (pa : LP TIns) (F : Bl) (ha : GT.own KK F w0 a pa) (hF : ∀ b, F b → b < w0.heap.size) (k : Int) (pre0 : 0 ≤ k) (pre1 : k + 16 * (SZ.sz a : Int) ≤ 4611686018427387904) : Calls Tryz.prog 131 [slv (a).length pa.1, I k].toArray w0 (RetX hdl F w0 pa a k) := by
 refine Calls.walk (args := [slv (a).length pa.1, I k]) F Tryz.func131 rfl rfl ?_
 intro ac β S
 have oa : Ow w0 F w0 (Lt w0.heap.size) F a pa := ⟨ha, hF, fun b hb => .inr hb⟩
 have hz := szl_TIns a
 have hlea : a.length ≤ 4194304 := LOwn.le ha
 refine ws (rg ?_)
 refine S.qe 1 [] [] ?_; clear S; intro ac w β S
 refine (nt (ws (ws (rg ?_))))
 refine S.qe 1 [] [(5, .v (I 0))] ?_; clear S; intro ac w β S
 refine (nt (wp_block ?_))
 refine wp_loop_down (fun mm ac w => ∃ (i : Nat) (acc : List TIns) (j : Int) (q1 : GT.Ptr (List TIns)) (F2 : Bl) (u : World) (N : Bl) (β : Nat → Nat), mm = a.length - i ∧ (i ≤ a.length) ∧ (acc = f_marksIns i k ++ a.drop i) ∧ (j = k + 2 * (i : Int)) ∧ St Tryz.prog Tryz.f131.ntmps w0 F u N β ⟨[(0, .v (slv a.length q1.1)), (1, .v (I j)), (5, .v (I (i : Int)))], []⟩ ac w ∧ Ow w0 F u N F2 acc q1 ∧ q1.1 = pa.1 ∧ (∀ b, F2 b → F b)) _ ⟨0, a, k, pa, F, _, _, _, rfl, (by first | omega | (simp; done) | (simp; omega)), (by simp [f_marksIns]), (by simp), S.z, oa, rfl, (fun _ h => h)⟩ ?_
 clear S oa
 rintro mm ac w ⟨i, acc, j, q1, F2, u, N, β, rfl, hi, hacc, hj, S, o3, hq, hs⟩
 have hlacc : acc.length = a.length := by rw [hacc]; simp [f_marksIns]; omega
 refine ws (ws (rg ?_))
 refine S.qe 4 [] [(9, .v (B (decide ((i : Int) < (a.length : Int)))))] ?_; clear S; intro ac w β S
 refine (nt (S.c (decide ((i : Int) < (a.length : Int))) (fun h4 => ?_) (fun h4 => ?_)))
 ·have g5 := of_decide_eq_true h4
  refine wk (nt (ws (wp_block (ws (rg ?_)))))
  refine S.qb 5 [] [(14, .v (I j)), (16, .v (pt q1.1.b (q1.1.off + i * 2)))] (.cons (Q_idx o3.rn (l := a.length) (k := i) (i := (i : Int)) (by rw [hacc]; simp [f_marksIns]; omega) rfl (by omega) Tryz.underlying93 (by kernel_rfl)) .nil) ?_; clear S; intro ac w β S
  have e6 : RIns (el acc i) := (LRd.el o3.rn i (by omega))
  refine RG.op rfl (S.setEl (α := TIns) o3 (t := 3) (v := I j) (k := i) (j := 0) (off := q1.1.off + i * 2) (y := (⟨j, (el acc i).x⟩ : TIns)) (q := ()) (Fy := NoB) (by kernel_rfl) (by kernel_rfl) (by omega) (by kernel_rfl) (by kernel_rfl) (Nat.le_of_ble_eq_true (by kernel_rfl)) (by kernel_rfl) (fun _ _ _ => ⟨NoB, (show RIns (⟨j, (el acc i).x⟩ : TIns) from ⟨(show In64 j from ⟨by omega, by omega⟩), (RIns.x (d := (el acc i)) e6)⟩), fun _ h => False.elim h⟩) (fun b _ h => False.elim h) (fun b h => False.elim h) (fun b h => False.elim h) ?_)
  clear S; intro w N F8 q9 S up o7 d10 s11 n12
  have s13 : ∀ b, F8 b → F b := fun b h => (s11 b h).elim (hs b) (fun h => False.elim h)
  clear up d10 o3 n12
  have l14 : (acc.set i (⟨j, (el acc i).x⟩ : TIns)).length = (acc).length := List.length_set
  refine rd (nt (ws (rg ?_)))
  refine S.qg 3 [] [(1, .v (I (j + 1)))] (.cons (Q_add (x := j) (y := 1) ⟨by omega, by omega⟩) .nil) ?_; clear S; intro ac w β S
  refine (nt (ws (rg ?_)))
  refine S.qb 5 [] [(21, .v (I (j + 1))), (23, .v (pt q1.1.b (q1.1.off + i * 2 + 1)))] (.cons (Q_idx o7.rn (l := a.length) (k := i) (i := (i : Int)) (by rw [List.length_set]; exact (by rw [hacc]; simp [f_marksIns]; omega)) rfl (by omega) Tryz.underlying93 (by kernel_rfl)) .nil) ?_; clear S; intro ac w β S
  refine RG.op rfl (S.setEl (α := TIns) o7 (t := 3) (v := I (j + 1)) (k := i) (j := 1) (off := q1.1.off + i * 2 + 1) (y := (⟨j, (j + 1)⟩ : TIns)) (q := ()) (Fy := NoB) (by kernel_rfl) (by kernel_rfl) (by omega) (by kernel_rfl) (by kernel_rfl) (Nat.le_of_ble_eq_true (by kernel_rfl)) (by rw [el_set_self (show i < (acc).length by omega)]; kernel_rfl) (fun _ _ _ => ⟨NoB, (show RIns (⟨j, (j + 1)⟩ : TIns) from ⟨(show In64 j from ⟨by omega, by omega⟩), (show In64 (j + 1) from ⟨by omega, by omega⟩)⟩), fun _ h => False.elim h⟩) (fun b _ h => False.elim h) (fun b h => False.elim h) (fun b h => False.elim h) ?_)
  clear S; intro w N F16 q17 S up o15 d18 s19 n20
  have s21 : ∀ b, F16 b → F b := fun b h => (s19 b h).elim (s13 b) (fun h => False.elim h)
  clear up d18 o7 n20
  rw [List.set_set] at o15
  have l22 : (acc.set i (⟨j, (j + 1)⟩ : TIns)).length = (acc).length := List.length_set
  refine rd (nt (rg ?_))
  refine S.qg 3 [] [(1, .v (I ((j + 1) + 1)))] (.cons (Q_add (x := (j + 1)) (y := 1) ⟨by omega, by omega⟩) .nil) ?_; clear S; intro ac w β S
  refine (nb (nt (rg ?_)))
  refine S.qg 3 [] [(5, .v (I ((i : Int) + 1)))] (.cons (Q_add (x := (i : Int)) (y := 1) ⟨by omega, by omega⟩) .nil) ?_; clear S; intro ac w β S
  refine (nt ?_)
  refine ⟨a.length - (i + 1), by omega, i + 1, (acc.set i (⟨j, (j + 1)⟩ : TIns)), ((j + 1) + 1), (q1.1, q17), F16, _, _, _, rfl, ?_, ?_, ?_, S.z, o15, hq, s21⟩
  ·clear S; first | omega | (simp [*]; done) | (simp [*]; omega)
  ·clear S; (have hlt : i < acc.length := (by omega)); rw [hacc, ← marksIns_step (by omega) hj]; (first | rfl | (simp [g_markIns, Int.add_assoc]; done))
  ·clear S; omega
 ·have g23 := of_decide_eq_false h4
  refine wp_exit (ex_then (ex_then (ex_hit (nt (ws (rg ?_))))))
  refine S.qe 2 [] [(4, .v (I j))] ?_; clear S; intro ac w β S
  refine (nt (wr (S.r [I j] ?_)))
  have hyd : hdl acc k = j := by clear S; (have e : i = a.length := (by omega)); subst e; rw [hacc, List.drop_length, List.append_nil, hj]; exact hd_marksIns k (by omega) _ (by omega) id
  have hyb : k ≤ j ∧ j ≤ k + 16 * ((SZ.sz a : Nat) : Int) := by clear S; skip; constructor <;> omega
  exact retX_of S hyd hyb.1 hyb.2 (by show [slv _ _] = [slv _ _]; rw [hlacc, hq]) o3 hs

set_option maxRecDepth 100000 in
theorem c_laws_markGuestS (w0 : World) (a : List TGuest) (pa : LP TGuest) (F : Bl) (ha : GT.own KK F w0 a pa) (hF : ∀ b, F b → b < w0.heap.size) (k : Int) (pre0 : 0 ≤ k) (pre1 : k + 16 * (SZ.sz a : Int) ≤ 4611686018427387904) : Calls Tryz.prog 80 [slv (a).length pa.1, I k].toArray w0 (RetX hdl F w0 pa a k) := by
 refine Calls.walk (args := [slv (a).length pa.1, I k]) F Tryz.func80 rfl rfl ?_
 intro ac β S
 have oa : Ow w0 F w0 (Lt w0.heap.size) F a pa := ⟨ha, hF, fun b hb => .inr hb⟩
 have hz := sz_list a
 have hlea : a.length ≤ 4194304 := LOwn.le ha
 refine ws (rg ?_)
 refine S.qe 1 [] [] ?_; clear S; intro ac w β S
 refine (nt (ws (ws (rg ?_))))
 refine S.qe 1 [] [(5, .v (I 0))] ?_; clear S; intro ac w β S
 refine (nt (wp_block ?_))
 refine wp_loop_down (fun mm ac w => ∃ (i : Nat) (acc : List TGuest) (j : Int) (q1 : GT.Ptr (List TGuest)) (F2 : Bl) (u : World) (N : Bl) (β : Nat → Nat), mm = a.length - i ∧ (i ≤ a.length) ∧ (acc.length = a.length) ∧ (∀ f, hdlc (acc.take i) k f = f j) ∧ (acc.drop i = a.drop i) ∧ (k ≤ j) ∧ (j ≤ k + 16 * ((i : Int) + (szsum (a.take i) : Nat))) ∧ St Tryz.prog Tryz.f80.ntmps w0 F u N β ⟨[(0, .v (slv a.length q1.1)), (1, .v (I j)), (5, .v (I (i : Int)))], []⟩ ac w ∧ Ow w0 F u N F2 acc q1 ∧ q1.1 = pa.1 ∧ (∀ b, F2 b → F b)) _ ⟨0, a, k, pa, F, _, _, _, rfl, (by first | omega | (simp; done) | (simp; omega)), (by rfl), (by intro f; rfl), (by rfl), (by first | omega | (simp; done) | (simp; omega)), (by simp [szsum_nil]), S.z, oa, rfl, (fun _ h => h)⟩ ?_
 clear S oa
 rintro mm ac w ⟨i, acc, j, q1, F2, u, N, β, rfl, hi, hl, hM, hD, hj0, hj1, S, o3, hq, hs⟩
 have hel := el_of_drop hD
 have hsl := szsum_take_le a i
 refine ws (ws (rg ?_))
 refine S.qe 4 [] [(9, .v (B (decide ((i : Int) < (a.length : Int)))))] ?_; clear S; intro ac w β S
 refine (nt (S.c (decide ((i : Int) < (a.length : Int))) (fun h4 => ?_) (fun h4 => ?_)))
 ·have g5 := of_decide_eq_true h4
  refine wk (nt (ws (wp_block (ws (rg ?_)))))
  refine S.qb 6 [] [(16, .v (slv ((el acc i).prog).length ((q1.2 i).prog).1)), (17, .v (I j))] (.cons (Q_idx o3.rn (l := a.length) (k := i) (i := (i : Int)) (by omega) rfl (by omega) Tryz.underlying49 (by kernel_rfl)) (.cons (Q_cell o3.rn (t := 93) (k := i) (j := 0) (v := slv ((el acc i).prog).length ((q1.2 i).prog).1) (by omega) (by kernel_rfl) (by kernel_rfl)) .nil)) ?_; clear S; intro ac w β S
  obtain ⟨F6, o7, s8, b9⟩ := foc_Guest_prog o3 (k := i) (show i < (acc).length by omega)
  have z10 := szsum_take (xs := a) (k := i) (by omega)
  have z11 := szsum_take_le a (i + 1)
  have z12 := sz_Guest (el a i)
  have e13 : (el acc i).prog = (el a i).prog := by simp only [hel]
  refine RG.op rfl (S.callX (hd := hdl) (d := 18) o7 (c_laws_markInsS w ((el acc i).prog) ((q1.2 i).prog) F6 (S.ownw o7) (fun b hb => (S.sep b (o7.sub b hb)).1) j (by omega) (by rw [e13]; omega)) (by kernel_rfl) rfl ?_)
  clear S; intro ac w N q14 y15 k16 S up o17 c18 x19 b20 b21
  rw [e13] at b21
  obtain ⟨p22, o23⟩ := b9 _ _ _ _ up o17 c18
  clear up o3 o7 s8 b9 o17 c18
  obtain ⟨a24, e25⟩ : ∃ z, z = (acc).set i ({ el acc i with prog := y15 }) := ⟨_, rfl⟩
  rw [← e25] at o23
  have l26 : a24.length = (acc).length := by rw [e25]; exact List.length_set
  have e27 : el a24 i = { el acc i with prog := y15 } := by rw [e25]; exact el_set_self (show i < (acc).length by omega)
  have t28 : a24.take i = (acc).take i := by rw [e25]; exact take_set_self
  have d29 : a24.drop (i + 1) = (acc).drop (i + 1) := by rw [e25]; exact drop_set_self
  clear e25
  refine S.qe 1 [] [(1, .v (I k16))] ?_; clear S; intro ac w β S
  refine (nt (ws (rg ?_)))
  refine S.qb 5 [] [(21, .v (I k16)), (23, .v (pt q1.1.b (q1.1.off + i * 15 + 1)))] (.cons (Q_idx o23.rn (l := a.length) (k := i) (i := (i : Int)) (by omega) rfl (by omega) Tryz.underlying49 (by kernel_rfl)) .nil) ?_; clear S; intro ac w β S
  refine RG.op rfl (S.setEl (α := TGuest) o23 (t := 3) (v := I k16) (k := i) (j := 1) (off := q1.1.off + i * 15 + 1) (y := ({ el a24 i with acc := k16 } : TGuest)) (q := ((q1.1, p22).2 i)) (Fy := NoB) (by kernel_rfl) (by kernel_rfl) (by omega) (by kernel_rfl) (by kernel_rfl) (Nat.le_of_ble_eq_true (by kernel_rfl)) (by kernel_rfl) (fun G g_ _ => ⟨G, ows_Guest_acc g_ (⟨by omega, by omega⟩), fun _ h => .inl h⟩) (fun b _ h => False.elim h) (fun b h => False.elim h) (fun b h => False.elim h) ?_)
  clear S; intro w N F31 q32 S up o30 d33 s34 n35
  have s36 : ∀ b, F31 b → F b := fun b h => (s34 b h).elim (hs b) (fun h => False.elim h)
  clear up d33 o23 n35
  obtain ⟨a37, e38⟩ : ∃ z, z = (a24).set i ({ el a24 i with acc := k16 }) := ⟨_, rfl⟩
  rw [← e38] at o30
  have l39 : a37.length = (a24).length := by rw [e38]; exact List.length_set
  have e40 : el a37 i = { el a24 i with acc := k16 } := by rw [e38]; exact el_set_self (show i < (a24).length by omega)
  have t41 : a37.take i = (a24).take i := by rw [e38]; exact take_set_self
  have d42 : a37.drop (i + 1) = (a24).drop (i + 1) := by rw [e38]; exact drop_set_self
  clear e38
  refine rd (nt (ws (rg ?_)))
  refine S.qg 3 [] [(1, .v (I (k16 + 1)))] (.cons (Q_add (x := k16) (y := 1) ⟨by omega, by omega⟩) .nil) ?_; clear S; intro ac w β S
  refine (nt (ws (rg ?_)))
  refine S.qb 5 [] [(28, .v (I (k16 + 1))), (30, .v (pt q1.1.b (q1.1.off + i * 15 + 2)))] (.cons (Q_idx o30.rn (l := a.length) (k := i) (i := (i : Int)) (by omega) rfl (by omega) Tryz.underlying49 (by kernel_rfl)) .nil) ?_; clear S; intro ac w β S
  refine RG.op rfl (S.setEl (α := TGuest) o30 (t := 3) (v := I (k16 + 1)) (k := i) (j := 2) (off := q1.1.off + i * 15 + 2) (y := ({ el a37 i with pc := (k16 + 1) } : TGuest)) (q := ((q1.1, q32).2 i)) (Fy := NoB) (by kernel_rfl) (by kernel_rfl) (by omega) (by kernel_rfl) (by kernel_rfl) (Nat.le_of_ble_eq_true (by kernel_rfl)) (by kernel_rfl) (fun G g_ _ => ⟨G, ows_Guest_pc g_ (⟨by omega, by omega⟩), fun _ h => .inl h⟩) (fun b _ h => False.elim h) (fun b h => False.elim h) (fun b h => False.elim h) ?_)
  clear S; intro w N F44 q45 S up o43 d46 s47 n48
  have s49 : ∀ b, F44 b → F b := fun b h => (s47 b h).elim (s36 b) (fun h => False.elim h)
  clear up d46 o30 n48
  obtain ⟨a50, e51⟩ : ∃ z, z = (a37).set i ({ el a37 i with pc := (k16 + 1) }) := ⟨_, rfl⟩
  rw [← e51] at o43
  have l52 : a50.length = (a37).length := by rw [e51]; exact List.length_set
  have e53 : el a50 i = { el a37 i with pc := (k16 + 1) } := by rw [e51]; exact el_set_self (show i < (a37).length by omega)
  have t54 : a50.take i = (a37).take i := by rw [e51]; exact take_set_self
  have d55 : a50.drop (i + 1) = (a37).drop (i + 1) := by rw [e51]; exact drop_set_self
  clear e51
  refine rd (nt (ws (rg ?_)))
  refine S.qg 3 [] [(1, .v (I ((k16 + 1) + 1)))] (.cons (Q_add (x := (k16 + 1)) (y := 1) ⟨by omega, by omega⟩) .nil) ?_; clear S; intro ac w β S
  refine (nt (ws (rg ?_)))
  refine S.qb 6 [] [(37, .v (slv ((el a50 i).written).length (((q1.1, q45).2 i).written).1)), (38, .v (I ((k16 + 1) + 1)))] (.cons (Q_idx o43.rn (l := a.length) (k := i) (i := (i : Int)) (by omega) rfl (by omega) Tryz.underlying49 (by kernel_rfl)) (.cons (Q_cell o43.rn (t := 47) (k := i) (j := 3) (v := slv ((el a50 i).written).length (((q1.1, q45).2 i).written).1) (by omega) (by kernel_rfl) (by kernel_rfl)) .nil)) ?_; clear S; intro ac w β S
  obtain ⟨F56, o57, s58, b59⟩ := foc_Guest_written o43 (k := i) (show i < (a50).length by omega)
  have z60 := szsum_take (xs := a) (k := i) (by omega)
  have z61 := szsum_take_le a (i + 1)
  have z62 := sz_Guest (el a i)
  have e63 : (el a50 i).written = (el a i).written := by simp only [e53, e40, e27, hel]
  refine RG.op rfl (S.callX (hd := hdl) (d := 39) o57 (c_laws_markSlotS w ((el a50 i).written) (((q1.1, q45).2 i).written) F56 (S.ownw o57) (fun b hb => (S.sep b (o57.sub b hb)).1) ((k16 + 1) + 1) (by omega) (by rw [e63]; omega)) (by kernel_rfl) rfl ?_)
  clear S; intro ac w N q64 y65 k66 S up o67 c68 x69 b70 b71
  rw [e63] at b71
  obtain ⟨p72, o73⟩ := b59 _ _ _ _ up o67 c68
  clear up o43 o57 s58 b59 o67 c68
  obtain ⟨a74, e75⟩ : ∃ z, z = (a50).set i ({ el a50 i with written := y65 }) := ⟨_, rfl⟩
  rw [← e75] at o73
  have l76 : a74.length = (a50).length := by rw [e75]; exact List.length_set
  have e77 : el a74 i = { el a50 i with written := y65 } := by rw [e75]; exact el_set_self (show i < (a50).length by omega)
  have t78 : a74.take i = (a50).take i := by rw [e75]; exact take_set_self
  have d79 : a74.drop (i + 1) = (a50).drop (i + 1) := by rw [e75]; exact drop_set_self
  clear e75
  refine S.qe 1 [] [(1, .v (I k66))] ?_; clear S; intro ac w β S
  refine (nt (ws (rg ?_)))
  refine S.qb 6 [] [(44, .v (slv ((el a74 i).live).length (((q1.1, p72).2 i).live).1)), (45, .v (I k66))] (.cons (Q_idx o73.rn (l := a.length) (k := i) (i := (i : Int)) (by omega) rfl (by omega) Tryz.underlying49 (by kernel_rfl)) (.cons (Q_cell o73.rn (t := 47) (k := i) (j := 4) (v := slv ((el a74 i).live).length (((q1.1, p72).2 i).live).1) (by omega) (by kernel_rfl) (by kernel_rfl)) .nil)) ?_; clear S; intro ac w β S
  obtain ⟨F80, o81, s82, b83⟩ := foc_Guest_live o73 (k := i) (show i < (a74).length by omega)
  have z84 := szsum_take (xs := a) (k := i) (by omega)
  have z85 := szsum_take_le a (i + 1)
  have z86 := sz_Guest (el a i)
  have e87 : (el a74 i).live = (el a i).live := by simp only [e77, e53, e40, e27, hel]
  refine RG.op rfl (S.callX (hd := hdl) (d := 46) o81 (c_laws_markSlotS w ((el a74 i).live) (((q1.1, p72).2 i).live) F80 (S.ownw o81) (fun b hb => (S.sep b (o81.sub b hb)).1) k66 (by omega) (by rw [e87]; omega)) (by kernel_rfl) rfl ?_)
  clear S; intro ac w N q88 y89 k90 S up o91 c92 x93 b94 b95
  rw [e87] at b95
  obtain ⟨p96, o97⟩ := b83 _ _ _ _ up o91 c92
  clear up o73 o81 s82 b83 o91 c92
  obtain ⟨a98, e99⟩ : ∃ z, z = (a74).set i ({ el a74 i with live := y89 }) := ⟨_, rfl⟩
  rw [← e99] at o97
  have l100 : a98.length = (a74).length := by rw [e99]; exact List.length_set
  have e101 : el a98 i = { el a74 i with live := y89 } := by rw [e99]; exact el_set_self (show i < (a74).length by omega)
  have t102 : a98.take i = (a74).take i := by rw [e99]; exact take_set_self
  have d103 : a98.drop (i + 1) = (a74).drop (i + 1) := by rw [e99]; exact drop_set_self
  clear e99
  refine S.qe 1 [] [(1, .v (I k90))] ?_; clear S; intro ac w β S
  refine (nt (ws (rg ?_)))
  refine S.qb 6 [] [(49, .v (I k90)), (52, .v (pt q1.1.b (q1.1.off + i * 15 + 5)))] (.cons (Q_idx o97.rn (l := a.length) (k := i) (i := (i : Int)) (by omega) rfl (by omega) Tryz.underlying49 (by kernel_rfl)) .nil) ?_; clear S; intro ac w β S
  refine RG.op rfl (S.setEl (α := TGuest) o97 (t := 3) (v := I k90) (k := i) (j := 5) (off := q1.1.off + i * 15 + 5) (y := ({ el a98 i with ctl := (⟨k90, ((el a98 i).ctl).post, ((el a98 i).ctl).opn⟩ : TCtl) } : TGuest)) (q := ((q1.1, p96).2 i)) (Fy := NoB) (by kernel_rfl) (by kernel_rfl) (by omega) (by kernel_rfl) (by kernel_rfl) (Nat.le_of_ble_eq_true (by kernel_rfl)) (by kernel_rfl) (fun G g_ _ => ⟨G, ows_Guest_ctl g_ ((show RCtl (⟨k90, ((el a98 i).ctl).post, ((el a98 i).ctl).opn⟩ : TCtl) from ⟨(show In64 k90 from ⟨by omega, by omega⟩), (RCtl.post (d := (el a98 i).ctl) (RGuest.ctl (d := (el a98 i)) (LRd.el o97.rn i (by omega))))⟩)), fun _ h => .inl h⟩) (fun b _ h => False.elim h) (fun b h => False.elim h) (fun b h => False.elim h) ?_)
  clear S; intro w N F105 q106 S up o104 d107 s108 n109
  have s110 : ∀ b, F105 b → F b := fun b h => (s108 b h).elim (s49 b) (fun h => False.elim h)
  clear up d107 o97 n109
  obtain ⟨a111, e112⟩ : ∃ z, z = (a98).set i ({ el a98 i with ctl := (⟨k90, ((el a98 i).ctl).post, ((el a98 i).ctl).opn⟩ : TCtl) }) := ⟨_, rfl⟩
  rw [← e112] at o104
  have l113 : a111.length = (a98).length := by rw [e112]; exact List.length_set
  have e114 : el a111 i = { el a98 i with ctl := (⟨k90, ((el a98 i).ctl).post, ((el a98 i).ctl).opn⟩ : TCtl) } := by rw [e112]; exact el_set_self (show i < (a98).length by omega)
  have t115 : a111.take i = (a98).take i := by rw [e112]; exact take_set_self
  have d116 : a111.drop (i + 1) = (a98).drop (i + 1) := by rw [e112]; exact drop_set_self
  clear e112
  refine rd (nt (ws (rg ?_)))
  refine S.qg 3 [9, 16, 17, 21, 23, 28, 30, 37, 38, 44, 45, 49, 52] [(1, .v (I (k90 + 1)))] (.cons (Q_add (x := k90) (y := 1) ⟨by omega, by omega⟩) .nil) ?_; clear S; intro ac w β S
  refine (nt (ws (rg ?_)))
  refine S.qb 6 [] [(57, .v (I (k90 + 1))), (60, .v (pt q1.1.b (q1.1.off + i * 15 + 6)))] (.cons (Q_idx o104.rn (l := a.length) (k := i) (i := (i : Int)) (by omega) rfl (by omega) Tryz.underlying49 (by kernel_rfl)) .nil) ?_; clear S; intro ac w β S
  refine RG.op rfl (S.setEl (α := TGuest) o104 (t := 3) (v := I (k90 + 1)) (k := i) (j := 6) (off := q1.1.off + i * 15 + 6) (y := ({ el a111 i with ctl := (⟨((el a111 i).ctl).traps, (k90 + 1), ((el a111 i).ctl).opn⟩ : TCtl) } : TGuest)) (q := ((q1.1, q106).2 i)) (Fy := NoB) (by kernel_rfl) (by kernel_rfl) (by omega) (by kernel_rfl) (by kernel_rfl) (Nat.le_of_ble_eq_true (by kernel_rfl)) (by kernel_rfl) (fun G g_ _ => ⟨G, ows_Guest_ctl g_ ((show RCtl (⟨((el a111 i).ctl).traps, (k90 + 1), ((el a111 i).ctl).opn⟩ : TCtl) from ⟨(RCtl.traps (d := (el a111 i).ctl) (RGuest.ctl (d := (el a111 i)) (LRd.el o104.rn i (by omega)))), (show In64 (k90 + 1) from ⟨by omega, by omega⟩)⟩)), fun _ h => .inl h⟩) (fun b _ h => False.elim h) (fun b h => False.elim h) (fun b h => False.elim h) ?_)
  clear S; intro w N F118 q119 S up o117 d120 s121 n122
  have s123 : ∀ b, F118 b → F b := fun b h => (s121 b h).elim (s110 b) (fun h => False.elim h)
  clear up d120 o104 n122
  obtain ⟨a124, e125⟩ : ∃ z, z = (a111).set i ({ el a111 i with ctl := (⟨((el a111 i).ctl).traps, (k90 + 1), ((el a111 i).ctl).opn⟩ : TCtl) }) := ⟨_, rfl⟩
  rw [← e125] at o117
  have l126 : a124.length = (a111).length := by rw [e125]; exact List.length_set
  have e127 : el a124 i = { el a111 i with ctl := (⟨((el a111 i).ctl).traps, (k90 + 1), ((el a111 i).ctl).opn⟩ : TCtl) } := by rw [e125]; exact el_set_self (show i < (a111).length by omega)
  have t128 : a124.take i = (a111).take i := by rw [e125]; exact take_set_self
  have d129 : a124.drop (i + 1) = (a111).drop (i + 1) := by rw [e125]; exact drop_set_self
  clear e125
  refine rd (nt (ws (rg ?_)))
  refine S.qg 3 [] [(1, .v (I ((k90 + 1) + 1)))] (.cons (Q_add (x := (k90 + 1)) (y := 1) ⟨by omega, by omega⟩) .nil) ?_; clear S; intro ac w β S
  refine (nt (ws (rg ?_)))
  refine S.qb 8 [] [(67, .v (B ((Int.tmod ((k90 + 1) + 1) 3) == 0))), (70, .v (pt q1.1.b (q1.1.off + i * 15 + 7)))] (.cons (Q_rem (x := ((k90 + 1) + 1)) (y := 3) (by decide)) (.cons (Q_idx o117.rn (l := a.length) (k := i) (i := (i : Int)) (by omega) rfl (by omega) Tryz.underlying49 (by kernel_rfl)) .nil)) ?_; clear S; intro ac w β S
  refine RG.op rfl (S.setEl (α := TGuest) o117 (t := 4) (v := B ((Int.tmod ((k90 + 1) + 1) 3) == 0)) (k := i) (j := 7) (off := q1.1.off + i * 15 + 7) (y := ({ el a124 i with ctl := (⟨((el a124 i).ctl).traps, ((el a124 i).ctl).post, ((Int.tmod ((k90 + 1) + 1) 3) == 0)⟩ : TCtl) } : TGuest)) (q := ((q1.1, q119).2 i)) (Fy := NoB) (by kernel_rfl) (by kernel_rfl) (by omega) (by kernel_rfl) (by kernel_rfl) (Nat.le_of_ble_eq_true (by kernel_rfl)) (by kernel_rfl) (fun G g_ _ => ⟨G, ows_Guest_ctl g_ ((show RCtl (⟨((el a124 i).ctl).traps, ((el a124 i).ctl).post, ((Int.tmod ((k90 + 1) + 1) 3) == 0)⟩ : TCtl) from ⟨(RCtl.traps (d := (el a124 i).ctl) (RGuest.ctl (d := (el a124 i)) (LRd.el o117.rn i (by omega)))), (RCtl.post (d := (el a124 i).ctl) (RGuest.ctl (d := (el a124 i)) (LRd.el o117.rn i (by omega))))⟩)), fun _ h => .inl h⟩) (fun b _ h => False.elim h) (fun b h => False.elim h) (fun b h => False.elim h) ?_)
  clear S; intro w N F131 q132 S up o130 d133 s134 n135
  have s136 : ∀ b, F131 b → F b := fun b h => (s134 b h).elim (s123 b) (fun h => False.elim h)
  clear up d133 o117 n135
  obtain ⟨a137, e138⟩ : ∃ z, z = (a124).set i ({ el a124 i with ctl := (⟨((el a124 i).ctl).traps, ((el a124 i).ctl).post, ((Int.tmod ((k90 + 1) + 1) 3) == 0)⟩ : TCtl) }) := ⟨_, rfl⟩
  rw [← e138] at o130
  have l139 : a137.length = (a124).length := by rw [e138]; exact List.length_set
  have e140 : el a137 i = { el a124 i with ctl := (⟨((el a124 i).ctl).traps, ((el a124 i).ctl).post, ((Int.tmod ((k90 + 1) + 1) 3) == 0)⟩ : TCtl) } := by rw [e138]; exact el_set_self (show i < (a124).length by omega)
  have t141 : a137.take i = (a124).take i := by rw [e138]; exact take_set_self
  have d142 : a137.drop (i + 1) = (a124).drop (i + 1) := by rw [e138]; exact drop_set_self
  clear e138
  refine rd (nt (ws (rg ?_)))
  refine S.qg 3 [] [(1, .v (I (((k90 + 1) + 1) + 1)))] (.cons (Q_add (x := ((k90 + 1) + 1)) (y := 1) ⟨by omega, by omega⟩) .nil) ?_; clear S; intro ac w β S
  refine (nt (ws (rg ?_)))
  refine S.qb 5 [] [(75, .v (I (((k90 + 1) + 1) + 1))), (77, .v (pt q1.1.b (q1.1.off + i * 15 + 8)))] (.cons (Q_idx o130.rn (l := a.length) (k := i) (i := (i : Int)) (by omega) rfl (by omega) Tryz.underlying49 (by kernel_rfl)) .nil) ?_; clear S; intro ac w β S
  refine RG.op rfl (S.setEl (α := TGuest) o130 (t := 3) (v := I (((k90 + 1) + 1) + 1)) (k := i) (j := 8) (off := q1.1.off + i * 15 + 8) (y := ({ el a137 i with pend := (((k90 + 1) + 1) + 1) } : TGuest)) (q := ((q1.1, q132).2 i)) (Fy := NoB) (by kernel_rfl) (by kernel_rfl) (by omega) (by kernel_rfl) (by kernel_rfl) (Nat.le_of_ble_eq_true (by kernel_rfl)) (by kernel_rfl) (fun G g_ _ => ⟨G, ows_Guest_pend g_ (⟨by omega, by omega⟩), fun _ h => .inl h⟩) (fun b _ h => False.elim h) (fun b h => False.elim h) (fun b h => False.elim h) ?_)
  clear S; intro w N F144 q145 S up o143 d146 s147 n148
  have s149 : ∀ b, F144 b → F b := fun b h => (s147 b h).elim (s136 b) (fun h => False.elim h)
  clear up d146 o130 n148
  obtain ⟨a150, e151⟩ : ∃ z, z = (a137).set i ({ el a137 i with pend := (((k90 + 1) + 1) + 1) }) := ⟨_, rfl⟩
  rw [← e151] at o143
  have l152 : a150.length = (a137).length := by rw [e151]; exact List.length_set
  have e153 : el a150 i = { el a137 i with pend := (((k90 + 1) + 1) + 1) } := by rw [e151]; exact el_set_self (show i < (a137).length by omega)
  have t154 : a150.take i = (a137).take i := by rw [e151]; exact take_set_self
  have d155 : a150.drop (i + 1) = (a137).drop (i + 1) := by rw [e151]; exact drop_set_self
  clear e151
  refine rd (nt (ws (rg ?_)))
  refine S.qg 3 [] [(1, .v (I ((((k90 + 1) + 1) + 1) + 1)))] (.cons (Q_add (x := (((k90 + 1) + 1) + 1)) (y := 1) ⟨by omega, by omega⟩) .nil) ?_; clear S; intro ac w β S
  refine (nt (ws (rg ?_)))
  refine S.qb 6 [] [(82, .v (I ((((k90 + 1) + 1) + 1) + 1))), (85, .v (pt q1.1.b (q1.1.off + i * 15 + 9)))] (.cons (Q_idx o143.rn (l := a.length) (k := i) (i := (i : Int)) (by omega) rfl (by omega) Tryz.underlying49 (by kernel_rfl)) .nil) ?_; clear S; intro ac w β S
  refine RG.op rfl (S.setEl (α := TGuest) o143 (t := 3) (v := I ((((k90 + 1) + 1) + 1) + 1)) (k := i) (j := 9) (off := q1.1.off + i * 15 + 9) (y := ({ el a150 i with exit := (⟨((((k90 + 1) + 1) + 1) + 1), ((el a150 i).exit).page, ((el a150 i).exit).wr, ((el a150 i).exit).n⟩ : TExit) } : TGuest)) (q := ((q1.1, q145).2 i)) (Fy := NoB) (by kernel_rfl) (by kernel_rfl) (by omega) (by kernel_rfl) (by kernel_rfl) (Nat.le_of_ble_eq_true (by kernel_rfl)) (by kernel_rfl) (fun G g_ _ => ⟨G, ows_Guest_exit g_ ((show RExit (⟨((((k90 + 1) + 1) + 1) + 1), ((el a150 i).exit).page, ((el a150 i).exit).wr, ((el a150 i).exit).n⟩ : TExit) from ⟨(show In64 ((((k90 + 1) + 1) + 1) + 1) from ⟨by omega, by omega⟩), (RExit.page (d := (el a150 i).exit) (RGuest.exit (d := (el a150 i)) (LRd.el o143.rn i (by omega)))), (RExit.n (d := (el a150 i).exit) (RGuest.exit (d := (el a150 i)) (LRd.el o143.rn i (by omega))))⟩)), fun _ h => .inl h⟩) (fun b _ h => False.elim h) (fun b h => False.elim h) (fun b h => False.elim h) ?_)
  clear S; intro w N F157 q158 S up o156 d159 s160 n161
  have s162 : ∀ b, F157 b → F b := fun b h => (s160 b h).elim (s149 b) (fun h => False.elim h)
  clear up d159 o143 n161
  obtain ⟨a163, e164⟩ : ∃ z, z = (a150).set i ({ el a150 i with exit := (⟨((((k90 + 1) + 1) + 1) + 1), ((el a150 i).exit).page, ((el a150 i).exit).wr, ((el a150 i).exit).n⟩ : TExit) }) := ⟨_, rfl⟩
  rw [← e164] at o156
  have l165 : a163.length = (a150).length := by rw [e164]; exact List.length_set
  have e166 : el a163 i = { el a150 i with exit := (⟨((((k90 + 1) + 1) + 1) + 1), ((el a150 i).exit).page, ((el a150 i).exit).wr, ((el a150 i).exit).n⟩ : TExit) } := by rw [e164]; exact el_set_self (show i < (a150).length by omega)
  have t167 : a163.take i = (a150).take i := by rw [e164]; exact take_set_self
  have d168 : a163.drop (i + 1) = (a150).drop (i + 1) := by rw [e164]; exact drop_set_self
  clear e164
  refine rd (nt (ws (rg ?_)))
  refine S.qg 3 [] [(1, .v (I (((((k90 + 1) + 1) + 1) + 1) + 1)))] (.cons (Q_add (x := ((((k90 + 1) + 1) + 1) + 1)) (y := 1) ⟨by omega, by omega⟩) .nil) ?_; clear S; intro ac w β S
  refine (nt (ws (rg ?_)))
  refine S.qb 6 [] [(90, .v (I (((((k90 + 1) + 1) + 1) + 1) + 1))), (93, .v (pt q1.1.b (q1.1.off + i * 15 + 10)))] (.cons (Q_idx o156.rn (l := a.length) (k := i) (i := (i : Int)) (by omega) rfl (by omega) Tryz.underlying49 (by kernel_rfl)) .nil) ?_; clear S; intro ac w β S
  refine RG.op rfl (S.setEl (α := TGuest) o156 (t := 3) (v := I (((((k90 + 1) + 1) + 1) + 1) + 1)) (k := i) (j := 10) (off := q1.1.off + i * 15 + 10) (y := ({ el a163 i with exit := (⟨((el a163 i).exit).kind, (((((k90 + 1) + 1) + 1) + 1) + 1), ((el a163 i).exit).wr, ((el a163 i).exit).n⟩ : TExit) } : TGuest)) (q := ((q1.1, q158).2 i)) (Fy := NoB) (by kernel_rfl) (by kernel_rfl) (by omega) (by kernel_rfl) (by kernel_rfl) (Nat.le_of_ble_eq_true (by kernel_rfl)) (by kernel_rfl) (fun G g_ _ => ⟨G, ows_Guest_exit g_ ((show RExit (⟨((el a163 i).exit).kind, (((((k90 + 1) + 1) + 1) + 1) + 1), ((el a163 i).exit).wr, ((el a163 i).exit).n⟩ : TExit) from ⟨(RExit.kind (d := (el a163 i).exit) (RGuest.exit (d := (el a163 i)) (LRd.el o156.rn i (by omega)))), (show In64 (((((k90 + 1) + 1) + 1) + 1) + 1) from ⟨by omega, by omega⟩), (RExit.n (d := (el a163 i).exit) (RGuest.exit (d := (el a163 i)) (LRd.el o156.rn i (by omega))))⟩)), fun _ h => .inl h⟩) (fun b _ h => False.elim h) (fun b h => False.elim h) (fun b h => False.elim h) ?_)
  clear S; intro w N F170 q171 S up o169 d172 s173 n174
  have s175 : ∀ b, F170 b → F b := fun b h => (s173 b h).elim (s162 b) (fun h => False.elim h)
  clear up d172 o156 n174
  obtain ⟨a176, e177⟩ : ∃ z, z = (a163).set i ({ el a163 i with exit := (⟨((el a163 i).exit).kind, (((((k90 + 1) + 1) + 1) + 1) + 1), ((el a163 i).exit).wr, ((el a163 i).exit).n⟩ : TExit) }) := ⟨_, rfl⟩
  rw [← e177] at o169
  have l178 : a176.length = (a163).length := by rw [e177]; exact List.length_set
  have e179 : el a176 i = { el a163 i with exit := (⟨((el a163 i).exit).kind, (((((k90 + 1) + 1) + 1) + 1) + 1), ((el a163 i).exit).wr, ((el a163 i).exit).n⟩ : TExit) } := by rw [e177]; exact el_set_self (show i < (a163).length by omega)
  have t180 : a176.take i = (a163).take i := by rw [e177]; exact take_set_self
  have d181 : a176.drop (i + 1) = (a163).drop (i + 1) := by rw [e177]; exact drop_set_self
  clear e177
  refine rd (nt (ws (rg ?_)))
  refine S.qg 3 [] [(1, .v (I ((((((k90 + 1) + 1) + 1) + 1) + 1) + 1)))] (.cons (Q_add (x := (((((k90 + 1) + 1) + 1) + 1) + 1)) (y := 1) ⟨by omega, by omega⟩) .nil) ?_; clear S; intro ac w β S
  refine (nt (ws (rg ?_)))
  refine S.qb 8 [] [(100, .v (B ((Int.tmod ((((((k90 + 1) + 1) + 1) + 1) + 1) + 1) 3) == 0))), (103, .v (pt q1.1.b (q1.1.off + i * 15 + 11)))] (.cons (Q_rem (x := ((((((k90 + 1) + 1) + 1) + 1) + 1) + 1)) (y := 3) (by decide)) (.cons (Q_idx o169.rn (l := a.length) (k := i) (i := (i : Int)) (by omega) rfl (by omega) Tryz.underlying49 (by kernel_rfl)) .nil)) ?_; clear S; intro ac w β S
  refine RG.op rfl (S.setEl (α := TGuest) o169 (t := 4) (v := B ((Int.tmod ((((((k90 + 1) + 1) + 1) + 1) + 1) + 1) 3) == 0)) (k := i) (j := 11) (off := q1.1.off + i * 15 + 11) (y := ({ el a176 i with exit := (⟨((el a176 i).exit).kind, ((el a176 i).exit).page, ((Int.tmod ((((((k90 + 1) + 1) + 1) + 1) + 1) + 1) 3) == 0), ((el a176 i).exit).n⟩ : TExit) } : TGuest)) (q := ((q1.1, q171).2 i)) (Fy := NoB) (by kernel_rfl) (by kernel_rfl) (by omega) (by kernel_rfl) (by kernel_rfl) (Nat.le_of_ble_eq_true (by kernel_rfl)) (by kernel_rfl) (fun G g_ _ => ⟨G, ows_Guest_exit g_ ((show RExit (⟨((el a176 i).exit).kind, ((el a176 i).exit).page, ((Int.tmod ((((((k90 + 1) + 1) + 1) + 1) + 1) + 1) 3) == 0), ((el a176 i).exit).n⟩ : TExit) from ⟨(RExit.kind (d := (el a176 i).exit) (RGuest.exit (d := (el a176 i)) (LRd.el o169.rn i (by omega)))), (RExit.page (d := (el a176 i).exit) (RGuest.exit (d := (el a176 i)) (LRd.el o169.rn i (by omega)))), (RExit.n (d := (el a176 i).exit) (RGuest.exit (d := (el a176 i)) (LRd.el o169.rn i (by omega))))⟩)), fun _ h => .inl h⟩) (fun b _ h => False.elim h) (fun b h => False.elim h) (fun b h => False.elim h) ?_)
  clear S; intro w N F183 q184 S up o182 d185 s186 n187
  have s188 : ∀ b, F183 b → F b := fun b h => (s186 b h).elim (s175 b) (fun h => False.elim h)
  clear up d185 o169 n187
  obtain ⟨a189, e190⟩ : ∃ z, z = (a176).set i ({ el a176 i with exit := (⟨((el a176 i).exit).kind, ((el a176 i).exit).page, ((Int.tmod ((((((k90 + 1) + 1) + 1) + 1) + 1) + 1) 3) == 0), ((el a176 i).exit).n⟩ : TExit) }) := ⟨_, rfl⟩
  rw [← e190] at o182
  have l191 : a189.length = (a176).length := by rw [e190]; exact List.length_set
  have e192 : el a189 i = { el a176 i with exit := (⟨((el a176 i).exit).kind, ((el a176 i).exit).page, ((Int.tmod ((((((k90 + 1) + 1) + 1) + 1) + 1) + 1) 3) == 0), ((el a176 i).exit).n⟩ : TExit) } := by rw [e190]; exact el_set_self (show i < (a176).length by omega)
  have t193 : a189.take i = (a176).take i := by rw [e190]; exact take_set_self
  have d194 : a189.drop (i + 1) = (a176).drop (i + 1) := by rw [e190]; exact drop_set_self
  clear e190
  refine rd (nt (ws (rg ?_)))
  refine S.qg 3 [] [(1, .v (I (((((((k90 + 1) + 1) + 1) + 1) + 1) + 1) + 1)))] (.cons (Q_add (x := ((((((k90 + 1) + 1) + 1) + 1) + 1) + 1)) (y := 1) ⟨by omega, by omega⟩) .nil) ?_; clear S; intro ac w β S
  refine (nt (ws (rg ?_)))
  refine S.qb 6 [] [(108, .v (I (((((((k90 + 1) + 1) + 1) + 1) + 1) + 1) + 1))), (111, .v (pt q1.1.b (q1.1.off + i * 15 + 12)))] (.cons (Q_idx o182.rn (l := a.length) (k := i) (i := (i : Int)) (by omega) rfl (by omega) Tryz.underlying49 (by kernel_rfl)) .nil) ?_; clear S; intro ac w β S
  refine RG.op rfl (S.setEl (α := TGuest) o182 (t := 3) (v := I (((((((k90 + 1) + 1) + 1) + 1) + 1) + 1) + 1)) (k := i) (j := 12) (off := q1.1.off + i * 15 + 12) (y := ({ el a189 i with exit := (⟨((el a189 i).exit).kind, ((el a189 i).exit).page, ((el a189 i).exit).wr, (((((((k90 + 1) + 1) + 1) + 1) + 1) + 1) + 1)⟩ : TExit) } : TGuest)) (q := ((q1.1, q184).2 i)) (Fy := NoB) (by kernel_rfl) (by kernel_rfl) (by omega) (by kernel_rfl) (by kernel_rfl) (Nat.le_of_ble_eq_true (by kernel_rfl)) (by kernel_rfl) (fun G g_ _ => ⟨G, ows_Guest_exit g_ ((show RExit (⟨((el a189 i).exit).kind, ((el a189 i).exit).page, ((el a189 i).exit).wr, (((((((k90 + 1) + 1) + 1) + 1) + 1) + 1) + 1)⟩ : TExit) from ⟨(RExit.kind (d := (el a189 i).exit) (RGuest.exit (d := (el a189 i)) (LRd.el o182.rn i (by omega)))), (RExit.page (d := (el a189 i).exit) (RGuest.exit (d := (el a189 i)) (LRd.el o182.rn i (by omega)))), (show In64 (((((((k90 + 1) + 1) + 1) + 1) + 1) + 1) + 1) from ⟨by omega, by omega⟩)⟩)), fun _ h => .inl h⟩) (fun b _ h => False.elim h) (fun b h => False.elim h) (fun b h => False.elim h) ?_)
  clear S; intro w N F196 q197 S up o195 d198 s199 n200
  have s201 : ∀ b, F196 b → F b := fun b h => (s199 b h).elim (s188 b) (fun h => False.elim h)
  clear up d198 o182 n200
  obtain ⟨a202, e203⟩ : ∃ z, z = (a189).set i ({ el a189 i with exit := (⟨((el a189 i).exit).kind, ((el a189 i).exit).page, ((el a189 i).exit).wr, (((((((k90 + 1) + 1) + 1) + 1) + 1) + 1) + 1)⟩ : TExit) }) := ⟨_, rfl⟩
  rw [← e203] at o195
  have l204 : a202.length = (a189).length := by rw [e203]; exact List.length_set
  have e205 : el a202 i = { el a189 i with exit := (⟨((el a189 i).exit).kind, ((el a189 i).exit).page, ((el a189 i).exit).wr, (((((((k90 + 1) + 1) + 1) + 1) + 1) + 1) + 1)⟩ : TExit) } := by rw [e203]; exact el_set_self (show i < (a189).length by omega)
  have t206 : a202.take i = (a189).take i := by rw [e203]; exact take_set_self
  have d207 : a202.drop (i + 1) = (a189).drop (i + 1) := by rw [e203]; exact drop_set_self
  clear e203
  refine rd (nt (ws (rg ?_)))
  refine S.qg 3 [57, 60, 67, 70, 75, 77, 82, 85, 90, 93, 100, 103, 108, 111] [(1, .v (I ((((((((k90 + 1) + 1) + 1) + 1) + 1) + 1) + 1) + 1)))] (.cons (Q_add (x := (((((((k90 + 1) + 1) + 1) + 1) + 1) + 1) + 1)) (y := 1) ⟨by omega, by omega⟩) .nil) ?_; clear S; intro ac w β S
  refine (nt (ws (rg ?_)))
  refine S.qb 7 [] [(118, .v (B ((Int.tmod ((((((((k90 + 1) + 1) + 1) + 1) + 1) + 1) + 1) + 1) 3) == 0))), (120, .v (pt q1.1.b (q1.1.off + i * 15 + 13)))] (.cons (Q_rem (x := ((((((((k90 + 1) + 1) + 1) + 1) + 1) + 1) + 1) + 1)) (y := 3) (by decide)) (.cons (Q_idx o195.rn (l := a.length) (k := i) (i := (i : Int)) (by omega) rfl (by omega) Tryz.underlying49 (by kernel_rfl)) .nil)) ?_; clear S; intro ac w β S
  refine RG.op rfl (S.setEl (α := TGuest) o195 (t := 4) (v := B ((Int.tmod ((((((((k90 + 1) + 1) + 1) + 1) + 1) + 1) + 1) + 1) 3) == 0)) (k := i) (j := 13) (off := q1.1.off + i * 15 + 13) (y := ({ el a202 i with halted := ((Int.tmod ((((((((k90 + 1) + 1) + 1) + 1) + 1) + 1) + 1) + 1) 3) == 0) } : TGuest)) (q := ((q1.1, q197).2 i)) (Fy := NoB) (by kernel_rfl) (by kernel_rfl) (by omega) (by kernel_rfl) (by kernel_rfl) (Nat.le_of_ble_eq_true (by kernel_rfl)) (by kernel_rfl) (fun G g_ _ => ⟨G, ows_Guest_halted g_, fun _ h => .inl h⟩) (fun b _ h => False.elim h) (fun b h => False.elim h) (fun b h => False.elim h) ?_)
  clear S; intro w N F209 q210 S up o208 d211 s212 n213
  have s214 : ∀ b, F209 b → F b := fun b h => (s212 b h).elim (s201 b) (fun h => False.elim h)
  clear up d211 o195 n213
  obtain ⟨a215, e216⟩ : ∃ z, z = (a202).set i ({ el a202 i with halted := ((Int.tmod ((((((((k90 + 1) + 1) + 1) + 1) + 1) + 1) + 1) + 1) 3) == 0) }) := ⟨_, rfl⟩
  rw [← e216] at o208
  have l217 : a215.length = (a202).length := by rw [e216]; exact List.length_set
  have e218 : el a215 i = { el a202 i with halted := ((Int.tmod ((((((((k90 + 1) + 1) + 1) + 1) + 1) + 1) + 1) + 1) 3) == 0) } := by rw [e216]; exact el_set_self (show i < (a202).length by omega)
  have t219 : a215.take i = (a202).take i := by rw [e216]; exact take_set_self
  have d220 : a215.drop (i + 1) = (a202).drop (i + 1) := by rw [e216]; exact drop_set_self
  clear e216
  refine rd (nt (ws (rg ?_)))
  refine S.qg 3 [] [(1, .v (I (((((((((k90 + 1) + 1) + 1) + 1) + 1) + 1) + 1) + 1) + 1)))] (.cons (Q_add (x := ((((((((k90 + 1) + 1) + 1) + 1) + 1) + 1) + 1) + 1)) (y := 1) ⟨by omega, by omega⟩) .nil) ?_; clear S; intro ac w β S
  refine (nt (rg ?_))
  refine S.qb 6 [] [(127, .v (slv ((el a215 i).seen).length (((q1.1, q210).2 i).seen).1)), (128, .v (I (((((((((k90 + 1) + 1) + 1) + 1) + 1) + 1) + 1) + 1) + 1)))] (.cons (Q_idx o208.rn (l := a.length) (k := i) (i := (i : Int)) (by omega) rfl (by omega) Tryz.underlying49 (by kernel_rfl)) (.cons (Q_cell o208.rn (t := 50) (k := i) (j := 14) (v := slv ((el a215 i).seen).length (((q1.1, q210).2 i).seen).1) (by omega) (by kernel_rfl) (by kernel_rfl)) .nil)) ?_; clear S; intro ac w β S
  obtain ⟨F221, o222, s223, b224⟩ := foc_Guest_seen o208 (k := i) (show i < (a215).length by omega)
  have z225 := szsum_take (xs := a) (k := i) (by omega)
  have z226 := szsum_take_le a (i + 1)
  have z227 := sz_Guest (el a i)
  have e228 : (el a215 i).seen = (el a i).seen := by simp only [e218, e205, e192, e179, e166, e153, e140, e127, e114, e101, e77, e53, e40, e27, hel]
  refine RG.op rfl (S.callX (hd := hdl) (d := 129) o222 (c_laws_markIntS w ((el a215 i).seen) (((q1.1, q210).2 i).seen) F221 (S.ownw o222) (fun b hb => (S.sep b (o222.sub b hb)).1) (((((((((k90 + 1) + 1) + 1) + 1) + 1) + 1) + 1) + 1) + 1) (by omega) (by rw [e228]; omega)) (by kernel_rfl) rfl ?_)
  clear S; intro ac w N q229 y230 k231 S up o232 c233 x234 b235 b236
  rw [e228] at b236
  obtain ⟨p237, o238⟩ := b224 _ _ _ _ up o232 c233
  clear up o208 o222 s223 b224 o232 c233
  obtain ⟨a239, e240⟩ : ∃ z, z = (a215).set i ({ el a215 i with seen := y230 }) := ⟨_, rfl⟩
  rw [← e240] at o238
  have l241 : a239.length = (a215).length := by rw [e240]; exact List.length_set
  have e242 : el a239 i = { el a215 i with seen := y230 } := by rw [e240]; exact el_set_self (show i < (a215).length by omega)
  have t243 : a239.take i = (a215).take i := by rw [e240]; exact take_set_self
  have d244 : a239.drop (i + 1) = (a215).drop (i + 1) := by rw [e240]; exact drop_set_self
  clear e240
  refine S.qe 1 [] [(1, .v (I k231))] ?_; clear S; intro ac w β S
  refine (nb (nt (rg ?_)))
  refine S.qg 3 [] [(5, .v (I ((i : Int) + 1)))] (.cons (Q_add (x := (i : Int)) (y := 1) ⟨by omega, by omega⟩) .nil) ?_; clear S; intro ac w β S
  refine (nt ?_)
  refine ⟨a.length - (i + 1), by omega, i + 1, a239, k231, (q1.1, p237), F209, _, _, _, rfl, ?_, ?_, ?_, ?_, ?_, ?_, S.z, o238, hq, s214⟩
  ·clear S; first | omega | (simp [*]; done) | (simp [*]; omega)
  ·clear S; omega
  ·clear S; refine mk_step (acc := a239) (by omega) (by intro f; rw [t243, t219, t206, t193, t180, t167, t154, t141, t128, t115, t102, t78, t54, t41, t28]; exact hM f) ?_; intro f; simp (disch := first | omega | rfl) only [he_list, he_Guest, e242, e218, e205, e192, e179, e166, e153, e140, e127, e114, e101, e77, e53, e40, e27, x19, x69, x93, x234, hdc_pos, hdi_eq, hdb_eq]
  ·clear S; rw [d244, d220, d207, d194, d181, d168, d155, d142, d129, d116, d103, d79, d55, d42, d29]; exact drop_more hD
  ·clear S; omega
  ·clear S; omega
 ·have g245 := of_decide_eq_false h4
  refine wp_exit (ex_then (ex_then (ex_hit (nt (ws (rg ?_))))))
  refine S.qe 2 [] [(4, .v (I j))] ?_; clear S; intro ac w β S
  refine (nt (wr (S.r [I j] ?_)))
  have hyd : hdl acc k = j := by clear S; exact mk_end (by omega) hM
  have hyb : k ≤ j ∧ j ≤ k + 16 * ((SZ.sz a : Nat) : Int) := by clear S; have hs2 := szsum_take_le a i; constructor <;> omega
  exact retX_of S hyd hyb.1 hyb.2 (by show [slv _ _] = [slv _ _]; rw [hl, hq]) o3 hs

set_option maxRecDepth 100000 in
theorem c_laws_markKeptS (w0 : World) (a : List TKept) (pa : LP TKept) (F : Bl) (ha : GT.own KK F w0 a pa) (hF : ∀ b, F b → b < w0.heap.size) (k : Int) (pre0 : 0 ≤ k) (pre1 : k + 16 * (SZ.sz a : Int) ≤ 4611686018427387904) : Calls Tryz.prog 81 [slv (a).length pa.1, I k].toArray w0 (RetX hdl F w0 pa a k) := by
 refine Calls.walk (args := [slv (a).length pa.1, I k]) F Tryz.func81 rfl rfl ?_
 intro ac β S
 have oa : Ow w0 F w0 (Lt w0.heap.size) F a pa := ⟨ha, hF, fun b hb => .inr hb⟩
 have hz := sz_list a
 have hlea : a.length ≤ 4194304 := LOwn.le ha
 refine ws (rg ?_)
 refine S.qe 1 [] [] ?_; clear S; intro ac w β S
 refine (nt (ws (ws (rg ?_))))
 refine S.qe 1 [] [(5, .v (I 0))] ?_; clear S; intro ac w β S
 refine (nt (wp_block ?_))
 refine wp_loop_down (fun mm ac w => ∃ (i : Nat) (acc : List TKept) (j : Int) (q1 : GT.Ptr (List TKept)) (F2 : Bl) (u : World) (N : Bl) (β : Nat → Nat), mm = a.length - i ∧ (i ≤ a.length) ∧ (acc.length = a.length) ∧ (∀ f, hdlc (acc.take i) k f = f j) ∧ (acc.drop i = a.drop i) ∧ (k ≤ j) ∧ (j ≤ k + 16 * ((i : Int) + (szsum (a.take i) : Nat))) ∧ St Tryz.prog Tryz.f81.ntmps w0 F u N β ⟨[(0, .v (slv a.length q1.1)), (1, .v (I j)), (5, .v (I (i : Int)))], []⟩ ac w ∧ Ow w0 F u N F2 acc q1 ∧ q1.1 = pa.1 ∧ (∀ b, F2 b → F b)) _ ⟨0, a, k, pa, F, _, _, _, rfl, (by first | omega | (simp; done) | (simp; omega)), (by rfl), (by intro f; rfl), (by rfl), (by first | omega | (simp; done) | (simp; omega)), (by simp [szsum_nil]), S.z, oa, rfl, (fun _ h => h)⟩ ?_
 clear S oa
 rintro mm ac w ⟨i, acc, j, q1, F2, u, N, β, rfl, hi, hl, hM, hD, hj0, hj1, S, o3, hq, hs⟩
 have hel := el_of_drop hD
 have hsl := szsum_take_le a i
 refine ws (ws (rg ?_))
 refine S.qe 4 [] [(9, .v (B (decide ((i : Int) < (a.length : Int)))))] ?_; clear S; intro ac w β S
 refine (nt (S.c (decide ((i : Int) < (a.length : Int))) (fun h4 => ?_) (fun h4 => ?_)))
 ·have g5 := of_decide_eq_true h4
  refine wk (nt (ws (wp_block (ws (rg ?_)))))
  refine S.qb 6 [] [(16, .v (slv ((el acc i).known).length ((q1.2 i).known).1)), (17, .v (I j))] (.cons (Q_idx o3.rn (l := a.length) (k := i) (i := (i : Int)) (by omega) rfl (by omega) Tryz.underlying51 (by kernel_rfl)) (.cons (Q_cell o3.rn (t := 48) (k := i) (j := 0) (v := slv ((el acc i).known).length ((q1.2 i).known).1) (by omega) (by kernel_rfl) (by kernel_rfl)) .nil)) ?_; clear S; intro ac w β S
  obtain ⟨F6, o7, s8, b9⟩ := foc_Kept_known o3 (k := i) (show i < (acc).length by omega)
  have z10 := szsum_take (xs := a) (k := i) (by omega)
  have z11 := szsum_take_le a (i + 1)
  have z12 := sz_Kept (el a i)
  have e13 : (el acc i).known = (el a i).known := by simp only [hel]
  refine RG.op rfl (S.callX (hd := hdl) (d := 18) o7 (c_laws_markBoolS w ((el acc i).known) ((q1.2 i).known) F6 (S.ownw o7) (fun b hb => (S.sep b (o7.sub b hb)).1) j (by omega) (by rw [e13]; omega)) (by kernel_rfl) rfl ?_)
  clear S; intro ac w N q14 y15 k16 S up o17 c18 x19 b20 b21
  rw [e13] at b21
  obtain ⟨p22, o23⟩ := b9 _ _ _ _ up o17 c18
  clear up o3 o7 s8 b9 o17 c18
  obtain ⟨a24, e25⟩ : ∃ z, z = (acc).set i ({ el acc i with known := y15 }) := ⟨_, rfl⟩
  rw [← e25] at o23
  have l26 : a24.length = (acc).length := by rw [e25]; exact List.length_set
  have e27 : el a24 i = { el acc i with known := y15 } := by rw [e25]; exact el_set_self (show i < (acc).length by omega)
  have t28 : a24.take i = (acc).take i := by rw [e25]; exact take_set_self
  have d29 : a24.drop (i + 1) = (acc).drop (i + 1) := by rw [e25]; exact drop_set_self
  clear e25
  refine S.qe 1 [] [(1, .v (I k16))] ?_; clear S; intro ac w β S
  refine (nt (rg ?_))
  refine S.qb 6 [] [(23, .v (slv ((el a24 i).slots).length (((q1.1, p22).2 i).slots).1)), (24, .v (I k16))] (.cons (Q_idx o23.rn (l := a.length) (k := i) (i := (i : Int)) (by omega) rfl (by omega) Tryz.underlying51 (by kernel_rfl)) (.cons (Q_cell o23.rn (t := 47) (k := i) (j := 1) (v := slv ((el a24 i).slots).length (((q1.1, p22).2 i).slots).1) (by omega) (by kernel_rfl) (by kernel_rfl)) .nil)) ?_; clear S; intro ac w β S
  obtain ⟨F30, o31, s32, b33⟩ := foc_Kept_slots o23 (k := i) (show i < (a24).length by omega)
  have z34 := szsum_take (xs := a) (k := i) (by omega)
  have z35 := szsum_take_le a (i + 1)
  have z36 := sz_Kept (el a i)
  have e37 : (el a24 i).slots = (el a i).slots := by simp only [e27, hel]
  refine RG.op rfl (S.callX (hd := hdl) (d := 25) o31 (c_laws_markSlotS w ((el a24 i).slots) (((q1.1, p22).2 i).slots) F30 (S.ownw o31) (fun b hb => (S.sep b (o31.sub b hb)).1) k16 (by omega) (by rw [e37]; omega)) (by kernel_rfl) rfl ?_)
  clear S; intro ac w N q38 y39 k40 S up o41 c42 x43 b44 b45
  rw [e37] at b45
  obtain ⟨p46, o47⟩ := b33 _ _ _ _ up o41 c42
  clear up o23 o31 s32 b33 o41 c42
  obtain ⟨a48, e49⟩ : ∃ z, z = (a24).set i ({ el a24 i with slots := y39 }) := ⟨_, rfl⟩
  rw [← e49] at o47
  have l50 : a48.length = (a24).length := by rw [e49]; exact List.length_set
  have e51 : el a48 i = { el a24 i with slots := y39 } := by rw [e49]; exact el_set_self (show i < (a24).length by omega)
  have t52 : a48.take i = (a24).take i := by rw [e49]; exact take_set_self
  have d53 : a48.drop (i + 1) = (a24).drop (i + 1) := by rw [e49]; exact drop_set_self
  clear e49
  refine S.qe 1 [] [(1, .v (I k40))] ?_; clear S; intro ac w β S
  refine (nb (nt (rg ?_)))
  refine S.qg 3 [] [(5, .v (I ((i : Int) + 1)))] (.cons (Q_add (x := (i : Int)) (y := 1) ⟨by omega, by omega⟩) .nil) ?_; clear S; intro ac w β S
  refine (nt ?_)
  refine ⟨a.length - (i + 1), by omega, i + 1, a48, k40, (q1.1, p46), F2, _, _, _, rfl, ?_, ?_, ?_, ?_, ?_, ?_, S.z, o47, hq, hs⟩
  ·clear S; first | omega | (simp [*]; done) | (simp [*]; omega)
  ·clear S; omega
  ·clear S; refine mk_step (acc := a48) (by omega) (by intro f; rw [t52, t28]; exact hM f) ?_; intro f; simp (disch := first | omega | rfl) only [he_list, he_Kept, e51, e27, x19, x43, hdc_pos, hdi_eq, hdb_eq]
  ·clear S; rw [d53, d29]; exact drop_more hD
  ·clear S; omega
  ·clear S; omega
 ·have g54 := of_decide_eq_false h4
  refine wp_exit (ex_then (ex_then (ex_hit (nt (ws (rg ?_))))))
  refine S.qe 2 [] [(4, .v (I j))] ?_; clear S; intro ac w β S
  refine (nt (wr (S.r [I j] ?_)))
  have hyd : hdl acc k = j := by clear S; exact mk_end (by omega) hM
  have hyb : k ≤ j ∧ j ≤ k + 16 * ((SZ.sz a : Nat) : Int) := by clear S; have hs2 := szsum_take_le a i; constructor <;> omega
  exact retX_of S hyd hyb.1 hyb.2 (by show [slv _ _] = [slv _ _]; rw [hl, hq]) o3 hs

set_option maxRecDepth 100000 in
theorem c_laws_markMonS (w0 : World) (a : List TMon) (pa : LP TMon) (F : Bl) (ha : GT.own KK F w0 a pa) (hF : ∀ b, F b → b < w0.heap.size) (k : Int) (pre0 : 0 ≤ k) (pre1 : k + 16 * (SZ.sz a : Int) ≤ 4611686018427387904) : Calls Tryz.prog 40 [slv (a).length pa.1, I k].toArray w0 (RetX hdl F w0 pa a k) := by
 refine Calls.walk (args := [slv (a).length pa.1, I k]) F Tryz.func40 rfl rfl ?_
 intro ac β S
 have oa : Ow w0 F w0 (Lt w0.heap.size) F a pa := ⟨ha, hF, fun b hb => .inr hb⟩
 have hz := sz_list a
 have hlea : a.length ≤ 4194304 := LOwn.le ha
 refine ws (rg ?_)
 refine S.qe 1 [] [] ?_; clear S; intro ac w β S
 refine (nt (ws (ws (rg ?_))))
 refine S.qe 1 [] [(5, .v (I 0))] ?_; clear S; intro ac w β S
 refine (nt (wp_block ?_))
 refine wp_loop_down (fun mm ac w => ∃ (i : Nat) (acc : List TMon) (j : Int) (q1 : GT.Ptr (List TMon)) (F2 : Bl) (u : World) (N : Bl) (β : Nat → Nat), mm = a.length - i ∧ (i ≤ a.length) ∧ (acc.length = a.length) ∧ (∀ f, hdlc (acc.take i) k f = f j) ∧ (acc.drop i = a.drop i) ∧ (k ≤ j) ∧ (j ≤ k + 16 * ((i : Int) + (szsum (a.take i) : Nat))) ∧ St Tryz.prog Tryz.f40.ntmps w0 F u N β ⟨[(0, .v (slv a.length q1.1)), (1, .v (I j)), (5, .v (I (i : Int)))], []⟩ ac w ∧ Ow w0 F u N F2 acc q1 ∧ q1.1 = pa.1 ∧ (∀ b, F2 b → F b)) _ ⟨0, a, k, pa, F, _, _, _, rfl, (by first | omega | (simp; done) | (simp; omega)), (by rfl), (by intro f; rfl), (by rfl), (by first | omega | (simp; done) | (simp; omega)), (by simp [szsum_nil]), S.z, oa, rfl, (fun _ h => h)⟩ ?_
 clear S oa
 rintro mm ac w ⟨i, acc, j, q1, F2, u, N, β, rfl, hi, hl, hM, hD, hj0, hj1, S, o3, hq, hs⟩
 have hel := el_of_drop hD
 have hsl := szsum_take_le a i
 refine ws (ws (rg ?_))
 refine S.qe 4 [] [(9, .v (B (decide ((i : Int) < (a.length : Int)))))] ?_; clear S; intro ac w β S
 refine (nt (S.c (decide ((i : Int) < (a.length : Int))) (fun h4 => ?_) (fun h4 => ?_)))
 ·have g5 := of_decide_eq_true h4
  refine wk (nt (ws (wp_block (ws (rg ?_)))))
  refine S.qb 6 [] [(16, .v (slv ((el acc i).outer).length ((q1.2 i).outer).1)), (17, .v (I j))] (.cons (Q_idx o3.rn (l := a.length) (k := i) (i := (i : Int)) (by omega) rfl (by omega) Tryz.underlying28 (by kernel_rfl)) (.cons (Q_cell o3.rn (t := 47) (k := i) (j := 0) (v := slv ((el acc i).outer).length ((q1.2 i).outer).1) (by omega) (by kernel_rfl) (by kernel_rfl)) .nil)) ?_; clear S; intro ac w β S
  obtain ⟨F6, o7, s8, b9⟩ := foc_Mon_outer o3 (k := i) (show i < (acc).length by omega)
  have z10 := szsum_take (xs := a) (k := i) (by omega)
  have z11 := szsum_take_le a (i + 1)
  have z12 := sz_Mon (el a i)
  have e13 : (el acc i).outer = (el a i).outer := by simp only [hel]
  refine RG.op rfl (S.callX (hd := hdl) (d := 18) o7 (c_laws_markSlotS w ((el acc i).outer) ((q1.2 i).outer) F6 (S.ownw o7) (fun b hb => (S.sep b (o7.sub b hb)).1) j (by omega) (by rw [e13]; omega)) (by kernel_rfl) rfl ?_)
  clear S; intro ac w N q14 y15 k16 S up o17 c18 x19 b20 b21
  rw [e13] at b21
  obtain ⟨p22, o23⟩ := b9 _ _ _ _ up o17 c18
  clear up o3 o7 s8 b9 o17 c18
  obtain ⟨a24, e25⟩ : ∃ z, z = (acc).set i ({ el acc i with outer := y15 }) := ⟨_, rfl⟩
  rw [← e25] at o23
  have l26 : a24.length = (acc).length := by rw [e25]; exact List.length_set
  have e27 : el a24 i = { el acc i with outer := y15 } := by rw [e25]; exact el_set_self (show i < (acc).length by omega)
  have t28 : a24.take i = (acc).take i := by rw [e25]; exact take_set_self
  have d29 : a24.drop (i + 1) = (acc).drop (i + 1) := by rw [e25]; exact drop_set_self
  clear e25
  refine S.qe 1 [] [(1, .v (I k16))] ?_; clear S; intro ac w β S
  refine (nt (ws (rg ?_)))
  refine S.qb 6 [] [(23, .v (slv ((el a24 i).out).length (((q1.1, p22).2 i).out).1)), (24, .v (I k16))] (.cons (Q_idx o23.rn (l := a.length) (k := i) (i := (i : Int)) (by omega) rfl (by omega) Tryz.underlying28 (by kernel_rfl)) (.cons (Q_cell o23.rn (t := 22) (k := i) (j := 1) (v := slv ((el a24 i).out).length (((q1.1, p22).2 i).out).1) (by omega) (by kernel_rfl) (by kernel_rfl)) .nil)) ?_; clear S; intro ac w β S
  obtain ⟨F30, o31, s32, b33⟩ := foc_Mon_out o23 (k := i) (show i < (a24).length by omega)
  have z34 := szsum_take (xs := a) (k := i) (by omega)
  have z35 := szsum_take_le a (i + 1)
  have z36 := sz_Mon (el a i)
  have e37 : (el a24 i).out = (el a i).out := by simp only [e27, hel]
  refine RG.op rfl (S.callX (hd := hdl) (d := 25) o31 (c_laws_markIntSS w ((el a24 i).out) (((q1.1, p22).2 i).out) F30 (S.ownw o31) (fun b hb => (S.sep b (o31.sub b hb)).1) k16 (by omega) (by rw [e37]; omega)) (by kernel_rfl) rfl ?_)
  clear S; intro ac w N q38 y39 k40 S up o41 c42 x43 b44 b45
  rw [e37] at b45
  obtain ⟨p46, o47⟩ := b33 _ _ _ _ up o41 c42
  clear up o23 o31 s32 b33 o41 c42
  obtain ⟨a48, e49⟩ : ∃ z, z = (a24).set i ({ el a24 i with out := y39 }) := ⟨_, rfl⟩
  rw [← e49] at o47
  have l50 : a48.length = (a24).length := by rw [e49]; exact List.length_set
  have e51 : el a48 i = { el a24 i with out := y39 } := by rw [e49]; exact el_set_self (show i < (a24).length by omega)
  have t52 : a48.take i = (a24).take i := by rw [e49]; exact take_set_self
  have d53 : a48.drop (i + 1) = (a24).drop (i + 1) := by rw [e49]; exact drop_set_self
  clear e49
  refine S.qe 1 [] [(1, .v (I k40))] ?_; clear S; intro ac w β S
  refine (nt (ws (rg ?_)))
  refine S.qb 6 [] [(30, .v (slv ((el a48 i).dirty).length (((q1.1, p46).2 i).dirty).1)), (31, .v (I k40))] (.cons (Q_idx o47.rn (l := a.length) (k := i) (i := (i : Int)) (by omega) rfl (by omega) Tryz.underlying28 (by kernel_rfl)) (.cons (Q_cell o47.rn (t := 48) (k := i) (j := 2) (v := slv ((el a48 i).dirty).length (((q1.1, p46).2 i).dirty).1) (by omega) (by kernel_rfl) (by kernel_rfl)) .nil)) ?_; clear S; intro ac w β S
  obtain ⟨F54, o55, s56, b57⟩ := foc_Mon_dirty o47 (k := i) (show i < (a48).length by omega)
  have z58 := szsum_take (xs := a) (k := i) (by omega)
  have z59 := szsum_take_le a (i + 1)
  have z60 := sz_Mon (el a i)
  have e61 : (el a48 i).dirty = (el a i).dirty := by simp only [e51, e27, hel]
  refine RG.op rfl (S.callX (hd := hdl) (d := 32) o55 (c_laws_markBoolS w ((el a48 i).dirty) (((q1.1, p46).2 i).dirty) F54 (S.ownw o55) (fun b hb => (S.sep b (o55.sub b hb)).1) k40 (by omega) (by rw [e61]; omega)) (by kernel_rfl) rfl ?_)
  clear S; intro ac w N q62 y63 k64 S up o65 c66 x67 b68 b69
  rw [e61] at b69
  obtain ⟨p70, o71⟩ := b57 _ _ _ _ up o65 c66
  clear up o47 o55 s56 b57 o65 c66
  obtain ⟨a72, e73⟩ : ∃ z, z = (a48).set i ({ el a48 i with dirty := y63 }) := ⟨_, rfl⟩
  rw [← e73] at o71
  have l74 : a72.length = (a48).length := by rw [e73]; exact List.length_set
  have e75 : el a72 i = { el a48 i with dirty := y63 } := by rw [e73]; exact el_set_self (show i < (a48).length by omega)
  have t76 : a72.take i = (a48).take i := by rw [e73]; exact take_set_self
  have d77 : a72.drop (i + 1) = (a48).drop (i + 1) := by rw [e73]; exact drop_set_self
  clear e73
  refine S.qe 1 [] [(1, .v (I k64))] ?_; clear S; intro ac w β S
  refine (nt (ws (rg ?_)))
  refine S.qb 6 [] [(37, .v (slv ((el a72 i).guests).length (((q1.1, p70).2 i).guests).1)), (38, .v (I k64))] (.cons (Q_idx o71.rn (l := a.length) (k := i) (i := (i : Int)) (by omega) rfl (by omega) Tryz.underlying28 (by kernel_rfl)) (.cons (Q_cell o71.rn (t := 49) (k := i) (j := 3) (v := slv ((el a72 i).guests).length (((q1.1, p70).2 i).guests).1) (by omega) (by kernel_rfl) (by kernel_rfl)) .nil)) ?_; clear S; intro ac w β S
  obtain ⟨F78, o79, s80, b81⟩ := foc_Mon_guests o71 (k := i) (show i < (a72).length by omega)
  have z82 := szsum_take (xs := a) (k := i) (by omega)
  have z83 := szsum_take_le a (i + 1)
  have z84 := sz_Mon (el a i)
  have e85 : (el a72 i).guests = (el a i).guests := by simp only [e75, e51, e27, hel]
  refine RG.op rfl (S.callX (hd := hdl) (d := 39) o79 (c_laws_markGuestS w ((el a72 i).guests) (((q1.1, p70).2 i).guests) F78 (S.ownw o79) (fun b hb => (S.sep b (o79.sub b hb)).1) k64 (by omega) (by rw [e85]; omega)) (by kernel_rfl) rfl ?_)
  clear S; intro ac w N q86 y87 k88 S up o89 c90 x91 b92 b93
  rw [e85] at b93
  obtain ⟨p94, o95⟩ := b81 _ _ _ _ up o89 c90
  clear up o71 o79 s80 b81 o89 c90
  obtain ⟨a96, e97⟩ : ∃ z, z = (a72).set i ({ el a72 i with guests := y87 }) := ⟨_, rfl⟩
  rw [← e97] at o95
  have l98 : a96.length = (a72).length := by rw [e97]; exact List.length_set
  have e99 : el a96 i = { el a72 i with guests := y87 } := by rw [e97]; exact el_set_self (show i < (a72).length by omega)
  have t100 : a96.take i = (a72).take i := by rw [e97]; exact take_set_self
  have d101 : a96.drop (i + 1) = (a72).drop (i + 1) := by rw [e97]; exact drop_set_self
  clear e97
  refine S.qe 1 [] [(1, .v (I k88))] ?_; clear S; intro ac w β S
  refine (nt (ws (rg ?_)))
  refine S.qb 6 [] [(44, .v (slv ((el a96 i).outs).length (((q1.1, p94).2 i).outs).1)), (45, .v (I k88))] (.cons (Q_idx o95.rn (l := a.length) (k := i) (i := (i : Int)) (by omega) rfl (by omega) Tryz.underlying28 (by kernel_rfl)) (.cons (Q_cell o95.rn (t := 50) (k := i) (j := 4) (v := slv ((el a96 i).outs).length (((q1.1, p94).2 i).outs).1) (by omega) (by kernel_rfl) (by kernel_rfl)) .nil)) ?_; clear S; intro ac w β S
  obtain ⟨F102, o103, s104, b105⟩ := foc_Mon_outs o95 (k := i) (show i < (a96).length by omega)
  have z106 := szsum_take (xs := a) (k := i) (by omega)
  have z107 := szsum_take_le a (i + 1)
  have z108 := sz_Mon (el a i)
  have e109 : (el a96 i).outs = (el a i).outs := by simp only [e99, e75, e51, e27, hel]
  refine RG.op rfl (S.callX (hd := hdl) (d := 46) o103 (c_laws_markIntS w ((el a96 i).outs) (((q1.1, p94).2 i).outs) F102 (S.ownw o103) (fun b hb => (S.sep b (o103.sub b hb)).1) k88 (by omega) (by rw [e109]; omega)) (by kernel_rfl) rfl ?_)
  clear S; intro ac w N q110 y111 k112 S up o113 c114 x115 b116 b117
  rw [e109] at b117
  obtain ⟨p118, o119⟩ := b105 _ _ _ _ up o113 c114
  clear up o95 o103 s104 b105 o113 c114
  obtain ⟨a120, e121⟩ : ∃ z, z = (a96).set i ({ el a96 i with outs := y111 }) := ⟨_, rfl⟩
  rw [← e121] at o119
  have l122 : a120.length = (a96).length := by rw [e121]; exact List.length_set
  have e123 : el a120 i = { el a96 i with outs := y111 } := by rw [e121]; exact el_set_self (show i < (a96).length by omega)
  have t124 : a120.take i = (a96).take i := by rw [e121]; exact take_set_self
  have d125 : a120.drop (i + 1) = (a96).drop (i + 1) := by rw [e121]; exact drop_set_self
  clear e121
  refine S.qe 1 [] [(1, .v (I k112))] ?_; clear S; intro ac w β S
  refine (nt (ws (rg ?_)))
  refine S.qb 5 [] [(49, .v (I k112)), (51, .v (pt q1.1.b (q1.1.off + i * 9 + 5)))] (.cons (Q_idx o119.rn (l := a.length) (k := i) (i := (i : Int)) (by omega) rfl (by omega) Tryz.underlying28 (by kernel_rfl)) .nil) ?_; clear S; intro ac w β S
  refine RG.op rfl (S.setEl (α := TMon) o119 (t := 3) (v := I k112) (k := i) (j := 5) (off := q1.1.off + i * 9 + 5) (y := ({ el a120 i with pend := k112 } : TMon)) (q := ((q1.1, p118).2 i)) (Fy := NoB) (by kernel_rfl) (by kernel_rfl) (by omega) (by kernel_rfl) (by kernel_rfl) (Nat.le_of_ble_eq_true (by kernel_rfl)) (by kernel_rfl) (fun G g_ _ => ⟨G, ows_Mon_pend g_ (⟨by omega, by omega⟩), fun _ h => .inl h⟩) (fun b _ h => False.elim h) (fun b h => False.elim h) (fun b h => False.elim h) ?_)
  clear S; intro w N F127 q128 S up o126 d129 s130 n131
  have s132 : ∀ b, F127 b → F b := fun b h => (s130 b h).elim (hs b) (fun h => False.elim h)
  clear up d129 o119 n131
  obtain ⟨a133, e134⟩ : ∃ z, z = (a120).set i ({ el a120 i with pend := k112 }) := ⟨_, rfl⟩
  rw [← e134] at o126
  have l135 : a133.length = (a120).length := by rw [e134]; exact List.length_set
  have e136 : el a133 i = { el a120 i with pend := k112 } := by rw [e134]; exact el_set_self (show i < (a120).length by omega)
  have t137 : a133.take i = (a120).take i := by rw [e134]; exact take_set_self
  have d138 : a133.drop (i + 1) = (a120).drop (i + 1) := by rw [e134]; exact drop_set_self
  clear e134
  refine rd (nt (ws (rg ?_)))
  refine S.qg 3 [9, 16, 17, 23, 24, 30, 31, 37, 38, 44, 45, 49, 51] [(1, .v (I (k112 + 1)))] (.cons (Q_add (x := k112) (y := 1) ⟨by omega, by omega⟩) .nil) ?_; clear S; intro ac w β S
  refine (nt (ws (rg ?_)))
  refine S.qb 5 [] [(56, .v (I (k112 + 1))), (58, .v (pt q1.1.b (q1.1.off + i * 9 + 6)))] (.cons (Q_idx o126.rn (l := a.length) (k := i) (i := (i : Int)) (by omega) rfl (by omega) Tryz.underlying28 (by kernel_rfl)) .nil) ?_; clear S; intro ac w β S
  refine RG.op rfl (S.setEl (α := TMon) o126 (t := 3) (v := I (k112 + 1)) (k := i) (j := 6) (off := q1.1.off + i * 9 + 6) (y := ({ el a133 i with traps := (k112 + 1) } : TMon)) (q := ((q1.1, q128).2 i)) (Fy := NoB) (by kernel_rfl) (by kernel_rfl) (by omega) (by kernel_rfl) (by kernel_rfl) (Nat.le_of_ble_eq_true (by kernel_rfl)) (by kernel_rfl) (fun G g_ _ => ⟨G, ows_Mon_traps g_ (⟨by omega, by omega⟩), fun _ h => .inl h⟩) (fun b _ h => False.elim h) (fun b h => False.elim h) (fun b h => False.elim h) ?_)
  clear S; intro w N F140 q141 S up o139 d142 s143 n144
  have s145 : ∀ b, F140 b → F b := fun b h => (s143 b h).elim (s132 b) (fun h => False.elim h)
  clear up d142 o126 n144
  obtain ⟨a146, e147⟩ : ∃ z, z = (a133).set i ({ el a133 i with traps := (k112 + 1) }) := ⟨_, rfl⟩
  rw [← e147] at o139
  have l148 : a146.length = (a133).length := by rw [e147]; exact List.length_set
  have e149 : el a146 i = { el a133 i with traps := (k112 + 1) } := by rw [e147]; exact el_set_self (show i < (a133).length by omega)
  have t150 : a146.take i = (a133).take i := by rw [e147]; exact take_set_self
  have d151 : a146.drop (i + 1) = (a133).drop (i + 1) := by rw [e147]; exact drop_set_self
  clear e147
  refine rd (nt (ws (rg ?_)))
  refine S.qg 3 [] [(1, .v (I ((k112 + 1) + 1)))] (.cons (Q_add (x := (k112 + 1)) (y := 1) ⟨by omega, by omega⟩) .nil) ?_; clear S; intro ac w β S
  refine (nt (ws (rg ?_)))
  refine S.qb 6 [] [(65, .v (slv ((el a146 i).tables).length (((q1.1, q141).2 i).tables).1)), (66, .v (I ((k112 + 1) + 1)))] (.cons (Q_idx o139.rn (l := a.length) (k := i) (i := (i : Int)) (by omega) rfl (by omega) Tryz.underlying28 (by kernel_rfl)) (.cons (Q_cell o139.rn (t := 51) (k := i) (j := 7) (v := slv ((el a146 i).tables).length (((q1.1, q141).2 i).tables).1) (by omega) (by kernel_rfl) (by kernel_rfl)) .nil)) ?_; clear S; intro ac w β S
  obtain ⟨F152, o153, s154, b155⟩ := foc_Mon_tables o139 (k := i) (show i < (a146).length by omega)
  have z156 := szsum_take (xs := a) (k := i) (by omega)
  have z157 := szsum_take_le a (i + 1)
  have z158 := sz_Mon (el a i)
  have e159 : (el a146 i).tables = (el a i).tables := by simp only [e149, e136, e123, e99, e75, e51, e27, hel]
  refine RG.op rfl (S.callX (hd := hdl) (d := 67) o153 (c_laws_markKeptS w ((el a146 i).tables) (((q1.1, q141).2 i).tables) F152 (S.ownw o153) (fun b hb => (S.sep b (o153.sub b hb)).1) ((k112 + 1) + 1) (by omega) (by rw [e159]; omega)) (by kernel_rfl) rfl ?_)
  clear S; intro ac w N q160 y161 k162 S up o163 c164 x165 b166 b167
  rw [e159] at b167
  obtain ⟨p168, o169⟩ := b155 _ _ _ _ up o163 c164
  clear up o139 o153 s154 b155 o163 c164
  obtain ⟨a170, e171⟩ : ∃ z, z = (a146).set i ({ el a146 i with tables := y161 }) := ⟨_, rfl⟩
  rw [← e171] at o169
  have l172 : a170.length = (a146).length := by rw [e171]; exact List.length_set
  have e173 : el a170 i = { el a146 i with tables := y161 } := by rw [e171]; exact el_set_self (show i < (a146).length by omega)
  have t174 : a170.take i = (a146).take i := by rw [e171]; exact take_set_self
  have d175 : a170.drop (i + 1) = (a146).drop (i + 1) := by rw [e171]; exact drop_set_self
  clear e171
  refine S.qe 1 [] [(1, .v (I k162))] ?_; clear S; intro ac w β S
  refine (nt (ws (rg ?_)))
  refine S.qb 5 [] [(70, .v (I k162)), (72, .v (pt q1.1.b (q1.1.off + i * 9 + 8)))] (.cons (Q_idx o169.rn (l := a.length) (k := i) (i := (i : Int)) (by omega) rfl (by omega) Tryz.underlying28 (by kernel_rfl)) .nil) ?_; clear S; intro ac w β S
  refine RG.op rfl (S.setEl (α := TMon) o169 (t := 3) (v := I k162) (k := i) (j := 8) (off := q1.1.off + i * 9 + 8) (y := ({ el a170 i with owned := k162 } : TMon)) (q := ((q1.1, p168).2 i)) (Fy := NoB) (by kernel_rfl) (by kernel_rfl) (by omega) (by kernel_rfl) (by kernel_rfl) (Nat.le_of_ble_eq_true (by kernel_rfl)) (by kernel_rfl) (fun G g_ _ => ⟨G, ows_Mon_owned g_ (⟨by omega, by omega⟩), fun _ h => .inl h⟩) (fun b _ h => False.elim h) (fun b h => False.elim h) (fun b h => False.elim h) ?_)
  clear S; intro w N F177 q178 S up o176 d179 s180 n181
  have s182 : ∀ b, F177 b → F b := fun b h => (s180 b h).elim (s145 b) (fun h => False.elim h)
  clear up d179 o169 n181
  obtain ⟨a183, e184⟩ : ∃ z, z = (a170).set i ({ el a170 i with owned := k162 }) := ⟨_, rfl⟩
  rw [← e184] at o176
  have l185 : a183.length = (a170).length := by rw [e184]; exact List.length_set
  have e186 : el a183 i = { el a170 i with owned := k162 } := by rw [e184]; exact el_set_self (show i < (a170).length by omega)
  have t187 : a183.take i = (a170).take i := by rw [e184]; exact take_set_self
  have d188 : a183.drop (i + 1) = (a170).drop (i + 1) := by rw [e184]; exact drop_set_self
  clear e184
  refine rd (nt (rg ?_))
  refine S.qg 3 [] [(1, .v (I (k162 + 1)))] (.cons (Q_add (x := k162) (y := 1) ⟨by omega, by omega⟩) .nil) ?_; clear S; intro ac w β S
  refine (nb (nt (rg ?_)))
  refine S.qg 3 [] [(5, .v (I ((i : Int) + 1)))] (.cons (Q_add (x := (i : Int)) (y := 1) ⟨by omega, by omega⟩) .nil) ?_; clear S; intro ac w β S
  refine (nt ?_)
  refine ⟨a.length - (i + 1), by omega, i + 1, a183, (k162 + 1), (q1.1, q178), F177, _, _, _, rfl, ?_, ?_, ?_, ?_, ?_, ?_, S.z, o176, hq, s182⟩
  ·clear S; first | omega | (simp [*]; done) | (simp [*]; omega)
  ·clear S; omega
  ·clear S; refine mk_step (acc := a183) (by omega) (by intro f; rw [t187, t174, t150, t137, t124, t100, t76, t52, t28]; exact hM f) ?_; intro f; simp (disch := first | omega | rfl) only [he_list, he_Mon, e186, e173, e149, e136, e123, e99, e75, e51, e27, x19, x43, x67, x91, x115, x165, hdc_pos, hdi_eq, hdb_eq]
  ·clear S; rw [d188, d175, d151, d138, d125, d101, d77, d53, d29]; exact drop_more hD
  ·clear S; omega
  ·clear S; omega
 ·have g189 := of_decide_eq_false h4
  refine wp_exit (ex_then (ex_then (ex_hit (nt (ws (rg ?_))))))
  refine S.qe 2 [] [(4, .v (I j))] ?_; clear S; intro ac w β S
  refine (nt (wr (S.r [I j] ?_)))
  have hyd : hdl acc k = j := by clear S; exact mk_end (by omega) hM
  have hyb : k ≤ j ∧ j ≤ k + 16 * ((SZ.sz a : Nat) : Int) := by clear S; have hs2 := szsum_take_le a i; constructor <;> omega
  exact retX_of S hyd hyb.1 hyb.2 (by show [slv _ _] = [slv _ _]; rw [hl, hq]) o3 hs

set_option maxRecDepth 100000 in
theorem c_laws_markEntryS (w0 : World) (a : List TEntry) (pa : LP TEntry) (F : Bl) (ha : GT.own KK F w0 a pa) (hF : ∀ b, F b → b < w0.heap.size) (k : Int) (pre0 : 0 ≤ k) (pre1 : k + 16 * (SZ.sz a : Int) ≤ 4611686018427387904) : Calls Tryz.prog 41 [slv (a).length pa.1, I k].toArray w0 (RetX hdl F w0 pa a k) := by
 refine Calls.walk (args := [slv (a).length pa.1, I k]) F Tryz.func41 rfl rfl ?_
 intro ac β S
 have oa : Ow w0 F w0 (Lt w0.heap.size) F a pa := ⟨ha, hF, fun b hb => .inr hb⟩
 have hz := szl_TEntry a
 have hlea : a.length ≤ 4194304 := LOwn.le ha
 refine ws (rg ?_)
 refine S.qe 1 [] [] ?_; clear S; intro ac w β S
 refine (nt (ws (ws (rg ?_))))
 refine S.qe 1 [] [(5, .v (I 0))] ?_; clear S; intro ac w β S
 refine (nt (wp_block ?_))
 refine wp_loop_down (fun mm ac w => ∃ (i : Nat) (acc : List TEntry) (j : Int) (q1 : GT.Ptr (List TEntry)) (F2 : Bl) (u : World) (N : Bl) (β : Nat → Nat), mm = a.length - i ∧ (i ≤ a.length) ∧ (acc = f_marksEntry i k ++ a.drop i) ∧ (j = k + 4 * (i : Int)) ∧ St Tryz.prog Tryz.f41.ntmps w0 F u N β ⟨[(0, .v (slv a.length q1.1)), (1, .v (I j)), (5, .v (I (i : Int)))], []⟩ ac w ∧ Ow w0 F u N F2 acc q1 ∧ q1.1 = pa.1 ∧ (∀ b, F2 b → F b)) _ ⟨0, a, k, pa, F, _, _, _, rfl, (by first | omega | (simp; done) | (simp; omega)), (by simp [f_marksEntry]), (by simp), S.z, oa, rfl, (fun _ h => h)⟩ ?_
 clear S oa
 rintro mm ac w ⟨i, acc, j, q1, F2, u, N, β, rfl, hi, hacc, hj, S, o3, hq, hs⟩
 have hlacc : acc.length = a.length := by rw [hacc]; simp [f_marksEntry]; omega
 refine ws (ws (rg ?_))
 refine S.qe 4 [] [(9, .v (B (decide ((i : Int) < (a.length : Int)))))] ?_; clear S; intro ac w β S
 refine (nt (S.c (decide ((i : Int) < (a.length : Int))) (fun h4 => ?_) (fun h4 => ?_)))
 ·have g5 := of_decide_eq_true h4
  refine wk (nt (ws (wp_block (ws (rg ?_)))))
  refine S.qb 5 [] [(14, .v (I j)), (16, .v (pt q1.1.b (q1.1.off + i * 4)))] (.cons (Q_idx o3.rn (l := a.length) (k := i) (i := (i : Int)) (by rw [hacc]; simp [f_marksEntry]; omega) rfl (by omega) Tryz.underlying29 (by kernel_rfl)) .nil) ?_; clear S; intro ac w β S
  have e6 : REntry (el acc i) := (LRd.el o3.rn i (by omega))
  refine RG.op rfl (S.setEl (α := TEntry) o3 (t := 3) (v := I j) (k := i) (j := 0) (off := q1.1.off + i * 4) (y := (⟨j, (el acc i).page, (el acc i).host, (el acc i).rights⟩ : TEntry)) (q := ()) (Fy := NoB) (by kernel_rfl) (by kernel_rfl) (by omega) (by kernel_rfl) (by kernel_rfl) (Nat.le_of_ble_eq_true (by kernel_rfl)) (by kernel_rfl) (fun _ _ _ => ⟨NoB, (show REntry (⟨j, (el acc i).page, (el acc i).host, (el acc i).rights⟩ : TEntry) from ⟨(show In64 j from ⟨by omega, by omega⟩), (REntry.page (d := (el acc i)) e6), (REntry.host (d := (el acc i)) e6), (REntry.rights (d := (el acc i)) e6)⟩), fun _ h => False.elim h⟩) (fun b _ h => False.elim h) (fun b h => False.elim h) (fun b h => False.elim h) ?_)
  clear S; intro w N F8 q9 S up o7 d10 s11 n12
  have s13 : ∀ b, F8 b → F b := fun b h => (s11 b h).elim (hs b) (fun h => False.elim h)
  clear up d10 o3 n12
  have l14 : (acc.set i (⟨j, (el acc i).page, (el acc i).host, (el acc i).rights⟩ : TEntry)).length = (acc).length := List.length_set
  refine rd (nt (ws (rg ?_)))
  refine S.qg 3 [] [(1, .v (I (j + 1)))] (.cons (Q_add (x := j) (y := 1) ⟨by omega, by omega⟩) .nil) ?_; clear S; intro ac w β S
  refine (nt (ws (rg ?_)))
  refine S.qb 5 [] [(21, .v (I (j + 1))), (23, .v (pt q1.1.b (q1.1.off + i * 4 + 1)))] (.cons (Q_idx o7.rn (l := a.length) (k := i) (i := (i : Int)) (by rw [List.length_set]; exact (by rw [hacc]; simp [f_marksEntry]; omega)) rfl (by omega) Tryz.underlying29 (by kernel_rfl)) .nil) ?_; clear S; intro ac w β S
  refine RG.op rfl (S.setEl (α := TEntry) o7 (t := 3) (v := I (j + 1)) (k := i) (j := 1) (off := q1.1.off + i * 4 + 1) (y := (⟨j, (j + 1), (el acc i).host, (el acc i).rights⟩ : TEntry)) (q := ()) (Fy := NoB) (by kernel_rfl) (by kernel_rfl) (by omega) (by kernel_rfl) (by kernel_rfl) (Nat.le_of_ble_eq_true (by kernel_rfl)) (by rw [el_set_self (show i < (acc).length by omega)]; kernel_rfl) (fun _ _ _ => ⟨NoB, (show REntry (⟨j, (j + 1), (el acc i).host, (el acc i).rights⟩ : TEntry) from ⟨(show In64 j from ⟨by omega, by omega⟩), (show In64 (j + 1) from ⟨by omega, by omega⟩), (REntry.host (d := (el acc i)) e6), (REntry.rights (d := (el acc i)) e6)⟩), fun _ h => False.elim h⟩) (fun b _ h => False.elim h) (fun b h => False.elim h) (fun b h => False.elim h) ?_)
  clear S; intro w N F16 q17 S up o15 d18 s19 n20
  have s21 : ∀ b, F16 b → F b := fun b h => (s19 b h).elim (s13 b) (fun h => False.elim h)
  clear up d18 o7 n20
  rw [List.set_set] at o15
  have l22 : (acc.set i (⟨j, (j + 1), (el acc i).host, (el acc i).rights⟩ : TEntry)).length = (acc).length := List.length_set
  refine rd (nt (ws (rg ?_)))
  refine S.qg 3 [] [(1, .v (I ((j + 1) + 1)))] (.cons (Q_add (x := (j + 1)) (y := 1) ⟨by omega, by omega⟩) .nil) ?_; clear S; intro ac w β S
  refine (nt (ws (rg ?_)))
  refine S.qb 5 [] [(28, .v (I ((j + 1) + 1))), (30, .v (pt q1.1.b (q1.1.off + i * 4 + 2)))] (.cons (Q_idx o15.rn (l := a.length) (k := i) (i := (i : Int)) (by rw [List.length_set]; exact (by rw [hacc]; simp [f_marksEntry]; omega)) rfl (by omega) Tryz.underlying29 (by kernel_rfl)) .nil) ?_; clear S; intro ac w β S
  refine RG.op rfl (S.setEl (α := TEntry) o15 (t := 3) (v := I ((j + 1) + 1)) (k := i) (j := 2) (off := q1.1.off + i * 4 + 2) (y := (⟨j, (j + 1), ((j + 1) + 1), (el acc i).rights⟩ : TEntry)) (q := ()) (Fy := NoB) (by kernel_rfl) (by kernel_rfl) (by omega) (by kernel_rfl) (by kernel_rfl) (Nat.le_of_ble_eq_true (by kernel_rfl)) (by rw [el_set_self (show i < (acc).length by omega)]; kernel_rfl) (fun _ _ _ => ⟨NoB, (show REntry (⟨j, (j + 1), ((j + 1) + 1), (el acc i).rights⟩ : TEntry) from ⟨(show In64 j from ⟨by omega, by omega⟩), (show In64 (j + 1) from ⟨by omega, by omega⟩), (show In64 ((j + 1) + 1) from ⟨by omega, by omega⟩), (REntry.rights (d := (el acc i)) e6)⟩), fun _ h => False.elim h⟩) (fun b _ h => False.elim h) (fun b h => False.elim h) (fun b h => False.elim h) ?_)
  clear S; intro w N F24 q25 S up o23 d26 s27 n28
  have s29 : ∀ b, F24 b → F b := fun b h => (s27 b h).elim (s21 b) (fun h => False.elim h)
  clear up d26 o15 n28
  rw [List.set_set] at o23
  have l30 : (acc.set i (⟨j, (j + 1), ((j + 1) + 1), (el acc i).rights⟩ : TEntry)).length = (acc).length := List.length_set
  refine rd (nt (ws (rg ?_)))
  refine S.qg 3 [] [(1, .v (I (((j + 1) + 1) + 1)))] (.cons (Q_add (x := ((j + 1) + 1)) (y := 1) ⟨by omega, by omega⟩) .nil) ?_; clear S; intro ac w β S
  refine (nt (ws (rg ?_)))
  refine S.qb 5 [] [(35, .v (I (((j + 1) + 1) + 1))), (37, .v (pt q1.1.b (q1.1.off + i * 4 + 3)))] (.cons (Q_idx o23.rn (l := a.length) (k := i) (i := (i : Int)) (by rw [List.length_set]; exact (by rw [hacc]; simp [f_marksEntry]; omega)) rfl (by omega) Tryz.underlying29 (by kernel_rfl)) .nil) ?_; clear S; intro ac w β S
  refine RG.op rfl (S.setEl (α := TEntry) o23 (t := 3) (v := I (((j + 1) + 1) + 1)) (k := i) (j := 3) (off := q1.1.off + i * 4 + 3) (y := (⟨j, (j + 1), ((j + 1) + 1), (((j + 1) + 1) + 1)⟩ : TEntry)) (q := ()) (Fy := NoB) (by kernel_rfl) (by kernel_rfl) (by omega) (by kernel_rfl) (by kernel_rfl) (Nat.le_of_ble_eq_true (by kernel_rfl)) (by rw [el_set_self (show i < (acc).length by omega)]; kernel_rfl) (fun _ _ _ => ⟨NoB, (show REntry (⟨j, (j + 1), ((j + 1) + 1), (((j + 1) + 1) + 1)⟩ : TEntry) from ⟨(show In64 j from ⟨by omega, by omega⟩), (show In64 (j + 1) from ⟨by omega, by omega⟩), (show In64 ((j + 1) + 1) from ⟨by omega, by omega⟩), (show In64 (((j + 1) + 1) + 1) from ⟨by omega, by omega⟩)⟩), fun _ h => False.elim h⟩) (fun b _ h => False.elim h) (fun b h => False.elim h) (fun b h => False.elim h) ?_)
  clear S; intro w N F32 q33 S up o31 d34 s35 n36
  have s37 : ∀ b, F32 b → F b := fun b h => (s35 b h).elim (s29 b) (fun h => False.elim h)
  clear up d34 o23 n36
  rw [List.set_set] at o31
  have l38 : (acc.set i (⟨j, (j + 1), ((j + 1) + 1), (((j + 1) + 1) + 1)⟩ : TEntry)).length = (acc).length := List.length_set
  refine rd (nt (rg ?_))
  refine S.qg 3 [] [(1, .v (I ((((j + 1) + 1) + 1) + 1)))] (.cons (Q_add (x := (((j + 1) + 1) + 1)) (y := 1) ⟨by omega, by omega⟩) .nil) ?_; clear S; intro ac w β S
  refine (nb (nt (rg ?_)))
  refine S.qg 3 [] [(5, .v (I ((i : Int) + 1)))] (.cons (Q_add (x := (i : Int)) (y := 1) ⟨by omega, by omega⟩) .nil) ?_; clear S; intro ac w β S
  refine (nt ?_)
  refine ⟨a.length - (i + 1), by omega, i + 1, (acc.set i (⟨j, (j + 1), ((j + 1) + 1), (((j + 1) + 1) + 1)⟩ : TEntry)), ((((j + 1) + 1) + 1) + 1), (q1.1, q33), F32, _, _, _, rfl, ?_, ?_, ?_, S.z, o31, hq, s37⟩
  ·clear S; first | omega | (simp [*]; done) | (simp [*]; omega)
  ·clear S; (have hlt : i < acc.length := (by omega)); rw [hacc, ← marksEntry_step (by omega) hj]; (first | rfl | (simp [g_markEntry, Int.add_assoc]; done))
  ·clear S; omega
 ·have g39 := of_decide_eq_false h4
  refine wp_exit (ex_then (ex_then (ex_hit (nt (ws (rg ?_))))))
  refine S.qe 2 [] [(4, .v (I j))] ?_; clear S; intro ac w β S
  refine (nt (wr (S.r [I j] ?_)))
  have hyd : hdl acc k = j := by clear S; (have e : i = a.length := (by omega)); subst e; rw [hacc, List.drop_length, List.append_nil, hj]; exact hd_marksEntry k (by omega) _ (by omega) id
  have hyb : k ≤ j ∧ j ≤ k + 16 * ((SZ.sz a : Nat) : Int) := by clear S; skip; constructor <;> omega
  exact retX_of S hyd hyb.1 hyb.2 (by show [slv _ _] = [slv _ _]; rw [hlacc, hq]) o3 hs

set_option maxRecDepth 100000 in
theorem c_laws_markHost (w0 : World) (a : THost) (pa : PHost) (F : Bl) (ha : GT.own KK F w0 a pa) (hF : ∀ b, F b → b < w0.heap.size) (k : Int) (pre0 : 0 ≤ k) (pre1 : k + 16 * (SZ.sz a : Int) ≤ 4611686018427387904) : Calls Tryz.prog 13 [GT.val a pa, I k].toArray w0 (RetX hdT_Host F w0 pa a k) := by
 refine Calls.walk (args := [GT.val a pa, I k]) F Tryz.func13 rfl rfl ?_
 intro ac β S
 have oa : Ow w0 F w0 (Lt w0.heap.size) F a pa := ⟨ha, hF, fun b hb => .inr hb⟩
 obtain ⟨F1, F4, F7, F10, o2, o5, o8, o11, s3, s6, s9, s12, d13, d14, d15, d16, d17, d18⟩ := sp_Host oa
 have hz := sz_Host a
 refine ws (rg ?_)
 refine S.qem 2 [] [(2, .p 0 0)] 1 [(0, [slv (a.mem).length pa.mem.1, slv (a.mons).length pa.mons.1, slv (a.buf).length pa.buf.1, slv (a.iobuf).length pa.iobuf.1])] ?_; clear S; intro ac w β S
 refine (nt (ws (rg ?_)))
 refine S.qa 3 [] [(6, .v (slv (a.mem).length pa.mem.1)), (7, .v (I k))] ?_; clear S; intro ac w β S
 refine RG.op rfl (S.callX (hd := hdl) (d := 8) o2 (c_laws_markIntSS w a.mem pa.mem F1 (S.ownw o2) (fun b hb => (S.sep b (o2.sub b hb)).1) k (by omega) (by omega)) (by kernel_rfl) rfl ?_)
 clear S; intro ac w N q19 y20 k21 S up o22 c23 x24 b25 b26
 replace o5 := o5.upF (Disj.symm d13) up
 replace o8 := o8.upF (Disj.symm d14) up
 replace o11 := o11.upF (Disj.symm d15) up
 clear up
 refine S.qe 1 [] [(1, .v (I k21))] ?_; clear S; intro ac w β S
 refine (nt (ws (rg ?_)))
 refine S.qa 3 [] [(10, .v (slv (a.mons).length pa.mons.1)), (11, .v (I k21))] ?_; clear S; intro ac w β S
 refine RG.op rfl (S.callX (hd := hdl) (d := 12) o5 (c_laws_markMonS w a.mons pa.mons F4 (S.ownw o5) (fun b hb => (S.sep b (o5.sub b hb)).1) k21 (by omega) (by omega)) (by kernel_rfl) rfl ?_)
 clear S; intro ac w N q27 y28 k29 S up o30 c31 x32 b33 b34
 replace o8 := o8.upF (Disj.symm d16) up
 replace o11 := o11.upF (Disj.symm d17) up
 replace o22 := o22.upF (Disj.symm (Disj.symm d13)) up
 clear up
 refine S.qe 1 [] [(1, .v (I k29))] ?_; clear S; intro ac w β S
 refine (nt (ws (rg ?_)))
 refine S.qa 3 [] [(14, .v (slv (a.buf).length pa.buf.1)), (15, .v (I k29))] ?_; clear S; intro ac w β S
 refine RG.op rfl (S.callX (hd := hdl) (d := 16) o8 (c_laws_markEntryS w a.buf pa.buf F7 (S.ownw o8) (fun b hb => (S.sep b (o8.sub b hb)).1) k29 (by omega) (by omega)) (by kernel_rfl) rfl ?_)
 clear S; intro ac w N q35 y36 k37 S up o38 c39 x40 b41 b42
 replace o11 := o11.upF (Disj.symm d18) up
 replace o22 := o22.upF (Disj.symm (Disj.symm d14)) up
 replace o30 := o30.upF (Disj.symm (Disj.symm d16)) up
 clear up
 refine S.qe 1 [] [(1, .v (I k37))] ?_; clear S; intro ac w β S
 refine (nt (ws (rg ?_)))
 refine S.qam 3 [] [(18, .v (slv (a.iobuf).length pa.iobuf.1)), (19, .v (I k37))] 0 [] ?_; clear S; intro ac w β S
 refine RG.op rfl (S.callX (hd := hdl) (d := 20) o11 (c_laws_markEntryS w a.iobuf pa.iobuf F10 (S.ownw o11) (fun b hb => (S.sep b (o11.sub b hb)).1) k37 (by omega) (by omega)) (by kernel_rfl) rfl ?_)
 clear S; intro ac w N q43 y44 k45 S up o46 c47 x48 b49 b50
 replace o22 := o22.upF (Disj.symm (Disj.symm d15)) up
 replace o30 := o30.upF (Disj.symm (Disj.symm d17)) up
 replace o38 := o38.upF (Disj.symm (Disj.symm d18)) up
 clear up
 refine S.qe 1 [] [(1, .v (I k45))] ?_; clear S; intro ac w β S
 refine (nt (ws (rg ?_)))
 refine S.qe 2 [] [(4, .v (I k45))] ?_; clear S; intro ac w β S
 refine (nt (wr (S.r [I k45] ?_)))
 have o51 := ow_Host (x := (⟨y20, y28, y36, y44⟩ : THost)) (p := (⟨q19, q27, q35, q43⟩ : PHost)) o22 o30 o38 o46 (Disj.symm (Disj.symm d13)) (Disj.symm (Disj.symm d14)) (Disj.symm (Disj.symm d15)) (Disj.symm (Disj.symm d16)) (Disj.symm (Disj.symm d17)) (Disj.symm (Disj.symm d18)) 
 have hcc := cc_Host (x := (⟨y20, y28, y36, y44⟩ : THost)) (y := a) (p := (⟨q19, q27, q35, q43⟩ : PHost)) (q := pa) c23 c31 c39 c47 
 have hsz := sz_Host a
 have hyd : hdT_Host (⟨y20, y28, y36, y44⟩ : THost) k = k45 := by clear S; simp (disch := omega) only [hdT_Host, x24, x32, x40, x48, hdc_pos]
 have hyb : k ≤ k45 ∧ k45 ≤ k + 16 * ((SZ.sz a : Nat) : Int) := by clear S; constructor <;> omega
 exact retX_of S hyd hyb.1 hyb.2 hcc o51 (uni_all fun G hG => by simp only [List.mem_cons, List.not_mem_nil, or_false] at hG; rcases hG with rfl | rfl | rfl | rfl <;> assumption)

theorem k0_laws_heldIntS {p : Prop} (h : p := by clear S; (first | (rw [hr, hd_end (by omega)]; done) | (rw [hr, hd_step (by omega)]; simp [he_Int, w1, hdi, hdb, hdc, *]; done) | (rw [hr, hd_step (by omega)]; simp_all [he_Int, w1, hdi, hdb, hdc]; done))) : p := h
set_option maxRecDepth 100000 in
theorem c_laws_heldIntS (w0 : World) (a : List Int) (pa : LP Int) (ha : GT.rd KK (Lt w0.heap.size) w0 a pa) (k : Int) : Calls Tryz.prog 82 [slv (a).length pa.1, I k].toArray w0 (fun e w' => e = .returned (I (hdl a k)) ∧ Chg NoB w0 w') := by
 refine Calls.walk (args := [slv (a).length pa.1, I k]) NoB Tryz.func82 rfl rfl ?_
 intro ac β S
 have hlea : a.length ≤ 4194304 := LRd.le ha
 refine ws (rg ?_)
 refine S.qe 1 [] [] ?_; clear S; intro ac w β S
 refine (nt (ws (ws (rg ?_))))
 refine S.qe 1 [] [(5, .v (I 0))] ?_; clear S; intro ac w β S
 refine (nt (wp_block ?_))
 refine wp_loop_down (fun mm ac w => ∃ (i : Nat) (j : Int)  (u : World) (N : Bl) (β : Nat → Nat), mm = a.length - i ∧ (i ≤ a.length) ∧ (hdl a k = hdlc (a.drop i) j id) ∧ St Tryz.prog Tryz.f82.ntmps w0 NoB u N β ⟨[(0, .v (slv (a).length pa.1)), (1, .v (I j)), (5, .v (I (i : Int)))], []⟩ ac w) _ ⟨0, k, _, _, _, rfl, (by first | omega | (simp; done) | (simp; omega)), (by rfl), S.z⟩ ?_
 clear S
 rintro mm ac w ⟨i, j, u, N, β, rfl, hi, hr, S⟩
 refine ws (ws (rg ?_))
 refine S.qe 4 [] [(9, .v (B (decide ((i : Int) < ((a).length : Int)))))] ?_; clear S; intro ac w β S
 refine (nt (S.c (decide ((i : Int) < ((a).length : Int))) (fun h1 => ?_) (fun h1 => ?_)))
 ·have g2 := of_decide_eq_true h1
  refine wk (nt (ws (wp_block (ws (ws (rg ?_))))))
  refine S.qg 6 [] [(17, .v (B ((el a i) != j)))] (.cons (Q_idx (S.arg ha) (l := (a).length) (k := i) (i := (i : Int)) rfl rfl (by omega) Tryz.underlying50 (by kernel_rfl)) (.cons (Q_el1 (S.arg ha) (t := 3) (k := i) (by omega) rfl (by kernel_rfl)) .nil)) ?_; clear S; intro ac w β S
  refine (nt (S.c ((el a i) != j) (fun h3 => ?_) (fun h3 => ?_)))
  ·have g4 : ¬ ((el a i) = j) := bne_iff_ne.1 h3
   refine ws (rg ?_)
   refine S.qe 1 [] [(4, .v (I (-1)))] ?_; clear S; intro ac w β S
   exact (nt (wr (rt (rb (rt (rt (rb (rt (S.r [I (-1)] ⟨retI k0_laws_heldIntS, S.chg⟩)))))))))
  ·have g5 : (el a i) = j := ne_f h3
   refine wk (nt (rg ?_))
   refine S.qg 3 [] [(1, .v (I (w1 j)))] (.cons (Q_addw (x := j) (y := 1)) .nil) ?_; clear S; intro ac w β S
   refine (nb (nt (rg ?_)))
   refine S.qg 3 [] [(5, .v (I ((i : Int) + 1)))] (.cons (Q_add (x := (i : Int)) (y := 1) ⟨by omega, by omega⟩) .nil) ?_; clear S; intro ac w β S
   refine (nt ?_)
   refine ⟨a.length - (i + 1), by omega, i + 1, (w1 j), _, _, _, rfl, ?_, ?_, S.z⟩
   ·clear S; first | omega | (simp [*]; done) | (simp [*]; omega)
   ·clear S; (rw [hr, hd_step (by omega)]; simp [he_Int, w1, hdi, hdb, hdc, *])
 ·have g6 := of_decide_eq_false h1
  refine wp_exit (ex_then (ex_then (ex_hit (nt (ws (rg ?_))))))
  refine S.qe 2 [] [(4, .v (I j))] ?_; clear S; intro ac w β S
  exact (nt (wr (S.r [I j] ⟨retI k0_laws_heldIntS, S.chg⟩)))

theorem k0_laws_heldIntSS {p : Prop} (h : p := by clear S; (first | (rw [hr, hd_end (by omega)]; done) | (rw [hr, hd_step (by omega)]; simp [he_list, w1, hdi, hdb, hdc, *]; done) | (rw [hr, hd_step (by omega)]; simp_all [he_list, w1, hdi, hdb, hdc]; done))) : p := h
set_option maxRecDepth 100000 in
theorem c_laws_heldIntSS (w0 : World) (a : List (List Int)) (pa : LP (List Int)) (ha : GT.rd KK (Lt w0.heap.size) w0 a pa) (k : Int) : Calls Tryz.prog 42 [slv (a).length pa.1, I k].toArray w0 (fun e w' => e = .returned (I (hdl a k)) ∧ Chg NoB w0 w') := by
 refine Calls.walk (args := [slv (a).length pa.1, I k]) NoB Tryz.func42 rfl rfl ?_
 intro ac β S
 have hlea : a.length ≤ 4194304 := LRd.le ha
 refine ws (rg ?_)
 refine S.qe 1 [] [] ?_; clear S; intro ac w β S
 refine (nt (ws (ws (rg ?_))))
 refine S.qe 1 [] [(5, .v (I 0))] ?_; clear S; intro ac w β S
 refine (nt (wp_block ?_))
 refine wp_loop_down (fun mm ac w => ∃ (i : Nat) (j : Int)  (u : World) (N : Bl) (β : Nat → Nat), mm = a.length - i ∧ (i ≤ a.length) ∧ (hdl a k = hdlc (a.drop i) j id) ∧ St Tryz.prog Tryz.f42.ntmps w0 NoB u N β ⟨[(0, .v (slv (a).length pa.1)), (1, .v (I j)), (5, .v (I (i : Int)))], []⟩ ac w) _ ⟨0, k, _, _, _, rfl, (by first | omega | (simp; done) | (simp; omega)), (by rfl), S.z⟩ ?_
 clear S
 rintro mm ac w ⟨i, j, u, N, β, rfl, hi, hr, S⟩
 refine ws (ws (rg ?_))
 refine S.qe 4 [] [(9, .v (B (decide ((i : Int) < ((a).length : Int)))))] ?_; clear S; intro ac w β S
 refine (nt (S.c (decide ((i : Int) < ((a).length : Int))) (fun h1 => ?_) (fun h1 => ?_)))
 ·have g2 := of_decide_eq_true h1
  refine wk (nt (ws (wp_block (ws (rg ?_)))))
  refine S.qg 7 [] [(1, .v (I (hdl (el a i) j)))] (.cons (Q_idx (S.arg ha) (l := (a).length) (k := i) (i := (i : Int)) rfl rfl (by omega) Tryz.underlying22 (by kernel_rfl)) (.cons (Q_el1 (S.arg ha) (t := 50) (k := i) (by omega) rfl (by kernel_rfl)) (.cons (Q_call fun w hw => c_laws_heldIntS w (el a i) (pa.2 i) (rd_of (LRd.el (S.arg ha) i (by omega)) hw) j) .nil))) ?_; clear S; intro ac w β S
  refine (nt (ws (rg ?_)))
  refine S.qe 2 [] [(19, .v (B (decide ((hdl (el a i) j) < 0))))] ?_; clear S; intro ac w β S
  refine (nt (S.c (decide ((hdl (el a i) j) < 0)) (fun h3 => ?_) (fun h3 => ?_)))
  ·have g4 := of_decide_eq_true h3
   refine ws (rg ?_)
   refine S.qe 1 [] [(4, .v (I (-1)))] ?_; clear S; intro ac w β S
   exact (nt (wr (rb (rt (rt (rb (rt (S.r [I (-1)] ⟨retI k0_laws_heldIntSS, S.chg⟩))))))))
  ·have g5 := of_decide_eq_false h3
   refine wk (nb (nt (rg ?_)))
   refine S.qg 3 [] [(5, .v (I ((i : Int) + 1)))] (.cons (Q_add (x := (i : Int)) (y := 1) ⟨by omega, by omega⟩) .nil) ?_; clear S; intro ac w β S
   refine (nt ?_)
   refine ⟨a.length - (i + 1), by omega, i + 1, (hdl (el a i) j), _, _, _, rfl, ?_, ?_, S.z⟩
   ·clear S; first | omega | (simp [*]; done) | (simp [*]; omega)
   ·clear S; (rw [hr, hd_step (by omega)]; simp [he_list, w1, hdi, hdb, hdc, *])
 ·have g6 := of_decide_eq_false h1
  refine wp_exit (ex_then (ex_then (ex_hit (nt (ws (rg ?_))))))
  refine S.qe 2 [] [(4, .v (I j))] ?_; clear S; intro ac w β S
  exact (nt (wr (S.r [I j] ⟨retI k0_laws_heldIntSS, S.chg⟩)))

theorem k0_laws_heldSlotS {p : Prop} (h : p := by clear S; (first | (rw [hr, hd_end (by omega)]; done) | (rw [hr, hd_step (by omega)]; simp [he_Slot, w1, hdi, hdb, hdc, *]; done) | (rw [hr, hd_step (by omega)]; simp_all [he_Slot, w1, hdi, hdb, hdc]; done))) : p := h
set_option maxRecDepth 100000 in
theorem c_laws_heldSlotS (w0 : World) (a : List TSlot) (pa : LP TSlot) (ha : GT.rd KK (Lt w0.heap.size) w0 a pa) (k : Int) : Calls Tryz.prog 83 [slv (a).length pa.1, I k].toArray w0 (fun e w' => e = .returned (I (hdl a k)) ∧ Chg NoB w0 w') := by
 refine Calls.walk (args := [slv (a).length pa.1, I k]) NoB Tryz.func83 rfl rfl ?_
 intro ac β S
 have hlea : a.length ≤ 4194304 := LRd.le ha
 refine ws (rg ?_)
 refine S.qe 1 [] [] ?_; clear S; intro ac w β S
 refine (nt (ws (ws (rg ?_))))
 refine S.qe 1 [] [(5, .v (I 0))] ?_; clear S; intro ac w β S
 refine (nt (wp_block ?_))
 refine wp_loop_down (fun mm ac w => ∃ (i : Nat) (j : Int)  (u : World) (N : Bl) (β : Nat → Nat), mm = a.length - i ∧ (i ≤ a.length) ∧ (hdl a k = hdlc (a.drop i) j id) ∧ St Tryz.prog Tryz.f83.ntmps w0 NoB u N β ⟨[(0, .v (slv (a).length pa.1)), (1, .v (I j)), (5, .v (I (i : Int)))], []⟩ ac w) _ ⟨0, k, _, _, _, rfl, (by first | omega | (simp; done) | (simp; omega)), (by rfl), S.z⟩ ?_
 clear S
 rintro mm ac w ⟨i, j, u, N, β, rfl, hi, hr, S⟩
 refine ws (ws (rg ?_))
 refine S.qe 4 [] [(9, .v (B (decide ((i : Int) < ((a).length : Int)))))] ?_; clear S; intro ac w β S
 refine (nt (S.c (decide ((i : Int) < ((a).length : Int))) (fun h1 => ?_) (fun h1 => ?_)))
 ·have g2 := of_decide_eq_true h1
  refine wk (nt (ws (wp_block (ws (ws (rg ?_))))))
  refine S.qg 7 [] [(18, .v (B ((el a i).page != j)))] (.cons (Q_idx (S.arg ha) (l := (a).length) (k := i) (i := (i : Int)) rfl rfl (by omega) Tryz.underlying47 (by kernel_rfl)) (.cons (Q_cell (S.arg ha) (t := 3) (k := i) (j := 0) (v := I ((el a i).page)) (by omega) (by kernel_rfl) (by kernel_rfl)) .nil)) ?_; clear S; intro ac w β S
  refine (nt (S.c ((el a i).page != j) (fun h3 => ?_) (fun h3 => ?_)))
  ·have g4 : ¬ ((el a i).page = j) := bne_iff_ne.1 h3
   refine ws (rg ?_)
   refine S.qe 1 [] [(4, .v (I (-1)))] ?_; clear S; intro ac w β S
   exact (nt (wr (rt (rb (rt (rt (rb (rt (S.r [I (-1)] ⟨retI k0_laws_heldSlotS, S.chg⟩)))))))))
  ·have g5 : (el a i).page = j := ne_f h3
   refine wk (nt (ws (rg ?_)))
   refine S.qg 3 [] [(1, .v (I (w1 j)))] (.cons (Q_addw (x := j) (y := 1)) .nil) ?_; clear S; intro ac w β S
   refine (nt (ws (ws (rg ?_))))
   refine S.qg 7 [] [(27, .v (B ((el a i).rights != (w1 j))))] (.cons (Q_idx (S.arg ha) (l := (a).length) (k := i) (i := (i : Int)) rfl rfl (by omega) Tryz.underlying47 (by kernel_rfl)) (.cons (Q_cell (S.arg ha) (t := 3) (k := i) (j := 1) (v := I ((el a i).rights)) (by omega) (by kernel_rfl) (by kernel_rfl)) .nil)) ?_; clear S; intro ac w β S
   refine (nt (S.c ((el a i).rights != (w1 j)) (fun h6 => ?_) (fun h6 => ?_)))
   ·have g7 : ¬ ((el a i).rights = (w1 j)) := bne_iff_ne.1 h6
    refine ws (rg ?_)
    refine S.qe 1 [] [(4, .v (I (-1)))] ?_; clear S; intro ac w β S
    exact (nt (wr (rt (rb (rt (rt (rb (rt (S.r [I (-1)] ⟨retI k0_laws_heldSlotS, S.chg⟩)))))))))
   ·have g8 : (el a i).rights = (w1 j) := ne_f h6
    refine wk (nt (rg ?_))
    refine S.qg 3 [] [(1, .v (I (w1 (w1 j))))] (.cons (Q_addw (x := (w1 j)) (y := 1)) .nil) ?_; clear S; intro ac w β S
    refine (nb (nt (rg ?_)))
    refine S.qg 3 [] [(5, .v (I ((i : Int) + 1)))] (.cons (Q_add (x := (i : Int)) (y := 1) ⟨by omega, by omega⟩) .nil) ?_; clear S; intro ac w β S
    refine (nt ?_)
    refine ⟨a.length - (i + 1), by omega, i + 1, (w1 (w1 j)), _, _, _, rfl, ?_, ?_, S.z⟩
    ·clear S; first | omega | (simp [*]; done) | (simp [*]; omega)
    ·clear S; (rw [hr, hd_step (by omega)]; simp [he_Slot, w1, hdi, hdb, hdc, *])
 ·have g9 := of_decide_eq_false h1
  refine wp_exit (ex_then (ex_then (ex_hit (nt (ws (rg ?_))))))
  refine S.qe 2 [] [(4, .v (I j))] ?_; clear S; intro ac w β S
  exact (nt (wr (S.r [I j] ⟨retI k0_laws_heldSlotS, S.chg⟩)))

theorem k0_laws_heldBoolS {p : Prop} (h : p := by clear S; (first | (rw [hr, hd_end (by omega)]; done) | (rw [hr, hd_step (by omega)]; simp [he_Bool, w1, hdi, hdb, hdc, *]; done) | (rw [hr, hd_step (by omega)]; simp_all [he_Bool, w1, hdi, hdb, hdc]; done))) : p := h
set_option maxRecDepth 100000 in
theorem c_laws_heldBoolS (w0 : World) (a : List Bool) (pa : LP Bool) (ha : GT.rd KK (Lt w0.heap.size) w0 a pa) (k : Int) : Calls Tryz.prog 84 [slv (a).length pa.1, I k].toArray w0 (fun e w' => e = .returned (I (hdl a k)) ∧ Chg NoB w0 w') := by
 refine Calls.walk (args := [slv (a).length pa.1, I k]) NoB Tryz.func84 rfl rfl ?_
 intro ac β S
 have hlea : a.length ≤ 4194304 := LRd.le ha
 refine ws (rg ?_)
 refine S.qe 1 [] [] ?_; clear S; intro ac w β S
 refine (nt (ws (ws (rg ?_))))
 refine S.qe 1 [] [(5, .v (I 0))] ?_; clear S; intro ac w β S
 refine (nt (wp_block ?_))
 refine wp_loop_down (fun mm ac w => ∃ (i : Nat) (j : Int)  (u : World) (N : Bl) (β : Nat → Nat), mm = a.length - i ∧ (i ≤ a.length) ∧ (hdl a k = hdlc (a.drop i) j id) ∧ St Tryz.prog Tryz.f84.ntmps w0 NoB u N β ⟨[(0, .v (slv (a).length pa.1)), (1, .v (I j)), (5, .v (I (i : Int)))], []⟩ ac w) _ ⟨0, k, _, _, _, rfl, (by first | omega | (simp; done) | (simp; omega)), (by rfl), S.z⟩ ?_
 clear S
 rintro mm ac w ⟨i, j, u, N, β, rfl, hi, hr, S⟩
 refine ws (ws (rg ?_))
 refine S.qe 4 [] [(9, .v (B (decide ((i : Int) < ((a).length : Int)))))] ?_; clear S; intro ac w β S
 refine (nt (S.c (decide ((i : Int) < ((a).length : Int))) (fun h1 => ?_) (fun h1 => ?_)))
 ·have g2 := of_decide_eq_true h1
  refine wk (nt (ws (wp_block (ws (ws (rg ?_))))))
  refine S.qg 8 [] [(19, .v (B (!((el a i) == ((Int.tmod j 3) == 0)))))] (.cons (Q_idx (S.arg ha) (l := (a).length) (k := i) (i := (i : Int)) rfl rfl (by omega) Tryz.underlying48 (by kernel_rfl)) (.cons (Q_el1 (S.arg ha) (t := 4) (k := i) (by omega) rfl (by kernel_rfl)) (.cons (Q_rem (x := j) (y := 3) (by decide)) .nil))) ?_; clear S; intro ac w β S
  refine (nt (S.c (!((el a i) == ((Int.tmod j 3) == 0))) (fun h3 => ?_) (fun h3 => ?_)))
  ·have h4 := not_t h3
   have g5 : ¬ ((el a i) = ((Int.tmod j 3) == 0)) := ne_of_beq_false h4
   refine ws (rg ?_)
   refine S.qe 1 [] [(4, .v (I (-1)))] ?_; clear S; intro ac w β S
   exact (nt (wr (rt (rb (rt (rt (rb (rt (S.r [I (-1)] ⟨retI k0_laws_heldBoolS, S.chg⟩)))))))))
  ·have h6 := not_f h3
   have g7 : (el a i) = ((Int.tmod j 3) == 0) := eq_of_beq h6
   refine wk (nt (rg ?_))
   refine S.qg 3 [] [(1, .v (I (w1 j)))] (.cons (Q_addw (x := j) (y := 1)) .nil) ?_; clear S; intro ac w β S
   refine (nb (nt (rg ?_)))
   refine S.qg 3 [] [(5, .v (I ((i : Int) + 1)))] (.cons (Q_add (x := (i : Int)) (y := 1) ⟨by omega, by omega⟩) .nil) ?_; clear S; intro ac w β S
   refine (nt ?_)
   refine ⟨a.length - (i + 1), by omega, i + 1, (w1 j), _, _, _, rfl, ?_, ?_, S.z⟩
   ·clear S; first | omega | (simp [*]; done) | (simp [*]; omega)
   ·clear S; (rw [hr, hd_step (by omega)]; simp [he_Bool, w1, hdi, hdb, hdc, *])
 ·have g8 := of_decide_eq_false h1
  refine wp_exit (ex_then (ex_then (ex_hit (nt (ws (rg ?_))))))
  refine S.qe 2 [] [(4, .v (I j))] ?_; clear S; intro ac w β S
  exact (nt (wr (S.r [I j] ⟨retI k0_laws_heldBoolS, S.chg⟩)))

theorem k0_laws_heldInsS {p : Prop} (h : p := by clear S; (first | (rw [hr, hd_end (by omega)]; done) | (rw [hr, hd_step (by omega)]; simp [he_Ins, w1, hdi, hdb, hdc, *]; done) | (rw [hr, hd_step (by omega)]; simp_all [he_Ins, w1, hdi, hdb, hdc]; done))) : p := h
set_option maxRecDepth 100000 in
theorem c_laws_heldInsS (w0 : World) (a : List TIns) (pa : LP TIns) (ha : GT.rd KK (Lt w0.heap.size) w0 a pa) (k : Int) : Calls Tryz.prog 132 [slv (a).length pa.1, I k].toArray w0 (fun e w' => e = .returned (I (hdl a k)) ∧ Chg NoB w0 w') := by
 refine Calls.walk (args := [slv (a).length pa.1, I k]) NoB Tryz.func132 rfl rfl ?_
 intro ac β S
 have hlea : a.length ≤ 4194304 := LRd.le ha
 refine ws (rg ?_)
 refine S.qe 1 [] [] ?_; clear S; intro ac w β S
 refine (nt (ws (ws (rg ?_))))
 refine S.qe 1 [] [(5, .v (I 0))] ?_; clear S; intro ac w β S
 refine (nt (wp_block ?_))
 refine wp_loop_down (fun mm ac w => ∃ (i : Nat) (j : Int)  (u : World) (N : Bl) (β : Nat → Nat), mm = a.length - i ∧ (i ≤ a.length) ∧ (hdl a k = hdlc (a.drop i) j id) ∧ St Tryz.prog Tryz.f132.ntmps w0 NoB u N β ⟨[(0, .v (slv (a).length pa.1)), (1, .v (I j)), (5, .v (I (i : Int)))], []⟩ ac w) _ ⟨0, k, _, _, _, rfl, (by first | omega | (simp; done) | (simp; omega)), (by rfl), S.z⟩ ?_
 clear S
 rintro mm ac w ⟨i, j, u, N, β, rfl, hi, hr, S⟩
 refine ws (ws (rg ?_))
 refine S.qe 4 [] [(9, .v (B (decide ((i : Int) < ((a).length : Int)))))] ?_; clear S; intro ac w β S
 refine (nt (S.c (decide ((i : Int) < ((a).length : Int))) (fun h1 => ?_) (fun h1 => ?_)))
 ·have g2 := of_decide_eq_true h1
  refine wk (nt (ws (wp_block (ws (ws (rg ?_))))))
  refine S.qg 7 [] [(18, .v (B ((el a i).opc != j)))] (.cons (Q_idx (S.arg ha) (l := (a).length) (k := i) (i := (i : Int)) rfl rfl (by omega) Tryz.underlying93 (by kernel_rfl)) (.cons (Q_cell (S.arg ha) (t := 3) (k := i) (j := 0) (v := I ((el a i).opc)) (by omega) (by kernel_rfl) (by kernel_rfl)) .nil)) ?_; clear S; intro ac w β S
  refine (nt (S.c ((el a i).opc != j) (fun h3 => ?_) (fun h3 => ?_)))
  ·have g4 : ¬ ((el a i).opc = j) := bne_iff_ne.1 h3
   refine ws (rg ?_)
   refine S.qe 1 [] [(4, .v (I (-1)))] ?_; clear S; intro ac w β S
   exact (nt (wr (rt (rb (rt (rt (rb (rt (S.r [I (-1)] ⟨retI k0_laws_heldInsS, S.chg⟩)))))))))
  ·have g5 : (el a i).opc = j := ne_f h3
   refine wk (nt (ws (rg ?_)))
   refine S.qg 3 [] [(1, .v (I (w1 j)))] (.cons (Q_addw (x := j) (y := 1)) .nil) ?_; clear S; intro ac w β S
   refine (nt (ws (ws (rg ?_))))
   refine S.qg 7 [] [(27, .v (B ((el a i).x != (w1 j))))] (.cons (Q_idx (S.arg ha) (l := (a).length) (k := i) (i := (i : Int)) rfl rfl (by omega) Tryz.underlying93 (by kernel_rfl)) (.cons (Q_cell (S.arg ha) (t := 3) (k := i) (j := 1) (v := I ((el a i).x)) (by omega) (by kernel_rfl) (by kernel_rfl)) .nil)) ?_; clear S; intro ac w β S
   refine (nt (S.c ((el a i).x != (w1 j)) (fun h6 => ?_) (fun h6 => ?_)))
   ·have g7 : ¬ ((el a i).x = (w1 j)) := bne_iff_ne.1 h6
    refine ws (rg ?_)
    refine S.qe 1 [] [(4, .v (I (-1)))] ?_; clear S; intro ac w β S
    exact (nt (wr (rt (rb (rt (rt (rb (rt (S.r [I (-1)] ⟨retI k0_laws_heldInsS, S.chg⟩)))))))))
   ·have g8 : (el a i).x = (w1 j) := ne_f h6
    refine wk (nt (rg ?_))
    refine S.qg 3 [] [(1, .v (I (w1 (w1 j))))] (.cons (Q_addw (x := (w1 j)) (y := 1)) .nil) ?_; clear S; intro ac w β S
    refine (nb (nt (rg ?_)))
    refine S.qg 3 [] [(5, .v (I ((i : Int) + 1)))] (.cons (Q_add (x := (i : Int)) (y := 1) ⟨by omega, by omega⟩) .nil) ?_; clear S; intro ac w β S
    refine (nt ?_)
    refine ⟨a.length - (i + 1), by omega, i + 1, (w1 (w1 j)), _, _, _, rfl, ?_, ?_, S.z⟩
    ·clear S; first | omega | (simp [*]; done) | (simp [*]; omega)
    ·clear S; (rw [hr, hd_step (by omega)]; simp [he_Ins, w1, hdi, hdb, hdc, *])
 ·have g9 := of_decide_eq_false h1
  refine wp_exit (ex_then (ex_then (ex_hit (nt (ws (rg ?_))))))
  refine S.qe 2 [] [(4, .v (I j))] ?_; clear S; intro ac w β S
  exact (nt (wr (S.r [I j] ⟨retI k0_laws_heldInsS, S.chg⟩)))

theorem k0_laws_heldGuestS {p : Prop} (h : p := by clear S; (first | (rw [hr, hd_end (by omega)]; done) | (rw [hr, hd_step (by omega)]; simp [he_Guest, w1, hdi, hdb, hdc, *]; done) | (rw [hr, hd_step (by omega)]; simp_all [he_Guest, w1, hdi, hdb, hdc]; done))) : p := h
set_option maxRecDepth 100000 in
theorem c_laws_heldGuestS (w0 : World) (a : List TGuest) (pa : LP TGuest) (ha : GT.rd KK (Lt w0.heap.size) w0 a pa) (k : Int) : Calls Tryz.prog 85 [slv (a).length pa.1, I k].toArray w0 (fun e w' => e = .returned (I (hdl a k)) ∧ Chg NoB w0 w') := by
 refine Calls.walk (args := [slv (a).length pa.1, I k]) NoB Tryz.func85 rfl rfl ?_
 intro ac β S
 have hlea : a.length ≤ 4194304 := LRd.le ha
 refine ws (rg ?_)
 refine S.qe 1 [] [] ?_; clear S; intro ac w β S
 refine (nt (ws (ws (rg ?_))))
 refine S.qe 1 [] [(5, .v (I 0))] ?_; clear S; intro ac w β S
 refine (nt (wp_block ?_))
 refine wp_loop_down (fun mm ac w => ∃ (i : Nat) (j : Int)  (u : World) (N : Bl) (β : Nat → Nat), mm = a.length - i ∧ (i ≤ a.length) ∧ (hdl a k = hdlc (a.drop i) j id) ∧ St Tryz.prog Tryz.f85.ntmps w0 NoB u N β ⟨[(0, .v (slv (a).length pa.1)), (1, .v (I j)), (5, .v (I (i : Int)))], []⟩ ac w) _ ⟨0, k, _, _, _, rfl, (by first | omega | (simp; done) | (simp; omega)), (by rfl), S.z⟩ ?_
 clear S
 rintro mm ac w ⟨i, j, u, N, β, rfl, hi, hr, S⟩
 refine ws (ws (rg ?_))
 refine S.qe 4 [] [(9, .v (B (decide ((i : Int) < ((a).length : Int)))))] ?_; clear S; intro ac w β S
 refine (nt (S.c (decide ((i : Int) < ((a).length : Int))) (fun h1 => ?_) (fun h1 => ?_)))
 ·have g2 := of_decide_eq_true h1
  refine wk (nt (ws (wp_block (ws (rg ?_)))))
  refine S.qg 8 [] [(1, .v (I (hdl ((el a i).prog) j)))] (.cons (Q_idx (S.arg ha) (l := (a).length) (k := i) (i := (i : Int)) rfl rfl (by omega) Tryz.underlying49 (by kernel_rfl)) (.cons (Q_cell (S.arg ha) (t := 93) (k := i) (j := 0) (v := slv ((el a i).prog).length ((pa.2 i).prog).1) (by omega) (by kernel_rfl) (by kernel_rfl)) (.cons (Q_call fun w hw => c_laws_heldInsS w ((el a i).prog) ((pa.2 i).prog) (rd_of (RGuest.prog (d := (el a i)) (LRd.el (S.arg ha) i (by omega))) hw) j) .nil))) ?_; clear S; intro ac w β S
  refine (nt (ws (ws (rg ?_))))
  refine S.qe 2 [] [(20, .v (B (decide ((hdl ((el a i).prog) j) < 0))))] ?_; clear S; intro ac w β S
  refine (nt (S.c (decide ((hdl ((el a i).prog) j) < 0)) (fun h3 => ?_) (fun h3 => ?_)))
  ·have g4 := of_decide_eq_true h3
   refine ws (rg ?_)
   refine S.qe 1 [] [(4, .v (I (-1)))] ?_; clear S; intro ac w β S
   exact (nt (wr (rt (rb (rt (rt (rb (rt (S.r [I (-1)] ⟨retI k0_laws_heldGuestS, S.chg⟩)))))))))
  ·have g5 := of_decide_eq_false h3
   refine wk (nt (ws (ws (rg ?_))))
   refine S.qg 7 [] [(27, .v (B ((el a i).acc != (hdl ((el a i).prog) j))))] (.cons (Q_idx (S.arg ha) (l := (a).length) (k := i) (i := (i : Int)) rfl rfl (by omega) Tryz.underlying49 (by kernel_rfl)) (.cons (Q_cell (S.arg ha) (t := 3) (k := i) (j := 1) (v := I ((el a i).acc)) (by omega) (by kernel_rfl) (by kernel_rfl)) .nil)) ?_; clear S; intro ac w β S
   refine (nt (S.c ((el a i).acc != (hdl ((el a i).prog) j)) (fun h6 => ?_) (fun h6 => ?_)))
   ·have g7 : ¬ ((el a i).acc = (hdl ((el a i).prog) j)) := bne_iff_ne.1 h6
    refine ws (rg ?_)
    refine S.qe 1 [] [(4, .v (I (-1)))] ?_; clear S; intro ac w β S
    exact (nt (wr (rt (rb (rt (rt (rb (rt (S.r [I (-1)] ⟨retI k0_laws_heldGuestS, S.chg⟩)))))))))
   ·have g8 : (el a i).acc = (hdl ((el a i).prog) j) := ne_f h6
    refine wk (nt (ws (rg ?_)))
    refine S.qg 3 [] [(1, .v (I (w1 (hdl ((el a i).prog) j))))] (.cons (Q_addw (x := (hdl ((el a i).prog) j)) (y := 1)) .nil) ?_; clear S; intro ac w β S
    refine (nt (ws (ws (rg ?_))))
    refine S.qg 7 [] [(36, .v (B ((el a i).pc != (w1 (hdl ((el a i).prog) j)))))] (.cons (Q_idx (S.arg ha) (l := (a).length) (k := i) (i := (i : Int)) rfl rfl (by omega) Tryz.underlying49 (by kernel_rfl)) (.cons (Q_cell (S.arg ha) (t := 3) (k := i) (j := 2) (v := I ((el a i).pc)) (by omega) (by kernel_rfl) (by kernel_rfl)) .nil)) ?_; clear S; intro ac w β S
    refine (nt (S.c ((el a i).pc != (w1 (hdl ((el a i).prog) j))) (fun h9 => ?_) (fun h9 => ?_)))
    ·have g10 : ¬ ((el a i).pc = (w1 (hdl ((el a i).prog) j))) := bne_iff_ne.1 h9
     refine ws (rg ?_)
     refine S.qe 1 [] [(4, .v (I (-1)))] ?_; clear S; intro ac w β S
     exact (nt (wr (rt (rb (rt (rt (rb (rt (S.r [I (-1)] ⟨retI k0_laws_heldGuestS, S.chg⟩)))))))))
    ·have g11 : (el a i).pc = (w1 (hdl ((el a i).prog) j)) := ne_f h9
     refine wk (nt (ws (rg ?_)))
     refine S.qg 3 [] [(1, .v (I (w1 (w1 (hdl ((el a i).prog) j)))))] (.cons (Q_addw (x := (w1 (hdl ((el a i).prog) j))) (y := 1)) .nil) ?_; clear S; intro ac w β S
     refine (nt (ws (rg ?_)))
     refine S.qg 8 [] [(1, .v (I (hdl ((el a i).written) (w1 (w1 (hdl ((el a i).prog) j))))))] (.cons (Q_idx (S.arg ha) (l := (a).length) (k := i) (i := (i : Int)) rfl rfl (by omega) Tryz.underlying49 (by kernel_rfl)) (.cons (Q_cell (S.arg ha) (t := 47) (k := i) (j := 3) (v := slv ((el a i).written).length ((pa.2 i).written).1) (by omega) (by kernel_rfl) (by kernel_rfl)) (.cons (Q_call fun w hw => c_laws_heldSlotS w ((el a i).written) ((pa.2 i).written) (rd_of (RGuest.written (d := (el a i)) (LRd.el (S.arg ha) i (by omega))) hw) (w1 (w1 (hdl ((el a i).prog) j)))) .nil))) ?_; clear S; intro ac w β S
     refine (nt (ws (ws (rg ?_))))
     refine S.qe 2 [] [(47, .v (B (decide ((hdl ((el a i).written) (w1 (w1 (hdl ((el a i).prog) j)))) < 0))))] ?_; clear S; intro ac w β S
     refine (nt (S.c (decide ((hdl ((el a i).written) (w1 (w1 (hdl ((el a i).prog) j)))) < 0)) (fun h12 => ?_) (fun h12 => ?_)))
     ·have g13 := of_decide_eq_true h12
      refine ws (rg ?_)
      refine S.qe 1 [] [(4, .v (I (-1)))] ?_; clear S; intro ac w β S
      exact (nt (wr (rt (rb (rt (rt (rb (rt (S.r [I (-1)] ⟨retI k0_laws_heldGuestS, S.chg⟩)))))))))
     ·have g14 := of_decide_eq_false h12
      refine wk (nt (ws (rg ?_)))
      refine S.qg 8 [] [(1, .v (I (hdl ((el a i).live) (hdl ((el a i).written) (w1 (w1 (hdl ((el a i).prog) j)))))))] (.cons (Q_idx (S.arg ha) (l := (a).length) (k := i) (i := (i : Int)) rfl rfl (by omega) Tryz.underlying49 (by kernel_rfl)) (.cons (Q_cell (S.arg ha) (t := 47) (k := i) (j := 4) (v := slv ((el a i).live).length ((pa.2 i).live).1) (by omega) (by kernel_rfl) (by kernel_rfl)) (.cons (Q_call fun w hw => c_laws_heldSlotS w ((el a i).live) ((pa.2 i).live) (rd_of (RGuest.live (d := (el a i)) (LRd.el (S.arg ha) i (by omega))) hw) (hdl ((el a i).written) (w1 (w1 (hdl ((el a i).prog) j))))) .nil))) ?_; clear S; intro ac w β S
      refine (nt (ws (ws (rg ?_))))
      refine S.qe 2 [] [(56, .v (B (decide ((hdl ((el a i).live) (hdl ((el a i).written) (w1 (w1 (hdl ((el a i).prog) j))))) < 0))))] ?_; clear S; intro ac w β S
      refine (nt (S.c (decide ((hdl ((el a i).live) (hdl ((el a i).written) (w1 (w1 (hdl ((el a i).prog) j))))) < 0)) (fun h15 => ?_) (fun h15 => ?_)))
      ·have g16 := of_decide_eq_true h15
       refine ws (rg ?_)
       refine S.qe 1 [] [(4, .v (I (-1)))] ?_; clear S; intro ac w β S
       exact (nt (wr (rt (rb (rt (rt (rb (rt (S.r [I (-1)] ⟨retI k0_laws_heldGuestS, S.chg⟩)))))))))
      ·have g17 := of_decide_eq_false h15
       refine wk (nt (ws (ws (rg ?_))))
       refine S.qg 8 [] [(64, .v (B (((el a i).ctl).traps != (hdl ((el a i).live) (hdl ((el a i).written) (w1 (w1 (hdl ((el a i).prog) j))))))))] (.cons (Q_idx (S.arg ha) (l := (a).length) (k := i) (i := (i : Int)) rfl rfl (by omega) Tryz.underlying49 (by kernel_rfl)) (.cons (Q_cell (S.arg ha) (t := 3) (k := i) (j := 5) (v := I (((el a i).ctl).traps)) (by omega) (by kernel_rfl) (by kernel_rfl)) .nil)) ?_; clear S; intro ac w β S
       refine (nt (S.c (((el a i).ctl).traps != (hdl ((el a i).live) (hdl ((el a i).written) (w1 (w1 (hdl ((el a i).prog) j)))))) (fun h18 => ?_) (fun h18 => ?_)))
       ·have g19 : ¬ (((el a i).ctl).traps = (hdl ((el a i).live) (hdl ((el a i).written) (w1 (w1 (hdl ((el a i).prog) j)))))) := bne_iff_ne.1 h18
        refine ws (rg ?_)
        refine S.qe 1 [] [(4, .v (I (-1)))] ?_; clear S; intro ac w β S
        exact (nt (wr (rt (rb (rt (rt (rb (rt (S.r [I (-1)] ⟨retI k0_laws_heldGuestS, S.chg⟩)))))))))
       ·have g20 : ((el a i).ctl).traps = (hdl ((el a i).live) (hdl ((el a i).written) (w1 (w1 (hdl ((el a i).prog) j))))) := ne_f h18
        refine wk (nt (ws (rg ?_)))
        refine S.qg 3 [] [(1, .v (I (w1 (hdl ((el a i).live) (hdl ((el a i).written) (w1 (w1 (hdl ((el a i).prog) j))))))))] (.cons (Q_addw (x := (hdl ((el a i).live) (hdl ((el a i).written) (w1 (w1 (hdl ((el a i).prog) j)))))) (y := 1)) .nil) ?_; clear S; intro ac w β S
        refine (nt (ws (ws (rg ?_))))
        refine S.qg 8 [] [(74, .v (B (((el a i).ctl).post != (w1 (hdl ((el a i).live) (hdl ((el a i).written) (w1 (w1 (hdl ((el a i).prog) j)))))))))] (.cons (Q_idx (S.arg ha) (l := (a).length) (k := i) (i := (i : Int)) rfl rfl (by omega) Tryz.underlying49 (by kernel_rfl)) (.cons (Q_cell (S.arg ha) (t := 3) (k := i) (j := 6) (v := I (((el a i).ctl).post)) (by omega) (by kernel_rfl) (by kernel_rfl)) .nil)) ?_; clear S; intro ac w β S
        refine (nt (S.c (((el a i).ctl).post != (w1 (hdl ((el a i).live) (hdl ((el a i).written) (w1 (w1 (hdl ((el a i).prog) j))))))) (fun h21 => ?_) (fun h21 => ?_)))
        ·have g22 : ¬ (((el a i).ctl).post = (w1 (hdl ((el a i).live) (hdl ((el a i).written) (w1 (w1 (hdl ((el a i).prog) j))))))) := bne_iff_ne.1 h21
         refine ws (rg ?_)
         refine S.qe 1 [] [(4, .v (I (-1)))] ?_; clear S; intro ac w β S
         exact (nt (wr (rt (rb (rt (rt (rb (rt (S.r [I (-1)] ⟨retI k0_laws_heldGuestS, S.chg⟩)))))))))
        ·have g23 : ((el a i).ctl).post = (w1 (hdl ((el a i).live) (hdl ((el a i).written) (w1 (w1 (hdl ((el a i).prog) j)))))) := ne_f h21
         refine wk (nt (ws (rg ?_)))
         refine S.qg 3 [] [(1, .v (I (w1 (w1 (hdl ((el a i).live) (hdl ((el a i).written) (w1 (w1 (hdl ((el a i).prog) j)))))))))] (.cons (Q_addw (x := (w1 (hdl ((el a i).live) (hdl ((el a i).written) (w1 (w1 (hdl ((el a i).prog) j))))))) (y := 1)) .nil) ?_; clear S; intro ac w β S
         refine (nt (ws (ws (rg ?_))))
         refine S.qg 10 [] [(86, .v (B (!(((el a i).ctl).opn == ((Int.tmod (w1 (w1 (hdl ((el a i).live) (hdl ((el a i).written) (w1 (w1 (hdl ((el a i).prog) j))))))) 3) == 0)))))] (.cons (Q_idx (S.arg ha) (l := (a).length) (k := i) (i := (i : Int)) rfl rfl (by omega) Tryz.underlying49 (by kernel_rfl)) (.cons (Q_cell (S.arg ha) (t := 4) (k := i) (j := 7) (v := B (((el a i).ctl).opn)) (by omega) (by kernel_rfl) (by kernel_rfl)) (.cons (Q_rem (x := (w1 (w1 (hdl ((el a i).live) (hdl ((el a i).written) (w1 (w1 (hdl ((el a i).prog) j)))))))) (y := 3) (by decide)) .nil))) ?_; clear S; intro ac w β S
         refine (nt (S.c (!(((el a i).ctl).opn == ((Int.tmod (w1 (w1 (hdl ((el a i).live) (hdl ((el a i).written) (w1 (w1 (hdl ((el a i).prog) j))))))) 3) == 0))) (fun h24 => ?_) (fun h24 => ?_)))
         ·have h25 := not_t h24
          have g26 : ¬ (((el a i).ctl).opn = ((Int.tmod (w1 (w1 (hdl ((el a i).live) (hdl ((el a i).written) (w1 (w1 (hdl ((el a i).prog) j))))))) 3) == 0)) := ne_of_beq_false h25
          refine ws (rg ?_)
          refine S.qe 1 [] [(4, .v (I (-1)))] ?_; clear S; intro ac w β S
          exact (nt (wr (rt (rb (rt (rt (rb (rt (S.r [I (-1)] ⟨retI k0_laws_heldGuestS, S.chg⟩)))))))))
         ·have h27 := not_f h24
          have g28 : ((el a i).ctl).opn = ((Int.tmod (w1 (w1 (hdl ((el a i).live) (hdl ((el a i).written) (w1 (w1 (hdl ((el a i).prog) j))))))) 3) == 0) := eq_of_beq h27
          refine wk (nt (ws (rg ?_)))
          refine S.qg 3 [] [(1, .v (I (w1 (w1 (w1 (hdl ((el a i).live) (hdl ((el a i).written) (w1 (w1 (hdl ((el a i).prog) j))))))))))] (.cons (Q_addw (x := (w1 (w1 (hdl ((el a i).live) (hdl ((el a i).written) (w1 (w1 (hdl ((el a i).prog) j)))))))) (y := 1)) .nil) ?_; clear S; intro ac w β S
          refine (nt (ws (ws (rg ?_))))
          refine S.qg 7 [] [(95, .v (B ((el a i).pend != (w1 (w1 (w1 (hdl ((el a i).live) (hdl ((el a i).written) (w1 (w1 (hdl ((el a i).prog) j)))))))))))] (.cons (Q_idx (S.arg ha) (l := (a).length) (k := i) (i := (i : Int)) rfl rfl (by omega) Tryz.underlying49 (by kernel_rfl)) (.cons (Q_cell (S.arg ha) (t := 3) (k := i) (j := 8) (v := I ((el a i).pend)) (by omega) (by kernel_rfl) (by kernel_rfl)) .nil)) ?_; clear S; intro ac w β S
          refine (nt (S.c ((el a i).pend != (w1 (w1 (w1 (hdl ((el a i).live) (hdl ((el a i).written) (w1 (w1 (hdl ((el a i).prog) j))))))))) (fun h29 => ?_) (fun h29 => ?_)))
          ·have g30 : ¬ ((el a i).pend = (w1 (w1 (w1 (hdl ((el a i).live) (hdl ((el a i).written) (w1 (w1 (hdl ((el a i).prog) j))))))))) := bne_iff_ne.1 h29
           refine ws (rg ?_)
           refine S.qe 1 [0, 1, 5, 9, 20, 27, 36, 47, 56, 64, 74, 86, 95] [(4, .v (I (-1)))] ?_; clear S; intro ac w β S
           exact (nt (wr (rt (rb (rt (rt (rb (rt (S.r [I (-1)] ⟨retI k0_laws_heldGuestS, S.chg⟩)))))))))
          ·have g31 : (el a i).pend = (w1 (w1 (w1 (hdl ((el a i).live) (hdl ((el a i).written) (w1 (w1 (hdl ((el a i).prog) j)))))))) := ne_f h29
           refine wk (nt (ws (rg ?_)))
           refine S.qg 3 [] [(1, .v (I (w1 (w1 (w1 (w1 (hdl ((el a i).live) (hdl ((el a i).written) (w1 (w1 (hdl ((el a i).prog) j)))))))))))] (.cons (Q_addw (x := (w1 (w1 (w1 (hdl ((el a i).live) (hdl ((el a i).written) (w1 (w1 (hdl ((el a i).prog) j))))))))) (y := 1)) .nil) ?_; clear S; intro ac w β S
           refine (nt (ws (ws (rg ?_))))
           refine S.qg 8 [] [(105, .v (B (((el a i).exit).kind != (w1 (w1 (w1 (w1 (hdl ((el a i).live) (hdl ((el a i).written) (w1 (w1 (hdl ((el a i).prog) j))))))))))))] (.cons (Q_idx (S.arg ha) (l := (a).length) (k := i) (i := (i : Int)) rfl rfl (by omega) Tryz.underlying49 (by kernel_rfl)) (.cons (Q_cell (S.arg ha) (t := 3) (k := i) (j := 9) (v := I (((el a i).exit).kind)) (by omega) (by kernel_rfl) (by kernel_rfl)) .nil)) ?_; clear S; intro ac w β S
           refine (nt (S.c (((el a i).exit).kind != (w1 (w1 (w1 (w1 (hdl ((el a i).live) (hdl ((el a i).written) (w1 (w1 (hdl ((el a i).prog) j)))))))))) (fun h32 => ?_) (fun h32 => ?_)))
           ·have g33 : ¬ (((el a i).exit).kind = (w1 (w1 (w1 (w1 (hdl ((el a i).live) (hdl ((el a i).written) (w1 (w1 (hdl ((el a i).prog) j)))))))))) := bne_iff_ne.1 h32
            refine ws (rg ?_)
            refine S.qe 1 [0, 1, 5, 9, 20, 27, 36, 47, 56, 64, 74, 86, 95, 105] [(4, .v (I (-1)))] ?_; clear S; intro ac w β S
            exact (nt (wr (rt (rb (rt (rt (rb (rt (S.r [I (-1)] ⟨retI k0_laws_heldGuestS, S.chg⟩)))))))))
           ·have g34 : ((el a i).exit).kind = (w1 (w1 (w1 (w1 (hdl ((el a i).live) (hdl ((el a i).written) (w1 (w1 (hdl ((el a i).prog) j))))))))) := ne_f h32
            refine wk (nt (ws (rg ?_)))
            refine S.qg 3 [] [(1, .v (I (w1 (w1 (w1 (w1 (w1 (hdl ((el a i).live) (hdl ((el a i).written) (w1 (w1 (hdl ((el a i).prog) j))))))))))))] (.cons (Q_addw (x := (w1 (w1 (w1 (w1 (hdl ((el a i).live) (hdl ((el a i).written) (w1 (w1 (hdl ((el a i).prog) j)))))))))) (y := 1)) .nil) ?_; clear S; intro ac w β S
            refine (nt (ws (ws (rg ?_))))
            refine S.qg 8 [] [(115, .v (B (((el a i).exit).page != (w1 (w1 (w1 (w1 (w1 (hdl ((el a i).live) (hdl ((el a i).written) (w1 (w1 (hdl ((el a i).prog) j)))))))))))))] (.cons (Q_idx (S.arg ha) (l := (a).length) (k := i) (i := (i : Int)) rfl rfl (by omega) Tryz.underlying49 (by kernel_rfl)) (.cons (Q_cell (S.arg ha) (t := 3) (k := i) (j := 10) (v := I (((el a i).exit).page)) (by omega) (by kernel_rfl) (by kernel_rfl)) .nil)) ?_; clear S; intro ac w β S
            refine (nt (S.c (((el a i).exit).page != (w1 (w1 (w1 (w1 (w1 (hdl ((el a i).live) (hdl ((el a i).written) (w1 (w1 (hdl ((el a i).prog) j))))))))))) (fun h35 => ?_) (fun h35 => ?_)))
            ·have g36 : ¬ (((el a i).exit).page = (w1 (w1 (w1 (w1 (w1 (hdl ((el a i).live) (hdl ((el a i).written) (w1 (w1 (hdl ((el a i).prog) j))))))))))) := bne_iff_ne.1 h35
             refine ws (rg ?_)
             refine S.qe 1 [0, 1, 5, 9, 20, 27, 36, 47, 56, 64, 74, 86, 95, 105, 115] [(4, .v (I (-1)))] ?_; clear S; intro ac w β S
             exact (nt (wr (rt (rb (rt (rt (rb (rt (S.r [I (-1)] ⟨retI k0_laws_heldGuestS, S.chg⟩)))))))))
            ·have g37 : ((el a i).exit).page = (w1 (w1 (w1 (w1 (w1 (hdl ((el a i).live) (hdl ((el a i).written) (w1 (w1 (hdl ((el a i).prog) j)))))))))) := ne_f h35
             refine wk (nt (ws (rg ?_)))
             refine S.qg 3 [] [(1, .v (I (w1 (w1 (w1 (w1 (w1 (w1 (hdl ((el a i).live) (hdl ((el a i).written) (w1 (w1 (hdl ((el a i).prog) j)))))))))))))] (.cons (Q_addw (x := (w1 (w1 (w1 (w1 (w1 (hdl ((el a i).live) (hdl ((el a i).written) (w1 (w1 (hdl ((el a i).prog) j))))))))))) (y := 1)) .nil) ?_; clear S; intro ac w β S
             refine (nt (ws (ws (rg ?_))))
             refine S.qg 10 [] [(127, .v (B (!(((el a i).exit).wr == ((Int.tmod (w1 (w1 (w1 (w1 (w1 (w1 (hdl ((el a i).live) (hdl ((el a i).written) (w1 (w1 (hdl ((el a i).prog) j))))))))))) 3) == 0)))))] (.cons (Q_idx (S.arg ha) (l := (a).length) (k := i) (i := (i : Int)) rfl rfl (by omega) Tryz.underlying49 (by kernel_rfl)) (.cons (Q_cell (S.arg ha) (t := 4) (k := i) (j := 11) (v := B (((el a i).exit).wr)) (by omega) (by kernel_rfl) (by kernel_rfl)) (.cons (Q_rem (x := (w1 (w1 (w1 (w1 (w1 (w1 (hdl ((el a i).live) (hdl ((el a i).written) (w1 (w1 (hdl ((el a i).prog) j)))))))))))) (y := 3) (by decide)) .nil))) ?_; clear S; intro ac w β S
             refine (nt (S.c (!(((el a i).exit).wr == ((Int.tmod (w1 (w1 (w1 (w1 (w1 (w1 (hdl ((el a i).live) (hdl ((el a i).written) (w1 (w1 (hdl ((el a i).prog) j))))))))))) 3) == 0))) (fun h38 => ?_) (fun h38 => ?_)))
             ·have h39 := not_t h38
              have g40 : ¬ (((el a i).exit).wr = ((Int.tmod (w1 (w1 (w1 (w1 (w1 (w1 (hdl ((el a i).live) (hdl ((el a i).written) (w1 (w1 (hdl ((el a i).prog) j))))))))))) 3) == 0)) := ne_of_beq_false h39
              refine ws (rg ?_)
              refine S.qe 1 [0, 1, 5, 9, 20, 27, 36, 47, 56, 64, 74, 86, 95, 105, 115, 127] [(4, .v (I (-1)))] ?_; clear S; intro ac w β S
              exact (nt (wr (rt (rb (rt (rt (rb (rt (S.r [I (-1)] ⟨retI k0_laws_heldGuestS, S.chg⟩)))))))))
             ·have h41 := not_f h38
              have g42 : ((el a i).exit).wr = ((Int.tmod (w1 (w1 (w1 (w1 (w1 (w1 (hdl ((el a i).live) (hdl ((el a i).written) (w1 (w1 (hdl ((el a i).prog) j))))))))))) 3) == 0) := eq_of_beq h41
              refine wk (nt (ws (rg ?_)))
              refine S.qg 3 [9, 20, 27, 36, 47, 56, 64, 74, 86, 95, 105, 115, 127] [(1, .v (I (w1 (w1 (w1 (w1 (w1 (w1 (w1 (hdl ((el a i).live) (hdl ((el a i).written) (w1 (w1 (hdl ((el a i).prog) j))))))))))))))] (.cons (Q_addw (x := (w1 (w1 (w1 (w1 (w1 (w1 (hdl ((el a i).live) (hdl ((el a i).written) (w1 (w1 (hdl ((el a i).prog) j)))))))))))) (y := 1)) .nil) ?_; clear S; intro ac w β S
              refine (nt (ws (ws (rg ?_))))
              refine S.qg 8 [] [(137, .v (B (((el a i).exit).n != (w1 (w1 (w1 (w1 (w1 (w1 (w1 (hdl ((el a i).live) (hdl ((el a i).written) (w1 (w1 (hdl ((el a i).prog) j)))))))))))))))] (.cons (Q_idx (S.arg ha) (l := (a).length) (k := i) (i := (i : Int)) rfl rfl (by omega) Tryz.underlying49 (by kernel_rfl)) (.cons (Q_cell (S.arg ha) (t := 3) (k := i) (j := 12) (v := I (((el a i).exit).n)) (by omega) (by kernel_rfl) (by kernel_rfl)) .nil)) ?_; clear S; intro ac w β S
              refine (nt (S.c (((el a i).exit).n != (w1 (w1 (w1 (w1 (w1 (w1 (w1 (hdl ((el a i).live) (hdl ((el a i).written) (w1 (w1 (hdl ((el a i).prog) j))))))))))))) (fun h43 => ?_) (fun h43 => ?_)))
              ·have g44 : ¬ (((el a i).exit).n = (w1 (w1 (w1 (w1 (w1 (w1 (w1 (hdl ((el a i).live) (hdl ((el a i).written) (w1 (w1 (hdl ((el a i).prog) j))))))))))))) := bne_iff_ne.1 h43
               refine ws (rg ?_)
               refine S.qe 1 [] [(4, .v (I (-1)))] ?_; clear S; intro ac w β S
               exact (nt (wr (rt (rb (rt (rt (rb (rt (S.r [I (-1)] ⟨retI k0_laws_heldGuestS, S.chg⟩)))))))))
              ·have g45 : ((el a i).exit).n = (w1 (w1 (w1 (w1 (w1 (w1 (w1 (hdl ((el a i).live) (hdl ((el a i).written) (w1 (w1 (hdl ((el a i).prog) j)))))))))))) := ne_f h43
               refine wk (nt (ws (rg ?_)))
               refine S.qg 3 [] [(1, .v (I (w1 (w1 (w1 (w1 (w1 (w1 (w1 (w1 (hdl ((el a i).live) (hdl ((el a i).written) (w1 (w1 (hdl ((el a i).prog) j)))))))))))))))] (.cons (Q_addw (x := (w1 (w1 (w1 (w1 (w1 (w1 (w1 (hdl ((el a i).live) (hdl ((el a i).written) (w1 (w1 (hdl ((el a i).prog) j))))))))))))) (y := 1)) .nil) ?_; clear S; intro ac w β S
               refine (nt (ws (ws (rg ?_))))
               refine S.qg 9 [] [(148, .v (B (!((el a i).halted == ((Int.tmod (w1 (w1 (w1 (w1 (w1 (w1 (w1 (w1 (hdl ((el a i).live) (hdl ((el a i).written) (w1 (w1 (hdl ((el a i).prog) j))))))))))))) 3) == 0)))))] (.cons (Q_idx (S.arg ha) (l := (a).length) (k := i) (i := (i : Int)) rfl rfl (by omega) Tryz.underlying49 (by kernel_rfl)) (.cons (Q_cell (S.arg ha) (t := 4) (k := i) (j := 13) (v := B ((el a i).halted)) (by omega) (by kernel_rfl) (by kernel_rfl)) (.cons (Q_rem (x := (w1 (w1 (w1 (w1 (w1 (w1 (w1 (w1 (hdl ((el a i).live) (hdl ((el a i).written) (w1 (w1 (hdl ((el a i).prog) j)))))))))))))) (y := 3) (by decide)) .nil))) ?_; clear S; intro ac w β S
               refine (nt (S.c (!((el a i).halted == ((Int.tmod (w1 (w1 (w1 (w1 (w1 (w1 (w1 (w1 (hdl ((el a i).live) (hdl ((el a i).written) (w1 (w1 (hdl ((el a i).prog) j))))))))))))) 3) == 0))) (fun h46 => ?_) (fun h46 => ?_)))
               ·have h47 := not_t h46
                have g48 : ¬ ((el a i).halted = ((Int.tmod (w1 (w1 (w1 (w1 (w1 (w1 (w1 (w1 (hdl ((el a i).live) (hdl ((el a i).written) (w1 (w1 (hdl ((el a i).prog) j))))))))))))) 3) == 0)) := ne_of_beq_false h47
                refine ws (rg ?_)
                refine S.qe 1 [] [(4, .v (I (-1)))] ?_; clear S; intro ac w β S
                exact (nt (wr (rt (rb (rt (rt (rb (rt (S.r [I (-1)] ⟨retI k0_laws_heldGuestS, S.chg⟩)))))))))
               ·have h49 := not_f h46
                have g50 : (el a i).halted = ((Int.tmod (w1 (w1 (w1 (w1 (w1 (w1 (w1 (w1 (hdl ((el a i).live) (hdl ((el a i).written) (w1 (w1 (hdl ((el a i).prog) j))))))))))))) 3) == 0) := eq_of_beq h49
                refine wk (nt (ws (rg ?_)))
                refine S.qg 3 [] [(1, .v (I (w1 (w1 (w1 (w1 (w1 (w1 (w1 (w1 (w1 (hdl ((el a i).live) (hdl ((el a i).written) (w1 (w1 (hdl ((el a i).prog) j))))))))))))))))] (.cons (Q_addw (x := (w1 (w1 (w1 (w1 (w1 (w1 (w1 (w1 (hdl ((el a i).live) (hdl ((el a i).written) (w1 (w1 (hdl ((el a i).prog) j)))))))))))))) (y := 1)) .nil) ?_; clear S; intro ac w β S
                refine (nt (ws (rg ?_)))
                refine S.qg 8 [] [(1, .v (I (hdl ((el a i).seen) (w1 (w1 (w1 (w1 (w1 (w1 (w1 (w1 (w1 (hdl ((el a i).live) (hdl ((el a i).written) (w1 (w1 (hdl ((el a i).prog) j)))))))))))))))))] (.cons (Q_idx (S.arg ha) (l := (a).length) (k := i) (i := (i : Int)) rfl rfl (by omega) Tryz.underlying49 (by kernel_rfl)) (.cons (Q_cell (S.arg ha) (t := 50) (k := i) (j := 14) (v := slv ((el a i).seen).length ((pa.2 i).seen).1) (by omega) (by kernel_rfl) (by kernel_rfl)) (.cons (Q_call fun w hw => c_laws_heldIntS w ((el a i).seen) ((pa.2 i).seen) (rd_of (RGuest.seen (d := (el a i)) (LRd.el (S.arg ha) i (by omega))) hw) (w1 (w1 (w1 (w1 (w1 (w1 (w1 (w1 (w1 (hdl ((el a i).live) (hdl ((el a i).written) (w1 (w1 (hdl ((el a i).prog) j))))))))))))))) .nil))) ?_; clear S; intro ac w β S
                refine (nt (ws (rg ?_)))
                refine S.qe 2 [] [(159, .v (B (decide ((hdl ((el a i).seen) (w1 (w1 (w1 (w1 (w1 (w1 (w1 (w1 (w1 (hdl ((el a i).live) (hdl ((el a i).written) (w1 (w1 (hdl ((el a i).prog) j))))))))))))))) < 0))))] ?_; clear S; intro ac w β S
                refine (nt (S.c (decide ((hdl ((el a i).seen) (w1 (w1 (w1 (w1 (w1 (w1 (w1 (w1 (w1 (hdl ((el a i).live) (hdl ((el a i).written) (w1 (w1 (hdl ((el a i).prog) j))))))))))))))) < 0)) (fun h51 => ?_) (fun h51 => ?_)))
                ·have g52 := of_decide_eq_true h51
                 refine ws (rg ?_)
                 refine S.qe 1 [] [(4, .v (I (-1)))] ?_; clear S; intro ac w β S
                 exact (nt (wr (rb (rt (rt (rb (rt (S.r [I (-1)] ⟨retI k0_laws_heldGuestS, S.chg⟩))))))))
                ·have g53 := of_decide_eq_false h51
                 refine wk (nb (nt (rg ?_)))
                 refine S.qg 3 [] [(5, .v (I ((i : Int) + 1)))] (.cons (Q_add (x := (i : Int)) (y := 1) ⟨by omega, by omega⟩) .nil) ?_; clear S; intro ac w β S
                 refine (nt ?_)
                 refine ⟨a.length - (i + 1), by omega, i + 1, (hdl ((el a i).seen) (w1 (w1 (w1 (w1 (w1 (w1 (w1 (w1 (w1 (hdl ((el a i).live) (hdl ((el a i).written) (w1 (w1 (hdl ((el a i).prog) j))))))))))))))), _, _, _, rfl, ?_, ?_, S.z⟩
                 ·clear S; first | omega | (simp [*]; done) | (simp [*]; omega)
                 ·clear S; (rw [hr, hd_step (by omega)]; simp [he_Guest, w1, hdi, hdb, hdc, *])
 ·have g54 := of_decide_eq_false h1
  refine wp_exit (ex_then (ex_then (ex_hit (nt (ws (rg ?_))))))
  refine S.qe 2 [] [(4, .v (I j))] ?_; clear S; intro ac w β S
  exact (nt (wr (S.r [I j] ⟨retI k0_laws_heldGuestS, S.chg⟩)))

theorem k0_laws_heldKeptS {p : Prop} (h : p := by clear S; (first | (rw [hr, hd_end (by omega)]; done) | (rw [hr, hd_step (by omega)]; simp [he_Kept, w1, hdi, hdb, hdc, *]; done) | (rw [hr, hd_step (by omega)]; simp_all [he_Kept, w1, hdi, hdb, hdc]; done))) : p := h
set_option maxRecDepth 100000 in
theorem c_laws_heldKeptS (w0 : World) (a : List TKept) (pa : LP TKept) (ha : GT.rd KK (Lt w0.heap.size) w0 a pa) (k : Int) : Calls Tryz.prog 86 [slv (a).length pa.1, I k].toArray w0 (fun e w' => e = .returned (I (hdl a k)) ∧ Chg NoB w0 w') := by
 refine Calls.walk (args := [slv (a).length pa.1, I k]) NoB Tryz.func86 rfl rfl ?_
 intro ac β S
 have hlea : a.length ≤ 4194304 := LRd.le ha
 refine ws (rg ?_)
 refine S.qe 1 [] [] ?_; clear S; intro ac w β S
 refine (nt (ws (ws (rg ?_))))
 refine S.qe 1 [] [(5, .v (I 0))] ?_; clear S; intro ac w β S
 refine (nt (wp_block ?_))
 refine wp_loop_down (fun mm ac w => ∃ (i : Nat) (j : Int)  (u : World) (N : Bl) (β : Nat → Nat), mm = a.length - i ∧ (i ≤ a.length) ∧ (hdl a k = hdlc (a.drop i) j id) ∧ St Tryz.prog Tryz.f86.ntmps w0 NoB u N β ⟨[(0, .v (slv (a).length pa.1)), (1, .v (I j)), (5, .v (I (i : Int)))], []⟩ ac w) _ ⟨0, k, _, _, _, rfl, (by first | omega | (simp; done) | (simp; omega)), (by rfl), S.z⟩ ?_
 clear S
 rintro mm ac w ⟨i, j, u, N, β, rfl, hi, hr, S⟩
 refine ws (ws (rg ?_))
 refine S.qe 4 [] [(9, .v (B (decide ((i : Int) < ((a).length : Int)))))] ?_; clear S; intro ac w β S
 refine (nt (S.c (decide ((i : Int) < ((a).length : Int))) (fun h1 => ?_) (fun h1 => ?_)))
 ·have g2 := of_decide_eq_true h1
  refine wk (nt (ws (wp_block (ws (rg ?_)))))
  refine S.qg 8 [] [(1, .v (I (hdl ((el a i).known) j)))] (.cons (Q_idx (S.arg ha) (l := (a).length) (k := i) (i := (i : Int)) rfl rfl (by omega) Tryz.underlying51 (by kernel_rfl)) (.cons (Q_cell (S.arg ha) (t := 48) (k := i) (j := 0) (v := slv ((el a i).known).length ((pa.2 i).known).1) (by omega) (by kernel_rfl) (by kernel_rfl)) (.cons (Q_call fun w hw => c_laws_heldBoolS w ((el a i).known) ((pa.2 i).known) (rd_of (RKept.known (d := (el a i)) (LRd.el (S.arg ha) i (by omega))) hw) j) .nil))) ?_; clear S; intro ac w β S
  refine (nt (ws (ws (rg ?_))))
  refine S.qe 2 [] [(20, .v (B (decide ((hdl ((el a i).known) j) < 0))))] ?_; clear S; intro ac w β S
  refine (nt (S.c (decide ((hdl ((el a i).known) j) < 0)) (fun h3 => ?_) (fun h3 => ?_)))
  ·have g4 := of_decide_eq_true h3
   refine ws (rg ?_)
   refine S.qe 1 [] [(4, .v (I (-1)))] ?_; clear S; intro ac w β S
   exact (nt (wr (rt (rb (rt (rt (rb (rt (S.r [I (-1)] ⟨retI k0_laws_heldKeptS, S.chg⟩)))))))))
  ·have g5 := of_decide_eq_false h3
   refine wk (nt (ws (rg ?_)))
   refine S.qg 8 [] [(1, .v (I (hdl ((el a i).slots) (hdl ((el a i).known) j))))] (.cons (Q_idx (S.arg ha) (l := (a).length) (k := i) (i := (i : Int)) rfl rfl (by omega) Tryz.underlying51 (by kernel_rfl)) (.cons (Q_cell (S.arg ha) (t := 47) (k := i) (j := 1) (v := slv ((el a i).slots).length ((pa.2 i).slots).1) (by omega) (by kernel_rfl) (by kernel_rfl)) (.cons (Q_call fun w hw => c_laws_heldSlotS w ((el a i).slots) ((pa.2 i).slots) (rd_of (RKept.slots (d := (el a i)) (LRd.el (S.arg ha) i (by omega))) hw) (hdl ((el a i).known) j)) .nil))) ?_; clear S; intro ac w β S
   refine (nt (ws (rg ?_)))
   refine S.qe 2 [] [(29, .v (B (decide ((hdl ((el a i).slots) (hdl ((el a i).known) j)) < 0))))] ?_; clear S; intro ac w β S
   refine (nt (S.c (decide ((hdl ((el a i).slots) (hdl ((el a i).known) j)) < 0)) (fun h6 => ?_) (fun h6 => ?_)))
   ·have g7 := of_decide_eq_true h6
    refine ws (rg ?_)
    refine S.qe 1 [] [(4, .v (I (-1)))] ?_; clear S; intro ac w β S
    exact (nt (wr (rb (rt (rt (rb (rt (S.r [I (-1)] ⟨retI k0_laws_heldKeptS, S.chg⟩))))))))
   ·have g8 := of_decide_eq_false h6
    refine wk (nb (nt (rg ?_)))
    refine S.qg 3 [] [(5, .v (I ((i : Int) + 1)))] (.cons (Q_add (x := (i : Int)) (y := 1) ⟨by omega, by omega⟩) .nil) ?_; clear S; intro ac w β S
    refine (nt ?_)
    refine ⟨a.length - (i + 1), by omega, i + 1, (hdl ((el a i).slots) (hdl ((el a i).known) j)), _, _, _, rfl, ?_, ?_, S.z⟩
    ·clear S; first | omega | (simp [*]; done) | (simp [*]; omega)
    ·clear S; (rw [hr, hd_step (by omega)]; simp [he_Kept, w1, hdi, hdb, hdc, *])
 ·have g9 := of_decide_eq_false h1
  refine wp_exit (ex_then (ex_then (ex_hit (nt (ws (rg ?_))))))
  refine S.qe 2 [] [(4, .v (I j))] ?_; clear S; intro ac w β S
  exact (nt (wr (S.r [I j] ⟨retI k0_laws_heldKeptS, S.chg⟩)))

theorem k0_laws_heldMonS {p : Prop} (h : p := by clear S; (first | (rw [hr, hd_end (by omega)]; done) | (rw [hr, hd_step (by omega)]; simp [he_Mon, w1, hdi, hdb, hdc, *]; done) | (rw [hr, hd_step (by omega)]; simp_all [he_Mon, w1, hdi, hdb, hdc]; done))) : p := h
set_option maxRecDepth 100000 in
theorem c_laws_heldMonS (w0 : World) (a : List TMon) (pa : LP TMon) (ha : GT.rd KK (Lt w0.heap.size) w0 a pa) (k : Int) : Calls Tryz.prog 43 [slv (a).length pa.1, I k].toArray w0 (fun e w' => e = .returned (I (hdl a k)) ∧ Chg NoB w0 w') := by
 refine Calls.walk (args := [slv (a).length pa.1, I k]) NoB Tryz.func43 rfl rfl ?_
 intro ac β S
 have hlea : a.length ≤ 4194304 := LRd.le ha
 refine ws (rg ?_)
 refine S.qe 1 [] [] ?_; clear S; intro ac w β S
 refine (nt (ws (ws (rg ?_))))
 refine S.qe 1 [] [(5, .v (I 0))] ?_; clear S; intro ac w β S
 refine (nt (wp_block ?_))
 refine wp_loop_down (fun mm ac w => ∃ (i : Nat) (j : Int)  (u : World) (N : Bl) (β : Nat → Nat), mm = a.length - i ∧ (i ≤ a.length) ∧ (hdl a k = hdlc (a.drop i) j id) ∧ St Tryz.prog Tryz.f43.ntmps w0 NoB u N β ⟨[(0, .v (slv (a).length pa.1)), (1, .v (I j)), (5, .v (I (i : Int)))], []⟩ ac w) _ ⟨0, k, _, _, _, rfl, (by first | omega | (simp; done) | (simp; omega)), (by rfl), S.z⟩ ?_
 clear S
 rintro mm ac w ⟨i, j, u, N, β, rfl, hi, hr, S⟩
 refine ws (ws (rg ?_))
 refine S.qe 4 [] [(9, .v (B (decide ((i : Int) < ((a).length : Int)))))] ?_; clear S; intro ac w β S
 refine (nt (S.c (decide ((i : Int) < ((a).length : Int))) (fun h1 => ?_) (fun h1 => ?_)))
 ·have g2 := of_decide_eq_true h1
  refine wk (nt (ws (wp_block (ws (rg ?_)))))
  refine S.qg 8 [] [(1, .v (I (hdl ((el a i).outer) j)))] (.cons (Q_idx (S.arg ha) (l := (a).length) (k := i) (i := (i : Int)) rfl rfl (by omega) Tryz.underlying28 (by kernel_rfl)) (.cons (Q_cell (S.arg ha) (t := 47) (k := i) (j := 0) (v := slv ((el a i).outer).length ((pa.2 i).outer).1) (by omega) (by kernel_rfl) (by kernel_rfl)) (.cons (Q_call fun w hw => c_laws_heldSlotS w ((el a i).outer) ((pa.2 i).outer) (rd_of (RMon.outer (d := (el a i)) (LRd.el (S.arg ha) i (by omega))) hw) j) .nil))) ?_; clear S; intro ac w β S
  refine (nt (ws (ws (rg ?_))))
  refine S.qe 2 [] [(20, .v (B (decide ((hdl ((el a i).outer) j) < 0))))] ?_; clear S; intro ac w β S
  refine (nt (S.c (decide ((hdl ((el a i).outer) j) < 0)) (fun h3 => ?_) (fun h3 => ?_)))
  ·have g4 := of_decide_eq_true h3
   refine ws (rg ?_)
   refine S.qe 1 [] [(4, .v (I (-1)))] ?_; clear S; intro ac w β S
   exact (nt (wr (rt (rb (rt (rt (rb (rt (S.r [I (-1)] ⟨retI k0_laws_heldMonS, S.chg⟩)))))))))
  ·have g5 := of_decide_eq_false h3
   refine wk (nt (ws (rg ?_)))
   refine S.qg 8 [] [(1, .v (I (hdl ((el a i).out) (hdl ((el a i).outer) j))))] (.cons (Q_idx (S.arg ha) (l := (a).length) (k := i) (i := (i : Int)) rfl rfl (by omega) Tryz.underlying28 (by kernel_rfl)) (.cons (Q_cell (S.arg ha) (t := 22) (k := i) (j := 1) (v := slv ((el a i).out).length ((pa.2 i).out).1) (by omega) (by kernel_rfl) (by kernel_rfl)) (.cons (Q_call fun w hw => c_laws_heldIntSS w ((el a i).out) ((pa.2 i).out) (rd_of (RMon.out (d := (el a i)) (LRd.el (S.arg ha) i (by omega))) hw) (hdl ((el a i).outer) j)) .nil))) ?_; clear S; intro ac w β S
   refine (nt (ws (ws (rg ?_))))
   refine S.qe 2 [] [(29, .v (B (decide ((hdl ((el a i).out) (hdl ((el a i).outer) j)) < 0))))] ?_; clear S; intro ac w β S
   refine (nt (S.c (decide ((hdl ((el a i).out) (hdl ((el a i).outer) j)) < 0)) (fun h6 => ?_) (fun h6 => ?_)))
   ·have g7 := of_decide_eq_true h6
    refine ws (rg ?_)
    refine S.qe 1 [] [(4, .v (I (-1)))] ?_; clear S; intro ac w β S
    exact (nt (wr (rt (rb (rt (rt (rb (rt (S.r [I (-1)] ⟨retI k0_laws_heldMonS, S.chg⟩)))))))))
   ·have g8 := of_decide_eq_false h6
    refine wk (nt (ws (rg ?_)))
    refine S.qg 8 [] [(1, .v (I (hdl ((el a i).dirty) (hdl ((el a i).out) (hdl ((el a i).outer) j)))))] (.cons (Q_idx (S.arg ha) (l := (a).length) (k := i) (i := (i : Int)) rfl rfl (by omega) Tryz.underlying28 (by kernel_rfl)) (.cons (Q_cell (S.arg ha) (t := 48) (k := i) (j := 2) (v := slv ((el a i).dirty).length ((pa.2 i).dirty).1) (by omega) (by kernel_rfl) (by kernel_rfl)) (.cons (Q_call fun w hw => c_laws_heldBoolS w ((el a i).dirty) ((pa.2 i).dirty) (rd_of (RMon.dirty (d := (el a i)) (LRd.el (S.arg ha) i (by omega))) hw) (hdl ((el a i).out) (hdl ((el a i).outer) j))) .nil))) ?_; clear S; intro ac w β S
    refine (nt (ws (ws (rg ?_))))
    refine S.qe 2 [] [(38, .v (B (decide ((hdl ((el a i).dirty) (hdl ((el a i).out) (hdl ((el a i).outer) j))) < 0))))] ?_; clear S; intro ac w β S
    refine (nt (S.c (decide ((hdl ((el a i).dirty) (hdl ((el a i).out) (hdl ((el a i).outer) j))) < 0)) (fun h9 => ?_) (fun h9 => ?_)))
    ·have g10 := of_decide_eq_true h9
     refine ws (rg ?_)
     refine S.qe 1 [] [(4, .v (I (-1)))] ?_; clear S; intro ac w β S
     exact (nt (wr (rt (rb (rt (rt (rb (rt (S.r [I (-1)] ⟨retI k0_laws_heldMonS, S.chg⟩)))))))))
    ·have g11 := of_decide_eq_false h9
     refine wk (nt (ws (rg ?_)))
     refine S.qg 8 [] [(1, .v (I (hdl ((el a i).guests) (hdl ((el a i).dirty) (hdl ((el a i).out) (hdl ((el a i).outer) j))))))] (.cons (Q_idx (S.arg ha) (l := (a).length) (k := i) (i := (i : Int)) rfl rfl (by omega) Tryz.underlying28 (by kernel_rfl)) (.cons (Q_cell (S.arg ha) (t := 49) (k := i) (j := 3) (v := slv ((el a i).guests).length ((pa.2 i).guests).1) (by omega) (by kernel_rfl) (by kernel_rfl)) (.cons (Q_call fun w hw => c_laws_heldGuestS w ((el a i).guests) ((pa.2 i).guests) (rd_of (RMon.guests (d := (el a i)) (LRd.el (S.arg ha) i (by omega))) hw) (hdl ((el a i).dirty) (hdl ((el a i).out) (hdl ((el a i).outer) j)))) .nil))) ?_; clear S; intro ac w β S
     refine (nt (ws (ws (rg ?_))))
     refine S.qe 2 [] [(47, .v (B (decide ((hdl ((el a i).guests) (hdl ((el a i).dirty) (hdl ((el a i).out) (hdl ((el a i).outer) j)))) < 0))))] ?_; clear S; intro ac w β S
     refine (nt (S.c (decide ((hdl ((el a i).guests) (hdl ((el a i).dirty) (hdl ((el a i).out) (hdl ((el a i).outer) j)))) < 0)) (fun h12 => ?_) (fun h12 => ?_)))
     ·have g13 := of_decide_eq_true h12
      refine ws (rg ?_)
      refine S.qe 1 [] [(4, .v (I (-1)))] ?_; clear S; intro ac w β S
      exact (nt (wr (rt (rb (rt (rt (rb (rt (S.r [I (-1)] ⟨retI k0_laws_heldMonS, S.chg⟩)))))))))
     ·have g14 := of_decide_eq_false h12
      refine wk (nt (ws (rg ?_)))
      refine S.qg 8 [] [(1, .v (I (hdl ((el a i).outs) (hdl ((el a i).guests) (hdl ((el a i).dirty) (hdl ((el a i).out) (hdl ((el a i).outer) j)))))))] (.cons (Q_idx (S.arg ha) (l := (a).length) (k := i) (i := (i : Int)) rfl rfl (by omega) Tryz.underlying28 (by kernel_rfl)) (.cons (Q_cell (S.arg ha) (t := 50) (k := i) (j := 4) (v := slv ((el a i).outs).length ((pa.2 i).outs).1) (by omega) (by kernel_rfl) (by kernel_rfl)) (.cons (Q_call fun w hw => c_laws_heldIntS w ((el a i).outs) ((pa.2 i).outs) (rd_of (RMon.outs (d := (el a i)) (LRd.el (S.arg ha) i (by omega))) hw) (hdl ((el a i).guests) (hdl ((el a i).dirty) (hdl ((el a i).out) (hdl ((el a i).outer) j))))) .nil))) ?_; clear S; intro ac w β S
      refine (nt (ws (ws (rg ?_))))
      refine S.qe 2 [] [(56, .v (B (decide ((hdl ((el a i).outs) (hdl ((el a i).guests) (hdl ((el a i).dirty) (hdl ((el a i).out) (hdl ((el a i).outer) j))))) < 0))))] ?_; clear S; intro ac w β S
      refine (nt (S.c (decide ((hdl ((el a i).outs) (hdl ((el a i).guests) (hdl ((el a i).dirty) (hdl ((el a i).out) (hdl ((el a i).outer) j))))) < 0)) (fun h15 => ?_) (fun h15 => ?_)))
      ·have g16 := of_decide_eq_true h15
       refine ws (rg ?_)
       refine S.qe 1 [] [(4, .v (I (-1)))] ?_; clear S; intro ac w β S
       exact (nt (wr (rt (rb (rt (rt (rb (rt (S.r [I (-1)] ⟨retI k0_laws_heldMonS, S.chg⟩)))))))))
      ·have g17 := of_decide_eq_false h15
       refine wk (nt (ws (ws (rg ?_))))
       refine S.qg 7 [] [(63, .v (B ((el a i).pend != (hdl ((el a i).outs) (hdl ((el a i).guests) (hdl ((el a i).dirty) (hdl ((el a i).out) (hdl ((el a i).outer) j))))))))] (.cons (Q_idx (S.arg ha) (l := (a).length) (k := i) (i := (i : Int)) rfl rfl (by omega) Tryz.underlying28 (by kernel_rfl)) (.cons (Q_cell (S.arg ha) (t := 3) (k := i) (j := 5) (v := I ((el a i).pend)) (by omega) (by kernel_rfl) (by kernel_rfl)) .nil)) ?_; clear S; intro ac w β S
       refine (nt (S.c ((el a i).pend != (hdl ((el a i).outs) (hdl ((el a i).guests) (hdl ((el a i).dirty) (hdl ((el a i).out) (hdl ((el a i).outer) j)))))) (fun h18 => ?_) (fun h18 => ?_)))
       ·have g19 : ¬ ((el a i).pend = (hdl ((el a i).outs) (hdl ((el a i).guests) (hdl ((el a i).dirty) (hdl ((el a i).out) (hdl ((el a i).outer) j)))))) := bne_iff_ne.1 h18
        refine ws (rg ?_)
        refine S.qe 1 [] [(4, .v (I (-1)))] ?_; clear S; intro ac w β S
        exact (nt (wr (rt (rb (rt (rt (rb (rt (S.r [I (-1)] ⟨retI k0_laws_heldMonS, S.chg⟩)))))))))
       ·have g20 : (el a i).pend = (hdl ((el a i).outs) (hdl ((el a i).guests) (hdl ((el a i).dirty) (hdl ((el a i).out) (hdl ((el a i).outer) j))))) := ne_f h18
        refine wk (nt (ws (rg ?_)))
        refine S.qg 3 [] [(1, .v (I (w1 (hdl ((el a i).outs) (hdl ((el a i).guests) (hdl ((el a i).dirty) (hdl ((el a i).out) (hdl ((el a i).outer) j))))))))] (.cons (Q_addw (x := (hdl ((el a i).outs) (hdl ((el a i).guests) (hdl ((el a i).dirty) (hdl ((el a i).out) (hdl ((el a i).outer) j)))))) (y := 1)) .nil) ?_; clear S; intro ac w β S
        refine (nt (ws (ws (rg ?_))))
        refine S.qg 7 [] [(72, .v (B ((el a i).traps != (w1 (hdl ((el a i).outs) (hdl ((el a i).guests) (hdl ((el a i).dirty) (hdl ((el a i).out) (hdl ((el a i).outer) j)))))))))] (.cons (Q_idx (S.arg ha) (l := (a).length) (k := i) (i := (i : Int)) rfl rfl (by omega) Tryz.underlying28 (by kernel_rfl)) (.cons (Q_cell (S.arg ha) (t := 3) (k := i) (j := 6) (v := I ((el a i).traps)) (by omega) (by kernel_rfl) (by kernel_rfl)) .nil)) ?_; clear S; intro ac w β S
        refine (nt (S.c ((el a i).traps != (w1 (hdl ((el a i).outs) (hdl ((el a i).guests) (hdl ((el a i).dirty) (hdl ((el a i).out) (hdl ((el a i).outer) j))))))) (fun h21 => ?_) (fun h21 => ?_)))
        ·have g22 : ¬ ((el a i).traps = (w1 (hdl ((el a i).outs) (hdl ((el a i).guests) (hdl ((el a i).dirty) (hdl ((el a i).out) (hdl ((el a i).outer) j))))))) := bne_iff_ne.1 h21
         refine ws (rg ?_)
         refine S.qe 1 [] [(4, .v (I (-1)))] ?_; clear S; intro ac w β S
         exact (nt (wr (rt (rb (rt (rt (rb (rt (S.r [I (-1)] ⟨retI k0_laws_heldMonS, S.chg⟩)))))))))
        ·have g23 : (el a i).traps = (w1 (hdl ((el a i).outs) (hdl ((el a i).guests) (hdl ((el a i).dirty) (hdl ((el a i).out) (hdl ((el a i).outer) j)))))) := ne_f h21
         refine wk (nt (ws (rg ?_)))
         refine S.qg 3 [] [(1, .v (I (w1 (w1 (hdl ((el a i).outs) (hdl ((el a i).guests) (hdl ((el a i).dirty) (hdl ((el a i).out) (hdl ((el a i).outer) j)))))))))] (.cons (Q_addw (x := (w1 (hdl ((el a i).outs) (hdl ((el a i).guests) (hdl ((el a i).dirty) (hdl ((el a i).out) (hdl ((el a i).outer) j))))))) (y := 1)) .nil) ?_; clear S; intro ac w β S
         refine (nt (ws (rg ?_)))
         refine S.qg 8 [] [(1, .v (I (hdl ((el a i).tables) (w1 (w1 (hdl ((el a i).outs) (hdl ((el a i).guests) (hdl ((el a i).dirty) (hdl ((el a i).out) (hdl ((el a i).outer) j))))))))))] (.cons (Q_idx (S.arg ha) (l := (a).length) (k := i) (i := (i : Int)) rfl rfl (by omega) Tryz.underlying28 (by kernel_rfl)) (.cons (Q_cell (S.arg ha) (t := 51) (k := i) (j := 7) (v := slv ((el a i).tables).length ((pa.2 i).tables).1) (by omega) (by kernel_rfl) (by kernel_rfl)) (.cons (Q_call fun w hw => c_laws_heldKeptS w ((el a i).tables) ((pa.2 i).tables) (rd_of (RMon.tables (d := (el a i)) (LRd.el (S.arg ha) i (by omega))) hw) (w1 (w1 (hdl ((el a i).outs) (hdl ((el a i).guests) (hdl ((el a i).dirty) (hdl ((el a i).out) (hdl ((el a i).outer) j)))))))) .nil))) ?_; clear S; intro ac w β S
         refine (nt (ws (ws (rg ?_))))
         refine S.qe 2 [] [(83, .v (B (decide ((hdl ((el a i).tables) (w1 (w1 (hdl ((el a i).outs) (hdl ((el a i).guests) (hdl ((el a i).dirty) (hdl ((el a i).out) (hdl ((el a i).outer) j)))))))) < 0))))] ?_; clear S; intro ac w β S
         refine (nt (S.c (decide ((hdl ((el a i).tables) (w1 (w1 (hdl ((el a i).outs) (hdl ((el a i).guests) (hdl ((el a i).dirty) (hdl ((el a i).out) (hdl ((el a i).outer) j)))))))) < 0)) (fun h24 => ?_) (fun h24 => ?_)))
         ·have g25 := of_decide_eq_true h24
          refine ws (rg ?_)
          refine S.qe 1 [] [(4, .v (I (-1)))] ?_; clear S; intro ac w β S
          exact (nt (wr (rt (rb (rt (rt (rb (rt (S.r [I (-1)] ⟨retI k0_laws_heldMonS, S.chg⟩)))))))))
         ·have g26 := of_decide_eq_false h24
          refine wk (nt (ws (ws (rg ?_))))
          refine S.qg 7 [] [(90, .v (B ((el a i).owned != (hdl ((el a i).tables) (w1 (w1 (hdl ((el a i).outs) (hdl ((el a i).guests) (hdl ((el a i).dirty) (hdl ((el a i).out) (hdl ((el a i).outer) j)))))))))))] (.cons (Q_idx (S.arg ha) (l := (a).length) (k := i) (i := (i : Int)) rfl rfl (by omega) Tryz.underlying28 (by kernel_rfl)) (.cons (Q_cell (S.arg ha) (t := 3) (k := i) (j := 8) (v := I ((el a i).owned)) (by omega) (by kernel_rfl) (by kernel_rfl)) .nil)) ?_; clear S; intro ac w β S
          refine (nt (S.c ((el a i).owned != (hdl ((el a i).tables) (w1 (w1 (hdl ((el a i).outs) (hdl ((el a i).guests) (hdl ((el a i).dirty) (hdl ((el a i).out) (hdl ((el a i).outer) j))))))))) (fun h27 => ?_) (fun h27 => ?_)))
          ·have g28 : ¬ ((el a i).owned = (hdl ((el a i).tables) (w1 (w1 (hdl ((el a i).outs) (hdl ((el a i).guests) (hdl ((el a i).dirty) (hdl ((el a i).out) (hdl ((el a i).outer) j))))))))) := bne_iff_ne.1 h27
           refine ws (rg ?_)
           refine S.qe 1 [0, 1, 5, 9, 20, 29, 38, 47, 56, 63, 72, 83, 90] [(4, .v (I (-1)))] ?_; clear S; intro ac w β S
           exact (nt (wr (rt (rb (rt (rt (rb (rt (S.r [I (-1)] ⟨retI k0_laws_heldMonS, S.chg⟩)))))))))
          ·have g29 : (el a i).owned = (hdl ((el a i).tables) (w1 (w1 (hdl ((el a i).outs) (hdl ((el a i).guests) (hdl ((el a i).dirty) (hdl ((el a i).out) (hdl ((el a i).outer) j)))))))) := ne_f h27
           refine wk (nt (rg ?_))
           refine S.qg 3 [] [(1, .v (I (w1 (hdl ((el a i).tables) (w1 (w1 (hdl ((el a i).outs) (hdl ((el a i).guests) (hdl ((el a i).dirty) (hdl ((el a i).out) (hdl ((el a i).outer) j)))))))))))] (.cons (Q_addw (x := (hdl ((el a i).tables) (w1 (w1 (hdl ((el a i).outs) (hdl ((el a i).guests) (hdl ((el a i).dirty) (hdl ((el a i).out) (hdl ((el a i).outer) j))))))))) (y := 1)) .nil) ?_; clear S; intro ac w β S
           refine (nb (nt (rg ?_)))
           refine S.qg 3 [] [(5, .v (I ((i : Int) + 1)))] (.cons (Q_add (x := (i : Int)) (y := 1) ⟨by omega, by omega⟩) .nil) ?_; clear S; intro ac w β S
           refine (nt ?_)
           refine ⟨a.length - (i + 1), by omega, i + 1, (w1 (hdl ((el a i).tables) (w1 (w1 (hdl ((el a i).outs) (hdl ((el a i).guests) (hdl ((el a i).dirty) (hdl ((el a i).out) (hdl ((el a i).outer) j))))))))), _, _, _, rfl, ?_, ?_, S.z⟩
           ·clear S; first | omega | (simp [*]; done) | (simp [*]; omega)
           ·clear S; (rw [hr, hd_step (by omega)]; simp [he_Mon, w1, hdi, hdb, hdc, *])
 ·have g30 := of_decide_eq_false h1
  refine wp_exit (ex_then (ex_then (ex_hit (nt (ws (rg ?_))))))
  refine S.qe 2 [] [(4, .v (I j))] ?_; clear S; intro ac w β S
  exact (nt (wr (S.r [I j] ⟨retI k0_laws_heldMonS, S.chg⟩)))

theorem k0_laws_heldEntryS {p : Prop} (h : p := by clear S; (first | (rw [hr, hd_end (by omega)]; done) | (rw [hr, hd_step (by omega)]; simp [he_Entry, w1, hdi, hdb, hdc, *]; done) | (rw [hr, hd_step (by omega)]; simp_all [he_Entry, w1, hdi, hdb, hdc]; done))) : p := h
set_option maxRecDepth 100000 in
theorem c_laws_heldEntryS (w0 : World) (a : List TEntry) (pa : LP TEntry) (ha : GT.rd KK (Lt w0.heap.size) w0 a pa) (k : Int) : Calls Tryz.prog 44 [slv (a).length pa.1, I k].toArray w0 (fun e w' => e = .returned (I (hdl a k)) ∧ Chg NoB w0 w') := by
 refine Calls.walk (args := [slv (a).length pa.1, I k]) NoB Tryz.func44 rfl rfl ?_
 intro ac β S
 have hlea : a.length ≤ 4194304 := LRd.le ha
 refine ws (rg ?_)
 refine S.qe 1 [] [] ?_; clear S; intro ac w β S
 refine (nt (ws (ws (rg ?_))))
 refine S.qe 1 [] [(5, .v (I 0))] ?_; clear S; intro ac w β S
 refine (nt (wp_block ?_))
 refine wp_loop_down (fun mm ac w => ∃ (i : Nat) (j : Int)  (u : World) (N : Bl) (β : Nat → Nat), mm = a.length - i ∧ (i ≤ a.length) ∧ (hdl a k = hdlc (a.drop i) j id) ∧ St Tryz.prog Tryz.f44.ntmps w0 NoB u N β ⟨[(0, .v (slv (a).length pa.1)), (1, .v (I j)), (5, .v (I (i : Int)))], []⟩ ac w) _ ⟨0, k, _, _, _, rfl, (by first | omega | (simp; done) | (simp; omega)), (by rfl), S.z⟩ ?_
 clear S
 rintro mm ac w ⟨i, j, u, N, β, rfl, hi, hr, S⟩
 refine ws (ws (rg ?_))
 refine S.qe 4 [] [(9, .v (B (decide ((i : Int) < ((a).length : Int)))))] ?_; clear S; intro ac w β S
 refine (nt (S.c (decide ((i : Int) < ((a).length : Int))) (fun h1 => ?_) (fun h1 => ?_)))
 ·have g2 := of_decide_eq_true h1
  refine wk (nt (ws (wp_block (ws (ws (rg ?_))))))
  refine S.qg 7 [] [(18, .v (B ((el a i).tag != j)))] (.cons (Q_idx (S.arg ha) (l := (a).length) (k := i) (i := (i : Int)) rfl rfl (by omega) Tryz.underlying29 (by kernel_rfl)) (.cons (Q_cell (S.arg ha) (t := 3) (k := i) (j := 0) (v := I ((el a i).tag)) (by omega) (by kernel_rfl) (by kernel_rfl)) .nil)) ?_; clear S; intro ac w β S
  refine (nt (S.c ((el a i).tag != j) (fun h3 => ?_) (fun h3 => ?_)))
  ·have g4 : ¬ ((el a i).tag = j) := bne_iff_ne.1 h3
   refine ws (rg ?_)
   refine S.qe 1 [] [(4, .v (I (-1)))] ?_; clear S; intro ac w β S
   exact (nt (wr (rt (rb (rt (rt (rb (rt (S.r [I (-1)] ⟨retI k0_laws_heldEntryS, S.chg⟩)))))))))
  ·have g5 : (el a i).tag = j := ne_f h3
   refine wk (nt (ws (rg ?_)))
   refine S.qg 3 [] [(1, .v (I (w1 j)))] (.cons (Q_addw (x := j) (y := 1)) .nil) ?_; clear S; intro ac w β S
   refine (nt (ws (ws (rg ?_))))
   refine S.qg 7 [] [(27, .v (B ((el a i).page != (w1 j))))] (.cons (Q_idx (S.arg ha) (l := (a).length) (k := i) (i := (i : Int)) rfl rfl (by omega) Tryz.underlying29 (by kernel_rfl)) (.cons (Q_cell (S.arg ha) (t := 3) (k := i) (j := 1) (v := I ((el a i).page)) (by omega) (by kernel_rfl) (by kernel_rfl)) .nil)) ?_; clear S; intro ac w β S
   refine (nt (S.c ((el a i).page != (w1 j)) (fun h6 => ?_) (fun h6 => ?_)))
   ·have g7 : ¬ ((el a i).page = (w1 j)) := bne_iff_ne.1 h6
    refine ws (rg ?_)
    refine S.qe 1 [] [(4, .v (I (-1)))] ?_; clear S; intro ac w β S
    exact (nt (wr (rt (rb (rt (rt (rb (rt (S.r [I (-1)] ⟨retI k0_laws_heldEntryS, S.chg⟩)))))))))
   ·have g8 : (el a i).page = (w1 j) := ne_f h6
    refine wk (nt (ws (rg ?_)))
    refine S.qg 3 [] [(1, .v (I (w1 (w1 j))))] (.cons (Q_addw (x := (w1 j)) (y := 1)) .nil) ?_; clear S; intro ac w β S
    refine (nt (ws (ws (rg ?_))))
    refine S.qg 7 [] [(36, .v (B ((el a i).host != (w1 (w1 j)))))] (.cons (Q_idx (S.arg ha) (l := (a).length) (k := i) (i := (i : Int)) rfl rfl (by omega) Tryz.underlying29 (by kernel_rfl)) (.cons (Q_cell (S.arg ha) (t := 3) (k := i) (j := 2) (v := I ((el a i).host)) (by omega) (by kernel_rfl) (by kernel_rfl)) .nil)) ?_; clear S; intro ac w β S
    refine (nt (S.c ((el a i).host != (w1 (w1 j))) (fun h9 => ?_) (fun h9 => ?_)))
    ·have g10 : ¬ ((el a i).host = (w1 (w1 j))) := bne_iff_ne.1 h9
     refine ws (rg ?_)
     refine S.qe 1 [] [(4, .v (I (-1)))] ?_; clear S; intro ac w β S
     exact (nt (wr (rt (rb (rt (rt (rb (rt (S.r [I (-1)] ⟨retI k0_laws_heldEntryS, S.chg⟩)))))))))
    ·have g11 : (el a i).host = (w1 (w1 j)) := ne_f h9
     refine wk (nt (ws (rg ?_)))
     refine S.qg 3 [] [(1, .v (I (w1 (w1 (w1 j)))))] (.cons (Q_addw (x := (w1 (w1 j))) (y := 1)) .nil) ?_; clear S; intro ac w β S
     refine (nt (ws (ws (rg ?_))))
     refine S.qg 7 [] [(45, .v (B ((el a i).rights != (w1 (w1 (w1 j))))))] (.cons (Q_idx (S.arg ha) (l := (a).length) (k := i) (i := (i : Int)) rfl rfl (by omega) Tryz.underlying29 (by kernel_rfl)) (.cons (Q_cell (S.arg ha) (t := 3) (k := i) (j := 3) (v := I ((el a i).rights)) (by omega) (by kernel_rfl) (by kernel_rfl)) .nil)) ?_; clear S; intro ac w β S
     refine (nt (S.c ((el a i).rights != (w1 (w1 (w1 j)))) (fun h12 => ?_) (fun h12 => ?_)))
     ·have g13 : ¬ ((el a i).rights = (w1 (w1 (w1 j)))) := bne_iff_ne.1 h12
      refine ws (rg ?_)
      refine S.qe 1 [] [(4, .v (I (-1)))] ?_; clear S; intro ac w β S
      exact (nt (wr (rt (rb (rt (rt (rb (rt (S.r [I (-1)] ⟨retI k0_laws_heldEntryS, S.chg⟩)))))))))
     ·have g14 : (el a i).rights = (w1 (w1 (w1 j))) := ne_f h12
      refine wk (nt (rg ?_))
      refine S.qg 3 [] [(1, .v (I (w1 (w1 (w1 (w1 j))))))] (.cons (Q_addw (x := (w1 (w1 (w1 j)))) (y := 1)) .nil) ?_; clear S; intro ac w β S
      refine (nb (nt (rg ?_)))
      refine S.qg 3 [] [(5, .v (I ((i : Int) + 1)))] (.cons (Q_add (x := (i : Int)) (y := 1) ⟨by omega, by omega⟩) .nil) ?_; clear S; intro ac w β S
      refine (nt ?_)
      refine ⟨a.length - (i + 1), by omega, i + 1, (w1 (w1 (w1 (w1 j)))), _, _, _, rfl, ?_, ?_, S.z⟩
      ·clear S; first | omega | (simp [*]; done) | (simp [*]; omega)
      ·clear S; (rw [hr, hd_step (by omega)]; simp [he_Entry, w1, hdi, hdb, hdc, *])
 ·have g15 := of_decide_eq_false h1
  refine wp_exit (ex_then (ex_then (ex_hit (nt (ws (rg ?_))))))
  refine S.qe 2 [] [(4, .v (I j))] ?_; clear S; intro ac w β S
  exact (nt (wr (S.r [I j] ⟨retI k0_laws_heldEntryS, S.chg⟩)))

set_option maxRecDepth 100000 in
theorem c_laws_heldHost (w0 : World) (a : THost) (pa : PHost) (ha : GT.rd KK (Lt w0.heap.size) w0 a pa) (k : Int) : Calls Tryz.prog 14 [GT.val a pa, I k].toArray w0 (fun e w' => e = .returned (I (hdT_Host a k)) ∧ Chg NoB w0 w') := by
 refine Calls.walk (args := [GT.val a pa, I k]) NoB Tryz.func14 rfl rfl ?_
 intro ac β S
 have hlea_mem : a.mem.length ≤ 4194304 := LRd.le (RHost.mem (d := a) ha)
 have hlea_mons : a.mons.length ≤ 4194304 := LRd.le (RHost.mons (d := a) ha)
 have hlea_buf : a.buf.length ≤ 4194304 := LRd.le (RHost.buf (d := a) ha)
 have hlea_iobuf : a.iobuf.length ≤ 4194304 := LRd.le (RHost.iobuf (d := a) ha)
 refine ws (rg ?_)
 refine S.qem 2 [] [(2, .p 0 0)] 1 [(0, GT.cells a pa)] ?_; clear S; intro ac w β S
 refine (nt (ws (rg ?_)))
 refine S.qg 5 [] [(1, .v (I (hdl a.mem k)))] (.cons (Q_call fun w hw => c_laws_heldIntSS w a.mem pa.mem (rd_of (RHost.mem (d := a) (S.arg ha)) hw) k) .nil) ?_; clear S; intro ac w β S
 refine (nt (ws (ws (rg ?_))))
 refine S.qe 2 [] [(10, .v (B (decide ((hdl a.mem k) < 0))))] ?_; clear S; intro ac w β S
 refine (nt (S.c (decide ((hdl a.mem k) < 0)) (fun h1 => ?_) (fun h1 => ?_)))
 ·have g2 := of_decide_eq_true h1
  refine ws (rg ?_)
  refine S.qe 1 [] [(4, .v (I (-1)))] ?_; clear S; intro ac w β S
  exact (nt (wr (rt (S.r [I (-1)] ⟨retI (by clear S; (simp [hdT_Host, hdc, *])), S.chg⟩))))
 ·have g3 := of_decide_eq_false h1
  refine wk (nt (ws (rg ?_)))
  refine S.qg 5 [] [(1, .v (I (hdl a.mons (hdl a.mem k))))] (.cons (Q_call fun w hw => c_laws_heldMonS w a.mons pa.mons (rd_of (RHost.mons (d := a) (S.arg ha)) hw) (hdl a.mem k)) .nil) ?_; clear S; intro ac w β S
  refine (nt (ws (ws (rg ?_))))
  refine S.qe 2 [] [(16, .v (B (decide ((hdl a.mons (hdl a.mem k)) < 0))))] ?_; clear S; intro ac w β S
  refine (nt (S.c (decide ((hdl a.mons (hdl a.mem k)) < 0)) (fun h4 => ?_) (fun h4 => ?_)))
  ·have g5 := of_decide_eq_true h4
   refine ws (rg ?_)
   refine S.qe 1 [] [(4, .v (I (-1)))] ?_; clear S; intro ac w β S
   exact (nt (wr (rt (S.r [I (-1)] ⟨retI (by clear S; (simp [hdT_Host, hdc, *])), S.chg⟩))))
  ·have g6 := of_decide_eq_false h4
   refine wk (nt (ws (rg ?_)))
   refine S.qg 5 [] [(1, .v (I (hdl a.buf (hdl a.mons (hdl a.mem k)))))] (.cons (Q_call fun w hw => c_laws_heldEntryS w a.buf pa.buf (rd_of (RHost.buf (d := a) (S.arg ha)) hw) (hdl a.mons (hdl a.mem k))) .nil) ?_; clear S; intro ac w β S
   refine (nt (ws (ws (rg ?_))))
   refine S.qe 2 [] [(22, .v (B (decide ((hdl a.buf (hdl a.mons (hdl a.mem k))) < 0))))] ?_; clear S; intro ac w β S
   refine (nt (S.c (decide ((hdl a.buf (hdl a.mons (hdl a.mem k))) < 0)) (fun h7 => ?_) (fun h7 => ?_)))
   ·have g8 := of_decide_eq_true h7
    refine ws (rg ?_)
    refine S.qe 1 [] [(4, .v (I (-1)))] ?_; clear S; intro ac w β S
    exact (nt (wr (rt (S.r [I (-1)] ⟨retI (by clear S; (simp [hdT_Host, hdc, *])), S.chg⟩))))
   ·have g9 := of_decide_eq_false h7
    refine wk (nt (ws (rg ?_)))
    refine S.qgm 5 [] [(1, .v (I (hdl a.iobuf (hdl a.buf (hdl a.mons (hdl a.mem k))))))] (.cons (Q_call fun w hw => c_laws_heldEntryS w a.iobuf pa.iobuf (rd_of (RHost.iobuf (d := a) (S.arg ha)) hw) (hdl a.buf (hdl a.mons (hdl a.mem k)))) .nil) 0 [] ?_; clear S; intro ac w β S
    refine (nt (ws (ws (rg ?_))))
    refine S.qe 2 [] [(28, .v (B (decide ((hdl a.iobuf (hdl a.buf (hdl a.mons (hdl a.mem k)))) < 0))))] ?_; clear S; intro ac w β S
    refine (nt (S.c (decide ((hdl a.iobuf (hdl a.buf (hdl a.mons (hdl a.mem k)))) < 0)) (fun h10 => ?_) (fun h10 => ?_)))
    ·have g11 := of_decide_eq_true h10
     refine ws (rg ?_)
     refine S.qe 1 [] [(4, .v (I (-1)))] ?_; clear S; intro ac w β S
     exact (nt (wr (rt (S.r [I (-1)] ⟨retI (by clear S; (simp [hdT_Host, hdc, *])), S.chg⟩))))
    ·have g12 := of_decide_eq_false h10
     refine wk (nt (ws (rg ?_)))
     refine S.qe 2 [] [(4, .v (I (hdl a.iobuf (hdl a.buf (hdl a.mons (hdl a.mem k))))))] ?_; clear S; intro ac w β S
     exact (nt (wr (S.r [I (hdl a.iobuf (hdl a.buf (hdl a.mons (hdl a.mem k))))] ⟨retI (by clear S; (simp [hdT_Host, hdc, *])), S.chg⟩)))

theorem k0_laws_FnExactPageOut {p : Prop} (h : p := by clear S; first | rfl | (exfalso; omega) | (exfalso; simp_all; done) | (exfalso; simp_all; omega)) : p := h
set_option maxRecDepth 100000 in
theorem c_laws_FnExactPageOut (w0 : World) (aH : THost) (paH : PHost) (haH : GT.rd KR (Lt w0.heap.size) w0 aH paH) (aM : Int) (aPage : Int) : Calls Tryz.prog 4 [GT.val aH paH, I aM, I aPage].toArray w0 (fun e w' => e = .returned (B true) ∧ Chg NoB w0 w') := by
 refine Calls.walk (args := [GT.val aH paH, I aM, I aPage]) NoB Tryz.func4 rfl rfl ?_
 intro ac β S
 refine ws (rg ?_)
 refine S.qem 2 [] [(3, .p 0 0)] 1 [(0, GT.cells aH paH)] ?_; clear S; intro ac w β S
 refine (nt (ws (rg ?_)))
 refine S.qe 1 [] [(7, .v (I 1048576))] ?_; clear S; intro ac w β S
 refine (nt (ws (rg ?_)))
 have b1 := f_sz_cs (SZ.sz aH) 1048576
 refine S.qg 4 [] [(7, .v (I (f_sz (SZ.sz aH) 1048576)))] (.cons (Q_call fun w hw => c_laws_szHost w aH paH (rd_of (S.arg haH) hw) 1048576 (by omega) (by omega)) .nil) ?_; clear S; intro ac w β S
 refine (nt (ws (ws (rg ?_))))
 refine S.qe 2 [] [(22, .v (B (decide ((f_sz (SZ.sz aH) 1048576) < 0))))] ?_; clear S; intro ac w β S
 refine (nt (S.c (decide ((f_sz (SZ.sz aH) 1048576) < 0)) (fun h2 => ?_) (fun h2 => ?_)))
 ·have g3 := of_decide_eq_true h2
  refine ws (rg ?_)
  refine S.qe 1 [] [(6, .v (B true))] ?_; clear S; intro ac w β S
  exact (nt (wr (rt (S.r [B true] ⟨retB k0_laws_FnExactPageOut, S.chg⟩))))
 ·have g4 := of_decide_eq_false h2
  have hkaH : GT.rd KK (Lt w0.heap.size) w0 aH paH := SZ.cut haH (show SZ.sz aH ≤ 4194304 by omega)
  have hcaH : SZ.sz aH ≤ 1048576 := by omega
  refine wk (nt (ws (rg ?_)))
  refine S.qa 1 [] [(24, .v (GT.val aH paH))] ?_; clear S; intro ac w β S
  refine RG.op rfl (S.call1 (r := aH) (d := 25) (c_laws_toHost w aH paH (S.rd (S.arg hkaH))) (by kernel_rfl) rfl ?_)
  clear S; intro ac w N q5 F6 S up o7 d8
  clear up d8
  refine S.qa 2 [] [(25, .v (GT.val aH q5)), (26, .v (I aM)), (27, .v (I aPage))] ?_; clear S; intro ac w β S
  refine RG.op rfl (S.call2 (r := (f_pageOut aH aM aPage).1) (r' := (f_pageOut aH aM aPage).2) (d := 28) (c_spec_PageOut w aH q5 (S.rd o7.rn) aM aPage) (by kernel_rfl) rfl ?_)
  clear S; intro ac w N q9 q10 F11 F12 S up o13 o14 d15 d16 d17
  have d18 : Disj F6 F12 := fun b x y => d16 b (o7.sub b x) y
  have d19 : Disj F6 F11 := fun b x y => d15 b (o7.sub b x) y
  replace o7 := o7.up up
  clear up d15
  clear d16
  refine S.qem 6 [] [(8, .p 1 0), (9, .v (B ((f_pageOut aH aM aPage).2)))] 2 [(1, GT.cells ((f_pageOut aH aM aPage).1) q9)] ?_; clear S; intro ac w β S
  refine (nt (ws (rg ?_)))
  refine S.qa 1 [] [(31, .v (GT.val aH paH))] ?_; clear S; intro ac w β S
  refine RG.op rfl (S.call1 (r := aH) (d := 32) (c_laws_toHost w aH paH (S.rd (S.arg hkaH))) (by kernel_rfl) rfl ?_)
  clear S; intro ac w N q20 F21 S up o22 d23
  have d24 : Disj F11 F21 := fun b x y => d23 b (o13.sub b x) y
  replace o13 := o13.up up
  clear up d23
  refine S.qem 2 [] [(10, .p 2 0)] 3 [(2, GT.cells aH q20)] ?_; clear S; intro ac w β S
  refine (nt (ws (rg ?_)))
  refine S.qa 3 [] [(34, .v (GT.val aH q20)), (35, .v (I aM)), (36, .v (I aPage))] ?_; clear S; intro ac w β S
  refine RG.op rfl (S.call2 (r := (f_pageOut aH aM aPage).1) (r' := (f_pageOut aH aM aPage).2) (d := 37) (c_impl_PageOut w aH q20 (S.rd o22.rn) aM aPage) (by kernel_rfl) rfl ?_)
  clear S; intro ac w N q25 q26 F27 F28 S up o29 o30 d31 d32 d33
  have d34 : Disj F11 F28 := fun b x y => d32 b (o13.sub b x) y
  have d35 : Disj F21 F28 := fun b x y => d32 b (o22.sub b x) y
  have d36 : Disj F11 F27 := fun b x y => d31 b (o13.sub b x) y
  have d37 : Disj F21 F27 := fun b x y => d31 b (o22.sub b x) y
  replace o13 := o13.up up
  replace o22 := o22.up up
  clear up d31
  clear d32
  refine S.qem 6 [] [(11, .p 3 0), (12, .v (B ((f_pageOut aH aM aPage).2)))] 4 [(3, GT.cells ((f_pageOut aH aM aPage).1) q25)] ?_; clear S; intro ac w β S
  refine (nt (ws (ws (rg ?_))))
  refine S.qb 5 [] [(44, .v (B (!(decide (((f_pageOut aH aM aPage).1) = ((f_pageOut aH aM aPage).1))))))] (.cons (Q_call fun w hw => c_laws_eqHost w ((f_pageOut aH aM aPage).1) q25 (rd_of o29.rn hw) ((f_pageOut aH aM aPage).1) q9 (rd_of o13.rn hw)) .nil) ?_; clear S; intro ac w β S
  rcases Bool.eq_false_or_eq_true (!(decide (((f_pageOut aH aM aPage).1) = ((f_pageOut aH aM aPage).1)))) with h38 | h38 <;> rw [h38] at S
  ·have h39 := not_t h38
   have g40 := of_decide_eq_false h39
   refine S.qe 4 [44] [(48, .v (B true))] ?_; clear S; intro ac w β S
   refine (nt (S.c true (fun _ => ?_) (fun hx => by cases hx)))
   refine ws (rg ?_)
   refine S.qe 1 [0, 1, 2, 3, 7, 8, 9, 10, 11, 12, 22, 24, 25, 26, 27, 31, 34, 35, 36, 48] [(6, .v (B false))] ?_; clear S; intro ac w β S
   exact (nt (wr (rt (S.r [B false] ⟨retB k0_laws_FnExactPageOut, S.chg⟩))))
  ·have h41 := not_f h38
   have g42 := of_decide_eq_true h41
   refine S.qe 4 [44] [(48, .v (B (!((f_pageOut aH aM aPage).2 == (f_pageOut aH aM aPage).2))))] ?_; clear S; intro ac w β S
   refine (nt (S.c (!((f_pageOut aH aM aPage).2 == (f_pageOut aH aM aPage).2)) (fun h43 => ?_) (fun h43 => ?_)))
   ·have h44 := not_t h43
    have g45 : ¬ ((f_pageOut aH aM aPage).2 = (f_pageOut aH aM aPage).2) := ne_of_beq_false h44
    refine ws (rg ?_)
    refine S.qe 1 [0, 1, 2, 3, 7, 8, 9, 10, 11, 12, 22, 24, 25, 26, 27, 31, 34, 35, 36, 48] [(6, .v (B false))] ?_; clear S; intro ac w β S
    exact (nt (wr (rt (S.r [B false] ⟨retB k0_laws_FnExactPageOut, S.chg⟩))))
   ·have h46 := not_f h43
    have g47 : (f_pageOut aH aM aPage).2 = (f_pageOut aH aM aPage).2 := eq_of_beq h46
    refine wk (nt (ws (ws ?_)))
    refine S.draw0 (f := 5) 5 rfl rfl ?_
    clear S; intro w S
    refine S.hq 0 [] [] [(49, .v (GT.val aH q20))] .nil ?_; clear S; intro ac S
    refine S.hq 1 [] [] [(50, .v (GT.val aH paH))] .nil ?_; clear S; intro ac S
    refine WD.one (i := 2) (by kernel_rfl) ?_
    refine id (S.call1 (r := aH) (d := 51) (c_laws_toHost w aH paH (S.rd (S.arg hkaH))) (by kernel_rfl) rfl ?_)
    clear S; intro ac w N q48 F49 S up o50 d51
    refine WD.next S up (by kernel_rfl) ?_
    have d52 : Disj F11 F49 := fun b x y => d51 b (o13.sub b x) y
    have d53 : Disj F21 F49 := fun b x y => d51 b (o22.sub b x) y
    have d54 : Disj F27 F49 := fun b x y => d51 b (o29.sub b x) y
    replace o13 := o13.up up
    replace o22 := o22.up up
    replace o29 := o29.up up
    clear up d51
    refine WD.one (i := 3) (by kernel_rfl) ?_
    refine S.stepq (i := 3) (keep := [1, 2, 3, 8, 9, 10, 11, 12, 52]) (m := 4) (σ' := ⟨[(1, .v (I aM)), (2, .v (I aPage)), (3, .p 0 0), (8, .p 1 0), (9, .v (B ((f_pageOut aH aM aPage).2))), (10, .p 2 0), (11, .p 3 0), (12, .v (B ((f_pageOut aH aM aPage).2))), (52, .v (B (decide (aH = aH))))], [GT.cells aH paH, GT.cells ((f_pageOut aH aM aPage).1) q9, GT.cells aH q20, GT.cells ((f_pageOut aH aM aPage).1) q25]⟩) (.cons (Q_call fun w hw => c_laws_eqHost w aH q20 (rd_of o22.rn hw) aH q48 (rd_of o50.rn hw)) .nil) (by kernel_rfl) ?_
    clear S; intro ac w β S hβ
    refine WD.stayq S hβ ?_
    clear hβ
    refine S.hq 4 [] [] [(53, .v (B (!(decide (aH = aH)))))] .nil ?_; clear S; intro ac S
    refine WD.done (by kernel_rfl) ?_ _
    refine id (nt (S.c (!(decide (aH = aH))) (fun h55 => ?_) (fun h55 => ?_)))
    ·have h56 := not_t h55
     have g57 := of_decide_eq_false h56
     refine ws (rg ?_)
     refine S.qe 1 [] [(6, .v (B false))] ?_; clear S; intro ac w β S
     exact (nt (wr (rt (S.r [B false] ⟨retB k0_laws_FnExactPageOut, S.chg⟩))))
    ·have h58 := not_f h55
     have g59 := of_decide_eq_true h58
     refine wk (nt (ws (rg ?_)))
     refine S.qe 1 [] [(13, .v (I 1))] ?_; clear S; intro ac w β S
     refine (nt (ws (rg ?_)))
     refine S.qa 2 [] [(54, .v (GT.val aH q20)), (55, .v (I 1))] ?_; clear S; intro ac w β S
     have z68 := sz_pageOut aH aM aPage
     refine RG.op rfl (S.callX (hd := hdT_Host) (d := 56) o22 (c_laws_markHost w aH q20 F21 (S.ownw o22) (fun b hb => (S.sep b (o22.sub b hb)).1) 1 (by omega) (by omega)) (by kernel_rfl) rfl ?_)
     clear S; intro ac w N q60 y61 k62 S up o63 c64 x65 b66 b67
     replace o13 := o13.upF d24 up
     replace o29 := o29.upF (Disj.symm d37) up
     clear up
     replace S := S.z (σ' := ⟨[(1, .v (I aM)), (2, .v (I aPage)), (3, .p 0 0), (8, .p 1 0), (9, .v (B ((f_pageOut aH aM aPage).2))), (11, .p 3 0), (12, .v (B ((f_pageOut aH aM aPage).2))), (55, .v (I 1)), (56, .v (I k62))], [GT.cells aH paH, GT.cells ((f_pageOut aH aM aPage).1) q9, GT.cells aH q20, GT.cells ((f_pageOut aH aM aPage).1) q25]⟩)
     have hw0 : GT.cells y61 q60 = GT.cells aH q20 := c64
     replace S := S.cast (σ' := ⟨[(1, .v (I aM)), (2, .v (I aPage)), (3, .p 0 0), (8, .p 1 0), (9, .v (B ((f_pageOut aH aM aPage).2))), (11, .p 3 0), (12, .v (B ((f_pageOut aH aM aPage).2))), (55, .v (I 1)), (56, .v (I k62))], [GT.cells aH paH, GT.cells ((f_pageOut aH aM aPage).1) q9, GT.cells y61 q60, GT.cells ((f_pageOut aH aM aPage).1) q25]⟩) (by rw [hw0])
     clear hw0
     refine S.qe 1 [] [(13, .v (I k62))] ?_; clear S; intro ac w β S
     refine (nt (ws (ws (rg ?_))))
     refine S.qa 3 [] [(59, .v (B (decide (k62 < 0))))] ?_; clear S; intro ac w β S
     rcases Bool.eq_false_or_eq_true (decide (k62 < 0)) with h69 | h69 <;> rw [h69] at S
     ·have g70 := of_decide_eq_true h69
      refine S.qe 10 [59] [(69, .v (B true))] ?_; clear S; intro ac w β S
      refine (nt (S.c true (fun _ => ?_) (fun hx => by cases hx)))
      refine ws (rg ?_)
      refine S.qe 1 [] [(6, .v (B false))] ?_; clear S; intro ac w β S
      exact (nt (wr (rt (S.r [B false] ⟨retB k0_laws_FnExactPageOut, S.chg⟩))))
     ·have g71 := of_decide_eq_false h69
      refine S.qb 6 [59] [(65, .v (B (!(decide (((f_pageOut aH aM aPage).1) = ((f_pageOut aH aM aPage).1))))))] (.cons (Q_call fun w hw => c_laws_eqHost w ((f_pageOut aH aM aPage).1) q25 (rd_of o29.rn hw) ((f_pageOut aH aM aPage).1) q9 (rd_of o13.rn hw)) .nil) ?_; clear S; intro ac w β S
      rw [h38] at S
      refine S.qe 4 [65] [(69, .v (B (!((f_pageOut aH aM aPage).2 == (f_pageOut aH aM aPage).2))))] ?_; clear S; intro ac w β S
      refine (nt (S.c (!((f_pageOut aH aM aPage).2 == (f_pageOut aH aM aPage).2)) (fun h72 => ?_) (fun h72 => ?_)))
      ·have h73 := not_t h72
       have g74 : ¬ ((f_pageOut aH aM aPage).2 = (f_pageOut aH aM aPage).2) := ne_of_beq_false h73
       refine ws (rg ?_)
       refine S.qe 1 [] [(6, .v (B false))] ?_; clear S; intro ac w β S
       exact (nt (wr (rt (S.r [B false] ⟨retB k0_laws_FnExactPageOut, S.chg⟩))))
      ·have h75 := not_f h72
       have g76 : (f_pageOut aH aM aPage).2 = (f_pageOut aH aM aPage).2 := eq_of_beq h75
       refine wk (nt (ws (rg ?_)))
       refine S.qe 1 [] [(14, .v (I 1))] ?_; clear S; intro ac w β S
       refine (nt (ws (rg ?_)))
       refine S.qa 2 [] [(70, .v (GT.val ((f_pageOut aH aM aPage).1) q25)), (71, .v (I 1))] ?_; clear S; intro ac w β S
       have z85 := sz_pageOut aH aM aPage
       refine RG.op rfl (S.callX (hd := hdT_Host) (d := 72) o29 (c_laws_markHost w ((f_pageOut aH aM aPage).1) q25 F27 (S.ownw o29) (fun b hb => (S.sep b (o29.sub b hb)).1) 1 (by omega) (by omega)) (by kernel_rfl) rfl ?_)
       clear S; intro ac w N q77 y78 k79 S up o80 c81 x82 b83 b84
       replace o13 := o13.upF d36 up
       replace o63 := o63.upF (Disj.symm (Disj.symm d37)) up
       clear up
       replace S := S.z (σ' := ⟨[(1, .v (I aM)), (2, .v (I aPage)), (3, .p 0 0), (8, .p 1 0), (9, .v (B ((f_pageOut aH aM aPage).2))), (11, .p 3 0), (71, .v (I 1)), (72, .v (I k79))], [GT.cells aH paH, GT.cells ((f_pageOut aH aM aPage).1) q9, GT.cells y61 q60, GT.cells ((f_pageOut aH aM aPage).1) q25]⟩)
       have hw0 : GT.cells y78 q77 = GT.cells ((f_pageOut aH aM aPage).1) q25 := c81
       replace S := S.cast (σ' := ⟨[(1, .v (I aM)), (2, .v (I aPage)), (3, .p 0 0), (8, .p 1 0), (9, .v (B ((f_pageOut aH aM aPage).2))), (11, .p 3 0), (71, .v (I 1)), (72, .v (I k79))], [GT.cells aH paH, GT.cells ((f_pageOut aH aM aPage).1) q9, GT.cells y61 q60, GT.cells y78 q77]⟩) (by rw [hw0])
       clear hw0
       refine S.qe 1 [] [(14, .v (I k79))] ?_; clear S; intro ac w β S
       refine (nt (ws (rg ?_)))
       refine S.qe 1 [] [(15, .v (I 1))] ?_; clear S; intro ac w β S
       refine (nt (ws (rg ?_)))
       refine S.qg 4 [] [(15, .v (I (hdT_Host y78 1)))] (.cons (Q_call fun w hw => c_laws_heldHost w y78 q77 (rd_of o80.rn hw) 1) .nil) ?_; clear S; intro ac w β S
       refine (nt (ws (ws (rg ?_))))
       refine S.qe 2 [] [(77, .v (B (decide ((hdT_Host y78 1) < 0))))] ?_; clear S; intro ac w β S
       refine (nt (S.c (decide ((hdT_Host y78 1) < 0)) (fun h86 => ?_) (fun h86 => ?_)))
       ·have g87 := of_decide_eq_true h86
        refine ws (rg ?_)
        refine S.qe 1 [] [(6, .v (B false))] ?_; clear S; intro ac w β S
        exact (nt (wr (rt (S.r [B false] ⟨retB k0_laws_FnExactPageOut, S.chg⟩))))
       ·have g88 := of_decide_eq_false h86
        refine wk (nt (ws (ws (rg ?_))))
        refine S.qe 3 [] [(80, .v (B ((hdT_Host y78 1) != k79)))] ?_; clear S; intro ac w β S
        refine (nt (S.c ((hdT_Host y78 1) != k79) (fun h89 => ?_) (fun h89 => ?_)))
        ·have g90 : ¬ ((hdT_Host y78 1) = k79) := bne_iff_ne.1 h89
         refine ws (rg ?_)
         refine S.qe 1 [] [(6, .v (B false))] ?_; clear S; intro ac w β S
         exact (nt (wr (rt (S.r [B false] ⟨retB k0_laws_FnExactPageOut, S.chg⟩))))
        ·have g91 : (hdT_Host y78 1) = k79 := ne_f h89
         refine wk (nt (ws (rg ?_)))
         refine S.qa 1 [] [(82, .v (GT.val aH paH))] ?_; clear S; intro ac w β S
         refine RG.op rfl (S.call1 (r := aH) (d := 83) (c_laws_toHost w aH paH (S.rd (S.arg hkaH))) (by kernel_rfl) rfl ?_)
         clear S; intro ac w N q92 F93 S up o94 d95
         have d96 : Disj F11 F93 := fun b x y => d95 b (o13.sub b x) y
         have d97 : Disj F21 F93 := fun b x y => d95 b (o63.sub b x) y
         have d98 : Disj F27 F93 := fun b x y => d95 b (o80.sub b x) y
         replace o13 := o13.up up
         replace o63 := o63.up up
         replace o80 := o80.up up
         clear up d95
         refine S.qa 2 [] [(83, .v (GT.val aH q92)), (84, .v (I aM)), (85, .v (I aPage))] ?_; clear S; intro ac w β S
         refine RG.op rfl (S.call2 (r := (f_pageOut aH aM aPage).1) (r' := (f_pageOut aH aM aPage).2) (d := 86) (c_impl_PageOut w aH q92 (S.rd o94.rn) aM aPage) (by kernel_rfl) rfl ?_)
         clear S; intro ac w N q99 q100 F101 F102 S up o103 o104 d105 d106 d107
         have d108 : Disj F11 F102 := fun b x y => d106 b (o13.sub b x) y
         have d109 : Disj F21 F102 := fun b x y => d106 b (o63.sub b x) y
         have d110 : Disj F27 F102 := fun b x y => d106 b (o80.sub b x) y
         have d111 : Disj F93 F102 := fun b x y => d106 b (o94.sub b x) y
         have d112 : Disj F11 F101 := fun b x y => d105 b (o13.sub b x) y
         have d113 : Disj F21 F101 := fun b x y => d105 b (o63.sub b x) y
         have d114 : Disj F27 F101 := fun b x y => d105 b (o80.sub b x) y
         have d115 : Disj F93 F101 := fun b x y => d105 b (o94.sub b x) y
         replace o13 := o13.up up
         replace o63 := o63.up up
         replace o80 := o80.up up
         replace o94 := o94.up up
         clear up d105
         clear d106
         refine S.qem 6 [] [(16, .p 4 0), (17, .v (B ((f_pageOut aH aM aPage).2)))] 5 [(4, GT.cells ((f_pageOut aH aM aPage).1) q99)] ?_; clear S; intro ac w β S
         refine (nt (ws (ws (rg ?_))))
         refine S.qbm 5 [1, 2, 3, 8, 15, 16, 71, 72, 77, 80, 82, 83, 84, 85] [(93, .v (B (!(decide (((f_pageOut aH aM aPage).1) = ((f_pageOut aH aM aPage).1))))))] (.cons (Q_call fun w hw => c_laws_eqHost w ((f_pageOut aH aM aPage).1) q99 (rd_of o103.rn hw) ((f_pageOut aH aM aPage).1) q9 (rd_of o13.rn hw)) .nil) 4 [] ?_; clear S; intro ac w β S
         rw [h38] at S
         refine S.qe 4 [93] [(97, .v (B (!((f_pageOut aH aM aPage).2 == (f_pageOut aH aM aPage).2))))] ?_; clear S; intro ac w β S
         refine (nt (S.c (!((f_pageOut aH aM aPage).2 == (f_pageOut aH aM aPage).2)) (fun h116 => ?_) (fun h116 => ?_)))
         ·have h117 := not_t h116
          have g118 : ¬ ((f_pageOut aH aM aPage).2 = (f_pageOut aH aM aPage).2) := ne_of_beq_false h117
          refine ws (rg ?_)
          refine S.qe 1 [] [(6, .v (B false))] ?_; clear S; intro ac w β S
          exact (nt (wr (rt (S.r [B false] ⟨retB k0_laws_FnExactPageOut, S.chg⟩))))
         ·have h119 := not_f h116
          have g120 : (f_pageOut aH aM aPage).2 = (f_pageOut aH aM aPage).2 := eq_of_beq h119
          refine wk (nt (ws (rg ?_)))
          refine S.qe 1 [] [(15, .v (I 1))] ?_; clear S; intro ac w β S
          refine (nt (ws (rg ?_)))
          refine S.qgm 4 [] [(15, .v (I (hdT_Host y78 1)))] (.cons (Q_call fun w hw => c_laws_heldHost w y78 q77 (rd_of o80.rn hw) 1) .nil) 0 [] ?_; clear S; intro ac w β S
          refine (nt (ws (ws (rg ?_))))
          refine S.qe 2 [] [(102, .v (B (decide ((hdT_Host y78 1) < 0))))] ?_; clear S; intro ac w β S
          refine (nt (S.c (decide ((hdT_Host y78 1) < 0)) (fun h121 => ?_) (fun h121 => ?_)))
          ·have g122 := of_decide_eq_true h121
           refine ws (rg ?_)
           refine S.qe 1 [] [(6, .v (B false))] ?_; clear S; intro ac w β S
           exact (nt (wr (rt (S.r [B false] ⟨retB k0_laws_FnExactPageOut, S.chg⟩))))
          ·have g123 := of_decide_eq_false h121
           refine wk (nt (ws (ws (rg ?_))))
           refine S.qe 3 [] [(105, .v (B ((hdT_Host y78 1) != k79)))] ?_; clear S; intro ac w β S
           refine (nt (S.c ((hdT_Host y78 1) != k79) (fun h124 => ?_) (fun h124 => ?_)))
           ·have g125 : ¬ ((hdT_Host y78 1) = k79) := bne_iff_ne.1 h124
            refine ws (rg ?_)
            refine S.qe 1 [] [(6, .v (B false))] ?_; clear S; intro ac w β S
            exact (nt (wr (rt (S.r [B false] ⟨retB k0_laws_FnExactPageOut, S.chg⟩))))
           ·have g126 : (hdT_Host y78 1) = k79 := ne_f h124
            refine wk (nt (ws (rg ?_)))
            refine S.qe 1 [] [(6, .v (B true))] ?_; clear S; intro ac w β S
            exact (nt (wr (S.r [B true] ⟨retB k0_laws_FnExactPageOut, S.chg⟩)))

end Go.Proofs.YtklppedmchbdmaaGreat
