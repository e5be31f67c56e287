/- The walks: what each function that the laws reach computes (part 3). -/
import Derived.Test.YtpjhamcanhnfjaaW2
import Derived.Test.YtpjhamcanhnfjaaProg
import Derived.KernelRfl
namespace Go.Proofs.Ytpjhamcanhnfjaa
open Go
set_option linter.unusedVariables false
set_option linter.unusedSimpArgs false

set_option maxRecDepth 100000 in
theorem c_laws_markGuestS (w0 : World) (a : List TGuest) (pa : LP TGuest) (F : Bl) (ha : GT.own KK F w0 a pa) (hF : ∀ b, F b → b < w0.heap.size) (k : Int) (pre0 : 0 ≤ k) (pre1 : k + 16 * (SZ.sz a : Int) ≤ 4611686018427387904) : Calls Try.prog 90 [slv (a).length pa.1, I k].toArray w0 (RetX hdl F w0 pa a k) := by
  refine Calls.walk (args := [slv (a).length pa.1, I k]) F Try.func90 rfl rfl ?_
  intro ac β S
  have oa : Ow w0 F w0 (Lt w0.heap.size) F a pa := ⟨ha, hF, fun b hb => .inr hb⟩
  have hz := sz_list a
  have hlea : a.length ≤ 4194304 := LOwn.le ha
  refine wp_seq (RG.start ?_)
  refine S.q 1 [0, 1] 0 ⟨[(0, .v (slv (a).length pa.1)), (1, .v (I k))], []⟩ .nil ?_; clear S; intro ac w β S
  refine RG.done rfl (nx_then (wp_seq (wp_seq (RG.start ?_))))
  refine S.q 1 [0, 1, 5] 0 ⟨[(0, .v (slv (a).length pa.1)), (1, .v (I k)), (5, .v (I 0))], []⟩ .nil ?_; clear S; intro ac w β S
  refine RG.done rfl (nx_then (wp_block ?_))
  replace S := S.p [0, 1, 5] 0 ⟨[(0, .v (slv (a).length pa.1)), (1, .v (I k)), (5, .v (I 0))], []⟩
  refine wp_loop_down (fun mm ac w => ∃ (i : Nat) (acc : List TGuest) (j : Int) (q1 : GT.Ptr (List TGuest)) (F2 : Bl) (u : World) (N : Bl) (β : Nat → Nat), mm = a.length - i ∧ (i ≤ a.length) ∧ (acc.length = a.length) ∧ (∀ f, hdlc (acc.take i) k f = f j) ∧ (acc.drop i = a.drop i) ∧ (k ≤ j) ∧ (j ≤ k + 16 * ((i : Int) + (szsum (a.take i) : Nat))) ∧ St Try.prog Try.f90.ntmps w0 F u N β ⟨[(0, .v (slv a.length q1.1)), (1, .v (I j)), (5, .v (I (i : Int)))], []⟩ ac w ∧ Ow w0 F u N F2 acc q1 ∧ q1.1 = pa.1 ∧ (∀ b, F2 b → F b)) _ ⟨0, a, k, pa, F, _, _, _, rfl, (by first | omega | (simp; done) | (simp; omega)), (by rfl), (by intro f; rfl), (by rfl), (by first | omega | (simp; done) | (simp; omega)), (by simp [szsum_nil]), S.cast (by kernel_rfl), oa, rfl, (fun _ h => h)⟩ ?_
  clear S oa
  rintro mm ac w ⟨i, acc, j, q1, F2, u, N, β, rfl, hi, hl, hM, hD, hj0, hj1, S, o3, hq, hs⟩
  have hel := el_of_drop hD
  have hsl := szsum_take_le a i
  refine wp_seq (wp_seq (RG.start ?_))
  refine S.q 4 [0, 1, 5, 9] 0 ⟨[(0, .v (slv a.length q1.1)), (1, .v (I j)), (5, .v (I (i : Int))), (9, .v (B (decide ((i : Int) < (a.length : Int)))))], []⟩ .nil ?_; clear S; intro ac w β S
  refine RG.done rfl (nx_then ?_)
  refine S.c (decide ((i : Int) < (a.length : Int))) (fun h4 => ?_) (fun h4 => ?_)
  · have g5 : (i : Int) < (a.length : Int) := of_decide_eq_true h4
    refine wp_skip (nx_then (wp_seq (wp_block (wp_seq (RG.start ?_)))))
    refine S.q 6 [0, 5, 16, 17] 0 ⟨[(0, .v (slv a.length q1.1)), (5, .v (I (i : Int))), (16, .v (slv ((el acc i).prog).length ((q1.2 i).prog).1)), (17, .v (I j))], []⟩ (.cons (Q_idx o3.rn (l := a.length) (k := i) (i := (i : Int)) (by omega) rfl (by omega) Try.underlying39 (by kernel_rfl)) (.cons (Q_cell o3.rn (t := 28) (k := i) (j := 0) (v := slv ((el acc i).prog).length ((q1.2 i).prog).1) (by omega) (by kernel_rfl) (by kernel_rfl)) .nil)) ?_; clear S; intro ac w β S
    obtain ⟨F6, o7, s8, b9⟩ := foc_Guest_prog o3 (k := i) (show i < (acc).length by omega)
    have z10 := szsum_take (xs := a) (k := i) (by omega)
    have z11 := szsum_take_le a (i + 1)
    have z12 := sz_Guest (el a i)
    have e13 : (el acc i).prog = (el a i).prog := by simp only [hel]
    refine RG.op rfl (S.callX (hd := hdl) (d := 18) o7 (c_laws_markInsS w ((el acc i).prog) ((q1.2 i).prog) F6 (S.ownw o7) (fun b hb => (S.sep b (o7.sub b hb)).1) j (by omega) (by rw [e13]; omega)) (by kernel_rfl) rfl ?_)
    clear S; intro ac w N q14 y15 k16 S up o17 c18 x19 b20 b21
    rw [e13] at b21
    obtain ⟨p22, o23⟩ := b9 _ _ _ _ up o17 c18
    clear up o3 o7 s8 b9 o17 c18
    obtain ⟨a24, e25⟩ : ∃ z, z = (acc).set i ({ el acc i with prog := y15 }) := ⟨_, rfl⟩
    rw [← e25] at o23
    have l26 : a24.length = (acc).length := by rw [e25]; exact List.length_set
    have e27 : el a24 i = { el acc i with prog := y15 } := by rw [e25]; exact el_set_self (show i < (acc).length by omega)
    have t28 : a24.take i = (acc).take i := by rw [e25]; exact take_set_self
    have d29 : a24.drop (i + 1) = (acc).drop (i + 1) := by rw [e25]; exact drop_set_self
    clear e25
    refine S.q 1 [0, 1, 5] 0 ⟨[(0, .v (slv a.length q1.1)), (1, .v (I k16)), (5, .v (I (i : Int)))], []⟩ .nil ?_; clear S; intro ac w β S
    refine RG.done rfl (nx_then (wp_seq (RG.start ?_)))
    refine S.q 5 [0, 1, 5, 21, 23] 0 ⟨[(0, .v (slv a.length q1.1)), (1, .v (I k16)), (5, .v (I (i : Int))), (21, .v (I k16)), (23, .v (pt q1.1.b (q1.1.off + i * 15 + 1)))], []⟩ (.cons (Q_idx o23.rn (l := a.length) (k := i) (i := (i : Int)) (by omega) rfl (by omega) Try.underlying39 (by kernel_rfl)) .nil) ?_; clear S; intro ac w β S
    refine RG.op rfl (S.setEl (α := TGuest) o23 (t := 3) (v := I k16) (k := i) (j := 1) (off := q1.1.off + i * 15 + 1) (y := ({ el a24 i with acc := k16 } : TGuest)) (q := ((q1.1, p22).2 i)) (Fy := NoB) (by kernel_rfl) (by kernel_rfl) (by omega) (by kernel_rfl) (by kernel_rfl) (Nat.le_of_ble_eq_true (by kernel_rfl)) (by kernel_rfl) (fun G g _ => ⟨G, ows_Guest_acc g (⟨by omega, by omega⟩), fun _ h => .inl h⟩) (fun b _ h => False.elim h) (fun b h => False.elim h) (fun b h => False.elim h) ?_)
    clear S; intro w N F31 q32 S up o30 d33 s34 n35
    have s36 : ∀ b, F31 b → F b := fun b h => (s34 b h).elim (hs b) (fun h => False.elim h)
    clear up d33 o23 n35
    obtain ⟨a37, e38⟩ : ∃ z, z = (a24).set i ({ el a24 i with acc := k16 }) := ⟨_, rfl⟩
    rw [← e38] at o30
    have l39 : a37.length = (a24).length := by rw [e38]; exact List.length_set
    have e40 : el a37 i = { el a24 i with acc := k16 } := by rw [e38]; exact el_set_self (show i < (a24).length by omega)
    have t41 : a37.take i = (a24).take i := by rw [e38]; exact take_set_self
    have d42 : a37.drop (i + 1) = (a24).drop (i + 1) := by rw [e38]; exact drop_set_self
    clear e38
    replace S := S.p [0, 1, 5] 0 ⟨[(0, .v (slv a.length q1.1)), (1, .v (I k16)), (5, .v (I (i : Int)))], []⟩
    refine RG.done rfl (nx_then (wp_seq (RG.start ?_)))
    refine S.q 3 [0, 1, 5] 0 ⟨[(0, .v (slv a.length q1.1)), (1, .v (I (k16 + 1))), (5, .v (I (i : Int)))], []⟩ (.cons (Q_add (x := k16) (y := 1) ⟨by omega, by omega⟩) .nil) ?_; clear S; intro ac w β S
    refine RG.done rfl (nx_then (wp_seq (RG.start ?_)))
    refine S.q 5 [0, 1, 5, 28, 30] 0 ⟨[(0, .v (slv a.length q1.1)), (1, .v (I (k16 + 1))), (5, .v (I (i : Int))), (28, .v (I (k16 + 1))), (30, .v (pt q1.1.b (q1.1.off + i * 15 + 2)))], []⟩ (.cons (Q_idx o30.rn (l := a.length) (k := i) (i := (i : Int)) (by omega) rfl (by omega) Try.underlying39 (by kernel_rfl)) .nil) ?_; clear S; intro ac w β S
    refine RG.op rfl (S.setEl (α := TGuest) o30 (t := 3) (v := I (k16 + 1)) (k := i) (j := 2) (off := q1.1.off + i * 15 + 2) (y := ({ el a37 i with pc := (k16 + 1) } : TGuest)) (q := ((q1.1, q32).2 i)) (Fy := NoB) (by kernel_rfl) (by kernel_rfl) (by omega) (by kernel_rfl) (by kernel_rfl) (Nat.le_of_ble_eq_true (by kernel_rfl)) (by kernel_rfl) (fun G g _ => ⟨G, ows_Guest_pc g (⟨by omega, by omega⟩), fun _ h => .inl h⟩) (fun b _ h => False.elim h) (fun b h => False.elim h) (fun b h => False.elim h) ?_)
    clear S; intro w N F44 q45 S up o43 d46 s47 n48
    have s49 : ∀ b, F44 b → F b := fun b h => (s47 b h).elim (s36 b) (fun h => False.elim h)
    clear up d46 o30 n48
    obtain ⟨a50, e51⟩ : ∃ z, z = (a37).set i ({ el a37 i with pc := (k16 + 1) }) := ⟨_, rfl⟩
    rw [← e51] at o43
    have l52 : a50.length = (a37).length := by rw [e51]; exact List.length_set
    have e53 : el a50 i = { el a37 i with pc := (k16 + 1) } := by rw [e51]; exact el_set_self (show i < (a37).length by omega)
    have t54 : a50.take i = (a37).take i := by rw [e51]; exact take_set_self
    have d55 : a50.drop (i + 1) = (a37).drop (i + 1) := by rw [e51]; exact drop_set_self
    clear e51
    replace S := S.p [0, 1, 5] 0 ⟨[(0, .v (slv a.length q1.1)), (1, .v (I (k16 + 1))), (5, .v (I (i : Int)))], []⟩
    refine RG.done rfl (nx_then (wp_seq (RG.start ?_)))
    refine S.q 3 [0, 1, 5] 0 ⟨[(0, .v (slv a.length q1.1)), (1, .v (I ((k16 + 1) + 1))), (5, .v (I (i : Int)))], []⟩ (.cons (Q_add (x := (k16 + 1)) (y := 1) ⟨by omega, by omega⟩) .nil) ?_; clear S; intro ac w β S
    refine RG.done rfl (nx_then (wp_seq (RG.start ?_)))
    refine S.q 6 [0, 5, 37, 38] 0 ⟨[(0, .v (slv a.length q1.1)), (5, .v (I (i : Int))), (37, .v (slv ((el a50 i).written).length (((q1.1, q45).2 i).written).1)), (38, .v (I ((k16 + 1) + 1)))], []⟩ (.cons (Q_idx o43.rn (l := a.length) (k := i) (i := (i : Int)) (by omega) rfl (by omega) Try.underlying39 (by kernel_rfl)) (.cons (Q_cell o43.rn (t := 37) (k := i) (j := 3) (v := slv ((el a50 i).written).length (((q1.1, q45).2 i).written).1) (by omega) (by kernel_rfl) (by kernel_rfl)) .nil)) ?_; clear S; intro ac w β S
    obtain ⟨F56, o57, s58, b59⟩ := foc_Guest_written o43 (k := i) (show i < (a50).length by omega)
    have z60 := szsum_take (xs := a) (k := i) (by omega)
    have z61 := szsum_take_le a (i + 1)
    have z62 := sz_Guest (el a i)
    have e63 : (el a50 i).written = (el a i).written := by simp only [e53, e40, e27, hel]
    refine RG.op rfl (S.callX (hd := hdl) (d := 39) o57 (c_laws_markSlotS w ((el a50 i).written) (((q1.1, q45).2 i).written) F56 (S.ownw o57) (fun b hb => (S.sep b (o57.sub b hb)).1) ((k16 + 1) + 1) (by omega) (by rw [e63]; omega)) (by kernel_rfl) rfl ?_)
    clear S; intro ac w N q64 y65 k66 S up o67 c68 x69 b70 b71
    rw [e63] at b71
    obtain ⟨p72, o73⟩ := b59 _ _ _ _ up o67 c68
    clear up o43 o57 s58 b59 o67 c68
    obtain ⟨a74, e75⟩ : ∃ z, z = (a50).set i ({ el a50 i with written := y65 }) := ⟨_, rfl⟩
    rw [← e75] at o73
    have l76 : a74.length = (a50).length := by rw [e75]; exact List.length_set
    have e77 : el a74 i = { el a50 i with written := y65 } := by rw [e75]; exact el_set_self (show i < (a50).length by omega)
    have t78 : a74.take i = (a50).take i := by rw [e75]; exact take_set_self
    have d79 : a74.drop (i + 1) = (a50).drop (i + 1) := by rw [e75]; exact drop_set_self
    clear e75
    refine S.q 1 [0, 1, 5] 0 ⟨[(0, .v (slv a.length q1.1)), (1, .v (I k66)), (5, .v (I (i : Int)))], []⟩ .nil ?_; clear S; intro ac w β S
    refine RG.done rfl (nx_then (wp_seq (RG.start ?_)))
    refine S.q 6 [0, 5, 44, 45] 0 ⟨[(0, .v (slv a.length q1.1)), (5, .v (I (i : Int))), (44, .v (slv ((el a74 i).live).length (((q1.1, p72).2 i).live).1)), (45, .v (I k66))], []⟩ (.cons (Q_idx o73.rn (l := a.length) (k := i) (i := (i : Int)) (by omega) rfl (by omega) Try.underlying39 (by kernel_rfl)) (.cons (Q_cell o73.rn (t := 37) (k := i) (j := 4) (v := slv ((el a74 i).live).length (((q1.1, p72).2 i).live).1) (by omega) (by kernel_rfl) (by kernel_rfl)) .nil)) ?_; clear S; intro ac w β S
    obtain ⟨F80, o81, s82, b83⟩ := foc_Guest_live o73 (k := i) (show i < (a74).length by omega)
    have z84 := szsum_take (xs := a) (k := i) (by omega)
    have z85 := szsum_take_le a (i + 1)
    have z86 := sz_Guest (el a i)
    have e87 : (el a74 i).live = (el a i).live := by simp only [e77, e53, e40, e27, hel]
    refine RG.op rfl (S.callX (hd := hdl) (d := 46) o81 (c_laws_markSlotS w ((el a74 i).live) (((q1.1, p72).2 i).live) F80 (S.ownw o81) (fun b hb => (S.sep b (o81.sub b hb)).1) k66 (by omega) (by rw [e87]; omega)) (by kernel_rfl) rfl ?_)
    clear S; intro ac w N q88 y89 k90 S up o91 c92 x93 b94 b95
    rw [e87] at b95
    obtain ⟨p96, o97⟩ := b83 _ _ _ _ up o91 c92
    clear up o73 o81 s82 b83 o91 c92
    obtain ⟨a98, e99⟩ : ∃ z, z = (a74).set i ({ el a74 i with live := y89 }) := ⟨_, rfl⟩
    rw [← e99] at o97
    have l100 : a98.length = (a74).length := by rw [e99]; exact List.length_set
    have e101 : el a98 i = { el a74 i with live := y89 } := by rw [e99]; exact el_set_self (show i < (a74).length by omega)
    have t102 : a98.take i = (a74).take i := by rw [e99]; exact take_set_self
    have d103 : a98.drop (i + 1) = (a74).drop (i + 1) := by rw [e99]; exact drop_set_self
    clear e99
    refine S.q 1 [0, 1, 5] 0 ⟨[(0, .v (slv a.length q1.1)), (1, .v (I k90)), (5, .v (I (i : Int)))], []⟩ .nil ?_; clear S; intro ac w β S
    refine RG.done rfl (nx_then (wp_seq (RG.start ?_)))
    refine S.q 6 [0, 1, 5, 49, 52] 0 ⟨[(0, .v (slv a.length q1.1)), (1, .v (I k90)), (5, .v (I (i : Int))), (49, .v (I k90)), (52, .v (pt q1.1.b (q1.1.off + i * 15 + 5)))], []⟩ (.cons (Q_idx o97.rn (l := a.length) (k := i) (i := (i : Int)) (by omega) rfl (by omega) Try.underlying39 (by kernel_rfl)) .nil) ?_; clear S; intro ac w β S
    refine RG.op rfl (S.setEl (α := TGuest) o97 (t := 3) (v := I k90) (k := i) (j := 5) (off := q1.1.off + i * 15 + 5) (y := ({ el a98 i with ctl := (⟨k90, ((el a98 i).ctl).post, ((el a98 i).ctl).opn⟩ : TCtl) } : TGuest)) (q := ((q1.1, p96).2 i)) (Fy := NoB) (by kernel_rfl) (by kernel_rfl) (by omega) (by kernel_rfl) (by kernel_rfl) (Nat.le_of_ble_eq_true (by kernel_rfl)) (by kernel_rfl) (fun G g _ => ⟨G, ows_Guest_ctl g ((show RCtl (⟨k90, ((el a98 i).ctl).post, ((el a98 i).ctl).opn⟩ : TCtl) from ⟨(show In64 k90 from ⟨by omega, by omega⟩), (RCtl.post (d := (el a98 i).ctl) (RGuest.ctl (d := (el a98 i)) (LRd.el o97.rn i (by omega))))⟩)), fun _ h => .inl h⟩) (fun b _ h => False.elim h) (fun b h => False.elim h) (fun b h => False.elim h) ?_)
    clear S; intro w N F105 q106 S up o104 d107 s108 n109
    have s110 : ∀ b, F105 b → F b := fun b h => (s108 b h).elim (s49 b) (fun h => False.elim h)
    clear up d107 o97 n109
    obtain ⟨a111, e112⟩ : ∃ z, z = (a98).set i ({ el a98 i with ctl := (⟨k90, ((el a98 i).ctl).post, ((el a98 i).ctl).opn⟩ : TCtl) }) := ⟨_, rfl⟩
    rw [← e112] at o104
    have l113 : a111.length = (a98).length := by rw [e112]; exact List.length_set
    have e114 : el a111 i = { el a98 i with ctl := (⟨k90, ((el a98 i).ctl).post, ((el a98 i).ctl).opn⟩ : TCtl) } := by rw [e112]; exact el_set_self (show i < (a98).length by omega)
    have t115 : a111.take i = (a98).take i := by rw [e112]; exact take_set_self
    have d116 : a111.drop (i + 1) = (a98).drop (i + 1) := by rw [e112]; exact drop_set_self
    clear e112
    replace S := S.p [0, 1, 5] 0 ⟨[(0, .v (slv a.length q1.1)), (1, .v (I k90)), (5, .v (I (i : Int)))], []⟩
    refine RG.done rfl (nx_then (wp_seq (RG.start ?_)))
    refine S.q 3 [0, 1, 5] 0 ⟨[(0, .v (slv a.length q1.1)), (1, .v (I (k90 + 1))), (5, .v (I (i : Int)))], []⟩ (.cons (Q_add (x := k90) (y := 1) ⟨by omega, by omega⟩) .nil) ?_; clear S; intro ac w β S
    refine RG.done rfl (nx_then (wp_seq (RG.start ?_)))
    refine S.q 6 [0, 1, 5, 57, 60] 0 ⟨[(0, .v (slv a.length q1.1)), (1, .v (I (k90 + 1))), (5, .v (I (i : Int))), (57, .v (I (k90 + 1))), (60, .v (pt q1.1.b (q1.1.off + i * 15 + 6)))], []⟩ (.cons (Q_idx o104.rn (l := a.length) (k := i) (i := (i : Int)) (by omega) rfl (by omega) Try.underlying39 (by kernel_rfl)) .nil) ?_; clear S; intro ac w β S
    refine RG.op rfl (S.setEl (α := TGuest) o104 (t := 3) (v := I (k90 + 1)) (k := i) (j := 6) (off := q1.1.off + i * 15 + 6) (y := ({ el a111 i with ctl := (⟨((el a111 i).ctl).traps, (k90 + 1), ((el a111 i).ctl).opn⟩ : TCtl) } : TGuest)) (q := ((q1.1, q106).2 i)) (Fy := NoB) (by kernel_rfl) (by kernel_rfl) (by omega) (by kernel_rfl) (by kernel_rfl) (Nat.le_of_ble_eq_true (by kernel_rfl)) (by kernel_rfl) (fun G g _ => ⟨G, ows_Guest_ctl g ((show RCtl (⟨((el a111 i).ctl).traps, (k90 + 1), ((el a111 i).ctl).opn⟩ : TCtl) from ⟨(RCtl.traps (d := (el a111 i).ctl) (RGuest.ctl (d := (el a111 i)) (LRd.el o104.rn i (by omega)))), (show In64 (k90 + 1) from ⟨by omega, by omega⟩)⟩)), fun _ h => .inl h⟩) (fun b _ h => False.elim h) (fun b h => False.elim h) (fun b h => False.elim h) ?_)
    clear S; intro w N F118 q119 S up o117 d120 s121 n122
    have s123 : ∀ b, F118 b → F b := fun b h => (s121 b h).elim (s110 b) (fun h => False.elim h)
    clear up d120 o104 n122
    obtain ⟨a124, e125⟩ : ∃ z, z = (a111).set i ({ el a111 i with ctl := (⟨((el a111 i).ctl).traps, (k90 + 1), ((el a111 i).ctl).opn⟩ : TCtl) }) := ⟨_, rfl⟩
    rw [← e125] at o117
    have l126 : a124.length = (a111).length := by rw [e125]; exact List.length_set
    have e127 : el a124 i = { el a111 i with ctl := (⟨((el a111 i).ctl).traps, (k90 + 1), ((el a111 i).ctl).opn⟩ : TCtl) } := by rw [e125]; exact el_set_self (show i < (a111).length by omega)
    have t128 : a124.take i = (a111).take i := by rw [e125]; exact take_set_self
    have d129 : a124.drop (i + 1) = (a111).drop (i + 1) := by rw [e125]; exact drop_set_self
    clear e125
    replace S := S.p [0, 1, 5] 0 ⟨[(0, .v (slv a.length q1.1)), (1, .v (I (k90 + 1))), (5, .v (I (i : Int)))], []⟩
    refine RG.done rfl (nx_then (wp_seq (RG.start ?_)))
    refine S.q 3 [0, 1, 5] 0 ⟨[(0, .v (slv a.length q1.1)), (1, .v (I ((k90 + 1) + 1))), (5, .v (I (i : Int)))], []⟩ (.cons (Q_add (x := (k90 + 1)) (y := 1) ⟨by omega, by omega⟩) .nil) ?_; clear S; intro ac w β S
    refine RG.done rfl (nx_then (wp_seq (RG.start ?_)))
    refine S.q 8 [0, 1, 5, 67, 70] 0 ⟨[(0, .v (slv a.length q1.1)), (1, .v (I ((k90 + 1) + 1))), (5, .v (I (i : Int))), (67, .v (B ((Int.tmod ((k90 + 1) + 1) 3) == 0))), (70, .v (pt q1.1.b (q1.1.off + i * 15 + 7)))], []⟩ (.cons (Q_rem (x := ((k90 + 1) + 1)) (y := 3) (by decide)) (.cons (Q_idx o117.rn (l := a.length) (k := i) (i := (i : Int)) (by omega) rfl (by omega) Try.underlying39 (by kernel_rfl)) .nil)) ?_; clear S; intro ac w β S
    refine RG.op rfl (S.setEl (α := TGuest) o117 (t := 4) (v := B ((Int.tmod ((k90 + 1) + 1) 3) == 0)) (k := i) (j := 7) (off := q1.1.off + i * 15 + 7) (y := ({ el a124 i with ctl := (⟨((el a124 i).ctl).traps, ((el a124 i).ctl).post, ((Int.tmod ((k90 + 1) + 1) 3) == 0)⟩ : TCtl) } : TGuest)) (q := ((q1.1, q119).2 i)) (Fy := NoB) (by kernel_rfl) (by kernel_rfl) (by omega) (by kernel_rfl) (by kernel_rfl) (Nat.le_of_ble_eq_true (by kernel_rfl)) (by kernel_rfl) (fun G g _ => ⟨G, ows_Guest_ctl g ((show RCtl (⟨((el a124 i).ctl).traps, ((el a124 i).ctl).post, ((Int.tmod ((k90 + 1) + 1) 3) == 0)⟩ : TCtl) from ⟨(RCtl.traps (d := (el a124 i).ctl) (RGuest.ctl (d := (el a124 i)) (LRd.el o117.rn i (by omega)))), (RCtl.post (d := (el a124 i).ctl) (RGuest.ctl (d := (el a124 i)) (LRd.el o117.rn i (by omega))))⟩)), fun _ h => .inl h⟩) (fun b _ h => False.elim h) (fun b h => False.elim h) (fun b h => False.elim h) ?_)
    clear S; intro w N F131 q132 S up o130 d133 s134 n135
    have s136 : ∀ b, F131 b → F b := fun b h => (s134 b h).elim (s123 b) (fun h => False.elim h)
    clear up d133 o117 n135
    obtain ⟨a137, e138⟩ : ∃ z, z = (a124).set i ({ el a124 i with ctl := (⟨((el a124 i).ctl).traps, ((el a124 i).ctl).post, ((Int.tmod ((k90 + 1) + 1) 3) == 0)⟩ : TCtl) }) := ⟨_, rfl⟩
    rw [← e138] at o130
    have l139 : a137.length = (a124).length := by rw [e138]; exact List.length_set
    have e140 : el a137 i = { el a124 i with ctl := (⟨((el a124 i).ctl).traps, ((el a124 i).ctl).post, ((Int.tmod ((k90 + 1) + 1) 3) == 0)⟩ : TCtl) } := by rw [e138]; exact el_set_self (show i < (a124).length by omega)
    have t141 : a137.take i = (a124).take i := by rw [e138]; exact take_set_self
    have d142 : a137.drop (i + 1) = (a124).drop (i + 1) := by rw [e138]; exact drop_set_self
    clear e138
    replace S := S.p [0, 1, 5] 0 ⟨[(0, .v (slv a.length q1.1)), (1, .v (I ((k90 + 1) + 1))), (5, .v (I (i : Int)))], []⟩
    refine RG.done rfl (nx_then (wp_seq (RG.start ?_)))
    refine S.q 3 [0, 1, 5] 0 ⟨[(0, .v (slv a.length q1.1)), (1, .v (I (((k90 + 1) + 1) + 1))), (5, .v (I (i : Int)))], []⟩ (.cons (Q_add (x := ((k90 + 1) + 1)) (y := 1) ⟨by omega, by omega⟩) .nil) ?_; clear S; intro ac w β S
    refine RG.done rfl (nx_then (wp_seq (RG.start ?_)))
    refine S.q 5 [0, 1, 5, 75, 77] 0 ⟨[(0, .v (slv a.length q1.1)), (1, .v (I (((k90 + 1) + 1) + 1))), (5, .v (I (i : Int))), (75, .v (I (((k90 + 1) + 1) + 1))), (77, .v (pt q1.1.b (q1.1.off + i * 15 + 8)))], []⟩ (.cons (Q_idx o130.rn (l := a.length) (k := i) (i := (i : Int)) (by omega) rfl (by omega) Try.underlying39 (by kernel_rfl)) .nil) ?_; clear S; intro ac w β S
    refine RG.op rfl (S.setEl (α := TGuest) o130 (t := 3) (v := I (((k90 + 1) + 1) + 1)) (k := i) (j := 8) (off := q1.1.off + i * 15 + 8) (y := ({ el a137 i with pend := (((k90 + 1) + 1) + 1) } : TGuest)) (q := ((q1.1, q132).2 i)) (Fy := NoB) (by kernel_rfl) (by kernel_rfl) (by omega) (by kernel_rfl) (by kernel_rfl) (Nat.le_of_ble_eq_true (by kernel_rfl)) (by kernel_rfl) (fun G g _ => ⟨G, ows_Guest_pend g (⟨by omega, by omega⟩), fun _ h => .inl h⟩) (fun b _ h => False.elim h) (fun b h => False.elim h) (fun b h => False.elim h) ?_)
    clear S; intro w N F144 q145 S up o143 d146 s147 n148
    have s149 : ∀ b, F144 b → F b := fun b h => (s147 b h).elim (s136 b) (fun h => False.elim h)
    clear up d146 o130 n148
    obtain ⟨a150, e151⟩ : ∃ z, z = (a137).set i ({ el a137 i with pend := (((k90 + 1) + 1) + 1) }) := ⟨_, rfl⟩
    rw [← e151] at o143
    have l152 : a150.length = (a137).length := by rw [e151]; exact List.length_set
    have e153 : el a150 i = { el a137 i with pend := (((k90 + 1) + 1) + 1) } := by rw [e151]; exact el_set_self (show i < (a137).length by omega)
    have t154 : a150.take i = (a137).take i := by rw [e151]; exact take_set_self
    have d155 : a150.drop (i + 1) = (a137).drop (i + 1) := by rw [e151]; exact drop_set_self
    clear e151
    replace S := S.p [0, 1, 5] 0 ⟨[(0, .v (slv a.length q1.1)), (1, .v (I (((k90 + 1) + 1) + 1))), (5, .v (I (i : Int)))], []⟩
    refine RG.done rfl (nx_then (wp_seq (RG.start ?_)))
    refine S.q 3 [0, 1, 5] 0 ⟨[(0, .v (slv a.length q1.1)), (1, .v (I ((((k90 + 1) + 1) + 1) + 1))), (5, .v (I (i : Int)))], []⟩ (.cons (Q_add (x := (((k90 + 1) + 1) + 1)) (y := 1) ⟨by omega, by omega⟩) .nil) ?_; clear S; intro ac w β S
    refine RG.done rfl (nx_then (wp_seq (RG.start ?_)))
    refine S.q 6 [0, 1, 5, 82, 85] 0 ⟨[(0, .v (slv a.length q1.1)), (1, .v (I ((((k90 + 1) + 1) + 1) + 1))), (5, .v (I (i : Int))), (82, .v (I ((((k90 + 1) + 1) + 1) + 1))), (85, .v (pt q1.1.b (q1.1.off + i * 15 + 9)))], []⟩ (.cons (Q_idx o143.rn (l := a.length) (k := i) (i := (i : Int)) (by omega) rfl (by omega) Try.underlying39 (by kernel_rfl)) .nil) ?_; clear S; intro ac w β S
    refine RG.op rfl (S.setEl (α := TGuest) o143 (t := 3) (v := I ((((k90 + 1) + 1) + 1) + 1)) (k := i) (j := 9) (off := q1.1.off + i * 15 + 9) (y := ({ el a150 i with exit := (⟨((((k90 + 1) + 1) + 1) + 1), ((el a150 i).exit).page, ((el a150 i).exit).wr, ((el a150 i).exit).n⟩ : TExit) } : TGuest)) (q := ((q1.1, q145).2 i)) (Fy := NoB) (by kernel_rfl) (by kernel_rfl) (by omega) (by kernel_rfl) (by kernel_rfl) (Nat.le_of_ble_eq_true (by kernel_rfl)) (by kernel_rfl) (fun G g _ => ⟨G, ows_Guest_exit g ((show RExit (⟨((((k90 + 1) + 1) + 1) + 1), ((el a150 i).exit).page, ((el a150 i).exit).wr, ((el a150 i).exit).n⟩ : TExit) from ⟨(show In64 ((((k90 + 1) + 1) + 1) + 1) from ⟨by omega, by omega⟩), (RExit.page (d := (el a150 i).exit) (RGuest.exit (d := (el a150 i)) (LRd.el o143.rn i (by omega)))), (RExit.n (d := (el a150 i).exit) (RGuest.exit (d := (el a150 i)) (LRd.el o143.rn i (by omega))))⟩)), fun _ h => .inl h⟩) (fun b _ h => False.elim h) (fun b h => False.elim h) (fun b h => False.elim h) ?_)
    clear S; intro w N F157 q158 S up o156 d159 s160 n161
    have s162 : ∀ b, F157 b → F b := fun b h => (s160 b h).elim (s149 b) (fun h => False.elim h)
    clear up d159 o143 n161
    obtain ⟨a163, e164⟩ : ∃ z, z = (a150).set i ({ el a150 i with exit := (⟨((((k90 + 1) + 1) + 1) + 1), ((el a150 i).exit).page, ((el a150 i).exit).wr, ((el a150 i).exit).n⟩ : TExit) }) := ⟨_, rfl⟩
    rw [← e164] at o156
    have l165 : a163.length = (a150).length := by rw [e164]; exact List.length_set
    have e166 : el a163 i = { el a150 i with exit := (⟨((((k90 + 1) + 1) + 1) + 1), ((el a150 i).exit).page, ((el a150 i).exit).wr, ((el a150 i).exit).n⟩ : TExit) } := by rw [e164]; exact el_set_self (show i < (a150).length by omega)
    have t167 : a163.take i = (a150).take i := by rw [e164]; exact take_set_self
    have d168 : a163.drop (i + 1) = (a150).drop (i + 1) := by rw [e164]; exact drop_set_self
    clear e164
    replace S := S.p [0, 1, 5] 0 ⟨[(0, .v (slv a.length q1.1)), (1, .v (I ((((k90 + 1) + 1) + 1) + 1))), (5, .v (I (i : Int)))], []⟩
    refine RG.done rfl (nx_then (wp_seq (RG.start ?_)))
    refine S.q 3 [0, 1, 5] 0 ⟨[(0, .v (slv a.length q1.1)), (1, .v (I (((((k90 + 1) + 1) + 1) + 1) + 1))), (5, .v (I (i : Int)))], []⟩ (.cons (Q_add (x := ((((k90 + 1) + 1) + 1) + 1)) (y := 1) ⟨by omega, by omega⟩) .nil) ?_; clear S; intro ac w β S
    refine RG.done rfl (nx_then (wp_seq (RG.start ?_)))
    refine S.q 6 [0, 1, 5, 90, 93] 0 ⟨[(0, .v (slv a.length q1.1)), (1, .v (I (((((k90 + 1) + 1) + 1) + 1) + 1))), (5, .v (I (i : Int))), (90, .v (I (((((k90 + 1) + 1) + 1) + 1) + 1))), (93, .v (pt q1.1.b (q1.1.off + i * 15 + 10)))], []⟩ (.cons (Q_idx o156.rn (l := a.length) (k := i) (i := (i : Int)) (by omega) rfl (by omega) Try.underlying39 (by kernel_rfl)) .nil) ?_; clear S; intro ac w β S
    refine RG.op rfl (S.setEl (α := TGuest) o156 (t := 3) (v := I (((((k90 + 1) + 1) + 1) + 1) + 1)) (k := i) (j := 10) (off := q1.1.off + i * 15 + 10) (y := ({ el a163 i with exit := (⟨((el a163 i).exit).kind, (((((k90 + 1) + 1) + 1) + 1) + 1), ((el a163 i).exit).wr, ((el a163 i).exit).n⟩ : TExit) } : TGuest)) (q := ((q1.1, q158).2 i)) (Fy := NoB) (by kernel_rfl) (by kernel_rfl) (by omega) (by kernel_rfl) (by kernel_rfl) (Nat.le_of_ble_eq_true (by kernel_rfl)) (by kernel_rfl) (fun G g _ => ⟨G, ows_Guest_exit g ((show RExit (⟨((el a163 i).exit).kind, (((((k90 + 1) + 1) + 1) + 1) + 1), ((el a163 i).exit).wr, ((el a163 i).exit).n⟩ : TExit) from ⟨(RExit.kind (d := (el a163 i).exit) (RGuest.exit (d := (el a163 i)) (LRd.el o156.rn i (by omega)))), (show In64 (((((k90 + 1) + 1) + 1) + 1) + 1) from ⟨by omega, by omega⟩), (RExit.n (d := (el a163 i).exit) (RGuest.exit (d := (el a163 i)) (LRd.el o156.rn i (by omega))))⟩)), fun _ h => .inl h⟩) (fun b _ h => False.elim h) (fun b h => False.elim h) (fun b h => False.elim h) ?_)
    clear S; intro w N F170 q171 S up o169 d172 s173 n174
    have s175 : ∀ b, F170 b → F b := fun b h => (s173 b h).elim (s162 b) (fun h => False.elim h)
    clear up d172 o156 n174
    obtain ⟨a176, e177⟩ : ∃ z, z = (a163).set i ({ el a163 i with exit := (⟨((el a163 i).exit).kind, (((((k90 + 1) + 1) + 1) + 1) + 1), ((el a163 i).exit).wr, ((el a163 i).exit).n⟩ : TExit) }) := ⟨_, rfl⟩
    rw [← e177] at o169
    have l178 : a176.length = (a163).length := by rw [e177]; exact List.length_set
    have e179 : el a176 i = { el a163 i with exit := (⟨((el a163 i).exit).kind, (((((k90 + 1) + 1) + 1) + 1) + 1), ((el a163 i).exit).wr, ((el a163 i).exit).n⟩ : TExit) } := by rw [e177]; exact el_set_self (show i < (a163).length by omega)
    have t180 : a176.take i = (a163).take i := by rw [e177]; exact take_set_self
    have d181 : a176.drop (i + 1) = (a163).drop (i + 1) := by rw [e177]; exact drop_set_self
    clear e177
    replace S := S.p [0, 1, 5] 0 ⟨[(0, .v (slv a.length q1.1)), (1, .v (I (((((k90 + 1) + 1) + 1) + 1) + 1))), (5, .v (I (i : Int)))], []⟩
    refine RG.done rfl (nx_then (wp_seq (RG.start ?_)))
    refine S.q 3 [0, 1, 5] 0 ⟨[(0, .v (slv a.length q1.1)), (1, .v (I ((((((k90 + 1) + 1) + 1) + 1) + 1) + 1))), (5, .v (I (i : Int)))], []⟩ (.cons (Q_add (x := (((((k90 + 1) + 1) + 1) + 1) + 1)) (y := 1) ⟨by omega, by omega⟩) .nil) ?_; clear S; intro ac w β S
    refine RG.done rfl (nx_then (wp_seq (RG.start ?_)))
    refine S.q 8 [0, 1, 5, 100, 103] 0 ⟨[(0, .v (slv a.length q1.1)), (1, .v (I ((((((k90 + 1) + 1) + 1) + 1) + 1) + 1))), (5, .v (I (i : Int))), (100, .v (B ((Int.tmod ((((((k90 + 1) + 1) + 1) + 1) + 1) + 1) 3) == 0))), (103, .v (pt q1.1.b (q1.1.off + i * 15 + 11)))], []⟩ (.cons (Q_rem (x := ((((((k90 + 1) + 1) + 1) + 1) + 1) + 1)) (y := 3) (by decide)) (.cons (Q_idx o169.rn (l := a.length) (k := i) (i := (i : Int)) (by omega) rfl (by omega) Try.underlying39 (by kernel_rfl)) .nil)) ?_; clear S; intro ac w β S
    refine RG.op rfl (S.setEl (α := TGuest) o169 (t := 4) (v := B ((Int.tmod ((((((k90 + 1) + 1) + 1) + 1) + 1) + 1) 3) == 0)) (k := i) (j := 11) (off := q1.1.off + i * 15 + 11) (y := ({ el a176 i with exit := (⟨((el a176 i).exit).kind, ((el a176 i).exit).page, ((Int.tmod ((((((k90 + 1) + 1) + 1) + 1) + 1) + 1) 3) == 0), ((el a176 i).exit).n⟩ : TExit) } : TGuest)) (q := ((q1.1, q171).2 i)) (Fy := NoB) (by kernel_rfl) (by kernel_rfl) (by omega) (by kernel_rfl) (by kernel_rfl) (Nat.le_of_ble_eq_true (by kernel_rfl)) (by kernel_rfl) (fun G g _ => ⟨G, ows_Guest_exit g ((show RExit (⟨((el a176 i).exit).kind, ((el a176 i).exit).page, ((Int.tmod ((((((k90 + 1) + 1) + 1) + 1) + 1) + 1) 3) == 0), ((el a176 i).exit).n⟩ : TExit) from ⟨(RExit.kind (d := (el a176 i).exit) (RGuest.exit (d := (el a176 i)) (LRd.el o169.rn i (by omega)))), (RExit.page (d := (el a176 i).exit) (RGuest.exit (d := (el a176 i)) (LRd.el o169.rn i (by omega)))), (RExit.n (d := (el a176 i).exit) (RGuest.exit (d := (el a176 i)) (LRd.el o169.rn i (by omega))))⟩)), fun _ h => .inl h⟩) (fun b _ h => False.elim h) (fun b h => False.elim h) (fun b h => False.elim h) ?_)
    clear S; intro w N F183 q184 S up o182 d185 s186 n187
    have s188 : ∀ b, F183 b → F b := fun b h => (s186 b h).elim (s175 b) (fun h => False.elim h)
    clear up d185 o169 n187
    obtain ⟨a189, e190⟩ : ∃ z, z = (a176).set i ({ el a176 i with exit := (⟨((el a176 i).exit).kind, ((el a176 i).exit).page, ((Int.tmod ((((((k90 + 1) + 1) + 1) + 1) + 1) + 1) 3) == 0), ((el a176 i).exit).n⟩ : TExit) }) := ⟨_, rfl⟩
    rw [← e190] at o182
    have l191 : a189.length = (a176).length := by rw [e190]; exact List.length_set
    have e192 : el a189 i = { el a176 i with exit := (⟨((el a176 i).exit).kind, ((el a176 i).exit).page, ((Int.tmod ((((((k90 + 1) + 1) + 1) + 1) + 1) + 1) 3) == 0), ((el a176 i).exit).n⟩ : TExit) } := by rw [e190]; exact el_set_self (show i < (a176).length by omega)
    have t193 : a189.take i = (a176).take i := by rw [e190]; exact take_set_self
    have d194 : a189.drop (i + 1) = (a176).drop (i + 1) := by rw [e190]; exact drop_set_self
    clear e190
    replace S := S.p [0, 1, 5] 0 ⟨[(0, .v (slv a.length q1.1)), (1, .v (I ((((((k90 + 1) + 1) + 1) + 1) + 1) + 1))), (5, .v (I (i : Int)))], []⟩
    refine RG.done rfl (nx_then (wp_seq (RG.start ?_)))
    refine S.q 3 [0, 1, 5] 0 ⟨[(0, .v (slv a.length q1.1)), (1, .v (I (((((((k90 + 1) + 1) + 1) + 1) + 1) + 1) + 1))), (5, .v (I (i : Int)))], []⟩ (.cons (Q_add (x := ((((((k90 + 1) + 1) + 1) + 1) + 1) + 1)) (y := 1) ⟨by omega, by omega⟩) .nil) ?_; clear S; intro ac w β S
    refine RG.done rfl (nx_then (wp_seq (RG.start ?_)))
    refine S.q 6 [0, 1, 5, 108, 111] 0 ⟨[(0, .v (slv a.length q1.1)), (1, .v (I (((((((k90 + 1) + 1) + 1) + 1) + 1) + 1) + 1))), (5, .v (I (i : Int))), (108, .v (I (((((((k90 + 1) + 1) + 1) + 1) + 1) + 1) + 1))), (111, .v (pt q1.1.b (q1.1.off + i * 15 + 12)))], []⟩ (.cons (Q_idx o182.rn (l := a.length) (k := i) (i := (i : Int)) (by omega) rfl (by omega) Try.underlying39 (by kernel_rfl)) .nil) ?_; clear S; intro ac w β S
    refine RG.op rfl (S.setEl (α := TGuest) o182 (t := 3) (v := I (((((((k90 + 1) + 1) + 1) + 1) + 1) + 1) + 1)) (k := i) (j := 12) (off := q1.1.off + i * 15 + 12) (y := ({ el a189 i with exit := (⟨((el a189 i).exit).kind, ((el a189 i).exit).page, ((el a189 i).exit).wr, (((((((k90 + 1) + 1) + 1) + 1) + 1) + 1) + 1)⟩ : TExit) } : TGuest)) (q := ((q1.1, q184).2 i)) (Fy := NoB) (by kernel_rfl) (by kernel_rfl) (by omega) (by kernel_rfl) (by kernel_rfl) (Nat.le_of_ble_eq_true (by kernel_rfl)) (by kernel_rfl) (fun G g _ => ⟨G, ows_Guest_exit g ((show RExit (⟨((el a189 i).exit).kind, ((el a189 i).exit).page, ((el a189 i).exit).wr, (((((((k90 + 1) + 1) + 1) + 1) + 1) + 1) + 1)⟩ : TExit) from ⟨(RExit.kind (d := (el a189 i).exit) (RGuest.exit (d := (el a189 i)) (LRd.el o182.rn i (by omega)))), (RExit.page (d := (el a189 i).exit) (RGuest.exit (d := (el a189 i)) (LRd.el o182.rn i (by omega)))), (show In64 (((((((k90 + 1) + 1) + 1) + 1) + 1) + 1) + 1) from ⟨by omega, by omega⟩)⟩)), fun _ h => .inl h⟩) (fun b _ h => False.elim h) (fun b h => False.elim h) (fun b h => False.elim h) ?_)
    clear S; intro w N F196 q197 S up o195 d198 s199 n200
    have s201 : ∀ b, F196 b → F b := fun b h => (s199 b h).elim (s188 b) (fun h => False.elim h)
    clear up d198 o182 n200
    obtain ⟨a202, e203⟩ : ∃ z, z = (a189).set i ({ el a189 i with exit := (⟨((el a189 i).exit).kind, ((el a189 i).exit).page, ((el a189 i).exit).wr, (((((((k90 + 1) + 1) + 1) + 1) + 1) + 1) + 1)⟩ : TExit) }) := ⟨_, rfl⟩
    rw [← e203] at o195
    have l204 : a202.length = (a189).length := by rw [e203]; exact List.length_set
    have e205 : el a202 i = { el a189 i with exit := (⟨((el a189 i).exit).kind, ((el a189 i).exit).page, ((el a189 i).exit).wr, (((((((k90 + 1) + 1) + 1) + 1) + 1) + 1) + 1)⟩ : TExit) } := by rw [e203]; exact el_set_self (show i < (a189).length by omega)
    have t206 : a202.take i = (a189).take i := by rw [e203]; exact take_set_self
    have d207 : a202.drop (i + 1) = (a189).drop (i + 1) := by rw [e203]; exact drop_set_self
    clear e203
    replace S := S.p [0, 1, 5] 0 ⟨[(0, .v (slv a.length q1.1)), (1, .v (I (((((((k90 + 1) + 1) + 1) + 1) + 1) + 1) + 1))), (5, .v (I (i : Int)))], []⟩
    refine RG.done rfl (nx_then (wp_seq (RG.start ?_)))
    refine S.q 3 [0, 1, 5] 0 ⟨[(0, .v (slv a.length q1.1)), (1, .v (I ((((((((k90 + 1) + 1) + 1) + 1) + 1) + 1) + 1) + 1))), (5, .v (I (i : Int)))], []⟩ (.cons (Q_add (x := (((((((k90 + 1) + 1) + 1) + 1) + 1) + 1) + 1)) (y := 1) ⟨by omega, by omega⟩) .nil) ?_; clear S; intro ac w β S
    refine RG.done rfl (nx_then (wp_seq (RG.start ?_)))
    refine S.q 7 [0, 1, 5, 118, 120] 0 ⟨[(0, .v (slv a.length q1.1)), (1, .v (I ((((((((k90 + 1) + 1) + 1) + 1) + 1) + 1) + 1) + 1))), (5, .v (I (i : Int))), (118, .v (B ((Int.tmod ((((((((k90 + 1) + 1) + 1) + 1) + 1) + 1) + 1) + 1) 3) == 0))), (120, .v (pt q1.1.b (q1.1.off + i * 15 + 13)))], []⟩ (.cons (Q_rem (x := ((((((((k90 + 1) + 1) + 1) + 1) + 1) + 1) + 1) + 1)) (y := 3) (by decide)) (.cons (Q_idx o195.rn (l := a.length) (k := i) (i := (i : Int)) (by omega) rfl (by omega) Try.underlying39 (by kernel_rfl)) .nil)) ?_; clear S; intro ac w β S
    refine RG.op rfl (S.setEl (α := TGuest) o195 (t := 4) (v := B ((Int.tmod ((((((((k90 + 1) + 1) + 1) + 1) + 1) + 1) + 1) + 1) 3) == 0)) (k := i) (j := 13) (off := q1.1.off + i * 15 + 13) (y := ({ el a202 i with halted := ((Int.tmod ((((((((k90 + 1) + 1) + 1) + 1) + 1) + 1) + 1) + 1) 3) == 0) } : TGuest)) (q := ((q1.1, q197).2 i)) (Fy := NoB) (by kernel_rfl) (by kernel_rfl) (by omega) (by kernel_rfl) (by kernel_rfl) (Nat.le_of_ble_eq_true (by kernel_rfl)) (by kernel_rfl) (fun G g _ => ⟨G, ows_Guest_halted g, fun _ h => .inl h⟩) (fun b _ h => False.elim h) (fun b h => False.elim h) (fun b h => False.elim h) ?_)
    clear S; intro w N F209 q210 S up o208 d211 s212 n213
    have s214 : ∀ b, F209 b → F b := fun b h => (s212 b h).elim (s201 b) (fun h => False.elim h)
    clear up d211 o195 n213
    obtain ⟨a215, e216⟩ : ∃ z, z = (a202).set i ({ el a202 i with halted := ((Int.tmod ((((((((k90 + 1) + 1) + 1) + 1) + 1) + 1) + 1) + 1) 3) == 0) }) := ⟨_, rfl⟩
    rw [← e216] at o208
    have l217 : a215.length = (a202).length := by rw [e216]; exact List.length_set
    have e218 : el a215 i = { el a202 i with halted := ((Int.tmod ((((((((k90 + 1) + 1) + 1) + 1) + 1) + 1) + 1) + 1) 3) == 0) } := by rw [e216]; exact el_set_self (show i < (a202).length by omega)
    have t219 : a215.take i = (a202).take i := by rw [e216]; exact take_set_self
    have d220 : a215.drop (i + 1) = (a202).drop (i + 1) := by rw [e216]; exact drop_set_self
    clear e216
    replace S := S.p [0, 1, 5] 0 ⟨[(0, .v (slv a.length q1.1)), (1, .v (I ((((((((k90 + 1) + 1) + 1) + 1) + 1) + 1) + 1) + 1))), (5, .v (I (i : Int)))], []⟩
    refine RG.done rfl (nx_then (wp_seq (RG.start ?_)))
    refine S.q 3 [0, 1, 5] 0 ⟨[(0, .v (slv a.length q1.1)), (1, .v (I (((((((((k90 + 1) + 1) + 1) + 1) + 1) + 1) + 1) + 1) + 1))), (5, .v (I (i : Int)))], []⟩ (.cons (Q_add (x := ((((((((k90 + 1) + 1) + 1) + 1) + 1) + 1) + 1) + 1)) (y := 1) ⟨by omega, by omega⟩) .nil) ?_; clear S; intro ac w β S
    refine RG.done rfl (nx_then (RG.start ?_))
    refine S.q 6 [0, 5, 127, 128] 0 ⟨[(0, .v (slv a.length q1.1)), (5, .v (I (i : Int))), (127, .v (slv ((el a215 i).seen).length (((q1.1, q210).2 i).seen).1)), (128, .v (I (((((((((k90 + 1) + 1) + 1) + 1) + 1) + 1) + 1) + 1) + 1)))], []⟩ (.cons (Q_idx o208.rn (l := a.length) (k := i) (i := (i : Int)) (by omega) rfl (by omega) Try.underlying39 (by kernel_rfl)) (.cons (Q_cell o208.rn (t := 24) (k := i) (j := 14) (v := slv ((el a215 i).seen).length (((q1.1, q210).2 i).seen).1) (by omega) (by kernel_rfl) (by kernel_rfl)) .nil)) ?_; clear S; intro ac w β S
    obtain ⟨F221, o222, s223, b224⟩ := foc_Guest_seen o208 (k := i) (show i < (a215).length by omega)
    have z225 := szsum_take (xs := a) (k := i) (by omega)
    have z226 := szsum_take_le a (i + 1)
    have z227 := sz_Guest (el a i)
    have e228 : (el a215 i).seen = (el a i).seen := by simp only [e218, e205, e192, e179, e166, e153, e140, e127, e114, e101, e77, e53, e40, e27, hel]
    refine RG.op rfl (S.callX (hd := hdl) (d := 129) o222 (c_laws_markIntS w ((el a215 i).seen) (((q1.1, q210).2 i).seen) F221 (S.ownw o222) (fun b hb => (S.sep b (o222.sub b hb)).1) (((((((((k90 + 1) + 1) + 1) + 1) + 1) + 1) + 1) + 1) + 1) (by omega) (by rw [e228]; omega)) (by kernel_rfl) rfl ?_)
    clear S; intro ac w N q229 y230 k231 S up o232 c233 x234 b235 b236
    rw [e228] at b236
    obtain ⟨p237, o238⟩ := b224 _ _ _ _ up o232 c233
    clear up o208 o222 s223 b224 o232 c233
    obtain ⟨a239, e240⟩ : ∃ z, z = (a215).set i ({ el a215 i with seen := y230 }) := ⟨_, rfl⟩
    rw [← e240] at o238
    have l241 : a239.length = (a215).length := by rw [e240]; exact List.length_set
    have e242 : el a239 i = { el a215 i with seen := y230 } := by rw [e240]; exact el_set_self (show i < (a215).length by omega)
    have t243 : a239.take i = (a215).take i := by rw [e240]; exact take_set_self
    have d244 : a239.drop (i + 1) = (a215).drop (i + 1) := by rw [e240]; exact drop_set_self
    clear e240
    refine S.q 1 [0, 1, 5] 0 ⟨[(0, .v (slv a.length q1.1)), (1, .v (I k231)), (5, .v (I (i : Int)))], []⟩ .nil ?_; clear S; intro ac w β S
    refine RG.done rfl (nx_block (nx_then (RG.start ?_)))
    refine S.q 3 [0, 1, 5] 0 ⟨[(0, .v (slv a.length q1.1)), (1, .v (I k231)), (5, .v (I ((i : Int) + 1)))], []⟩ (.cons (Q_add (x := (i : Int)) (y := 1) ⟨by omega, by omega⟩) .nil) ?_; clear S; intro ac w β S
    refine RG.done rfl (nx_then ?_)
    replace S := S.p [0, 1, 5] 0 ⟨[(0, .v (slv a.length q1.1)), (1, .v (I k231)), (5, .v (I ((i : Int) + 1)))], []⟩
    refine ⟨a.length - (i + 1), by omega, i + 1, a239, k231, (q1.1, p237), F209, _, _, _, rfl, ?_, ?_, ?_, ?_, ?_, ?_, S.cast (by kernel_rfl), o238, hq, s214⟩
    · clear S; first | omega | (simp [*]; done) | (simp [*]; omega)
    · clear S; omega
    · clear S; refine mk_step (acc := a239) (by omega) (by intro f; rw [t243, t219, t206, t193, t180, t167, t154, t141, t128, t115, t102, t78, t54, t41, t28]; exact hM f) ?_; intro f; simp (disch := first | omega | rfl) only [he_list, he_Guest, e242, e218, e205, e192, e179, e166, e153, e140, e127, e114, e101, e77, e53, e40, e27, x19, x69, x93, x234, hdc_pos, hdi_eq, hdb_eq]
    · clear S; rw [d244, d220, d207, d194, d181, d168, d155, d142, d129, d116, d103, d79, d55, d42, d29]; exact drop_more hD
    · clear S; omega
    · clear S; omega
  · have g245 : ¬ ((i : Int) < (a.length : Int)) := of_decide_eq_false h4
    refine wp_exit (ex_then (ex_then (ex_hit (nx_then (wp_seq (RG.start ?_))))))
    refine S.q 2 [4] 0 ⟨[(4, .v (I j))], []⟩ .nil ?_; clear S; intro ac w β S
    refine RG.done rfl (nx_then (wp_ret ?_))
    refine S.r [I j] ?_
    have hyd : hdl acc k = j := by clear S; exact mk_end (by omega) hM
    have hyb : k ≤ j ∧ j ≤ k + 16 * ((SZ.sz a : Nat) : Int) := by clear S; have hs2 := szsum_take_le a i; constructor <;> omega
    exact retX_of S hyd hyb.1 hyb.2 (by show [slv _ _] = [slv _ _]; rw [hl, hq]) o3 hs

set_option maxRecDepth 100000 in
theorem c_laws_markBare (w0 : World) (a : TBare) (pa : PBare) (F : Bl) (ha : GT.own KK F w0 a pa) (hF : ∀ b, F b → b < w0.heap.size) (k : Int) (pre0 : 0 ≤ k) (pre1 : k + 16 * (SZ.sz a : Int) ≤ 4611686018427387904) : Calls Try.prog 41 [GT.val a pa, I k].toArray w0 (RetX hdT_Bare F w0 pa a k) := by
  refine Calls.walk (args := [GT.val a pa, I k]) F Try.func41 rfl rfl ?_
  intro ac β S
  have oa : Ow w0 F w0 (Lt w0.heap.size) F a pa := ⟨ha, hF, fun b hb => .inr hb⟩
  have i10 : In64 a.pend := RBare.pend (d := a) oa.rn
  obtain ⟨F1, F4, F7, o2, o5, o8, s3, s6, s9, d11, d12, d13⟩ := sp_Bare oa
  have hz := sz_Bare a
  refine wp_seq (RG.start ?_)
  refine S.q 2 [1, 2] 1 ⟨[(1, .v (I k)), (2, .p 0 0)], [[slv (a.mem).length pa.mem.1, slv (a.guests).length pa.guests.1, slv (a.outs).length pa.outs.1, I a.pend]]⟩ .nil ?_; clear S; intro ac w β S
  refine RG.done rfl (nx_then (wp_seq (RG.start ?_)))
  refine S.q 3 [2, 6, 7] 1 ⟨[(2, .p 0 0), (6, .v (slv (a.mem).length pa.mem.1)), (7, .v (I k))], [[slv (a.mem).length pa.mem.1, slv (a.guests).length pa.guests.1, slv (a.outs).length pa.outs.1, I a.pend]]⟩ .nil ?_; clear S; intro ac w β S
  refine RG.op rfl (S.callX (hd := hdl) (d := 8) o2 (c_laws_markIntSS w a.mem pa.mem F1 (S.ownw o2) (fun b hb => (S.sep b (o2.sub b hb)).1) k (by omega) (by omega)) (by kernel_rfl) rfl ?_)
  clear S; intro ac w N q14 y15 k16 S up o17 c18 x19 b20 b21
  replace o5 := o5.upF (Disj.symm d11) up
  replace o8 := o8.upF (Disj.symm d12) up
  clear up
  refine S.q 1 [1, 2] 1 ⟨[(1, .v (I k16)), (2, .p 0 0)], [[slv (a.mem).length pa.mem.1, slv (a.guests).length pa.guests.1, slv (a.outs).length pa.outs.1, I a.pend]]⟩ .nil ?_; clear S; intro ac w β S
  refine RG.done rfl (nx_then (wp_seq (RG.start ?_)))
  refine S.q 3 [2, 10, 11] 1 ⟨[(2, .p 0 0), (10, .v (slv (a.guests).length pa.guests.1)), (11, .v (I k16))], [[slv (a.mem).length pa.mem.1, slv (a.guests).length pa.guests.1, slv (a.outs).length pa.outs.1, I a.pend]]⟩ .nil ?_; clear S; intro ac w β S
  refine RG.op rfl (S.callX (hd := hdl) (d := 12) o5 (c_laws_markGuestS w a.guests pa.guests F4 (S.ownw o5) (fun b hb => (S.sep b (o5.sub b hb)).1) k16 (by omega) (by omega)) (by kernel_rfl) rfl ?_)
  clear S; intro ac w N q22 y23 k24 S up o25 c26 x27 b28 b29
  replace o8 := o8.upF (Disj.symm d13) up
  replace o17 := o17.upF (Disj.symm (Disj.symm d11)) up
  clear up
  refine S.q 1 [1, 2] 1 ⟨[(1, .v (I k24)), (2, .p 0 0)], [[slv (a.mem).length pa.mem.1, slv (a.guests).length pa.guests.1, slv (a.outs).length pa.outs.1, I a.pend]]⟩ .nil ?_; clear S; intro ac w β S
  refine RG.done rfl (nx_then (wp_seq (RG.start ?_)))
  refine S.q 3 [14, 15] 0 ⟨[(14, .v (slv (a.outs).length pa.outs.1)), (15, .v (I k24))], []⟩ .nil ?_; clear S; intro ac w β S
  refine RG.op rfl (S.callX (hd := hdl) (d := 16) o8 (c_laws_markIntS w a.outs pa.outs F7 (S.ownw o8) (fun b hb => (S.sep b (o8.sub b hb)).1) k24 (by omega) (by omega)) (by kernel_rfl) rfl ?_)
  clear S; intro ac w N q30 y31 k32 S up o33 c34 x35 b36 b37
  replace o17 := o17.upF (Disj.symm (Disj.symm d12)) up
  replace o25 := o25.upF (Disj.symm (Disj.symm d13)) up
  clear up
  refine S.q 1 [1] 0 ⟨[(1, .v (I k32))], []⟩ .nil ?_; clear S; intro ac w β S
  refine RG.done rfl (nx_then (wp_seq (RG.start ?_)))
  refine S.q 2 [4] 0 ⟨[(4, .v (I k32))], []⟩ .nil ?_; clear S; intro ac w β S
  refine RG.done rfl (nx_then (wp_ret ?_))
  refine S.r [I k32] ?_
  have o38 := ow_Bare (x := (⟨y15, y23, y31, a.pend⟩ : TBare)) (p := (⟨q14, q22, q30⟩ : PBare)) o17 o25 o33 (Disj.symm (Disj.symm d11)) (Disj.symm (Disj.symm d12)) (Disj.symm (Disj.symm d13)) (i10)
  have hcc := cc_Bare (x := (⟨y15, y23, y31, a.pend⟩ : TBare)) (y := a) (p := (⟨q14, q22, q30⟩ : PBare)) (q := pa) c18 c26 c34 rfl
  have hsz := sz_Bare a
  have hyd : hdT_Bare (⟨y15, y23, y31, a.pend⟩ : TBare) k = k32 := by clear S; simp (disch := omega) only [hdT_Bare, x19, x27, x35, hdc_pos]
  have hyb : k ≤ k32 ∧ k32 ≤ k + 16 * ((SZ.sz a : Nat) : Int) := by clear S; constructor <;> omega
  exact retX_of S hyd hyb.1 hyb.2 hcc o38 (uni_all fun G hG => by simp only [List.mem_cons, List.not_mem_nil, or_false] at hG; rcases hG with rfl | rfl | rfl <;> assumption)

set_option maxRecDepth 100000 in
theorem c_laws_heldIntS (w0 : World) (a : List Int) (pa : LP Int) (ha : GT.rd KK (Lt w0.heap.size) w0 a pa) (k : Int) : Calls Try.prog 94 [slv (a).length pa.1, I k].toArray w0 (fun e w' => e = .returned (I (hdl a k)) ∧ Chg NoB w0 w') := by
  refine Calls.walk (args := [slv (a).length pa.1, I k]) NoB Try.func94 rfl rfl ?_
  intro ac β S
  have hlea : a.length ≤ 4194304 := LRd.le ha
  refine wp_seq (RG.start ?_)
  refine S.q 1 [0, 1] 0 ⟨[(0, .v (slv (a).length pa.1)), (1, .v (I k))], []⟩ .nil ?_; clear S; intro ac w β S
  refine RG.done rfl (nx_then (wp_seq (wp_seq (RG.start ?_))))
  refine S.q 1 [0, 1, 5] 0 ⟨[(0, .v (slv (a).length pa.1)), (1, .v (I k)), (5, .v (I 0))], []⟩ .nil ?_; clear S; intro ac w β S
  refine RG.done rfl (nx_then (wp_block ?_))
  replace S := S.p [0, 1, 5] 0 ⟨[(0, .v (slv (a).length pa.1)), (1, .v (I k)), (5, .v (I 0))], []⟩
  refine wp_loop_down (fun mm ac w => ∃ (i : Nat) (j : Int)  (u : World) (N : Bl) (β : Nat → Nat), mm = a.length - i ∧ (i ≤ a.length) ∧ (hdl a k = hdlc (a.drop i) j id) ∧ St Try.prog Try.f94.ntmps w0 NoB u N β ⟨[(0, .v (slv (a).length pa.1)), (1, .v (I j)), (5, .v (I (i : Int)))], []⟩ ac w) _ ⟨0, k, _, _, _, rfl, (by first | omega | (simp; done) | (simp; omega)), (by rfl), S.cast (by kernel_rfl)⟩ ?_
  clear S
  rintro mm ac w ⟨i, j, u, N, β, rfl, hi, hr, S⟩
  refine wp_seq (wp_seq (RG.start ?_))
  refine S.q 4 [0, 1, 5, 9] 0 ⟨[(0, .v (slv (a).length pa.1)), (1, .v (I j)), (5, .v (I (i : Int))), (9, .v (B (decide ((i : Int) < ((a).length : Int)))))], []⟩ .nil ?_; clear S; intro ac w β S
  refine RG.done rfl (nx_then ?_)
  refine S.c (decide ((i : Int) < ((a).length : Int))) (fun h1 => ?_) (fun h1 => ?_)
  · have g2 : (i : Int) < ((a).length : Int) := of_decide_eq_true h1
    refine wp_skip (nx_then (wp_seq (wp_block (wp_seq (wp_seq (RG.start ?_))))))
    refine S.q 6 [0, 1, 5, 17] 0 ⟨[(0, .v (slv (a).length pa.1)), (1, .v (I j)), (5, .v (I (i : Int))), (17, .v (B ((el a i) != j)))], []⟩ (.cons (Q_idx (S.arg ha) (l := (a).length) (k := i) (i := (i : Int)) rfl rfl (by omega) Try.underlying24 (by kernel_rfl)) (.cons (Q_el1 (S.arg ha) (t := 3) (k := i) (by omega) rfl (by kernel_rfl)) .nil)) ?_; clear S; intro ac w β S
    refine RG.done rfl (nx_then ?_)
    refine S.c ((el a i) != j) (fun h3 => ?_) (fun h3 => ?_)
    · have g4 : ¬ ((el a i) = j) := bne_iff_ne.1 h3
      refine wp_seq (RG.start ?_)
      refine S.q 1 [4] 0 ⟨[(4, .v (I (-1)))], []⟩ .nil ?_; clear S; intro ac w β S
      refine RG.done rfl (nx_then (wp_ret (rt_then (rt_block (rt_then (rt_then (rt_block (rt_then ?_))))))))
      refine S.r [I (-1)] ?_
      exact ⟨retI (by clear S; (first | (rw [hr, hd_end (by omega)]; done) | (rw [hr, hd_step (by omega)]; simp [he_Int, w1, hdi, hdb, hdc, *]; done) | (rw [hr, hd_step (by omega)]; simp_all [he_Int, w1, hdi, hdb, hdc]; done))), S.chg⟩
    · have g5 : (el a i) = j := ne_f h3
      refine wp_skip (nx_then (RG.start ?_))
      refine S.q 3 [0, 1, 5] 0 ⟨[(0, .v (slv (a).length pa.1)), (1, .v (I (w1 j))), (5, .v (I (i : Int)))], []⟩ (.cons (Q_addw (x := j) (y := 1)) .nil) ?_; clear S; intro ac w β S
      refine RG.done rfl (nx_block (nx_then (RG.start ?_)))
      refine S.q 3 [0, 1, 5] 0 ⟨[(0, .v (slv (a).length pa.1)), (1, .v (I (w1 j))), (5, .v (I ((i : Int) + 1)))], []⟩ (.cons (Q_add (x := (i : Int)) (y := 1) ⟨by omega, by omega⟩) .nil) ?_; clear S; intro ac w β S
      refine RG.done rfl (nx_then ?_)
      replace S := S.p [0, 1, 5] 0 ⟨[(0, .v (slv (a).length pa.1)), (1, .v (I (w1 j))), (5, .v (I ((i : Int) + 1)))], []⟩
      refine ⟨a.length - (i + 1), by omega, i + 1, (w1 j), _, _, _, rfl, ?_, ?_, S.cast (by kernel_rfl)⟩
      · clear S; first | omega | (simp [*]; done) | (simp [*]; omega)
      · clear S; (rw [hr, hd_step (by omega)]; simp [he_Int, w1, hdi, hdb, hdc, *])
  · have g6 : ¬ ((i : Int) < ((a).length : Int)) := of_decide_eq_false h1
    refine wp_exit (ex_then (ex_then (ex_hit (nx_then (wp_seq (RG.start ?_))))))
    refine S.q 2 [4] 0 ⟨[(4, .v (I j))], []⟩ .nil ?_; clear S; intro ac w β S
    refine RG.done rfl (nx_then (wp_ret ?_))
    refine S.r [I j] ?_
    exact ⟨retI (by clear S; (first | (rw [hr, hd_end (by omega)]; done) | (rw [hr, hd_step (by omega)]; simp [he_Int, w1, hdi, hdb, hdc, *]; done) | (rw [hr, hd_step (by omega)]; simp_all [he_Int, w1, hdi, hdb, hdc]; done))), S.chg⟩

set_option maxRecDepth 100000 in
theorem c_laws_heldIntSS (w0 : World) (a : List (List Int)) (pa : LP (List Int)) (ha : GT.rd KK (Lt w0.heap.size) w0 a pa) (k : Int) : Calls Try.prog 92 [slv (a).length pa.1, I k].toArray w0 (fun e w' => e = .returned (I (hdl a k)) ∧ Chg NoB w0 w') := by
  refine Calls.walk (args := [slv (a).length pa.1, I k]) NoB Try.func92 rfl rfl ?_
  intro ac β S
  have hlea : a.length ≤ 4194304 := LRd.le ha
  refine wp_seq (RG.start ?_)
  refine S.q 1 [0, 1] 0 ⟨[(0, .v (slv (a).length pa.1)), (1, .v (I k))], []⟩ .nil ?_; clear S; intro ac w β S
  refine RG.done rfl (nx_then (wp_seq (wp_seq (RG.start ?_))))
  refine S.q 1 [0, 1, 5] 0 ⟨[(0, .v (slv (a).length pa.1)), (1, .v (I k)), (5, .v (I 0))], []⟩ .nil ?_; clear S; intro ac w β S
  refine RG.done rfl (nx_then (wp_block ?_))
  replace S := S.p [0, 1, 5] 0 ⟨[(0, .v (slv (a).length pa.1)), (1, .v (I k)), (5, .v (I 0))], []⟩
  refine wp_loop_down (fun mm ac w => ∃ (i : Nat) (j : Int)  (u : World) (N : Bl) (β : Nat → Nat), mm = a.length - i ∧ (i ≤ a.length) ∧ (hdl a k = hdlc (a.drop i) j id) ∧ St Try.prog Try.f92.ntmps w0 NoB u N β ⟨[(0, .v (slv (a).length pa.1)), (1, .v (I j)), (5, .v (I (i : Int)))], []⟩ ac w) _ ⟨0, k, _, _, _, rfl, (by first | omega | (simp; done) | (simp; omega)), (by rfl), S.cast (by kernel_rfl)⟩ ?_
  clear S
  rintro mm ac w ⟨i, j, u, N, β, rfl, hi, hr, S⟩
  refine wp_seq (wp_seq (RG.start ?_))
  refine S.q 4 [0, 1, 5, 9] 0 ⟨[(0, .v (slv (a).length pa.1)), (1, .v (I j)), (5, .v (I (i : Int))), (9, .v (B (decide ((i : Int) < ((a).length : Int)))))], []⟩ .nil ?_; clear S; intro ac w β S
  refine RG.done rfl (nx_then ?_)
  refine S.c (decide ((i : Int) < ((a).length : Int))) (fun h1 => ?_) (fun h1 => ?_)
  · have g2 : (i : Int) < ((a).length : Int) := of_decide_eq_true h1
    refine wp_skip (nx_then (wp_seq (wp_block (wp_seq (RG.start ?_)))))
    refine S.q 7 [0, 1, 5] 0 ⟨[(0, .v (slv (a).length pa.1)), (1, .v (I (hdl (el a i) j))), (5, .v (I (i : Int)))], []⟩ (.cons (Q_idx (S.arg ha) (l := (a).length) (k := i) (i := (i : Int)) rfl rfl (by omega) Try.underlying31 (by kernel_rfl)) (.cons (Q_el1 (S.arg ha) (t := 24) (k := i) (by omega) rfl (by kernel_rfl)) (.cons (Q_call fun w hw => c_laws_heldIntS w (el a i) (pa.2 i) (rd_of (LRd.el (S.arg ha) i (by omega)) hw) j) .nil))) ?_; clear S; intro ac w β S
    refine RG.done rfl (nx_then (wp_seq (RG.start ?_)))
    refine S.q 2 [0, 1, 5, 19] 0 ⟨[(0, .v (slv (a).length pa.1)), (1, .v (I (hdl (el a i) j))), (5, .v (I (i : Int))), (19, .v (B (decide ((hdl (el a i) j) < 0))))], []⟩ .nil ?_; clear S; intro ac w β S
    refine RG.done rfl (nx_then ?_)
    refine S.c (decide ((hdl (el a i) j) < 0)) (fun h3 => ?_) (fun h3 => ?_)
    · have g4 : (hdl (el a i) j) < 0 := of_decide_eq_true h3
      refine wp_seq (RG.start ?_)
      refine S.q 1 [4] 0 ⟨[(4, .v (I (-1)))], []⟩ .nil ?_; clear S; intro ac w β S
      refine RG.done rfl (nx_then (wp_ret (rt_block (rt_then (rt_then (rt_block (rt_then ?_)))))))
      refine S.r [I (-1)] ?_
      exact ⟨retI (by clear S; (first | (rw [hr, hd_end (by omega)]; done) | (rw [hr, hd_step (by omega)]; simp [he_list, w1, hdi, hdb, hdc, *]; done) | (rw [hr, hd_step (by omega)]; simp_all [he_list, w1, hdi, hdb, hdc]; done))), S.chg⟩
    · have g5 : ¬ ((hdl (el a i) j) < 0) := of_decide_eq_false h3
      refine wp_skip (nx_block (nx_then (RG.start ?_)))
      refine S.q 3 [0, 1, 5] 0 ⟨[(0, .v (slv (a).length pa.1)), (1, .v (I (hdl (el a i) j))), (5, .v (I ((i : Int) + 1)))], []⟩ (.cons (Q_add (x := (i : Int)) (y := 1) ⟨by omega, by omega⟩) .nil) ?_; clear S; intro ac w β S
      refine RG.done rfl (nx_then ?_)
      replace S := S.p [0, 1, 5] 0 ⟨[(0, .v (slv (a).length pa.1)), (1, .v (I (hdl (el a i) j))), (5, .v (I ((i : Int) + 1)))], []⟩
      refine ⟨a.length - (i + 1), by omega, i + 1, (hdl (el a i) j), _, _, _, rfl, ?_, ?_, S.cast (by kernel_rfl)⟩
      · clear S; first | omega | (simp [*]; done) | (simp [*]; omega)
      · clear S; (rw [hr, hd_step (by omega)]; simp [he_list, w1, hdi, hdb, hdc, *])
  · have g6 : ¬ ((i : Int) < ((a).length : Int)) := of_decide_eq_false h1
    refine wp_exit (ex_then (ex_then (ex_hit (nx_then (wp_seq (RG.start ?_))))))
    refine S.q 2 [4] 0 ⟨[(4, .v (I j))], []⟩ .nil ?_; clear S; intro ac w β S
    refine RG.done rfl (nx_then (wp_ret ?_))
    refine S.r [I j] ?_
    exact ⟨retI (by clear S; (first | (rw [hr, hd_end (by omega)]; done) | (rw [hr, hd_step (by omega)]; simp [he_list, w1, hdi, hdb, hdc, *]; done) | (rw [hr, hd_step (by omega)]; simp_all [he_list, w1, hdi, hdb, hdc]; done))), S.chg⟩

set_option maxRecDepth 100000 in
theorem c_laws_heldInsS (w0 : World) (a : List TIns) (pa : LP TIns) (ha : GT.rd KK (Lt w0.heap.size) w0 a pa) (k : Int) : Calls Try.prog 129 [slv (a).length pa.1, I k].toArray w0 (fun e w' => e = .returned (I (hdl a k)) ∧ Chg NoB w0 w') := by
  refine Calls.walk (args := [slv (a).length pa.1, I k]) NoB Try.func129 rfl rfl ?_
  intro ac β S
  have hlea : a.length ≤ 4194304 := LRd.le ha
  refine wp_seq (RG.start ?_)
  refine S.q 1 [0, 1] 0 ⟨[(0, .v (slv (a).length pa.1)), (1, .v (I k))], []⟩ .nil ?_; clear S; intro ac w β S
  refine RG.done rfl (nx_then (wp_seq (wp_seq (RG.start ?_))))
  refine S.q 1 [0, 1, 5] 0 ⟨[(0, .v (slv (a).length pa.1)), (1, .v (I k)), (5, .v (I 0))], []⟩ .nil ?_; clear S; intro ac w β S
  refine RG.done rfl (nx_then (wp_block ?_))
  replace S := S.p [0, 1, 5] 0 ⟨[(0, .v (slv (a).length pa.1)), (1, .v (I k)), (5, .v (I 0))], []⟩
  refine wp_loop_down (fun mm ac w => ∃ (i : Nat) (j : Int)  (u : World) (N : Bl) (β : Nat → Nat), mm = a.length - i ∧ (i ≤ a.length) ∧ (hdl a k = hdlc (a.drop i) j id) ∧ St Try.prog Try.f129.ntmps w0 NoB u N β ⟨[(0, .v (slv (a).length pa.1)), (1, .v (I j)), (5, .v (I (i : Int)))], []⟩ ac w) _ ⟨0, k, _, _, _, rfl, (by first | omega | (simp; done) | (simp; omega)), (by rfl), S.cast (by kernel_rfl)⟩ ?_
  clear S
  rintro mm ac w ⟨i, j, u, N, β, rfl, hi, hr, S⟩
  refine wp_seq (wp_seq (RG.start ?_))
  refine S.q 4 [0, 1, 5, 9] 0 ⟨[(0, .v (slv (a).length pa.1)), (1, .v (I j)), (5, .v (I (i : Int))), (9, .v (B (decide ((i : Int) < ((a).length : Int)))))], []⟩ .nil ?_; clear S; intro ac w β S
  refine RG.done rfl (nx_then ?_)
  refine S.c (decide ((i : Int) < ((a).length : Int))) (fun h1 => ?_) (fun h1 => ?_)
  · have g2 : (i : Int) < ((a).length : Int) := of_decide_eq_true h1
    refine wp_skip (nx_then (wp_seq (wp_block (wp_seq (wp_seq (RG.start ?_))))))
    refine S.q 7 [0, 1, 5, 18] 0 ⟨[(0, .v (slv (a).length pa.1)), (1, .v (I j)), (5, .v (I (i : Int))), (18, .v (B ((el a i).opc != j)))], []⟩ (.cons (Q_idx (S.arg ha) (l := (a).length) (k := i) (i := (i : Int)) rfl rfl (by omega) Try.underlying28 (by kernel_rfl)) (.cons (Q_cell (S.arg ha) (t := 3) (k := i) (j := 0) (v := I ((el a i).opc)) (by omega) (by kernel_rfl) (by kernel_rfl)) .nil)) ?_; clear S; intro ac w β S
    refine RG.done rfl (nx_then ?_)
    refine S.c ((el a i).opc != j) (fun h3 => ?_) (fun h3 => ?_)
    · have g4 : ¬ ((el a i).opc = j) := bne_iff_ne.1 h3
      refine wp_seq (RG.start ?_)
      refine S.q 1 [4] 0 ⟨[(4, .v (I (-1)))], []⟩ .nil ?_; clear S; intro ac w β S
      refine RG.done rfl (nx_then (wp_ret (rt_then (rt_block (rt_then (rt_then (rt_block (rt_then ?_))))))))
      refine S.r [I (-1)] ?_
      exact ⟨retI (by clear S; (first | (rw [hr, hd_end (by omega)]; done) | (rw [hr, hd_step (by omega)]; simp [he_Ins, w1, hdi, hdb, hdc, *]; done) | (rw [hr, hd_step (by omega)]; simp_all [he_Ins, w1, hdi, hdb, hdc]; done))), S.chg⟩
    · have g5 : (el a i).opc = j := ne_f h3
      refine wp_skip (nx_then (wp_seq (RG.start ?_)))
      refine S.q 3 [0, 1, 5] 0 ⟨[(0, .v (slv (a).length pa.1)), (1, .v (I (w1 j))), (5, .v (I (i : Int)))], []⟩ (.cons (Q_addw (x := j) (y := 1)) .nil) ?_; clear S; intro ac w β S
      refine RG.done rfl (nx_then (wp_seq (wp_seq (RG.start ?_))))
      refine S.q 7 [0, 1, 5, 27] 0 ⟨[(0, .v (slv (a).length pa.1)), (1, .v (I (w1 j))), (5, .v (I (i : Int))), (27, .v (B ((el a i).x != (w1 j))))], []⟩ (.cons (Q_idx (S.arg ha) (l := (a).length) (k := i) (i := (i : Int)) rfl rfl (by omega) Try.underlying28 (by kernel_rfl)) (.cons (Q_cell (S.arg ha) (t := 3) (k := i) (j := 1) (v := I ((el a i).x)) (by omega) (by kernel_rfl) (by kernel_rfl)) .nil)) ?_; clear S; intro ac w β S
      refine RG.done rfl (nx_then ?_)
      refine S.c ((el a i).x != (w1 j)) (fun h6 => ?_) (fun h6 => ?_)
      · have g7 : ¬ ((el a i).x = (w1 j)) := bne_iff_ne.1 h6
        refine wp_seq (RG.start ?_)
        refine S.q 1 [4] 0 ⟨[(4, .v (I (-1)))], []⟩ .nil ?_; clear S; intro ac w β S
        refine RG.done rfl (nx_then (wp_ret (rt_then (rt_block (rt_then (rt_then (rt_block (rt_then ?_))))))))
        refine S.r [I (-1)] ?_
        exact ⟨retI (by clear S; (first | (rw [hr, hd_end (by omega)]; done) | (rw [hr, hd_step (by omega)]; simp [he_Ins, w1, hdi, hdb, hdc, *]; done) | (rw [hr, hd_step (by omega)]; simp_all [he_Ins, w1, hdi, hdb, hdc]; done))), S.chg⟩
      · have g8 : (el a i).x = (w1 j) := ne_f h6
        refine wp_skip (nx_then (RG.start ?_))
        refine S.q 3 [0, 1, 5] 0 ⟨[(0, .v (slv (a).length pa.1)), (1, .v (I (w1 (w1 j)))), (5, .v (I (i : Int)))], []⟩ (.cons (Q_addw (x := (w1 j)) (y := 1)) .nil) ?_; clear S; intro ac w β S
        refine RG.done rfl (nx_block (nx_then (RG.start ?_)))
        refine S.q 3 [0, 1, 5] 0 ⟨[(0, .v (slv (a).length pa.1)), (1, .v (I (w1 (w1 j)))), (5, .v (I ((i : Int) + 1)))], []⟩ (.cons (Q_add (x := (i : Int)) (y := 1) ⟨by omega, by omega⟩) .nil) ?_; clear S; intro ac w β S
        refine RG.done rfl (nx_then ?_)
        replace S := S.p [0, 1, 5] 0 ⟨[(0, .v (slv (a).length pa.1)), (1, .v (I (w1 (w1 j)))), (5, .v (I ((i : Int) + 1)))], []⟩
        refine ⟨a.length - (i + 1), by omega, i + 1, (w1 (w1 j)), _, _, _, rfl, ?_, ?_, S.cast (by kernel_rfl)⟩
        · clear S; first | omega | (simp [*]; done) | (simp [*]; omega)
        · clear S; (rw [hr, hd_step (by omega)]; simp [he_Ins, w1, hdi, hdb, hdc, *])
  · have g9 : ¬ ((i : Int) < ((a).length : Int)) := of_decide_eq_false h1
    refine wp_exit (ex_then (ex_then (ex_hit (nx_then (wp_seq (RG.start ?_))))))
    refine S.q 2 [4] 0 ⟨[(4, .v (I j))], []⟩ .nil ?_; clear S; intro ac w β S
    refine RG.done rfl (nx_then (wp_ret ?_))
    refine S.r [I j] ?_
    exact ⟨retI (by clear S; (first | (rw [hr, hd_end (by omega)]; done) | (rw [hr, hd_step (by omega)]; simp [he_Ins, w1, hdi, hdb, hdc, *]; done) | (rw [hr, hd_step (by omega)]; simp_all [he_Ins, w1, hdi, hdb, hdc]; done))), S.chg⟩

set_option maxRecDepth 100000 in
theorem c_laws_heldSlotS (w0 : World) (a : List TSlot) (pa : LP TSlot) (ha : GT.rd KK (Lt w0.heap.size) w0 a pa) (k : Int) : Calls Try.prog 130 [slv (a).length pa.1, I k].toArray w0 (fun e w' => e = .returned (I (hdl a k)) ∧ Chg NoB w0 w') := by
  refine Calls.walk (args := [slv (a).length pa.1, I k]) NoB Try.func130 rfl rfl ?_
  intro ac β S
  have hlea : a.length ≤ 4194304 := LRd.le ha
  refine wp_seq (RG.start ?_)
  refine S.q 1 [0, 1] 0 ⟨[(0, .v (slv (a).length pa.1)), (1, .v (I k))], []⟩ .nil ?_; clear S; intro ac w β S
  refine RG.done rfl (nx_then (wp_seq (wp_seq (RG.start ?_))))
  refine S.q 1 [0, 1, 5] 0 ⟨[(0, .v (slv (a).length pa.1)), (1, .v (I k)), (5, .v (I 0))], []⟩ .nil ?_; clear S; intro ac w β S
  refine RG.done rfl (nx_then (wp_block ?_))
  replace S := S.p [0, 1, 5] 0 ⟨[(0, .v (slv (a).length pa.1)), (1, .v (I k)), (5, .v (I 0))], []⟩
  refine wp_loop_down (fun mm ac w => ∃ (i : Nat) (j : Int)  (u : World) (N : Bl) (β : Nat → Nat), mm = a.length - i ∧ (i ≤ a.length) ∧ (hdl a k = hdlc (a.drop i) j id) ∧ St Try.prog Try.f130.ntmps w0 NoB u N β ⟨[(0, .v (slv (a).length pa.1)), (1, .v (I j)), (5, .v (I (i : Int)))], []⟩ ac w) _ ⟨0, k, _, _, _, rfl, (by first | omega | (simp; done) | (simp; omega)), (by rfl), S.cast (by kernel_rfl)⟩ ?_
  clear S
  rintro mm ac w ⟨i, j, u, N, β, rfl, hi, hr, S⟩
  refine wp_seq (wp_seq (RG.start ?_))
  refine S.q 4 [0, 1, 5, 9] 0 ⟨[(0, .v (slv (a).length pa.1)), (1, .v (I j)), (5, .v (I (i : Int))), (9, .v (B (decide ((i : Int) < ((a).length : Int)))))], []⟩ .nil ?_; clear S; intro ac w β S
  refine RG.done rfl (nx_then ?_)
  refine S.c (decide ((i : Int) < ((a).length : Int))) (fun h1 => ?_) (fun h1 => ?_)
  · have g2 : (i : Int) < ((a).length : Int) := of_decide_eq_true h1
    refine wp_skip (nx_then (wp_seq (wp_block (wp_seq (wp_seq (RG.start ?_))))))
    refine S.q 7 [0, 1, 5, 18] 0 ⟨[(0, .v (slv (a).length pa.1)), (1, .v (I j)), (5, .v (I (i : Int))), (18, .v (B ((el a i).page != j)))], []⟩ (.cons (Q_idx (S.arg ha) (l := (a).length) (k := i) (i := (i : Int)) rfl rfl (by omega) Try.underlying37 (by kernel_rfl)) (.cons (Q_cell (S.arg ha) (t := 3) (k := i) (j := 0) (v := I ((el a i).page)) (by omega) (by kernel_rfl) (by kernel_rfl)) .nil)) ?_; clear S; intro ac w β S
    refine RG.done rfl (nx_then ?_)
    refine S.c ((el a i).page != j) (fun h3 => ?_) (fun h3 => ?_)
    · have g4 : ¬ ((el a i).page = j) := bne_iff_ne.1 h3
      refine wp_seq (RG.start ?_)
      refine S.q 1 [4] 0 ⟨[(4, .v (I (-1)))], []⟩ .nil ?_; clear S; intro ac w β S
      refine RG.done rfl (nx_then (wp_ret (rt_then (rt_block (rt_then (rt_then (rt_block (rt_then ?_))))))))
      refine S.r [I (-1)] ?_
      exact ⟨retI (by clear S; (first | (rw [hr, hd_end (by omega)]; done) | (rw [hr, hd_step (by omega)]; simp [he_Slot, w1, hdi, hdb, hdc, *]; done) | (rw [hr, hd_step (by omega)]; simp_all [he_Slot, w1, hdi, hdb, hdc]; done))), S.chg⟩
    · have g5 : (el a i).page = j := ne_f h3
      refine wp_skip (nx_then (wp_seq (RG.start ?_)))
      refine S.q 3 [0, 1, 5] 0 ⟨[(0, .v (slv (a).length pa.1)), (1, .v (I (w1 j))), (5, .v (I (i : Int)))], []⟩ (.cons (Q_addw (x := j) (y := 1)) .nil) ?_; clear S; intro ac w β S
      refine RG.done rfl (nx_then (wp_seq (wp_seq (RG.start ?_))))
      refine S.q 7 [0, 1, 5, 27] 0 ⟨[(0, .v (slv (a).length pa.1)), (1, .v (I (w1 j))), (5, .v (I (i : Int))), (27, .v (B ((el a i).rights != (w1 j))))], []⟩ (.cons (Q_idx (S.arg ha) (l := (a).length) (k := i) (i := (i : Int)) rfl rfl (by omega) Try.underlying37 (by kernel_rfl)) (.cons (Q_cell (S.arg ha) (t := 3) (k := i) (j := 1) (v := I ((el a i).rights)) (by omega) (by kernel_rfl) (by kernel_rfl)) .nil)) ?_; clear S; intro ac w β S
      refine RG.done rfl (nx_then ?_)
      refine S.c ((el a i).rights != (w1 j)) (fun h6 => ?_) (fun h6 => ?_)
      · have g7 : ¬ ((el a i).rights = (w1 j)) := bne_iff_ne.1 h6
        refine wp_seq (RG.start ?_)
        refine S.q 1 [4] 0 ⟨[(4, .v (I (-1)))], []⟩ .nil ?_; clear S; intro ac w β S
        refine RG.done rfl (nx_then (wp_ret (rt_then (rt_block (rt_then (rt_then (rt_block (rt_then ?_))))))))
        refine S.r [I (-1)] ?_
        exact ⟨retI (by clear S; (first | (rw [hr, hd_end (by omega)]; done) | (rw [hr, hd_step (by omega)]; simp [he_Slot, w1, hdi, hdb, hdc, *]; done) | (rw [hr, hd_step (by omega)]; simp_all [he_Slot, w1, hdi, hdb, hdc]; done))), S.chg⟩
      · have g8 : (el a i).rights = (w1 j) := ne_f h6
        refine wp_skip (nx_then (RG.start ?_))
        refine S.q 3 [0, 1, 5] 0 ⟨[(0, .v (slv (a).length pa.1)), (1, .v (I (w1 (w1 j)))), (5, .v (I (i : Int)))], []⟩ (.cons (Q_addw (x := (w1 j)) (y := 1)) .nil) ?_; clear S; intro ac w β S
        refine RG.done rfl (nx_block (nx_then (RG.start ?_)))
        refine S.q 3 [0, 1, 5] 0 ⟨[(0, .v (slv (a).length pa.1)), (1, .v (I (w1 (w1 j)))), (5, .v (I ((i : Int) + 1)))], []⟩ (.cons (Q_add (x := (i : Int)) (y := 1) ⟨by omega, by omega⟩) .nil) ?_; clear S; intro ac w β S
        refine RG.done rfl (nx_then ?_)
        replace S := S.p [0, 1, 5] 0 ⟨[(0, .v (slv (a).length pa.1)), (1, .v (I (w1 (w1 j)))), (5, .v (I ((i : Int) + 1)))], []⟩
        refine ⟨a.length - (i + 1), by omega, i + 1, (w1 (w1 j)), _, _, _, rfl, ?_, ?_, S.cast (by kernel_rfl)⟩
        · clear S; first | omega | (simp [*]; done) | (simp [*]; omega)
        · clear S; (rw [hr, hd_step (by omega)]; simp [he_Slot, w1, hdi, hdb, hdc, *])
  · have g9 : ¬ ((i : Int) < ((a).length : Int)) := of_decide_eq_false h1
    refine wp_exit (ex_then (ex_then (ex_hit (nx_then (wp_seq (RG.start ?_))))))
    refine S.q 2 [4] 0 ⟨[(4, .v (I j))], []⟩ .nil ?_; clear S; intro ac w β S
    refine RG.done rfl (nx_then (wp_ret ?_))
    refine S.r [I j] ?_
    exact ⟨retI (by clear S; (first | (rw [hr, hd_end (by omega)]; done) | (rw [hr, hd_step (by omega)]; simp [he_Slot, w1, hdi, hdb, hdc, *]; done) | (rw [hr, hd_step (by omega)]; simp_all [he_Slot, w1, hdi, hdb, hdc]; done))), S.chg⟩

set_option maxRecDepth 100000 in
theorem c_laws_heldGuestS (w0 : World) (a : List TGuest) (pa : LP TGuest) (ha : GT.rd KK (Lt w0.heap.size) w0 a pa) (k : Int) : Calls Try.prog 93 [slv (a).length pa.1, I k].toArray w0 (fun e w' => e = .returned (I (hdl a k)) ∧ Chg NoB w0 w') := by
  refine Calls.walk (args := [slv (a).length pa.1, I k]) NoB Try.func93 rfl rfl ?_
  intro ac β S
  have hlea : a.length ≤ 4194304 := LRd.le ha
  refine wp_seq (RG.start ?_)
  refine S.q 1 [0, 1] 0 ⟨[(0, .v (slv (a).length pa.1)), (1, .v (I k))], []⟩ .nil ?_; clear S; intro ac w β S
  refine RG.done rfl (nx_then (wp_seq (wp_seq (RG.start ?_))))
  refine S.q 1 [0, 1, 5] 0 ⟨[(0, .v (slv (a).length pa.1)), (1, .v (I k)), (5, .v (I 0))], []⟩ .nil ?_; clear S; intro ac w β S
  refine RG.done rfl (nx_then (wp_block ?_))
  replace S := S.p [0, 1, 5] 0 ⟨[(0, .v (slv (a).length pa.1)), (1, .v (I k)), (5, .v (I 0))], []⟩
  refine wp_loop_down (fun mm ac w => ∃ (i : Nat) (j : Int)  (u : World) (N : Bl) (β : Nat → Nat), mm = a.length - i ∧ (i ≤ a.length) ∧ (hdl a k = hdlc (a.drop i) j id) ∧ St Try.prog Try.f93.ntmps w0 NoB u N β ⟨[(0, .v (slv (a).length pa.1)), (1, .v (I j)), (5, .v (I (i : Int)))], []⟩ ac w) _ ⟨0, k, _, _, _, rfl, (by first | omega | (simp; done) | (simp; omega)), (by rfl), S.cast (by kernel_rfl)⟩ ?_
  clear S
  rintro mm ac w ⟨i, j, u, N, β, rfl, hi, hr, S⟩
  refine wp_seq (wp_seq (RG.start ?_))
  refine S.q 4 [0, 1, 5, 9] 0 ⟨[(0, .v (slv (a).length pa.1)), (1, .v (I j)), (5, .v (I (i : Int))), (9, .v (B (decide ((i : Int) < ((a).length : Int)))))], []⟩ .nil ?_; clear S; intro ac w β S
  refine RG.done rfl (nx_then ?_)
  refine S.c (decide ((i : Int) < ((a).length : Int))) (fun h1 => ?_) (fun h1 => ?_)
  · have g2 : (i : Int) < ((a).length : Int) := of_decide_eq_true h1
    refine wp_skip (nx_then (wp_seq (wp_block (wp_seq (RG.start ?_)))))
    refine S.q 8 [0, 1, 5] 0 ⟨[(0, .v (slv (a).length pa.1)), (1, .v (I (hdl ((el a i).prog) j))), (5, .v (I (i : Int)))], []⟩ (.cons (Q_idx (S.arg ha) (l := (a).length) (k := i) (i := (i : Int)) rfl rfl (by omega) Try.underlying39 (by kernel_rfl)) (.cons (Q_cell (S.arg ha) (t := 28) (k := i) (j := 0) (v := slv ((el a i).prog).length ((pa.2 i).prog).1) (by omega) (by kernel_rfl) (by kernel_rfl)) (.cons (Q_call fun w hw => c_laws_heldInsS w ((el a i).prog) ((pa.2 i).prog) (rd_of (RGuest.prog (d := (el a i)) (LRd.el (S.arg ha) i (by omega))) hw) j) .nil))) ?_; clear S; intro ac w β S
    refine RG.done rfl (nx_then (wp_seq (wp_seq (RG.start ?_))))
    refine S.q 2 [0, 1, 5, 20] 0 ⟨[(0, .v (slv (a).length pa.1)), (1, .v (I (hdl ((el a i).prog) j))), (5, .v (I (i : Int))), (20, .v (B (decide ((hdl ((el a i).prog) j) < 0))))], []⟩ .nil ?_; clear S; intro ac w β S
    refine RG.done rfl (nx_then ?_)
    refine S.c (decide ((hdl ((el a i).prog) j) < 0)) (fun h3 => ?_) (fun h3 => ?_)
    · have g4 : (hdl ((el a i).prog) j) < 0 := of_decide_eq_true h3
      refine wp_seq (RG.start ?_)
      refine S.q 1 [4] 0 ⟨[(4, .v (I (-1)))], []⟩ .nil ?_; clear S; intro ac w β S
      refine RG.done rfl (nx_then (wp_ret (rt_then (rt_block (rt_then (rt_then (rt_block (rt_then ?_))))))))
      refine S.r [I (-1)] ?_
      exact ⟨retI (by clear S; (first | (rw [hr, hd_end (by omega)]; done) | (rw [hr, hd_step (by omega)]; simp [he_Guest, w1, hdi, hdb, hdc, *]; done) | (rw [hr, hd_step (by omega)]; simp_all [he_Guest, w1, hdi, hdb, hdc]; done))), S.chg⟩
    · have g5 : ¬ ((hdl ((el a i).prog) j) < 0) := of_decide_eq_false h3
      refine wp_skip (nx_then (wp_seq (wp_seq (RG.start ?_))))
      refine S.q 7 [0, 1, 5, 27] 0 ⟨[(0, .v (slv (a).length pa.1)), (1, .v (I (hdl ((el a i).prog) j))), (5, .v (I (i : Int))), (27, .v (B ((el a i).acc != (hdl ((el a i).prog) j))))], []⟩ (.cons (Q_idx (S.arg ha) (l := (a).length) (k := i) (i := (i : Int)) rfl rfl (by omega) Try.underlying39 (by kernel_rfl)) (.cons (Q_cell (S.arg ha) (t := 3) (k := i) (j := 1) (v := I ((el a i).acc)) (by omega) (by kernel_rfl) (by kernel_rfl)) .nil)) ?_; clear S; intro ac w β S
      refine RG.done rfl (nx_then ?_)
      refine S.c ((el a i).acc != (hdl ((el a i).prog) j)) (fun h6 => ?_) (fun h6 => ?_)
      · have g7 : ¬ ((el a i).acc = (hdl ((el a i).prog) j)) := bne_iff_ne.1 h6
        refine wp_seq (RG.start ?_)
        refine S.q 1 [4] 0 ⟨[(4, .v (I (-1)))], []⟩ .nil ?_; clear S; intro ac w β S
        refine RG.done rfl (nx_then (wp_ret (rt_then (rt_block (rt_then (rt_then (rt_block (rt_then ?_))))))))
        refine S.r [I (-1)] ?_
        exact ⟨retI (by clear S; (first | (rw [hr, hd_end (by omega)]; done) | (rw [hr, hd_step (by omega)]; simp [he_Guest, w1, hdi, hdb, hdc, *]; done) | (rw [hr, hd_step (by omega)]; simp_all [he_Guest, w1, hdi, hdb, hdc]; done))), S.chg⟩
      · have g8 : (el a i).acc = (hdl ((el a i).prog) j) := ne_f h6
        refine wp_skip (nx_then (wp_seq (RG.start ?_)))
        refine S.q 3 [0, 1, 5] 0 ⟨[(0, .v (slv (a).length pa.1)), (1, .v (I (w1 (hdl ((el a i).prog) j)))), (5, .v (I (i : Int)))], []⟩ (.cons (Q_addw (x := (hdl ((el a i).prog) j)) (y := 1)) .nil) ?_; clear S; intro ac w β S
        refine RG.done rfl (nx_then (wp_seq (wp_seq (RG.start ?_))))
        refine S.q 7 [0, 1, 5, 36] 0 ⟨[(0, .v (slv (a).length pa.1)), (1, .v (I (w1 (hdl ((el a i).prog) j)))), (5, .v (I (i : Int))), (36, .v (B ((el a i).pc != (w1 (hdl ((el a i).prog) j)))))], []⟩ (.cons (Q_idx (S.arg ha) (l := (a).length) (k := i) (i := (i : Int)) rfl rfl (by omega) Try.underlying39 (by kernel_rfl)) (.cons (Q_cell (S.arg ha) (t := 3) (k := i) (j := 2) (v := I ((el a i).pc)) (by omega) (by kernel_rfl) (by kernel_rfl)) .nil)) ?_; clear S; intro ac w β S
        refine RG.done rfl (nx_then ?_)
        refine S.c ((el a i).pc != (w1 (hdl ((el a i).prog) j))) (fun h9 => ?_) (fun h9 => ?_)
        · have g10 : ¬ ((el a i).pc = (w1 (hdl ((el a i).prog) j))) := bne_iff_ne.1 h9
          refine wp_seq (RG.start ?_)
          refine S.q 1 [4] 0 ⟨[(4, .v (I (-1)))], []⟩ .nil ?_; clear S; intro ac w β S
          refine RG.done rfl (nx_then (wp_ret (rt_then (rt_block (rt_then (rt_then (rt_block (rt_then ?_))))))))
          refine S.r [I (-1)] ?_
          exact ⟨retI (by clear S; (first | (rw [hr, hd_end (by omega)]; done) | (rw [hr, hd_step (by omega)]; simp [he_Guest, w1, hdi, hdb, hdc, *]; done) | (rw [hr, hd_step (by omega)]; simp_all [he_Guest, w1, hdi, hdb, hdc]; done))), S.chg⟩
        · have g11 : (el a i).pc = (w1 (hdl ((el a i).prog) j)) := ne_f h9
          refine wp_skip (nx_then (wp_seq (RG.start ?_)))
          refine S.q 3 [0, 1, 5] 0 ⟨[(0, .v (slv (a).length pa.1)), (1, .v (I (w1 (w1 (hdl ((el a i).prog) j))))), (5, .v (I (i : Int)))], []⟩ (.cons (Q_addw (x := (w1 (hdl ((el a i).prog) j))) (y := 1)) .nil) ?_; clear S; intro ac w β S
          refine RG.done rfl (nx_then (wp_seq (RG.start ?_)))
          refine S.q 8 [0, 1, 5] 0 ⟨[(0, .v (slv (a).length pa.1)), (1, .v (I (hdl ((el a i).written) (w1 (w1 (hdl ((el a i).prog) j)))))), (5, .v (I (i : Int)))], []⟩ (.cons (Q_idx (S.arg ha) (l := (a).length) (k := i) (i := (i : Int)) rfl rfl (by omega) Try.underlying39 (by kernel_rfl)) (.cons (Q_cell (S.arg ha) (t := 37) (k := i) (j := 3) (v := slv ((el a i).written).length ((pa.2 i).written).1) (by omega) (by kernel_rfl) (by kernel_rfl)) (.cons (Q_call fun w hw => c_laws_heldSlotS w ((el a i).written) ((pa.2 i).written) (rd_of (RGuest.written (d := (el a i)) (LRd.el (S.arg ha) i (by omega))) hw) (w1 (w1 (hdl ((el a i).prog) j)))) .nil))) ?_; clear S; intro ac w β S
          refine RG.done rfl (nx_then (wp_seq (wp_seq (RG.start ?_))))
          refine S.q 2 [0, 1, 5, 47] 0 ⟨[(0, .v (slv (a).length pa.1)), (1, .v (I (hdl ((el a i).written) (w1 (w1 (hdl ((el a i).prog) j)))))), (5, .v (I (i : Int))), (47, .v (B (decide ((hdl ((el a i).written) (w1 (w1 (hdl ((el a i).prog) j)))) < 0))))], []⟩ .nil ?_; clear S; intro ac w β S
          refine RG.done rfl (nx_then ?_)
          refine S.c (decide ((hdl ((el a i).written) (w1 (w1 (hdl ((el a i).prog) j)))) < 0)) (fun h12 => ?_) (fun h12 => ?_)
          · have g13 : (hdl ((el a i).written) (w1 (w1 (hdl ((el a i).prog) j)))) < 0 := of_decide_eq_true h12
            refine wp_seq (RG.start ?_)
            refine S.q 1 [4] 0 ⟨[(4, .v (I (-1)))], []⟩ .nil ?_; clear S; intro ac w β S
            refine RG.done rfl (nx_then (wp_ret (rt_then (rt_block (rt_then (rt_then (rt_block (rt_then ?_))))))))
            refine S.r [I (-1)] ?_
            exact ⟨retI (by clear S; (first | (rw [hr, hd_end (by omega)]; done) | (rw [hr, hd_step (by omega)]; simp [he_Guest, w1, hdi, hdb, hdc, *]; done) | (rw [hr, hd_step (by omega)]; simp_all [he_Guest, w1, hdi, hdb, hdc]; done))), S.chg⟩
          · have g14 : ¬ ((hdl ((el a i).written) (w1 (w1 (hdl ((el a i).prog) j)))) < 0) := of_decide_eq_false h12
            refine wp_skip (nx_then (wp_seq (RG.start ?_)))
            refine S.q 8 [0, 1, 5] 0 ⟨[(0, .v (slv (a).length pa.1)), (1, .v (I (hdl ((el a i).live) (hdl ((el a i).written) (w1 (w1 (hdl ((el a i).prog) j))))))), (5, .v (I (i : Int)))], []⟩ (.cons (Q_idx (S.arg ha) (l := (a).length) (k := i) (i := (i : Int)) rfl rfl (by omega) Try.underlying39 (by kernel_rfl)) (.cons (Q_cell (S.arg ha) (t := 37) (k := i) (j := 4) (v := slv ((el a i).live).length ((pa.2 i).live).1) (by omega) (by kernel_rfl) (by kernel_rfl)) (.cons (Q_call fun w hw => c_laws_heldSlotS w ((el a i).live) ((pa.2 i).live) (rd_of (RGuest.live (d := (el a i)) (LRd.el (S.arg ha) i (by omega))) hw) (hdl ((el a i).written) (w1 (w1 (hdl ((el a i).prog) j))))) .nil))) ?_; clear S; intro ac w β S
            refine RG.done rfl (nx_then (wp_seq (wp_seq (RG.start ?_))))
            refine S.q 2 [0, 1, 5, 56] 0 ⟨[(0, .v (slv (a).length pa.1)), (1, .v (I (hdl ((el a i).live) (hdl ((el a i).written) (w1 (w1 (hdl ((el a i).prog) j))))))), (5, .v (I (i : Int))), (56, .v (B (decide ((hdl ((el a i).live) (hdl ((el a i).written) (w1 (w1 (hdl ((el a i).prog) j))))) < 0))))], []⟩ .nil ?_; clear S; intro ac w β S
            refine RG.done rfl (nx_then ?_)
            refine S.c (decide ((hdl ((el a i).live) (hdl ((el a i).written) (w1 (w1 (hdl ((el a i).prog) j))))) < 0)) (fun h15 => ?_) (fun h15 => ?_)
            · have g16 : (hdl ((el a i).live) (hdl ((el a i).written) (w1 (w1 (hdl ((el a i).prog) j))))) < 0 := of_decide_eq_true h15
              refine wp_seq (RG.start ?_)
              refine S.q 1 [4] 0 ⟨[(4, .v (I (-1)))], []⟩ .nil ?_; clear S; intro ac w β S
              refine RG.done rfl (nx_then (wp_ret (rt_then (rt_block (rt_then (rt_then (rt_block (rt_then ?_))))))))
              refine S.r [I (-1)] ?_
              exact ⟨retI (by clear S; (first | (rw [hr, hd_end (by omega)]; done) | (rw [hr, hd_step (by omega)]; simp [he_Guest, w1, hdi, hdb, hdc, *]; done) | (rw [hr, hd_step (by omega)]; simp_all [he_Guest, w1, hdi, hdb, hdc]; done))), S.chg⟩
            · have g17 : ¬ ((hdl ((el a i).live) (hdl ((el a i).written) (w1 (w1 (hdl ((el a i).prog) j))))) < 0) := of_decide_eq_false h15
              refine wp_skip (nx_then (wp_seq (wp_seq (RG.start ?_))))
              refine S.q 8 [0, 1, 5, 64] 0 ⟨[(0, .v (slv (a).length pa.1)), (1, .v (I (hdl ((el a i).live) (hdl ((el a i).written) (w1 (w1 (hdl ((el a i).prog) j))))))), (5, .v (I (i : Int))), (64, .v (B (((el a i).ctl).traps != (hdl ((el a i).live) (hdl ((el a i).written) (w1 (w1 (hdl ((el a i).prog) j))))))))], []⟩ (.cons (Q_idx (S.arg ha) (l := (a).length) (k := i) (i := (i : Int)) rfl rfl (by omega) Try.underlying39 (by kernel_rfl)) (.cons (Q_cell (S.arg ha) (t := 3) (k := i) (j := 5) (v := I (((el a i).ctl).traps)) (by omega) (by kernel_rfl) (by kernel_rfl)) .nil)) ?_; clear S; intro ac w β S
              refine RG.done rfl (nx_then ?_)
              refine S.c (((el a i).ctl).traps != (hdl ((el a i).live) (hdl ((el a i).written) (w1 (w1 (hdl ((el a i).prog) j)))))) (fun h18 => ?_) (fun h18 => ?_)
              · have g19 : ¬ (((el a i).ctl).traps = (hdl ((el a i).live) (hdl ((el a i).written) (w1 (w1 (hdl ((el a i).prog) j)))))) := bne_iff_ne.1 h18
                refine wp_seq (RG.start ?_)
                refine S.q 1 [4] 0 ⟨[(4, .v (I (-1)))], []⟩ .nil ?_; clear S; intro ac w β S
                refine RG.done rfl (nx_then (wp_ret (rt_then (rt_block (rt_then (rt_then (rt_block (rt_then ?_))))))))
                refine S.r [I (-1)] ?_
                exact ⟨retI (by clear S; (first | (rw [hr, hd_end (by omega)]; done) | (rw [hr, hd_step (by omega)]; simp [he_Guest, w1, hdi, hdb, hdc, *]; done) | (rw [hr, hd_step (by omega)]; simp_all [he_Guest, w1, hdi, hdb, hdc]; done))), S.chg⟩
              · have g20 : ((el a i).ctl).traps = (hdl ((el a i).live) (hdl ((el a i).written) (w1 (w1 (hdl ((el a i).prog) j))))) := ne_f h18
                refine wp_skip (nx_then (wp_seq (RG.start ?_)))
                refine S.q 3 [0, 1, 5] 0 ⟨[(0, .v (slv (a).length pa.1)), (1, .v (I (w1 (hdl ((el a i).live) (hdl ((el a i).written) (w1 (w1 (hdl ((el a i).prog) j)))))))), (5, .v (I (i : Int)))], []⟩ (.cons (Q_addw (x := (hdl ((el a i).live) (hdl ((el a i).written) (w1 (w1 (hdl ((el a i).prog) j)))))) (y := 1)) .nil) ?_; clear S; intro ac w β S
                refine RG.done rfl (nx_then (wp_seq (wp_seq (RG.start ?_))))
                refine S.q 8 [0, 1, 5, 74] 0 ⟨[(0, .v (slv (a).length pa.1)), (1, .v (I (w1 (hdl ((el a i).live) (hdl ((el a i).written) (w1 (w1 (hdl ((el a i).prog) j)))))))), (5, .v (I (i : Int))), (74, .v (B (((el a i).ctl).post != (w1 (hdl ((el a i).live) (hdl ((el a i).written) (w1 (w1 (hdl ((el a i).prog) j)))))))))], []⟩ (.cons (Q_idx (S.arg ha) (l := (a).length) (k := i) (i := (i : Int)) rfl rfl (by omega) Try.underlying39 (by kernel_rfl)) (.cons (Q_cell (S.arg ha) (t := 3) (k := i) (j := 6) (v := I (((el a i).ctl).post)) (by omega) (by kernel_rfl) (by kernel_rfl)) .nil)) ?_; clear S; intro ac w β S
                refine RG.done rfl (nx_then ?_)
                refine S.c (((el a i).ctl).post != (w1 (hdl ((el a i).live) (hdl ((el a i).written) (w1 (w1 (hdl ((el a i).prog) j))))))) (fun h21 => ?_) (fun h21 => ?_)
                · have g22 : ¬ (((el a i).ctl).post = (w1 (hdl ((el a i).live) (hdl ((el a i).written) (w1 (w1 (hdl ((el a i).prog) j))))))) := bne_iff_ne.1 h21
                  refine wp_seq (RG.start ?_)
                  refine S.q 1 [4] 0 ⟨[(4, .v (I (-1)))], []⟩ .nil ?_; clear S; intro ac w β S
                  refine RG.done rfl (nx_then (wp_ret (rt_then (rt_block (rt_then (rt_then (rt_block (rt_then ?_))))))))
                  refine S.r [I (-1)] ?_
                  exact ⟨retI (by clear S; (first | (rw [hr, hd_end (by omega)]; done) | (rw [hr, hd_step (by omega)]; simp [he_Guest, w1, hdi, hdb, hdc, *]; done) | (rw [hr, hd_step (by omega)]; simp_all [he_Guest, w1, hdi, hdb, hdc]; done))), S.chg⟩
                · have g23 : ((el a i).ctl).post = (w1 (hdl ((el a i).live) (hdl ((el a i).written) (w1 (w1 (hdl ((el a i).prog) j)))))) := ne_f h21
                  refine wp_skip (nx_then (wp_seq (RG.start ?_)))
                  refine S.q 3 [0, 1, 5] 0 ⟨[(0, .v (slv (a).length pa.1)), (1, .v (I (w1 (w1 (hdl ((el a i).live) (hdl ((el a i).written) (w1 (w1 (hdl ((el a i).prog) j))))))))), (5, .v (I (i : Int)))], []⟩ (.cons (Q_addw (x := (w1 (hdl ((el a i).live) (hdl ((el a i).written) (w1 (w1 (hdl ((el a i).prog) j))))))) (y := 1)) .nil) ?_; clear S; intro ac w β S
                  refine RG.done rfl (nx_then (wp_seq (wp_seq (RG.start ?_))))
                  refine S.q 10 [0, 1, 5, 86] 0 ⟨[(0, .v (slv (a).length pa.1)), (1, .v (I (w1 (w1 (hdl ((el a i).live) (hdl ((el a i).written) (w1 (w1 (hdl ((el a i).prog) j))))))))), (5, .v (I (i : Int))), (86, .v (B (!(((el a i).ctl).opn == ((Int.tmod (w1 (w1 (hdl ((el a i).live) (hdl ((el a i).written) (w1 (w1 (hdl ((el a i).prog) j))))))) 3) == 0)))))], []⟩ (.cons (Q_idx (S.arg ha) (l := (a).length) (k := i) (i := (i : Int)) rfl rfl (by omega) Try.underlying39 (by kernel_rfl)) (.cons (Q_cell (S.arg ha) (t := 4) (k := i) (j := 7) (v := B (((el a i).ctl).opn)) (by omega) (by kernel_rfl) (by kernel_rfl)) (.cons (Q_rem (x := (w1 (w1 (hdl ((el a i).live) (hdl ((el a i).written) (w1 (w1 (hdl ((el a i).prog) j)))))))) (y := 3) (by decide)) .nil))) ?_; clear S; intro ac w β S
                  refine RG.done rfl (nx_then ?_)
                  refine S.c (!(((el a i).ctl).opn == ((Int.tmod (w1 (w1 (hdl ((el a i).live) (hdl ((el a i).written) (w1 (w1 (hdl ((el a i).prog) j))))))) 3) == 0))) (fun h24 => ?_) (fun h24 => ?_)
                  · have h25 : (((el a i).ctl).opn == ((Int.tmod (w1 (w1 (hdl ((el a i).live) (hdl ((el a i).written) (w1 (w1 (hdl ((el a i).prog) j))))))) 3) == 0)) = false := not_t h24
                    have g26 : ¬ (((el a i).ctl).opn = ((Int.tmod (w1 (w1 (hdl ((el a i).live) (hdl ((el a i).written) (w1 (w1 (hdl ((el a i).prog) j))))))) 3) == 0)) := ne_of_beq_false h25
                    refine wp_seq (RG.start ?_)
                    refine S.q 1 [4] 0 ⟨[(4, .v (I (-1)))], []⟩ .nil ?_; clear S; intro ac w β S
                    refine RG.done rfl (nx_then (wp_ret (rt_then (rt_block (rt_then (rt_then (rt_block (rt_then ?_))))))))
                    refine S.r [I (-1)] ?_
                    exact ⟨retI (by clear S; (first | (rw [hr, hd_end (by omega)]; done) | (rw [hr, hd_step (by omega)]; simp [he_Guest, w1, hdi, hdb, hdc, *]; done) | (rw [hr, hd_step (by omega)]; simp_all [he_Guest, w1, hdi, hdb, hdc]; done))), S.chg⟩
                  · have h27 : (((el a i).ctl).opn == ((Int.tmod (w1 (w1 (hdl ((el a i).live) (hdl ((el a i).written) (w1 (w1 (hdl ((el a i).prog) j))))))) 3) == 0)) = true := not_f h24
                    have g28 : ((el a i).ctl).opn = ((Int.tmod (w1 (w1 (hdl ((el a i).live) (hdl ((el a i).written) (w1 (w1 (hdl ((el a i).prog) j))))))) 3) == 0) := eq_of_beq h27
                    refine wp_skip (nx_then (wp_seq (RG.start ?_)))
                    refine S.q 3 [0, 1, 5] 0 ⟨[(0, .v (slv (a).length pa.1)), (1, .v (I (w1 (w1 (w1 (hdl ((el a i).live) (hdl ((el a i).written) (w1 (w1 (hdl ((el a i).prog) j)))))))))), (5, .v (I (i : Int)))], []⟩ (.cons (Q_addw (x := (w1 (w1 (hdl ((el a i).live) (hdl ((el a i).written) (w1 (w1 (hdl ((el a i).prog) j)))))))) (y := 1)) .nil) ?_; clear S; intro ac w β S
                    refine RG.done rfl (nx_then (wp_seq (wp_seq (RG.start ?_))))
                    refine S.q 7 [0, 1, 5, 95] 0 ⟨[(0, .v (slv (a).length pa.1)), (1, .v (I (w1 (w1 (w1 (hdl ((el a i).live) (hdl ((el a i).written) (w1 (w1 (hdl ((el a i).prog) j)))))))))), (5, .v (I (i : Int))), (95, .v (B ((el a i).pend != (w1 (w1 (w1 (hdl ((el a i).live) (hdl ((el a i).written) (w1 (w1 (hdl ((el a i).prog) j)))))))))))], []⟩ (.cons (Q_idx (S.arg ha) (l := (a).length) (k := i) (i := (i : Int)) rfl rfl (by omega) Try.underlying39 (by kernel_rfl)) (.cons (Q_cell (S.arg ha) (t := 3) (k := i) (j := 8) (v := I ((el a i).pend)) (by omega) (by kernel_rfl) (by kernel_rfl)) .nil)) ?_; clear S; intro ac w β S
                    refine RG.done rfl (nx_then ?_)
                    refine S.c ((el a i).pend != (w1 (w1 (w1 (hdl ((el a i).live) (hdl ((el a i).written) (w1 (w1 (hdl ((el a i).prog) j))))))))) (fun h29 => ?_) (fun h29 => ?_)
                    · have g30 : ¬ ((el a i).pend = (w1 (w1 (w1 (hdl ((el a i).live) (hdl ((el a i).written) (w1 (w1 (hdl ((el a i).prog) j))))))))) := bne_iff_ne.1 h29
                      refine wp_seq (RG.start ?_)
                      refine S.q 1 [4] 0 ⟨[(4, .v (I (-1)))], []⟩ .nil ?_; clear S; intro ac w β S
                      refine RG.done rfl (nx_then (wp_ret (rt_then (rt_block (rt_then (rt_then (rt_block (rt_then ?_))))))))
                      refine S.r [I (-1)] ?_
                      exact ⟨retI (by clear S; (first | (rw [hr, hd_end (by omega)]; done) | (rw [hr, hd_step (by omega)]; simp [he_Guest, w1, hdi, hdb, hdc, *]; done) | (rw [hr, hd_step (by omega)]; simp_all [he_Guest, w1, hdi, hdb, hdc]; done))), S.chg⟩
                    · have g31 : (el a i).pend = (w1 (w1 (w1 (hdl ((el a i).live) (hdl ((el a i).written) (w1 (w1 (hdl ((el a i).prog) j)))))))) := ne_f h29
                      refine wp_skip (nx_then (wp_seq (RG.start ?_)))
                      refine S.q 3 [0, 1, 5] 0 ⟨[(0, .v (slv (a).length pa.1)), (1, .v (I (w1 (w1 (w1 (w1 (hdl ((el a i).live) (hdl ((el a i).written) (w1 (w1 (hdl ((el a i).prog) j))))))))))), (5, .v (I (i : Int)))], []⟩ (.cons (Q_addw (x := (w1 (w1 (w1 (hdl ((el a i).live) (hdl ((el a i).written) (w1 (w1 (hdl ((el a i).prog) j))))))))) (y := 1)) .nil) ?_; clear S; intro ac w β S
                      refine RG.done rfl (nx_then (wp_seq (wp_seq (RG.start ?_))))
                      refine S.q 8 [0, 1, 5, 105] 0 ⟨[(0, .v (slv (a).length pa.1)), (1, .v (I (w1 (w1 (w1 (w1 (hdl ((el a i).live) (hdl ((el a i).written) (w1 (w1 (hdl ((el a i).prog) j))))))))))), (5, .v (I (i : Int))), (105, .v (B (((el a i).exit).kind != (w1 (w1 (w1 (w1 (hdl ((el a i).live) (hdl ((el a i).written) (w1 (w1 (hdl ((el a i).prog) j))))))))))))], []⟩ (.cons (Q_idx (S.arg ha) (l := (a).length) (k := i) (i := (i : Int)) rfl rfl (by omega) Try.underlying39 (by kernel_rfl)) (.cons (Q_cell (S.arg ha) (t := 3) (k := i) (j := 9) (v := I (((el a i).exit).kind)) (by omega) (by kernel_rfl) (by kernel_rfl)) .nil)) ?_; clear S; intro ac w β S
                      refine RG.done rfl (nx_then ?_)
                      refine S.c (((el a i).exit).kind != (w1 (w1 (w1 (w1 (hdl ((el a i).live) (hdl ((el a i).written) (w1 (w1 (hdl ((el a i).prog) j)))))))))) (fun h32 => ?_) (fun h32 => ?_)
                      · have g33 : ¬ (((el a i).exit).kind = (w1 (w1 (w1 (w1 (hdl ((el a i).live) (hdl ((el a i).written) (w1 (w1 (hdl ((el a i).prog) j)))))))))) := bne_iff_ne.1 h32
                        refine wp_seq (RG.start ?_)
                        refine S.q 1 [4] 0 ⟨[(4, .v (I (-1)))], []⟩ .nil ?_; clear S; intro ac w β S
                        refine RG.done rfl (nx_then (wp_ret (rt_then (rt_block (rt_then (rt_then (rt_block (rt_then ?_))))))))
                        refine S.r [I (-1)] ?_
                        exact ⟨retI (by clear S; (first | (rw [hr, hd_end (by omega)]; done) | (rw [hr, hd_step (by omega)]; simp [he_Guest, w1, hdi, hdb, hdc, *]; done) | (rw [hr, hd_step (by omega)]; simp_all [he_Guest, w1, hdi, hdb, hdc]; done))), S.chg⟩
                      · have g34 : ((el a i).exit).kind = (w1 (w1 (w1 (w1 (hdl ((el a i).live) (hdl ((el a i).written) (w1 (w1 (hdl ((el a i).prog) j))))))))) := ne_f h32
                        refine wp_skip (nx_then (wp_seq (RG.start ?_)))
                        refine S.q 3 [0, 1, 5] 0 ⟨[(0, .v (slv (a).length pa.1)), (1, .v (I (w1 (w1 (w1 (w1 (w1 (hdl ((el a i).live) (hdl ((el a i).written) (w1 (w1 (hdl ((el a i).prog) j)))))))))))), (5, .v (I (i : Int)))], []⟩ (.cons (Q_addw (x := (w1 (w1 (w1 (w1 (hdl ((el a i).live) (hdl ((el a i).written) (w1 (w1 (hdl ((el a i).prog) j)))))))))) (y := 1)) .nil) ?_; clear S; intro ac w β S
                        refine RG.done rfl (nx_then (wp_seq (wp_seq (RG.start ?_))))
                        refine S.q 8 [0, 1, 5, 115] 0 ⟨[(0, .v (slv (a).length pa.1)), (1, .v (I (w1 (w1 (w1 (w1 (w1 (hdl ((el a i).live) (hdl ((el a i).written) (w1 (w1 (hdl ((el a i).prog) j)))))))))))), (5, .v (I (i : Int))), (115, .v (B (((el a i).exit).page != (w1 (w1 (w1 (w1 (w1 (hdl ((el a i).live) (hdl ((el a i).written) (w1 (w1 (hdl ((el a i).prog) j)))))))))))))], []⟩ (.cons (Q_idx (S.arg ha) (l := (a).length) (k := i) (i := (i : Int)) rfl rfl (by omega) Try.underlying39 (by kernel_rfl)) (.cons (Q_cell (S.arg ha) (t := 3) (k := i) (j := 10) (v := I (((el a i).exit).page)) (by omega) (by kernel_rfl) (by kernel_rfl)) .nil)) ?_; clear S; intro ac w β S
                        refine RG.done rfl (nx_then ?_)
                        refine S.c (((el a i).exit).page != (w1 (w1 (w1 (w1 (w1 (hdl ((el a i).live) (hdl ((el a i).written) (w1 (w1 (hdl ((el a i).prog) j))))))))))) (fun h35 => ?_) (fun h35 => ?_)
                        · have g36 : ¬ (((el a i).exit).page = (w1 (w1 (w1 (w1 (w1 (hdl ((el a i).live) (hdl ((el a i).written) (w1 (w1 (hdl ((el a i).prog) j))))))))))) := bne_iff_ne.1 h35
                          refine wp_seq (RG.start ?_)
                          refine S.q 1 [4] 0 ⟨[(4, .v (I (-1)))], []⟩ .nil ?_; clear S; intro ac w β S
                          refine RG.done rfl (nx_then (wp_ret (rt_then (rt_block (rt_then (rt_then (rt_block (rt_then ?_))))))))
                          refine S.r [I (-1)] ?_
                          exact ⟨retI (by clear S; (first | (rw [hr, hd_end (by omega)]; done) | (rw [hr, hd_step (by omega)]; simp [he_Guest, w1, hdi, hdb, hdc, *]; done) | (rw [hr, hd_step (by omega)]; simp_all [he_Guest, w1, hdi, hdb, hdc]; done))), S.chg⟩
                        · have g37 : ((el a i).exit).page = (w1 (w1 (w1 (w1 (w1 (hdl ((el a i).live) (hdl ((el a i).written) (w1 (w1 (hdl ((el a i).prog) j)))))))))) := ne_f h35
                          refine wp_skip (nx_then (wp_seq (RG.start ?_)))
                          refine S.q 3 [0, 1, 5] 0 ⟨[(0, .v (slv (a).length pa.1)), (1, .v (I (w1 (w1 (w1 (w1 (w1 (w1 (hdl ((el a i).live) (hdl ((el a i).written) (w1 (w1 (hdl ((el a i).prog) j))))))))))))), (5, .v (I (i : Int)))], []⟩ (.cons (Q_addw (x := (w1 (w1 (w1 (w1 (w1 (hdl ((el a i).live) (hdl ((el a i).written) (w1 (w1 (hdl ((el a i).prog) j))))))))))) (y := 1)) .nil) ?_; clear S; intro ac w β S
                          refine RG.done rfl (nx_then (wp_seq (wp_seq (RG.start ?_))))
                          refine S.q 10 [0, 1, 5, 127] 0 ⟨[(0, .v (slv (a).length pa.1)), (1, .v (I (w1 (w1 (w1 (w1 (w1 (w1 (hdl ((el a i).live) (hdl ((el a i).written) (w1 (w1 (hdl ((el a i).prog) j))))))))))))), (5, .v (I (i : Int))), (127, .v (B (!(((el a i).exit).wr == ((Int.tmod (w1 (w1 (w1 (w1 (w1 (w1 (hdl ((el a i).live) (hdl ((el a i).written) (w1 (w1 (hdl ((el a i).prog) j))))))))))) 3) == 0)))))], []⟩ (.cons (Q_idx (S.arg ha) (l := (a).length) (k := i) (i := (i : Int)) rfl rfl (by omega) Try.underlying39 (by kernel_rfl)) (.cons (Q_cell (S.arg ha) (t := 4) (k := i) (j := 11) (v := B (((el a i).exit).wr)) (by omega) (by kernel_rfl) (by kernel_rfl)) (.cons (Q_rem (x := (w1 (w1 (w1 (w1 (w1 (w1 (hdl ((el a i).live) (hdl ((el a i).written) (w1 (w1 (hdl ((el a i).prog) j)))))))))))) (y := 3) (by decide)) .nil))) ?_; clear S; intro ac w β S
                          refine RG.done rfl (nx_then ?_)
                          refine S.c (!(((el a i).exit).wr == ((Int.tmod (w1 (w1 (w1 (w1 (w1 (w1 (hdl ((el a i).live) (hdl ((el a i).written) (w1 (w1 (hdl ((el a i).prog) j))))))))))) 3) == 0))) (fun h38 => ?_) (fun h38 => ?_)
                          · have h39 : (((el a i).exit).wr == ((Int.tmod (w1 (w1 (w1 (w1 (w1 (w1 (hdl ((el a i).live) (hdl ((el a i).written) (w1 (w1 (hdl ((el a i).prog) j))))))))))) 3) == 0)) = false := not_t h38
                            have g40 : ¬ (((el a i).exit).wr = ((Int.tmod (w1 (w1 (w1 (w1 (w1 (w1 (hdl ((el a i).live) (hdl ((el a i).written) (w1 (w1 (hdl ((el a i).prog) j))))))))))) 3) == 0)) := ne_of_beq_false h39
                            refine wp_seq (RG.start ?_)
                            refine S.q 1 [4] 0 ⟨[(4, .v (I (-1)))], []⟩ .nil ?_; clear S; intro ac w β S
                            refine RG.done rfl (nx_then (wp_ret (rt_then (rt_block (rt_then (rt_then (rt_block (rt_then ?_))))))))
                            refine S.r [I (-1)] ?_
                            exact ⟨retI (by clear S; (first | (rw [hr, hd_end (by omega)]; done) | (rw [hr, hd_step (by omega)]; simp [he_Guest, w1, hdi, hdb, hdc, *]; done) | (rw [hr, hd_step (by omega)]; simp_all [he_Guest, w1, hdi, hdb, hdc]; done))), S.chg⟩
                          · have h41 : (((el a i).exit).wr == ((Int.tmod (w1 (w1 (w1 (w1 (w1 (w1 (hdl ((el a i).live) (hdl ((el a i).written) (w1 (w1 (hdl ((el a i).prog) j))))))))))) 3) == 0)) = true := not_f h38
                            have g42 : ((el a i).exit).wr = ((Int.tmod (w1 (w1 (w1 (w1 (w1 (w1 (hdl ((el a i).live) (hdl ((el a i).written) (w1 (w1 (hdl ((el a i).prog) j))))))))))) 3) == 0) := eq_of_beq h41
                            refine wp_skip (nx_then (wp_seq (RG.start ?_)))
                            refine S.q 3 [0, 1, 5] 0 ⟨[(0, .v (slv (a).length pa.1)), (1, .v (I (w1 (w1 (w1 (w1 (w1 (w1 (w1 (hdl ((el a i).live) (hdl ((el a i).written) (w1 (w1 (hdl ((el a i).prog) j)))))))))))))), (5, .v (I (i : Int)))], []⟩ (.cons (Q_addw (x := (w1 (w1 (w1 (w1 (w1 (w1 (hdl ((el a i).live) (hdl ((el a i).written) (w1 (w1 (hdl ((el a i).prog) j)))))))))))) (y := 1)) .nil) ?_; clear S; intro ac w β S
                            refine RG.done rfl (nx_then (wp_seq (wp_seq (RG.start ?_))))
                            refine S.q 8 [0, 1, 5, 137] 0 ⟨[(0, .v (slv (a).length pa.1)), (1, .v (I (w1 (w1 (w1 (w1 (w1 (w1 (w1 (hdl ((el a i).live) (hdl ((el a i).written) (w1 (w1 (hdl ((el a i).prog) j)))))))))))))), (5, .v (I (i : Int))), (137, .v (B (((el a i).exit).n != (w1 (w1 (w1 (w1 (w1 (w1 (w1 (hdl ((el a i).live) (hdl ((el a i).written) (w1 (w1 (hdl ((el a i).prog) j)))))))))))))))], []⟩ (.cons (Q_idx (S.arg ha) (l := (a).length) (k := i) (i := (i : Int)) rfl rfl (by omega) Try.underlying39 (by kernel_rfl)) (.cons (Q_cell (S.arg ha) (t := 3) (k := i) (j := 12) (v := I (((el a i).exit).n)) (by omega) (by kernel_rfl) (by kernel_rfl)) .nil)) ?_; clear S; intro ac w β S
                            refine RG.done rfl (nx_then ?_)
                            refine S.c (((el a i).exit).n != (w1 (w1 (w1 (w1 (w1 (w1 (w1 (hdl ((el a i).live) (hdl ((el a i).written) (w1 (w1 (hdl ((el a i).prog) j))))))))))))) (fun h43 => ?_) (fun h43 => ?_)
                            · have g44 : ¬ (((el a i).exit).n = (w1 (w1 (w1 (w1 (w1 (w1 (w1 (hdl ((el a i).live) (hdl ((el a i).written) (w1 (w1 (hdl ((el a i).prog) j))))))))))))) := bne_iff_ne.1 h43
                              refine wp_seq (RG.start ?_)
                              refine S.q 1 [4] 0 ⟨[(4, .v (I (-1)))], []⟩ .nil ?_; clear S; intro ac w β S
                              refine RG.done rfl (nx_then (wp_ret (rt_then (rt_block (rt_then (rt_then (rt_block (rt_then ?_))))))))
                              refine S.r [I (-1)] ?_
                              exact ⟨retI (by clear S; (first | (rw [hr, hd_end (by omega)]; done) | (rw [hr, hd_step (by omega)]; simp [he_Guest, w1, hdi, hdb, hdc, *]; done) | (rw [hr, hd_step (by omega)]; simp_all [he_Guest, w1, hdi, hdb, hdc]; done))), S.chg⟩
                            · have g45 : ((el a i).exit).n = (w1 (w1 (w1 (w1 (w1 (w1 (w1 (hdl ((el a i).live) (hdl ((el a i).written) (w1 (w1 (hdl ((el a i).prog) j)))))))))))) := ne_f h43
                              refine wp_skip (nx_then (wp_seq (RG.start ?_)))
                              refine S.q 3 [0, 1, 5] 0 ⟨[(0, .v (slv (a).length pa.1)), (1, .v (I (w1 (w1 (w1 (w1 (w1 (w1 (w1 (w1 (hdl ((el a i).live) (hdl ((el a i).written) (w1 (w1 (hdl ((el a i).prog) j))))))))))))))), (5, .v (I (i : Int)))], []⟩ (.cons (Q_addw (x := (w1 (w1 (w1 (w1 (w1 (w1 (w1 (hdl ((el a i).live) (hdl ((el a i).written) (w1 (w1 (hdl ((el a i).prog) j))))))))))))) (y := 1)) .nil) ?_; clear S; intro ac w β S
                              refine RG.done rfl (nx_then (wp_seq (wp_seq (RG.start ?_))))
                              refine S.q 9 [0, 1, 5, 148] 0 ⟨[(0, .v (slv (a).length pa.1)), (1, .v (I (w1 (w1 (w1 (w1 (w1 (w1 (w1 (w1 (hdl ((el a i).live) (hdl ((el a i).written) (w1 (w1 (hdl ((el a i).prog) j))))))))))))))), (5, .v (I (i : Int))), (148, .v (B (!((el a i).halted == ((Int.tmod (w1 (w1 (w1 (w1 (w1 (w1 (w1 (w1 (hdl ((el a i).live) (hdl ((el a i).written) (w1 (w1 (hdl ((el a i).prog) j))))))))))))) 3) == 0)))))], []⟩ (.cons (Q_idx (S.arg ha) (l := (a).length) (k := i) (i := (i : Int)) rfl rfl (by omega) Try.underlying39 (by kernel_rfl)) (.cons (Q_cell (S.arg ha) (t := 4) (k := i) (j := 13) (v := B ((el a i).halted)) (by omega) (by kernel_rfl) (by kernel_rfl)) (.cons (Q_rem (x := (w1 (w1 (w1 (w1 (w1 (w1 (w1 (w1 (hdl ((el a i).live) (hdl ((el a i).written) (w1 (w1 (hdl ((el a i).prog) j)))))))))))))) (y := 3) (by decide)) .nil))) ?_; clear S; intro ac w β S
                              refine RG.done rfl (nx_then ?_)
                              refine S.c (!((el a i).halted == ((Int.tmod (w1 (w1 (w1 (w1 (w1 (w1 (w1 (w1 (hdl ((el a i).live) (hdl ((el a i).written) (w1 (w1 (hdl ((el a i).prog) j))))))))))))) 3) == 0))) (fun h46 => ?_) (fun h46 => ?_)
                              · have h47 : ((el a i).halted == ((Int.tmod (w1 (w1 (w1 (w1 (w1 (w1 (w1 (w1 (hdl ((el a i).live) (hdl ((el a i).written) (w1 (w1 (hdl ((el a i).prog) j))))))))))))) 3) == 0)) = false := not_t h46
                                have g48 : ¬ ((el a i).halted = ((Int.tmod (w1 (w1 (w1 (w1 (w1 (w1 (w1 (w1 (hdl ((el a i).live) (hdl ((el a i).written) (w1 (w1 (hdl ((el a i).prog) j))))))))))))) 3) == 0)) := ne_of_beq_false h47
                                refine wp_seq (RG.start ?_)
                                refine S.q 1 [4] 0 ⟨[(4, .v (I (-1)))], []⟩ .nil ?_; clear S; intro ac w β S
                                refine RG.done rfl (nx_then (wp_ret (rt_then (rt_block (rt_then (rt_then (rt_block (rt_then ?_))))))))
                                refine S.r [I (-1)] ?_
                                exact ⟨retI (by clear S; (first | (rw [hr, hd_end (by omega)]; done) | (rw [hr, hd_step (by omega)]; simp [he_Guest, w1, hdi, hdb, hdc, *]; done) | (rw [hr, hd_step (by omega)]; simp_all [he_Guest, w1, hdi, hdb, hdc]; done))), S.chg⟩
                              · have h49 : ((el a i).halted == ((Int.tmod (w1 (w1 (w1 (w1 (w1 (w1 (w1 (w1 (hdl ((el a i).live) (hdl ((el a i).written) (w1 (w1 (hdl ((el a i).prog) j))))))))))))) 3) == 0)) = true := not_f h46
                                have g50 : (el a i).halted = ((Int.tmod (w1 (w1 (w1 (w1 (w1 (w1 (w1 (w1 (hdl ((el a i).live) (hdl ((el a i).written) (w1 (w1 (hdl ((el a i).prog) j))))))))))))) 3) == 0) := eq_of_beq h49
                                refine wp_skip (nx_then (wp_seq (RG.start ?_)))
                                refine S.q 3 [0, 1, 5] 0 ⟨[(0, .v (slv (a).length pa.1)), (1, .v (I (w1 (w1 (w1 (w1 (w1 (w1 (w1 (w1 (w1 (hdl ((el a i).live) (hdl ((el a i).written) (w1 (w1 (hdl ((el a i).prog) j)))))))))))))))), (5, .v (I (i : Int)))], []⟩ (.cons (Q_addw (x := (w1 (w1 (w1 (w1 (w1 (w1 (w1 (w1 (hdl ((el a i).live) (hdl ((el a i).written) (w1 (w1 (hdl ((el a i).prog) j)))))))))))))) (y := 1)) .nil) ?_; clear S; intro ac w β S
                                refine RG.done rfl (nx_then (wp_seq (RG.start ?_)))
                                refine S.q 8 [0, 1, 5] 0 ⟨[(0, .v (slv (a).length pa.1)), (1, .v (I (hdl ((el a i).seen) (w1 (w1 (w1 (w1 (w1 (w1 (w1 (w1 (w1 (hdl ((el a i).live) (hdl ((el a i).written) (w1 (w1 (hdl ((el a i).prog) j))))))))))))))))), (5, .v (I (i : Int)))], []⟩ (.cons (Q_idx (S.arg ha) (l := (a).length) (k := i) (i := (i : Int)) rfl rfl (by omega) Try.underlying39 (by kernel_rfl)) (.cons (Q_cell (S.arg ha) (t := 24) (k := i) (j := 14) (v := slv ((el a i).seen).length ((pa.2 i).seen).1) (by omega) (by kernel_rfl) (by kernel_rfl)) (.cons (Q_call fun w hw => c_laws_heldIntS w ((el a i).seen) ((pa.2 i).seen) (rd_of (RGuest.seen (d := (el a i)) (LRd.el (S.arg ha) i (by omega))) hw) (w1 (w1 (w1 (w1 (w1 (w1 (w1 (w1 (w1 (hdl ((el a i).live) (hdl ((el a i).written) (w1 (w1 (hdl ((el a i).prog) j))))))))))))))) .nil))) ?_; clear S; intro ac w β S
                                refine RG.done rfl (nx_then (wp_seq (RG.start ?_)))
                                refine S.q 2 [0, 1, 5, 159] 0 ⟨[(0, .v (slv (a).length pa.1)), (1, .v (I (hdl ((el a i).seen) (w1 (w1 (w1 (w1 (w1 (w1 (w1 (w1 (w1 (hdl ((el a i).live) (hdl ((el a i).written) (w1 (w1 (hdl ((el a i).prog) j))))))))))))))))), (5, .v (I (i : Int))), (159, .v (B (decide ((hdl ((el a i).seen) (w1 (w1 (w1 (w1 (w1 (w1 (w1 (w1 (w1 (hdl ((el a i).live) (hdl ((el a i).written) (w1 (w1 (hdl ((el a i).prog) j))))))))))))))) < 0))))], []⟩ .nil ?_; clear S; intro ac w β S
                                refine RG.done rfl (nx_then ?_)
                                refine S.c (decide ((hdl ((el a i).seen) (w1 (w1 (w1 (w1 (w1 (w1 (w1 (w1 (w1 (hdl ((el a i).live) (hdl ((el a i).written) (w1 (w1 (hdl ((el a i).prog) j))))))))))))))) < 0)) (fun h51 => ?_) (fun h51 => ?_)
                                · have g52 : (hdl ((el a i).seen) (w1 (w1 (w1 (w1 (w1 (w1 (w1 (w1 (w1 (hdl ((el a i).live) (hdl ((el a i).written) (w1 (w1 (hdl ((el a i).prog) j))))))))))))))) < 0 := of_decide_eq_true h51
                                  refine wp_seq (RG.start ?_)
                                  refine S.q 1 [4] 0 ⟨[(4, .v (I (-1)))], []⟩ .nil ?_; clear S; intro ac w β S
                                  refine RG.done rfl (nx_then (wp_ret (rt_block (rt_then (rt_then (rt_block (rt_then ?_)))))))
                                  refine S.r [I (-1)] ?_
                                  exact ⟨retI (by clear S; (first | (rw [hr, hd_end (by omega)]; done) | (rw [hr, hd_step (by omega)]; simp [he_Guest, w1, hdi, hdb, hdc, *]; done) | (rw [hr, hd_step (by omega)]; simp_all [he_Guest, w1, hdi, hdb, hdc]; done))), S.chg⟩
                                · have g53 : ¬ ((hdl ((el a i).seen) (w1 (w1 (w1 (w1 (w1 (w1 (w1 (w1 (w1 (hdl ((el a i).live) (hdl ((el a i).written) (w1 (w1 (hdl ((el a i).prog) j))))))))))))))) < 0) := of_decide_eq_false h51
                                  refine wp_skip (nx_block (nx_then (RG.start ?_)))
                                  refine S.q 3 [0, 1, 5] 0 ⟨[(0, .v (slv (a).length pa.1)), (1, .v (I (hdl ((el a i).seen) (w1 (w1 (w1 (w1 (w1 (w1 (w1 (w1 (w1 (hdl ((el a i).live) (hdl ((el a i).written) (w1 (w1 (hdl ((el a i).prog) j))))))))))))))))), (5, .v (I ((i : Int) + 1)))], []⟩ (.cons (Q_add (x := (i : Int)) (y := 1) ⟨by omega, by omega⟩) .nil) ?_; clear S; intro ac w β S
                                  refine RG.done rfl (nx_then ?_)
                                  replace S := S.p [0, 1, 5] 0 ⟨[(0, .v (slv (a).length pa.1)), (1, .v (I (hdl ((el a i).seen) (w1 (w1 (w1 (w1 (w1 (w1 (w1 (w1 (w1 (hdl ((el a i).live) (hdl ((el a i).written) (w1 (w1 (hdl ((el a i).prog) j))))))))))))))))), (5, .v (I ((i : Int) + 1)))], []⟩
                                  refine ⟨a.length - (i + 1), by omega, i + 1, (hdl ((el a i).seen) (w1 (w1 (w1 (w1 (w1 (w1 (w1 (w1 (w1 (hdl ((el a i).live) (hdl ((el a i).written) (w1 (w1 (hdl ((el a i).prog) j))))))))))))))), _, _, _, rfl, ?_, ?_, S.cast (by kernel_rfl)⟩
                                  · clear S; first | omega | (simp [*]; done) | (simp [*]; omega)
                                  · clear S; (rw [hr, hd_step (by omega)]; simp [he_Guest, w1, hdi, hdb, hdc, *])
  · have g54 : ¬ ((i : Int) < ((a).length : Int)) := of_decide_eq_false h1
    refine wp_exit (ex_then (ex_then (ex_hit (nx_then (wp_seq (RG.start ?_))))))
    refine S.q 2 [4] 0 ⟨[(4, .v (I j))], []⟩ .nil ?_; clear S; intro ac w β S
    refine RG.done rfl (nx_then (wp_ret ?_))
    refine S.r [I j] ?_
    exact ⟨retI (by clear S; (first | (rw [hr, hd_end (by omega)]; done) | (rw [hr, hd_step (by omega)]; simp [he_Guest, w1, hdi, hdb, hdc, *]; done) | (rw [hr, hd_step (by omega)]; simp_all [he_Guest, w1, hdi, hdb, hdc]; done))), S.chg⟩

set_option maxRecDepth 100000 in
theorem c_laws_heldBare (w0 : World) (a : TBare) (pa : PBare) (ha : GT.rd KK (Lt w0.heap.size) w0 a pa) (k : Int) : Calls Try.prog 42 [GT.val a pa, I k].toArray w0 (fun e w' => e = .returned (I (hdT_Bare a k)) ∧ Chg NoB w0 w') := by
  refine Calls.walk (args := [GT.val a pa, I k]) NoB Try.func42 rfl rfl ?_
  intro ac β S
  have hlea_mem : a.mem.length ≤ 4194304 := LRd.le (RBare.mem (d := a) ha)
  have hlea_guests : a.guests.length ≤ 4194304 := LRd.le (RBare.guests (d := a) ha)
  have hlea_outs : a.outs.length ≤ 4194304 := LRd.le (RBare.outs (d := a) ha)
  refine wp_seq (RG.start ?_)
  refine S.q 2 [1, 2] 1 ⟨[(1, .v (I k)), (2, .p 0 0)], [GT.cells a pa]⟩ .nil ?_; clear S; intro ac w β S
  refine RG.done rfl (nx_then (wp_seq (RG.start ?_)))
  refine S.q 5 [1, 2] 1 ⟨[(1, .v (I (hdl a.mem k))), (2, .p 0 0)], [GT.cells a pa]⟩ (.cons (Q_call fun w hw => c_laws_heldIntSS w a.mem pa.mem (rd_of (RBare.mem (d := a) (S.arg ha)) hw) k) .nil) ?_; clear S; intro ac w β S
  refine RG.done rfl (nx_then (wp_seq (wp_seq (RG.start ?_))))
  refine S.q 2 [1, 2, 10] 1 ⟨[(1, .v (I (hdl a.mem k))), (2, .p 0 0), (10, .v (B (decide ((hdl a.mem k) < 0))))], [GT.cells a pa]⟩ .nil ?_; clear S; intro ac w β S
  refine RG.done rfl (nx_then ?_)
  refine S.c (decide ((hdl a.mem k) < 0)) (fun h1 => ?_) (fun h1 => ?_)
  · have g2 : (hdl a.mem k) < 0 := of_decide_eq_true h1
    refine wp_seq (RG.start ?_)
    refine S.q 1 [4] 0 ⟨[(4, .v (I (-1)))], []⟩ .nil ?_; clear S; intro ac w β S
    refine RG.done rfl (nx_then (wp_ret (rt_then ?_)))
    refine S.r [I (-1)] ?_
    exact ⟨retI (by clear S; (simp [hdT_Bare, hdc, *])), S.chg⟩
  · have g3 : ¬ ((hdl a.mem k) < 0) := of_decide_eq_false h1
    refine wp_skip (nx_then (wp_seq (RG.start ?_)))
    refine S.q 5 [1, 2] 1 ⟨[(1, .v (I (hdl a.guests (hdl a.mem k)))), (2, .p 0 0)], [GT.cells a pa]⟩ (.cons (Q_call fun w hw => c_laws_heldGuestS w a.guests pa.guests (rd_of (RBare.guests (d := a) (S.arg ha)) hw) (hdl a.mem k)) .nil) ?_; clear S; intro ac w β S
    refine RG.done rfl (nx_then (wp_seq (wp_seq (RG.start ?_))))
    refine S.q 2 [1, 2, 16] 1 ⟨[(1, .v (I (hdl a.guests (hdl a.mem k)))), (2, .p 0 0), (16, .v (B (decide ((hdl a.guests (hdl a.mem k)) < 0))))], [GT.cells a pa]⟩ .nil ?_; clear S; intro ac w β S
    refine RG.done rfl (nx_then ?_)
    refine S.c (decide ((hdl a.guests (hdl a.mem k)) < 0)) (fun h4 => ?_) (fun h4 => ?_)
    · have g5 : (hdl a.guests (hdl a.mem k)) < 0 := of_decide_eq_true h4
      refine wp_seq (RG.start ?_)
      refine S.q 1 [4] 0 ⟨[(4, .v (I (-1)))], []⟩ .nil ?_; clear S; intro ac w β S
      refine RG.done rfl (nx_then (wp_ret (rt_then ?_)))
      refine S.r [I (-1)] ?_
      exact ⟨retI (by clear S; (simp [hdT_Bare, hdc, *])), S.chg⟩
    · have g6 : ¬ ((hdl a.guests (hdl a.mem k)) < 0) := of_decide_eq_false h4
      refine wp_skip (nx_then (wp_seq (RG.start ?_)))
      refine S.q 5 [1] 0 ⟨[(1, .v (I (hdl a.outs (hdl a.guests (hdl a.mem k)))))], []⟩ (.cons (Q_call fun w hw => c_laws_heldIntS w a.outs pa.outs (rd_of (RBare.outs (d := a) (S.arg ha)) hw) (hdl a.guests (hdl a.mem k))) .nil) ?_; clear S; intro ac w β S
      refine RG.done rfl (nx_then (wp_seq (wp_seq (RG.start ?_))))
      refine S.q 2 [1, 22] 0 ⟨[(1, .v (I (hdl a.outs (hdl a.guests (hdl a.mem k))))), (22, .v (B (decide ((hdl a.outs (hdl a.guests (hdl a.mem k))) < 0))))], []⟩ .nil ?_; clear S; intro ac w β S
      refine RG.done rfl (nx_then ?_)
      refine S.c (decide ((hdl a.outs (hdl a.guests (hdl a.mem k))) < 0)) (fun h7 => ?_) (fun h7 => ?_)
      · have g8 : (hdl a.outs (hdl a.guests (hdl a.mem k))) < 0 := of_decide_eq_true h7
        refine wp_seq (RG.start ?_)
        refine S.q 1 [4] 0 ⟨[(4, .v (I (-1)))], []⟩ .nil ?_; clear S; intro ac w β S
        refine RG.done rfl (nx_then (wp_ret (rt_then ?_)))
        refine S.r [I (-1)] ?_
        exact ⟨retI (by clear S; (simp [hdT_Bare, hdc, *])), S.chg⟩
      · have g9 : ¬ ((hdl a.outs (hdl a.guests (hdl a.mem k))) < 0) := of_decide_eq_false h7
        refine wp_skip (nx_then (wp_seq (RG.start ?_)))
        refine S.q 2 [4] 0 ⟨[(4, .v (I (hdl a.outs (hdl a.guests (hdl a.mem k)))))], []⟩ .nil ?_; clear S; intro ac w β S
        refine RG.done rfl (nx_then (wp_ret ?_))
        refine S.r [I (hdl a.outs (hdl a.guests (hdl a.mem k)))] ?_
        exact ⟨retI (by clear S; (simp [hdT_Bare, hdc, *])), S.chg⟩

set_option maxRecDepth 100000 in
theorem c_laws_FnExactBareAck (w0 : World) (aB : TBare) (paB : PBare) (haB : GT.rd KR (Lt w0.heap.size) w0 aB paB) : Calls Try.prog 6 [GT.val aB paB].toArray w0 (fun e w' => e = .returned (B true) ∧ Chg NoB w0 w') := by
  refine Calls.walk (args := [GT.val aB paB]) NoB Try.func6 rfl rfl ?_
  intro ac β S
  refine wp_seq (RG.start ?_)
  refine S.q 2 [1] 1 ⟨[(1, .p 0 0)], [GT.cells aB paB]⟩ .nil ?_; clear S; intro ac w β S
  refine RG.done rfl (nx_then (wp_seq (RG.start ?_)))
  refine S.q 1 [1, 3] 1 ⟨[(1, .p 0 0), (3, .v (I 1048576))], [GT.cells aB paB]⟩ .nil ?_; clear S; intro ac w β S
  refine RG.done rfl (nx_then (wp_seq (RG.start ?_)))
  have b1 := f_sz_cs (SZ.sz aB) 1048576
  refine S.q 4 [1, 3] 1 ⟨[(1, .p 0 0), (3, .v (I (f_sz (SZ.sz aB) 1048576)))], [GT.cells aB paB]⟩ (.cons (Q_call fun w hw => c_laws_szBare w aB paB (rd_of (S.arg haB) hw) 1048576 (by omega) (by omega)) .nil) ?_; clear S; intro ac w β S
  refine RG.done rfl (nx_then (wp_seq (wp_seq (RG.start ?_))))
  refine S.q 2 [1, 21] 1 ⟨[(1, .p 0 0), (21, .v (B (decide ((f_sz (SZ.sz aB) 1048576) < 0))))], [GT.cells aB paB]⟩ .nil ?_; clear S; intro ac w β S
  refine RG.done rfl (nx_then ?_)
  refine S.c (decide ((f_sz (SZ.sz aB) 1048576) < 0)) (fun h2 => ?_) (fun h2 => ?_)
  · have g3 : (f_sz (SZ.sz aB) 1048576) < 0 := of_decide_eq_true h2
    refine wp_seq (RG.start ?_)
    refine S.q 1 [2] 0 ⟨[(2, .v (B true))], []⟩ .nil ?_; clear S; intro ac w β S
    refine RG.done rfl (nx_then (wp_ret (rt_then ?_)))
    refine S.r [B true] ?_
    exact ⟨retB (by clear S; first | rfl | (exfalso; omega) | (exfalso; simp_all; done) | (exfalso; simp_all; omega)), S.chg⟩
  · have g4 : ¬ ((f_sz (SZ.sz aB) 1048576) < 0) := of_decide_eq_false h2
    have hkaB : GT.rd KK (Lt w0.heap.size) w0 aB paB := SZ.cut haB (show SZ.sz aB ≤ 4194304 by omega)
    have hcaB : SZ.sz aB ≤ 1048576 := by omega
    refine wp_skip (nx_then (wp_seq (RG.start ?_)))
    refine S.q 1 [1, 23] 1 ⟨[(1, .p 0 0), (23, .v (GT.val aB paB))], [GT.cells aB paB]⟩ .nil ?_; clear S; intro ac w β S
    refine RG.op rfl (S.call1 (r := aB) (d := 24) (c_laws_toBare w aB paB (S.rd (S.arg hkaB))) (by kernel_rfl) rfl ?_)
    clear S; intro ac w N q5 F6 S up o7 d8
    clear up d8
    refine RG.op rfl (S.call3 (r := (f_bareAck aB).1) (r' := (f_bareAck aB).2.1) (r'' := (f_bareAck aB).2.2) (d := 25) (c_spec_BareAck w aB q5 (S.rd o7.rn)) (by kernel_rfl) rfl ?_)
    clear S; intro ac w N q9 F10 S up o11 d12 i13
    have d14 : Disj F6 F10 := fun b x y => d12 b (o7.sub b x) y
    replace o7 := o7.up up
    clear up d12
    refine S.q 8 [1, 4, 5, 6] 2 ⟨[(1, .p 0 0), (4, .p 1 0), (5, .v (I ((f_bareAck aB).2.1))), (6, .v (B ((f_bareAck aB).2.2)))], [GT.cells aB paB, GT.cells ((f_bareAck aB).1) q9]⟩ .nil ?_; clear S; intro ac w β S
    refine RG.done rfl (nx_then (wp_seq (RG.start ?_)))
    refine S.q 1 [1, 4, 5, 6, 29] 2 ⟨[(1, .p 0 0), (4, .p 1 0), (5, .v (I ((f_bareAck aB).2.1))), (6, .v (B ((f_bareAck aB).2.2))), (29, .v (GT.val aB paB))], [GT.cells aB paB, GT.cells ((f_bareAck aB).1) q9]⟩ .nil ?_; clear S; intro ac w β S
    refine RG.op rfl (S.call1 (r := aB) (d := 30) (c_laws_toBare w aB paB (S.rd (S.arg hkaB))) (by kernel_rfl) rfl ?_)
    clear S; intro ac w N q15 F16 S up o17 d18
    have d19 : Disj F10 F16 := fun b x y => d18 b (o11.sub b x) y
    replace o11 := o11.up up
    clear up d18
    refine S.q 2 [1, 4, 5, 6, 7] 3 ⟨[(1, .p 0 0), (4, .p 1 0), (5, .v (I ((f_bareAck aB).2.1))), (6, .v (B ((f_bareAck aB).2.2))), (7, .p 2 0)], [GT.cells aB paB, GT.cells ((f_bareAck aB).1) q9, GT.cells aB q15]⟩ .nil ?_; clear S; intro ac w β S
    refine RG.done rfl (nx_then (wp_seq (RG.start ?_)))
    refine S.q 1 [1, 4, 5, 6, 7, 32] 3 ⟨[(1, .p 0 0), (4, .p 1 0), (5, .v (I ((f_bareAck aB).2.1))), (6, .v (B ((f_bareAck aB).2.2))), (7, .p 2 0), (32, .v (GT.val aB q15))], [GT.cells aB paB, GT.cells ((f_bareAck aB).1) q9, GT.cells aB q15]⟩ .nil ?_; clear S; intro ac w β S
    refine RG.op rfl (S.call3 (r := (f_bareAck aB).1) (r' := (f_bareAck aB).2.1) (r'' := (f_bareAck aB).2.2) (d := 33) (c_impl_BareAck w aB q15 (S.rd o17.rn)) (by kernel_rfl) rfl ?_)
    clear S; intro ac w N q20 F21 S up o22 d23 i24
    have d25 : Disj F10 F21 := fun b x y => d23 b (o11.sub b x) y
    have d26 : Disj F16 F21 := fun b x y => d23 b (o17.sub b x) y
    replace o11 := o11.up up
    replace o17 := o17.up up
    clear up d23
    refine S.q 8 [1, 4, 5, 6, 7, 8, 9, 10] 4 ⟨[(1, .p 0 0), (4, .p 1 0), (5, .v (I ((f_bareAck aB).2.1))), (6, .v (B ((f_bareAck aB).2.2))), (7, .p 2 0), (8, .p 3 0), (9, .v (I ((f_bareAck aB).2.1))), (10, .v (B ((f_bareAck aB).2.2)))], [GT.cells aB paB, GT.cells ((f_bareAck aB).1) q9, GT.cells aB q15, GT.cells ((f_bareAck aB).1) q20]⟩ .nil ?_; clear S; intro ac w β S
    refine RG.done rfl (nx_then (wp_seq (wp_seq (RG.start ?_))))
    refine S.q 5 [1, 4, 5, 6, 7, 8, 9, 10, 41] 4 ⟨[(1, .p 0 0), (4, .p 1 0), (5, .v (I ((f_bareAck aB).2.1))), (6, .v (B ((f_bareAck aB).2.2))), (7, .p 2 0), (8, .p 3 0), (9, .v (I ((f_bareAck aB).2.1))), (10, .v (B ((f_bareAck aB).2.2))), (41, .v (B (!(decide (((f_bareAck aB).1) = ((f_bareAck aB).1))))))], [GT.cells aB paB, GT.cells ((f_bareAck aB).1) q9, GT.cells aB q15, GT.cells ((f_bareAck aB).1) q20]⟩ (.cons (Q_call fun w hw => c_laws_eqBare w ((f_bareAck aB).1) q20 (rd_of o22.rn hw) ((f_bareAck aB).1) q9 (rd_of o11.rn hw)) .nil) ?_; clear S; intro ac w β S
    rcases Bool.eq_false_or_eq_true (!(decide (((f_bareAck aB).1) = ((f_bareAck aB).1)))) with h27 | h27 <;> rw [h27] at S
    · have h28 : (decide (((f_bareAck aB).1) = ((f_bareAck aB).1))) = false := not_t h27
      have g29 := of_decide_eq_false h28
      refine S.q 9 [1, 4, 5, 6, 7, 8, 9, 10, 50] 4 ⟨[(1, .p 0 0), (4, .p 1 0), (5, .v (I ((f_bareAck aB).2.1))), (6, .v (B ((f_bareAck aB).2.2))), (7, .p 2 0), (8, .p 3 0), (9, .v (I ((f_bareAck aB).2.1))), (10, .v (B ((f_bareAck aB).2.2))), (50, .v (B true))], [GT.cells aB paB, GT.cells ((f_bareAck aB).1) q9, GT.cells aB q15, GT.cells ((f_bareAck aB).1) q20]⟩ .nil ?_; clear S; intro ac w β S
      refine RG.done rfl (nx_then ?_)
      refine S.c true (fun _ => ?_) (fun hx => by cases hx)
      refine wp_seq (RG.start ?_)
      refine S.q 1 [2] 0 ⟨[(2, .v (B false))], []⟩ .nil ?_; clear S; intro ac w β S
      refine RG.done rfl (nx_then (wp_ret (rt_then ?_)))
      refine S.r [B false] ?_
      exact ⟨retB (by clear S; first | rfl | (exfalso; omega) | (exfalso; simp_all; done) | (exfalso; simp_all; omega)), S.chg⟩
    · have h30 : (decide (((f_bareAck aB).1) = ((f_bareAck aB).1))) = true := not_f h27
      have g31 := of_decide_eq_true h30
      refine S.q 5 [1, 4, 5, 6, 7, 8, 9, 10, 46] 4 ⟨[(1, .p 0 0), (4, .p 1 0), (5, .v (I ((f_bareAck aB).2.1))), (6, .v (B ((f_bareAck aB).2.2))), (7, .p 2 0), (8, .p 3 0), (9, .v (I ((f_bareAck aB).2.1))), (10, .v (B ((f_bareAck aB).2.2))), (46, .v (B (((f_bareAck aB).2.1) != ((f_bareAck aB).2.1))))], [GT.cells aB paB, GT.cells ((f_bareAck aB).1) q9, GT.cells aB q15, GT.cells ((f_bareAck aB).1) q20]⟩ .nil ?_; clear S; intro ac w β S
      rcases Bool.eq_false_or_eq_true (((f_bareAck aB).2.1) != ((f_bareAck aB).2.1)) with h32 | h32 <;> rw [h32] at S
      · have g33 : ¬ (((f_bareAck aB).2.1) = ((f_bareAck aB).2.1)) := bne_iff_ne.1 h32
        refine S.q 4 [1, 4, 5, 6, 7, 8, 9, 10, 50] 4 ⟨[(1, .p 0 0), (4, .p 1 0), (5, .v (I ((f_bareAck aB).2.1))), (6, .v (B ((f_bareAck aB).2.2))), (7, .p 2 0), (8, .p 3 0), (9, .v (I ((f_bareAck aB).2.1))), (10, .v (B ((f_bareAck aB).2.2))), (50, .v (B true))], [GT.cells aB paB, GT.cells ((f_bareAck aB).1) q9, GT.cells aB q15, GT.cells ((f_bareAck aB).1) q20]⟩ .nil ?_; clear S; intro ac w β S
        refine RG.done rfl (nx_then ?_)
        refine S.c true (fun _ => ?_) (fun hx => by cases hx)
        refine wp_seq (RG.start ?_)
        refine S.q 1 [2] 0 ⟨[(2, .v (B false))], []⟩ .nil ?_; clear S; intro ac w β S
        refine RG.done rfl (nx_then (wp_ret (rt_then ?_)))
        refine S.r [B false] ?_
        exact ⟨retB (by clear S; first | rfl | (exfalso; omega) | (exfalso; simp_all; done) | (exfalso; simp_all; omega)), S.chg⟩
      · have g34 : ((f_bareAck aB).2.1) = ((f_bareAck aB).2.1) := ne_f h32
        refine S.q 4 [1, 4, 5, 6, 7, 8, 9, 10, 50] 4 ⟨[(1, .p 0 0), (4, .p 1 0), (5, .v (I ((f_bareAck aB).2.1))), (6, .v (B ((f_bareAck aB).2.2))), (7, .p 2 0), (8, .p 3 0), (9, .v (I ((f_bareAck aB).2.1))), (10, .v (B ((f_bareAck aB).2.2))), (50, .v (B (!(((f_bareAck aB).2.2) == ((f_bareAck aB).2.2)))))], [GT.cells aB paB, GT.cells ((f_bareAck aB).1) q9, GT.cells aB q15, GT.cells ((f_bareAck aB).1) q20]⟩ .nil ?_; clear S; intro ac w β S
        refine RG.done rfl (nx_then ?_)
        refine S.c (!(((f_bareAck aB).2.2) == ((f_bareAck aB).2.2))) (fun h35 => ?_) (fun h35 => ?_)
        · have h36 : (((f_bareAck aB).2.2) == ((f_bareAck aB).2.2)) = false := not_t h35
          have g37 : ¬ (((f_bareAck aB).2.2) = ((f_bareAck aB).2.2)) := ne_of_beq_false h36
          refine wp_seq (RG.start ?_)
          refine S.q 1 [2] 0 ⟨[(2, .v (B false))], []⟩ .nil ?_; clear S; intro ac w β S
          refine RG.done rfl (nx_then (wp_ret (rt_then ?_)))
          refine S.r [B false] ?_
          exact ⟨retB (by clear S; first | rfl | (exfalso; omega) | (exfalso; simp_all; done) | (exfalso; simp_all; omega)), S.chg⟩
        · have h38 : (((f_bareAck aB).2.2) == ((f_bareAck aB).2.2)) = true := not_f h35
          have g39 : ((f_bareAck aB).2.2) = ((f_bareAck aB).2.2) := eq_of_beq h38
          refine wp_skip (nx_then (wp_seq (wp_seq ?_)))
          refine S.draw0 (f := 5) 5 rfl rfl ?_
          clear S; intro w S
          refine S.hoist (i := 0) (path := []) (keep := [1, 4, 5, 6, 7, 8, 9, 10, 51]) (m := 4) (σ' := ⟨[(1, .p 0 0), (4, .p 1 0), (5, .v (I ((f_bareAck aB).2.1))), (6, .v (B ((f_bareAck aB).2.2))), (7, .p 2 0), (8, .p 3 0), (9, .v (I ((f_bareAck aB).2.1))), (10, .v (B ((f_bareAck aB).2.2))), (51, .v (GT.val aB q15))], [GT.cells aB paB, GT.cells ((f_bareAck aB).1) q9, GT.cells aB q15, GT.cells ((f_bareAck aB).1) q20]⟩) (by kernel_rfl) (by kernel_rfl) .nil (by kernel_rfl) ?_
          clear S; intro ac S
          refine S.hoist (i := 1) (path := []) (keep := [1, 4, 5, 6, 7, 8, 9, 10, 51, 52]) (m := 4) (σ' := ⟨[(1, .p 0 0), (4, .p 1 0), (5, .v (I ((f_bareAck aB).2.1))), (6, .v (B ((f_bareAck aB).2.2))), (7, .p 2 0), (8, .p 3 0), (9, .v (I ((f_bareAck aB).2.1))), (10, .v (B ((f_bareAck aB).2.2))), (51, .v (GT.val aB q15)), (52, .v (GT.val aB paB))], [GT.cells aB paB, GT.cells ((f_bareAck aB).1) q9, GT.cells aB q15, GT.cells ((f_bareAck aB).1) q20]⟩) (by kernel_rfl) (by kernel_rfl) .nil (by kernel_rfl) ?_
          clear S; intro ac S
          refine WD.one (i := 2) (by kernel_rfl) ?_
          refine id (S.call1 (r := aB) (d := 53) (c_laws_toBare w aB paB (S.rd (S.arg hkaB))) (by kernel_rfl) rfl ?_)
          clear S; intro ac w N q40 F41 S up o42 d43
          refine WD.next S up rfl ?_
          have d44 : Disj F10 F41 := fun b x y => d43 b (o11.sub b x) y
          have d45 : Disj F16 F41 := fun b x y => d43 b (o17.sub b x) y
          have d46 : Disj F21 F41 := fun b x y => d43 b (o22.sub b x) y
          replace o11 := o11.up up
          replace o17 := o17.up up
          replace o22 := o22.up up
          clear up d43
          refine WD.one (i := 3) (by kernel_rfl) ?_
          refine S.stepq (i := 3) (keep := [1, 4, 5, 6, 7, 8, 9, 10, 54]) (m := 4) (σ' := ⟨[(1, .p 0 0), (4, .p 1 0), (5, .v (I ((f_bareAck aB).2.1))), (6, .v (B ((f_bareAck aB).2.2))), (7, .p 2 0), (8, .p 3 0), (9, .v (I ((f_bareAck aB).2.1))), (10, .v (B ((f_bareAck aB).2.2))), (54, .v (B (decide (aB = aB))))], [GT.cells aB paB, GT.cells ((f_bareAck aB).1) q9, GT.cells aB q15, GT.cells ((f_bareAck aB).1) q20]⟩) (.cons (Q_call fun w hw => c_laws_eqBare w aB q15 (rd_of o17.rn hw) aB q40 (rd_of o42.rn hw)) .nil) (by kernel_rfl) ?_
          clear S; intro ac w β S hβ
          refine WD.stay S hβ (fun _ _ h => h) ?_
          clear hβ
          refine S.hoist (i := 4) (path := []) (keep := [1, 4, 5, 6, 7, 8, 9, 10, 55]) (m := 4) (σ' := ⟨[(1, .p 0 0), (4, .p 1 0), (5, .v (I ((f_bareAck aB).2.1))), (6, .v (B ((f_bareAck aB).2.2))), (7, .p 2 0), (8, .p 3 0), (9, .v (I ((f_bareAck aB).2.1))), (10, .v (B ((f_bareAck aB).2.2))), (55, .v (B (!(decide (aB = aB)))))], [GT.cells aB paB, GT.cells ((f_bareAck aB).1) q9, GT.cells aB q15, GT.cells ((f_bareAck aB).1) q20]⟩) (by kernel_rfl) (by kernel_rfl) .nil (by kernel_rfl) ?_
          clear S; intro ac S
          refine WD.done (by kernel_rfl) ?_ _
          replace S := S.p [1, 4, 5, 6, 7, 8, 9, 10, 55] 4 ⟨[(1, .p 0 0), (4, .p 1 0), (5, .v (I ((f_bareAck aB).2.1))), (6, .v (B ((f_bareAck aB).2.2))), (7, .p 2 0), (8, .p 3 0), (9, .v (I ((f_bareAck aB).2.1))), (10, .v (B ((f_bareAck aB).2.2))), (55, .v (B (!(decide (aB = aB)))))], [GT.cells aB paB, GT.cells ((f_bareAck aB).1) q9, GT.cells aB q15, GT.cells ((f_bareAck aB).1) q20]⟩
          refine id (nx_then ?_)
          refine S.c (!(decide (aB = aB))) (fun h47 => ?_) (fun h47 => ?_)
          · have h48 : (decide (aB = aB)) = false := not_t h47
            have g49 := of_decide_eq_false h48
            refine wp_seq (RG.start ?_)
            refine S.q 1 [2] 0 ⟨[(2, .v (B false))], []⟩ .nil ?_; clear S; intro ac w β S
            refine RG.done rfl (nx_then (wp_ret (rt_then ?_)))
            refine S.r [B false] ?_
            exact ⟨retB (by clear S; first | rfl | (exfalso; omega) | (exfalso; simp_all; done) | (exfalso; simp_all; omega)), S.chg⟩
          · have h50 : (decide (aB = aB)) = true := not_f h47
            have g51 := of_decide_eq_true h50
            refine wp_skip (nx_then (wp_seq (RG.start ?_)))
            refine S.q 1 [1, 4, 5, 6, 7, 8, 9, 10, 11] 4 ⟨[(1, .p 0 0), (4, .p 1 0), (5, .v (I ((f_bareAck aB).2.1))), (6, .v (B ((f_bareAck aB).2.2))), (7, .p 2 0), (8, .p 3 0), (9, .v (I ((f_bareAck aB).2.1))), (10, .v (B ((f_bareAck aB).2.2))), (11, .v (I 1))], [GT.cells aB paB, GT.cells ((f_bareAck aB).1) q9, GT.cells aB q15, GT.cells ((f_bareAck aB).1) q20]⟩ .nil ?_; clear S; intro ac w β S
            refine RG.done rfl (nx_then (wp_seq (RG.start ?_)))
            refine S.q 2 [1, 4, 5, 6, 8, 9, 10, 56, 57] 4 ⟨[(1, .p 0 0), (4, .p 1 0), (5, .v (I ((f_bareAck aB).2.1))), (6, .v (B ((f_bareAck aB).2.2))), (8, .p 3 0), (9, .v (I ((f_bareAck aB).2.1))), (10, .v (B ((f_bareAck aB).2.2))), (56, .v (GT.val aB q15)), (57, .v (I 1))], [GT.cells aB paB, GT.cells ((f_bareAck aB).1) q9, GT.cells aB q15, GT.cells ((f_bareAck aB).1) q20]⟩ .nil ?_; clear S; intro ac w β S
            have z60 : SZ.sz aB ≤ 87960942804992 := SB.bd (o17.rn)
            refine RG.op rfl (S.callX (hd := hdT_Bare) (d := 58) o17 (c_laws_markBare w aB q15 F16 (S.ownw o17) (fun b hb => (S.sep b (o17.sub b hb)).1) 1 (by omega) (by omega)) (by kernel_rfl) rfl ?_)
            clear S; intro ac w N q52 y53 k54 S up o55 c56 x57 b58 b59
            replace o11 := o11.upF d19 up
            replace o22 := o22.upF (Disj.symm d26) up
            clear up
            replace S := S.p [1, 4, 5, 6, 8, 9, 10, 57, 58] 4 ⟨[(1, .p 0 0), (4, .p 1 0), (5, .v (I ((f_bareAck aB).2.1))), (6, .v (B ((f_bareAck aB).2.2))), (8, .p 3 0), (9, .v (I ((f_bareAck aB).2.1))), (10, .v (B ((f_bareAck aB).2.2))), (57, .v (I 1)), (58, .v (I k54))], [GT.cells aB paB, GT.cells ((f_bareAck aB).1) q9, GT.cells aB q15, GT.cells ((f_bareAck aB).1) q20]⟩
            have hw0 : GT.cells y53 q52 = GT.cells aB q15 := c56
            replace S := S.cast (σ' := ⟨[(1, .p 0 0), (4, .p 1 0), (5, .v (I ((f_bareAck aB).2.1))), (6, .v (B ((f_bareAck aB).2.2))), (8, .p 3 0), (9, .v (I ((f_bareAck aB).2.1))), (10, .v (B ((f_bareAck aB).2.2))), (57, .v (I 1)), (58, .v (I k54))], [GT.cells aB paB, GT.cells ((f_bareAck aB).1) q9, GT.cells y53 q52, GT.cells ((f_bareAck aB).1) q20]⟩) (by rw [hw0])
            clear hw0
            refine S.q 1 [1, 4, 5, 6, 8, 9, 10, 11] 4 ⟨[(1, .p 0 0), (4, .p 1 0), (5, .v (I ((f_bareAck aB).2.1))), (6, .v (B ((f_bareAck aB).2.2))), (8, .p 3 0), (9, .v (I ((f_bareAck aB).2.1))), (10, .v (B ((f_bareAck aB).2.2))), (11, .v (I k54))], [GT.cells aB paB, GT.cells ((f_bareAck aB).1) q9, GT.cells y53 q52, GT.cells ((f_bareAck aB).1) q20]⟩ .nil ?_; clear S; intro ac w β S
            refine RG.done rfl (nx_then (wp_seq (wp_seq (RG.start ?_))))
            refine S.q 3 [1, 4, 5, 6, 8, 9, 10, 61] 4 ⟨[(1, .p 0 0), (4, .p 1 0), (5, .v (I ((f_bareAck aB).2.1))), (6, .v (B ((f_bareAck aB).2.2))), (8, .p 3 0), (9, .v (I ((f_bareAck aB).2.1))), (10, .v (B ((f_bareAck aB).2.2))), (61, .v (B (decide (k54 < 0))))], [GT.cells aB paB, GT.cells ((f_bareAck aB).1) q9, GT.cells y53 q52, GT.cells ((f_bareAck aB).1) q20]⟩ .nil ?_; clear S; intro ac w β S
            rcases Bool.eq_false_or_eq_true (decide (k54 < 0)) with h61 | h61 <;> rw [h61] at S
            · have g62 : k54 < 0 := of_decide_eq_true h61
              refine S.q 15 [1, 4, 5, 6, 8, 76] 4 ⟨[(1, .p 0 0), (4, .p 1 0), (5, .v (I ((f_bareAck aB).2.1))), (6, .v (B ((f_bareAck aB).2.2))), (8, .p 3 0), (76, .v (B true))], [GT.cells aB paB, GT.cells ((f_bareAck aB).1) q9, GT.cells y53 q52, GT.cells ((f_bareAck aB).1) q20]⟩ .nil ?_; clear S; intro ac w β S
              refine RG.done rfl (nx_then ?_)
              refine S.c true (fun _ => ?_) (fun hx => by cases hx)
              refine wp_seq (RG.start ?_)
              refine S.q 1 [2] 0 ⟨[(2, .v (B false))], []⟩ .nil ?_; clear S; intro ac w β S
              refine RG.done rfl (nx_then (wp_ret (rt_then ?_)))
              refine S.r [B false] ?_
              exact ⟨retB (by clear S; first | rfl | (exfalso; omega) | (exfalso; simp_all; done) | (exfalso; simp_all; omega)), S.chg⟩
            · have g63 : ¬ (k54 < 0) := of_decide_eq_false h61
              refine S.q 6 [1, 4, 5, 6, 8, 9, 10, 67] 4 ⟨[(1, .p 0 0), (4, .p 1 0), (5, .v (I ((f_bareAck aB).2.1))), (6, .v (B ((f_bareAck aB).2.2))), (8, .p 3 0), (9, .v (I ((f_bareAck aB).2.1))), (10, .v (B ((f_bareAck aB).2.2))), (67, .v (B (!(decide (((f_bareAck aB).1) = ((f_bareAck aB).1))))))], [GT.cells aB paB, GT.cells ((f_bareAck aB).1) q9, GT.cells y53 q52, GT.cells ((f_bareAck aB).1) q20]⟩ (.cons (Q_call fun w hw => c_laws_eqBare w ((f_bareAck aB).1) q20 (rd_of o22.rn hw) ((f_bareAck aB).1) q9 (rd_of o11.rn hw)) .nil) ?_; clear S; intro ac w β S
              rw [h27] at S
              refine S.q 5 [1, 4, 5, 6, 8, 10, 72] 4 ⟨[(1, .p 0 0), (4, .p 1 0), (5, .v (I ((f_bareAck aB).2.1))), (6, .v (B ((f_bareAck aB).2.2))), (8, .p 3 0), (10, .v (B ((f_bareAck aB).2.2))), (72, .v (B (((f_bareAck aB).2.1) != ((f_bareAck aB).2.1))))], [GT.cells aB paB, GT.cells ((f_bareAck aB).1) q9, GT.cells y53 q52, GT.cells ((f_bareAck aB).1) q20]⟩ .nil ?_; clear S; intro ac w β S
              rw [h32] at S
              refine S.q 4 [1, 4, 5, 6, 8, 76] 4 ⟨[(1, .p 0 0), (4, .p 1 0), (5, .v (I ((f_bareAck aB).2.1))), (6, .v (B ((f_bareAck aB).2.2))), (8, .p 3 0), (76, .v (B (!(((f_bareAck aB).2.2) == ((f_bareAck aB).2.2)))))], [GT.cells aB paB, GT.cells ((f_bareAck aB).1) q9, GT.cells y53 q52, GT.cells ((f_bareAck aB).1) q20]⟩ .nil ?_; clear S; intro ac w β S
              refine RG.done rfl (nx_then ?_)
              refine S.c (!(((f_bareAck aB).2.2) == ((f_bareAck aB).2.2))) (fun h64 => ?_) (fun h64 => ?_)
              · have h65 : (((f_bareAck aB).2.2) == ((f_bareAck aB).2.2)) = false := not_t h64
                have g66 : ¬ (((f_bareAck aB).2.2) = ((f_bareAck aB).2.2)) := ne_of_beq_false h65
                refine wp_seq (RG.start ?_)
                refine S.q 1 [2] 0 ⟨[(2, .v (B false))], []⟩ .nil ?_; clear S; intro ac w β S
                refine RG.done rfl (nx_then (wp_ret (rt_then ?_)))
                refine S.r [B false] ?_
                exact ⟨retB (by clear S; first | rfl | (exfalso; omega) | (exfalso; simp_all; done) | (exfalso; simp_all; omega)), S.chg⟩
              · have h67 : (((f_bareAck aB).2.2) == ((f_bareAck aB).2.2)) = true := not_f h64
                have g68 : ((f_bareAck aB).2.2) = ((f_bareAck aB).2.2) := eq_of_beq h67
                refine wp_skip (nx_then (wp_seq (RG.start ?_)))
                refine S.q 1 [1, 4, 5, 6, 8, 12] 4 ⟨[(1, .p 0 0), (4, .p 1 0), (5, .v (I ((f_bareAck aB).2.1))), (6, .v (B ((f_bareAck aB).2.2))), (8, .p 3 0), (12, .v (I 1))], [GT.cells aB paB, GT.cells ((f_bareAck aB).1) q9, GT.cells y53 q52, GT.cells ((f_bareAck aB).1) q20]⟩ .nil ?_; clear S; intro ac w β S
                refine RG.done rfl (nx_then (wp_seq (RG.start ?_)))
                refine S.q 2 [1, 4, 5, 6, 8, 77, 78] 4 ⟨[(1, .p 0 0), (4, .p 1 0), (5, .v (I ((f_bareAck aB).2.1))), (6, .v (B ((f_bareAck aB).2.2))), (8, .p 3 0), (77, .v (GT.val ((f_bareAck aB).1) q20)), (78, .v (I 1))], [GT.cells aB paB, GT.cells ((f_bareAck aB).1) q9, GT.cells y53 q52, GT.cells ((f_bareAck aB).1) q20]⟩ .nil ?_; clear S; intro ac w β S
                have z77 : SZ.sz ((f_bareAck aB).1) ≤ 87960942804992 := SB.bd (o22.rn)
                refine RG.op rfl (S.callX (hd := hdT_Bare) (d := 79) o22 (c_laws_markBare w ((f_bareAck aB).1) q20 F21 (S.ownw o22) (fun b hb => (S.sep b (o22.sub b hb)).1) 1 (by omega) (by omega)) (by kernel_rfl) rfl ?_)
                clear S; intro ac w N q69 y70 k71 S up o72 c73 x74 b75 b76
                replace o11 := o11.upF d25 up
                replace o55 := o55.upF (Disj.symm (Disj.symm d26)) up
                clear up
                replace S := S.p [1, 4, 5, 6, 8, 78, 79] 4 ⟨[(1, .p 0 0), (4, .p 1 0), (5, .v (I ((f_bareAck aB).2.1))), (6, .v (B ((f_bareAck aB).2.2))), (8, .p 3 0), (78, .v (I 1)), (79, .v (I k71))], [GT.cells aB paB, GT.cells ((f_bareAck aB).1) q9, GT.cells y53 q52, GT.cells ((f_bareAck aB).1) q20]⟩
                have hw0 : GT.cells y70 q69 = GT.cells ((f_bareAck aB).1) q20 := c73
                replace S := S.cast (σ' := ⟨[(1, .p 0 0), (4, .p 1 0), (5, .v (I ((f_bareAck aB).2.1))), (6, .v (B ((f_bareAck aB).2.2))), (8, .p 3 0), (78, .v (I 1)), (79, .v (I k71))], [GT.cells aB paB, GT.cells ((f_bareAck aB).1) q9, GT.cells y53 q52, GT.cells y70 q69]⟩) (by rw [hw0])
                clear hw0
                refine S.q 1 [1, 4, 5, 6, 8, 12] 4 ⟨[(1, .p 0 0), (4, .p 1 0), (5, .v (I ((f_bareAck aB).2.1))), (6, .v (B ((f_bareAck aB).2.2))), (8, .p 3 0), (12, .v (I k71))], [GT.cells aB paB, GT.cells ((f_bareAck aB).1) q9, GT.cells y53 q52, GT.cells y70 q69]⟩ .nil ?_; clear S; intro ac w β S
                refine RG.done rfl (nx_then (wp_seq (RG.start ?_)))
                refine S.q 1 [1, 4, 5, 6, 8, 12, 13] 4 ⟨[(1, .p 0 0), (4, .p 1 0), (5, .v (I ((f_bareAck aB).2.1))), (6, .v (B ((f_bareAck aB).2.2))), (8, .p 3 0), (12, .v (I k71)), (13, .v (I 1))], [GT.cells aB paB, GT.cells ((f_bareAck aB).1) q9, GT.cells y53 q52, GT.cells y70 q69]⟩ .nil ?_; clear S; intro ac w β S
                refine RG.done rfl (nx_then (wp_seq (RG.start ?_)))
                refine S.q 4 [1, 4, 5, 6, 8, 12, 13] 4 ⟨[(1, .p 0 0), (4, .p 1 0), (5, .v (I ((f_bareAck aB).2.1))), (6, .v (B ((f_bareAck aB).2.2))), (8, .p 3 0), (12, .v (I k71)), (13, .v (I (hdT_Bare y70 1)))], [GT.cells aB paB, GT.cells ((f_bareAck aB).1) q9, GT.cells y53 q52, GT.cells y70 q69]⟩ (.cons (Q_call fun w hw => c_laws_heldBare w y70 q69 (rd_of o72.rn hw) 1) .nil) ?_; clear S; intro ac w β S
                refine RG.done rfl (nx_then (wp_seq (wp_seq (RG.start ?_))))
                refine S.q 2 [1, 4, 5, 6, 8, 12, 13, 84] 4 ⟨[(1, .p 0 0), (4, .p 1 0), (5, .v (I ((f_bareAck aB).2.1))), (6, .v (B ((f_bareAck aB).2.2))), (8, .p 3 0), (12, .v (I k71)), (13, .v (I (hdT_Bare y70 1))), (84, .v (B (decide ((hdT_Bare y70 1) < 0))))], [GT.cells aB paB, GT.cells ((f_bareAck aB).1) q9, GT.cells y53 q52, GT.cells y70 q69]⟩ .nil ?_; clear S; intro ac w β S
                refine RG.done rfl (nx_then ?_)
                refine S.c (decide ((hdT_Bare y70 1) < 0)) (fun h78 => ?_) (fun h78 => ?_)
                · have g79 : (hdT_Bare y70 1) < 0 := of_decide_eq_true h78
                  refine wp_seq (RG.start ?_)
                  refine S.q 1 [2] 0 ⟨[(2, .v (B false))], []⟩ .nil ?_; clear S; intro ac w β S
                  refine RG.done rfl (nx_then (wp_ret (rt_then ?_)))
                  refine S.r [B false] ?_
                  exact ⟨retB (by clear S; first | rfl | (exfalso; omega) | (exfalso; simp_all; done) | (exfalso; simp_all; omega)), S.chg⟩
                · have g80 : ¬ ((hdT_Bare y70 1) < 0) := of_decide_eq_false h78
                  refine wp_skip (nx_then (wp_seq (wp_seq (RG.start ?_))))
                  refine S.q 3 [1, 4, 5, 6, 8, 12, 87] 4 ⟨[(1, .p 0 0), (4, .p 1 0), (5, .v (I ((f_bareAck aB).2.1))), (6, .v (B ((f_bareAck aB).2.2))), (8, .p 3 0), (12, .v (I k71)), (87, .v (B ((hdT_Bare y70 1) != k71)))], [GT.cells aB paB, GT.cells ((f_bareAck aB).1) q9, GT.cells y53 q52, GT.cells y70 q69]⟩ .nil ?_; clear S; intro ac w β S
                  refine RG.done rfl (nx_then ?_)
                  refine S.c ((hdT_Bare y70 1) != k71) (fun h81 => ?_) (fun h81 => ?_)
                  · have g82 : ¬ ((hdT_Bare y70 1) = k71) := bne_iff_ne.1 h81
                    refine wp_seq (RG.start ?_)
                    refine S.q 1 [2] 0 ⟨[(2, .v (B false))], []⟩ .nil ?_; clear S; intro ac w β S
                    refine RG.done rfl (nx_then (wp_ret (rt_then ?_)))
                    refine S.r [B false] ?_
                    exact ⟨retB (by clear S; first | rfl | (exfalso; omega) | (exfalso; simp_all; done) | (exfalso; simp_all; omega)), S.chg⟩
                  · have g83 : (hdT_Bare y70 1) = k71 := ne_f h81
                    refine wp_skip (nx_then (wp_seq (RG.start ?_)))
                    refine S.q 1 [4, 5, 6, 8, 12, 89] 4 ⟨[(4, .p 1 0), (5, .v (I ((f_bareAck aB).2.1))), (6, .v (B ((f_bareAck aB).2.2))), (8, .p 3 0), (12, .v (I k71)), (89, .v (GT.val aB paB))], [GT.cells aB paB, GT.cells ((f_bareAck aB).1) q9, GT.cells y53 q52, GT.cells y70 q69]⟩ .nil ?_; clear S; intro ac w β S
                    refine RG.op rfl (S.call1 (r := aB) (d := 90) (c_laws_toBare w aB paB (S.rd (S.arg hkaB))) (by kernel_rfl) rfl ?_)
                    clear S; intro ac w N q84 F85 S up o86 d87
                    have d88 : Disj F10 F85 := fun b x y => d87 b (o11.sub b x) y
                    have d89 : Disj F16 F85 := fun b x y => d87 b (o55.sub b x) y
                    have d90 : Disj F21 F85 := fun b x y => d87 b (o72.sub b x) y
                    replace o11 := o11.up up
                    replace o55 := o55.up up
                    replace o72 := o72.up up
                    clear up d87
                    refine RG.op rfl (S.call3 (r := (f_bareAck aB).1) (r' := (f_bareAck aB).2.1) (r'' := (f_bareAck aB).2.2) (d := 91) (c_impl_BareAck w aB q84 (S.rd o86.rn)) (by kernel_rfl) rfl ?_)
                    clear S; intro ac w N q91 F92 S up o93 d94 i95
                    have d96 : Disj F10 F92 := fun b x y => d94 b (o11.sub b x) y
                    have d97 : Disj F16 F92 := fun b x y => d94 b (o55.sub b x) y
                    have d98 : Disj F21 F92 := fun b x y => d94 b (o72.sub b x) y
                    have d99 : Disj F85 F92 := fun b x y => d94 b (o86.sub b x) y
                    replace o11 := o11.up up
                    replace o55 := o55.up up
                    replace o72 := o72.up up
                    replace o86 := o86.up up
                    clear up d94
                    refine S.q 8 [4, 5, 6, 8, 12, 14, 15, 16] 5 ⟨[(4, .p 1 0), (5, .v (I ((f_bareAck aB).2.1))), (6, .v (B ((f_bareAck aB).2.2))), (8, .p 3 0), (12, .v (I k71)), (14, .p 4 0), (15, .v (I ((f_bareAck aB).2.1))), (16, .v (B ((f_bareAck aB).2.2)))], [GT.cells aB paB, GT.cells ((f_bareAck aB).1) q9, GT.cells y53 q52, GT.cells y70 q69, GT.cells ((f_bareAck aB).1) q91]⟩ .nil ?_; clear S; intro ac w β S
                    refine RG.done rfl (nx_then (wp_seq (wp_seq (RG.start ?_))))
                    refine S.q 5 [5, 6, 8, 12, 15, 16, 99] 4 ⟨[(5, .v (I ((f_bareAck aB).2.1))), (6, .v (B ((f_bareAck aB).2.2))), (8, .p 3 0), (12, .v (I k71)), (15, .v (I ((f_bareAck aB).2.1))), (16, .v (B ((f_bareAck aB).2.2))), (99, .v (B (!(decide (((f_bareAck aB).1) = ((f_bareAck aB).1))))))], [GT.cells aB paB, GT.cells ((f_bareAck aB).1) q9, GT.cells y53 q52, GT.cells y70 q69]⟩ (.cons (Q_call fun w hw => c_laws_eqBare w ((f_bareAck aB).1) q91 (rd_of o93.rn hw) ((f_bareAck aB).1) q9 (rd_of o11.rn hw)) .nil) ?_; clear S; intro ac w β S
                    rw [h27] at S
                    refine S.q 5 [6, 8, 12, 16, 104] 4 ⟨[(6, .v (B ((f_bareAck aB).2.2))), (8, .p 3 0), (12, .v (I k71)), (16, .v (B ((f_bareAck aB).2.2))), (104, .v (B (((f_bareAck aB).2.1) != ((f_bareAck aB).2.1))))], [GT.cells aB paB, GT.cells ((f_bareAck aB).1) q9, GT.cells y53 q52, GT.cells y70 q69]⟩ .nil ?_; clear S; intro ac w β S
                    rw [h32] at S
                    refine S.q 4 [8, 12, 108] 4 ⟨[(8, .p 3 0), (12, .v (I k71)), (108, .v (B (!(((f_bareAck aB).2.2) == ((f_bareAck aB).2.2)))))], [GT.cells aB paB, GT.cells ((f_bareAck aB).1) q9, GT.cells y53 q52, GT.cells y70 q69]⟩ .nil ?_; clear S; intro ac w β S
                    refine RG.done rfl (nx_then ?_)
                    refine S.c (!(((f_bareAck aB).2.2) == ((f_bareAck aB).2.2))) (fun h100 => ?_) (fun h100 => ?_)
                    · have h101 : (((f_bareAck aB).2.2) == ((f_bareAck aB).2.2)) = false := not_t h100
                      have g102 : ¬ (((f_bareAck aB).2.2) = ((f_bareAck aB).2.2)) := ne_of_beq_false h101
                      refine wp_seq (RG.start ?_)
                      refine S.q 1 [2] 0 ⟨[(2, .v (B false))], []⟩ .nil ?_; clear S; intro ac w β S
                      refine RG.done rfl (nx_then (wp_ret (rt_then ?_)))
                      refine S.r [B false] ?_
                      exact ⟨retB (by clear S; first | rfl | (exfalso; omega) | (exfalso; simp_all; done) | (exfalso; simp_all; omega)), S.chg⟩
                    · have h103 : (((f_bareAck aB).2.2) == ((f_bareAck aB).2.2)) = true := not_f h100
                      have g104 : ((f_bareAck aB).2.2) = ((f_bareAck aB).2.2) := eq_of_beq h103
                      refine wp_skip (nx_then (wp_seq (RG.start ?_)))
                      refine S.q 1 [8, 12, 13] 4 ⟨[(8, .p 3 0), (12, .v (I k71)), (13, .v (I 1))], [GT.cells aB paB, GT.cells ((f_bareAck aB).1) q9, GT.cells y53 q52, GT.cells y70 q69]⟩ .nil ?_; clear S; intro ac w β S
                      refine RG.done rfl (nx_then (wp_seq (RG.start ?_)))
                      refine S.q 4 [12, 13] 0 ⟨[(12, .v (I k71)), (13, .v (I (hdT_Bare y70 1)))], []⟩ (.cons (Q_call fun w hw => c_laws_heldBare w y70 q69 (rd_of o72.rn hw) 1) .nil) ?_; clear S; intro ac w β S
                      refine RG.done rfl (nx_then (wp_seq (wp_seq (RG.start ?_))))
                      refine S.q 2 [12, 13, 113] 0 ⟨[(12, .v (I k71)), (13, .v (I (hdT_Bare y70 1))), (113, .v (B (decide ((hdT_Bare y70 1) < 0))))], []⟩ .nil ?_; clear S; intro ac w β S
                      refine RG.done rfl (nx_then ?_)
                      refine S.c (decide ((hdT_Bare y70 1) < 0)) (fun h105 => ?_) (fun h105 => ?_)
                      · have g106 : (hdT_Bare y70 1) < 0 := of_decide_eq_true h105
                        refine wp_seq (RG.start ?_)
                        refine S.q 1 [2] 0 ⟨[(2, .v (B false))], []⟩ .nil ?_; clear S; intro ac w β S
                        refine RG.done rfl (nx_then (wp_ret (rt_then ?_)))
                        refine S.r [B false] ?_
                        exact ⟨retB (by clear S; first | rfl | (exfalso; omega) | (exfalso; simp_all; done) | (exfalso; simp_all; omega)), S.chg⟩
                      · have g107 : ¬ ((hdT_Bare y70 1) < 0) := of_decide_eq_false h105
                        refine wp_skip (nx_then (wp_seq (wp_seq (RG.start ?_))))
                        refine S.q 3 [116] 0 ⟨[(116, .v (B ((hdT_Bare y70 1) != k71)))], []⟩ .nil ?_; clear S; intro ac w β S
                        refine RG.done rfl (nx_then ?_)
                        refine S.c ((hdT_Bare y70 1) != k71) (fun h108 => ?_) (fun h108 => ?_)
                        · have g109 : ¬ ((hdT_Bare y70 1) = k71) := bne_iff_ne.1 h108
                          refine wp_seq (RG.start ?_)
                          refine S.q 1 [2] 0 ⟨[(2, .v (B false))], []⟩ .nil ?_; clear S; intro ac w β S
                          refine RG.done rfl (nx_then (wp_ret (rt_then ?_)))
                          refine S.r [B false] ?_
                          exact ⟨retB (by clear S; first | rfl | (exfalso; omega) | (exfalso; simp_all; done) | (exfalso; simp_all; omega)), S.chg⟩
                        · have g110 : (hdT_Bare y70 1) = k71 := ne_f h108
                          refine wp_skip (nx_then (wp_seq (RG.start ?_)))
                          refine S.q 1 [2] 0 ⟨[(2, .v (B true))], []⟩ .nil ?_; clear S; intro ac w β S
                          refine RG.done rfl (nx_then (wp_ret ?_))
                          refine S.r [B true] ?_
                          exact ⟨retB (by clear S; first | rfl | (exfalso; omega) | (exfalso; simp_all; done) | (exfalso; simp_all; omega)), S.chg⟩

end Go.Proofs.Ytpjhamcanhnfjaa
