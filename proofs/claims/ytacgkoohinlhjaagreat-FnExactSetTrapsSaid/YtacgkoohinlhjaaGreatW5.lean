/- The walks: what each function that the laws reach computes (part 5). -/
import Derived.Test.YtacgkoohinlhjaaGreatW4
import Derived.Test.YtacgkoohinlhjaaGreatProg
import Derived.KernelRfl
namespace Go.Proofs.YtacgkoohinlhjaaGreat
open Go
set_option linter.unusedVariables false
set_option linter.unusedSimpArgs false

set_option maxRecDepth 100000 in
theorem c_laws_markGuestS (w0 : World) (a : List TGuest) (pa : LP TGuest) (F : Bl) (ha : GT.own KK F w0 a pa) (hF : ∀ b, F b → b < w0.heap.size) (k : Int) (pre0 : 0 ≤ k) (pre1 : k + 16 * (SZ.sz a : Int) ≤ 4611686018427387904) : Calls Tryz.prog 65 [slv (a).length pa.1, I k].toArray w0 (RetX hdl F w0 pa a k) := by
  refine Calls.walk (args := [slv (a).length pa.1, I k]) F Tryz.func65 rfl rfl ?_
  intro ac β S
  have oa : Ow w0 F w0 (Lt w0.heap.size) F a pa := ⟨ha, hF, fun b hb => .inr hb⟩
  have hz := sz_list a
  have hlea : a.length ≤ 4194304 := LOwn.le ha
  refine wp_seq (RG.start ?_)
  refine S.q 1 [0, 1] 0 ⟨[(0, .v (slv (a).length pa.1)), (1, .v (I k))], []⟩ .nil ?_; clear S; intro ac w β S
  refine RG.done rfl (nx_then (wp_seq (wp_seq (RG.start ?_))))
  refine S.q 1 [0, 1, 5] 0 ⟨[(0, .v (slv (a).length pa.1)), (1, .v (I k)), (5, .v (I 0))], []⟩ .nil ?_; clear S; intro ac w β S
  refine RG.done rfl (nx_then (wp_block ?_))
  replace S := S.p [0, 1, 5] 0 ⟨[(0, .v (slv (a).length pa.1)), (1, .v (I k)), (5, .v (I 0))], []⟩
  refine wp_loop_down (fun mm ac w => ∃ (i : Nat) (acc : List TGuest) (j : Int) (q1 : GT.Ptr (List TGuest)) (F2 : Bl) (u : World) (N : Bl) (β : Nat → Nat), mm = a.length - i ∧ (i ≤ a.length) ∧ (acc.length = a.length) ∧ (∀ f, hdlc (acc.take i) k f = f j) ∧ (acc.drop i = a.drop i) ∧ (k ≤ j) ∧ (j ≤ k + 16 * ((i : Int) + (szsum (a.take i) : Nat))) ∧ St Tryz.prog Tryz.f65.ntmps w0 F u N β ⟨[(0, .v (slv a.length q1.1)), (1, .v (I j)), (5, .v (I (i : Int)))], []⟩ ac w ∧ Ow w0 F u N F2 acc q1 ∧ q1.1 = pa.1 ∧ (∀ b, F2 b → F b)) _ ⟨0, a, k, pa, F, _, _, _, rfl, (by first | omega | (simp; done) | (simp; omega)), (by rfl), (by intro f; rfl), (by rfl), (by first | omega | (simp; done) | (simp; omega)), (by simp [szsum_nil]), S.cast (by kernel_rfl), oa, rfl, (fun _ h => h)⟩ ?_
  clear S oa
  rintro mm ac w ⟨i, acc, j, q1, F2, u, N, β, rfl, hi, hl, hM, hD, hj0, hj1, S, o3, hq, hs⟩
  have hel := el_of_drop hD
  have hsl := szsum_take_le a i
  refine wp_seq (wp_seq (RG.start ?_))
  refine S.q 4 [0, 1, 5, 9] 0 ⟨[(0, .v (slv a.length q1.1)), (1, .v (I j)), (5, .v (I (i : Int))), (9, .v (B (decide ((i : Int) < (a.length : Int)))))], []⟩ .nil ?_; clear S; intro ac w β S
  refine RG.done rfl (nx_then ?_)
  refine S.c (decide ((i : Int) < (a.length : Int))) (fun h4 => ?_) (fun h4 => ?_)
  · have g5 : (i : Int) < (a.length : Int) := of_decide_eq_true h4
    refine wp_skip (nx_then (wp_seq (wp_block (wp_seq (RG.start ?_)))))
    refine S.q 6 [0, 5, 16, 17] 0 ⟨[(0, .v (slv a.length q1.1)), (5, .v (I (i : Int))), (16, .v (slv ((el acc i).prog).length ((q1.2 i).prog).1)), (17, .v (I j))], []⟩ (.cons (Q_idx o3.rn (l := a.length) (k := i) (i := (i : Int)) (by omega) rfl (by omega) Tryz.underlying52 (by kernel_rfl)) (.cons (Q_cell o3.rn (t := 104) (k := i) (j := 0) (v := slv ((el acc i).prog).length ((q1.2 i).prog).1) (by omega) (by kernel_rfl) (by kernel_rfl)) .nil)) ?_; clear S; intro ac w β S
    obtain ⟨F6, o7, s8, b9⟩ := foc_Guest_prog o3 (k := i) (show i < (acc).length by omega)
    have z10 := szsum_take (xs := a) (k := i) (by omega)
    have z11 := szsum_take_le a (i + 1)
    have z12 := sz_Guest (el a i)
    have e13 : (el acc i).prog = (el a i).prog := by simp only [hel]
    refine RG.op rfl (S.callX (hd := hdl) (d := 18) o7 (c_laws_markInsS w ((el acc i).prog) ((q1.2 i).prog) F6 (S.ownw o7) (fun b hb => (S.sep b (o7.sub b hb)).1) j (by omega) (by rw [e13]; omega)) (by kernel_rfl) rfl ?_)
    clear S; intro ac w N q14 y15 k16 S up o17 c18 x19 b20 b21
    rw [e13] at b21
    obtain ⟨p22, o23⟩ := b9 _ _ _ _ up o17 c18
    clear up o3 o7 s8 b9 o17 c18
    obtain ⟨a24, e25⟩ : ∃ z, z = (acc).set i ({ el acc i with prog := y15 }) := ⟨_, rfl⟩
    rw [← e25] at o23
    have l26 : a24.length = (acc).length := by rw [e25]; exact List.length_set
    have e27 : el a24 i = { el acc i with prog := y15 } := by rw [e25]; exact el_set_self (show i < (acc).length by omega)
    have t28 : a24.take i = (acc).take i := by rw [e25]; exact take_set_self
    have d29 : a24.drop (i + 1) = (acc).drop (i + 1) := by rw [e25]; exact drop_set_self
    clear e25
    refine S.q 1 [0, 1, 5] 0 ⟨[(0, .v (slv a.length q1.1)), (1, .v (I k16)), (5, .v (I (i : Int)))], []⟩ .nil ?_; clear S; intro ac w β S
    refine RG.done rfl (nx_then (wp_seq (RG.start ?_)))
    refine S.q 5 [0, 1, 5, 21, 23] 0 ⟨[(0, .v (slv a.length q1.1)), (1, .v (I k16)), (5, .v (I (i : Int))), (21, .v (I k16)), (23, .v (pt q1.1.b (q1.1.off + i * 15 + 1)))], []⟩ (.cons (Q_idx o23.rn (l := a.length) (k := i) (i := (i : Int)) (by omega) rfl (by omega) Tryz.underlying52 (by kernel_rfl)) .nil) ?_; clear S; intro ac w β S
    refine RG.op rfl (S.setEl (α := TGuest) o23 (t := 3) (v := I k16) (k := i) (j := 1) (off := q1.1.off + i * 15 + 1) (y := ({ el a24 i with acc := k16 } : TGuest)) (q := ((q1.1, p22).2 i)) (Fy := NoB) (by kernel_rfl) (by kernel_rfl) (by omega) (by kernel_rfl) (by kernel_rfl) (Nat.le_of_ble_eq_true (by kernel_rfl)) (by kernel_rfl) (fun G g _ => ⟨G, ows_Guest_acc g (⟨by omega, by omega⟩), fun _ h => .inl h⟩) (fun b _ h => False.elim h) (fun b h => False.elim h) (fun b h => False.elim h) ?_)
    clear S; intro w N F31 q32 S up o30 d33 s34
    have s35 : ∀ b, F31 b → F b := fun b h => (s34 b h).elim (hs b) (fun h => False.elim h)
    clear up d33 o23
    obtain ⟨a36, e37⟩ : ∃ z, z = (a24).set i ({ el a24 i with acc := k16 }) := ⟨_, rfl⟩
    rw [← e37] at o30
    have l38 : a36.length = (a24).length := by rw [e37]; exact List.length_set
    have e39 : el a36 i = { el a24 i with acc := k16 } := by rw [e37]; exact el_set_self (show i < (a24).length by omega)
    have t40 : a36.take i = (a24).take i := by rw [e37]; exact take_set_self
    have d41 : a36.drop (i + 1) = (a24).drop (i + 1) := by rw [e37]; exact drop_set_self
    clear e37
    replace S := S.p [0, 1, 5] 0 ⟨[(0, .v (slv a.length q1.1)), (1, .v (I k16)), (5, .v (I (i : Int)))], []⟩
    refine RG.done rfl (nx_then (wp_seq (RG.start ?_)))
    refine S.q 3 [0, 1, 5] 0 ⟨[(0, .v (slv a.length q1.1)), (1, .v (I (k16 + 1))), (5, .v (I (i : Int)))], []⟩ (.cons (Q_add (x := k16) (y := 1) ⟨by omega, by omega⟩) .nil) ?_; clear S; intro ac w β S
    refine RG.done rfl (nx_then (wp_seq (RG.start ?_)))
    refine S.q 5 [0, 1, 5, 28, 30] 0 ⟨[(0, .v (slv a.length q1.1)), (1, .v (I (k16 + 1))), (5, .v (I (i : Int))), (28, .v (I (k16 + 1))), (30, .v (pt q1.1.b (q1.1.off + i * 15 + 2)))], []⟩ (.cons (Q_idx o30.rn (l := a.length) (k := i) (i := (i : Int)) (by omega) rfl (by omega) Tryz.underlying52 (by kernel_rfl)) .nil) ?_; clear S; intro ac w β S
    refine RG.op rfl (S.setEl (α := TGuest) o30 (t := 3) (v := I (k16 + 1)) (k := i) (j := 2) (off := q1.1.off + i * 15 + 2) (y := ({ el a36 i with pc := (k16 + 1) } : TGuest)) (q := ((q1.1, q32).2 i)) (Fy := NoB) (by kernel_rfl) (by kernel_rfl) (by omega) (by kernel_rfl) (by kernel_rfl) (Nat.le_of_ble_eq_true (by kernel_rfl)) (by kernel_rfl) (fun G g _ => ⟨G, ows_Guest_pc g (⟨by omega, by omega⟩), fun _ h => .inl h⟩) (fun b _ h => False.elim h) (fun b h => False.elim h) (fun b h => False.elim h) ?_)
    clear S; intro w N F43 q44 S up o42 d45 s46
    have s47 : ∀ b, F43 b → F b := fun b h => (s46 b h).elim (s35 b) (fun h => False.elim h)
    clear up d45 o30
    obtain ⟨a48, e49⟩ : ∃ z, z = (a36).set i ({ el a36 i with pc := (k16 + 1) }) := ⟨_, rfl⟩
    rw [← e49] at o42
    have l50 : a48.length = (a36).length := by rw [e49]; exact List.length_set
    have e51 : el a48 i = { el a36 i with pc := (k16 + 1) } := by rw [e49]; exact el_set_self (show i < (a36).length by omega)
    have t52 : a48.take i = (a36).take i := by rw [e49]; exact take_set_self
    have d53 : a48.drop (i + 1) = (a36).drop (i + 1) := by rw [e49]; exact drop_set_self
    clear e49
    replace S := S.p [0, 1, 5] 0 ⟨[(0, .v (slv a.length q1.1)), (1, .v (I (k16 + 1))), (5, .v (I (i : Int)))], []⟩
    refine RG.done rfl (nx_then (wp_seq (RG.start ?_)))
    refine S.q 3 [0, 1, 5] 0 ⟨[(0, .v (slv a.length q1.1)), (1, .v (I ((k16 + 1) + 1))), (5, .v (I (i : Int)))], []⟩ (.cons (Q_add (x := (k16 + 1)) (y := 1) ⟨by omega, by omega⟩) .nil) ?_; clear S; intro ac w β S
    refine RG.done rfl (nx_then (wp_seq (RG.start ?_)))
    refine S.q 6 [0, 5, 37, 38] 0 ⟨[(0, .v (slv a.length q1.1)), (5, .v (I (i : Int))), (37, .v (slv ((el a48 i).written).length (((q1.1, q44).2 i).written).1)), (38, .v (I ((k16 + 1) + 1)))], []⟩ (.cons (Q_idx o42.rn (l := a.length) (k := i) (i := (i : Int)) (by omega) rfl (by omega) Tryz.underlying52 (by kernel_rfl)) (.cons (Q_cell o42.rn (t := 50) (k := i) (j := 3) (v := slv ((el a48 i).written).length (((q1.1, q44).2 i).written).1) (by omega) (by kernel_rfl) (by kernel_rfl)) .nil)) ?_; clear S; intro ac w β S
    obtain ⟨F54, o55, s56, b57⟩ := foc_Guest_written o42 (k := i) (show i < (a48).length by omega)
    have z58 := szsum_take (xs := a) (k := i) (by omega)
    have z59 := szsum_take_le a (i + 1)
    have z60 := sz_Guest (el a i)
    have e61 : (el a48 i).written = (el a i).written := by simp only [e51, e39, e27, hel]
    refine RG.op rfl (S.callX (hd := hdl) (d := 39) o55 (c_laws_markSlotS w ((el a48 i).written) (((q1.1, q44).2 i).written) F54 (S.ownw o55) (fun b hb => (S.sep b (o55.sub b hb)).1) ((k16 + 1) + 1) (by omega) (by rw [e61]; omega)) (by kernel_rfl) rfl ?_)
    clear S; intro ac w N q62 y63 k64 S up o65 c66 x67 b68 b69
    rw [e61] at b69
    obtain ⟨p70, o71⟩ := b57 _ _ _ _ up o65 c66
    clear up o42 o55 s56 b57 o65 c66
    obtain ⟨a72, e73⟩ : ∃ z, z = (a48).set i ({ el a48 i with written := y63 }) := ⟨_, rfl⟩
    rw [← e73] at o71
    have l74 : a72.length = (a48).length := by rw [e73]; exact List.length_set
    have e75 : el a72 i = { el a48 i with written := y63 } := by rw [e73]; exact el_set_self (show i < (a48).length by omega)
    have t76 : a72.take i = (a48).take i := by rw [e73]; exact take_set_self
    have d77 : a72.drop (i + 1) = (a48).drop (i + 1) := by rw [e73]; exact drop_set_self
    clear e73
    refine S.q 1 [0, 1, 5] 0 ⟨[(0, .v (slv a.length q1.1)), (1, .v (I k64)), (5, .v (I (i : Int)))], []⟩ .nil ?_; clear S; intro ac w β S
    refine RG.done rfl (nx_then (wp_seq (RG.start ?_)))
    refine S.q 6 [0, 5, 44, 45] 0 ⟨[(0, .v (slv a.length q1.1)), (5, .v (I (i : Int))), (44, .v (slv ((el a72 i).live).length (((q1.1, p70).2 i).live).1)), (45, .v (I k64))], []⟩ (.cons (Q_idx o71.rn (l := a.length) (k := i) (i := (i : Int)) (by omega) rfl (by omega) Tryz.underlying52 (by kernel_rfl)) (.cons (Q_cell o71.rn (t := 50) (k := i) (j := 4) (v := slv ((el a72 i).live).length (((q1.1, p70).2 i).live).1) (by omega) (by kernel_rfl) (by kernel_rfl)) .nil)) ?_; clear S; intro ac w β S
    obtain ⟨F78, o79, s80, b81⟩ := foc_Guest_live o71 (k := i) (show i < (a72).length by omega)
    have z82 := szsum_take (xs := a) (k := i) (by omega)
    have z83 := szsum_take_le a (i + 1)
    have z84 := sz_Guest (el a i)
    have e85 : (el a72 i).live = (el a i).live := by simp only [e75, e51, e39, e27, hel]
    refine RG.op rfl (S.callX (hd := hdl) (d := 46) o79 (c_laws_markSlotS w ((el a72 i).live) (((q1.1, p70).2 i).live) F78 (S.ownw o79) (fun b hb => (S.sep b (o79.sub b hb)).1) k64 (by omega) (by rw [e85]; omega)) (by kernel_rfl) rfl ?_)
    clear S; intro ac w N q86 y87 k88 S up o89 c90 x91 b92 b93
    rw [e85] at b93
    obtain ⟨p94, o95⟩ := b81 _ _ _ _ up o89 c90
    clear up o71 o79 s80 b81 o89 c90
    obtain ⟨a96, e97⟩ : ∃ z, z = (a72).set i ({ el a72 i with live := y87 }) := ⟨_, rfl⟩
    rw [← e97] at o95
    have l98 : a96.length = (a72).length := by rw [e97]; exact List.length_set
    have e99 : el a96 i = { el a72 i with live := y87 } := by rw [e97]; exact el_set_self (show i < (a72).length by omega)
    have t100 : a96.take i = (a72).take i := by rw [e97]; exact take_set_self
    have d101 : a96.drop (i + 1) = (a72).drop (i + 1) := by rw [e97]; exact drop_set_self
    clear e97
    refine S.q 1 [0, 1, 5] 0 ⟨[(0, .v (slv a.length q1.1)), (1, .v (I k88)), (5, .v (I (i : Int)))], []⟩ .nil ?_; clear S; intro ac w β S
    refine RG.done rfl (nx_then (wp_seq (RG.start ?_)))
    refine S.q 6 [0, 1, 5, 49, 52] 0 ⟨[(0, .v (slv a.length q1.1)), (1, .v (I k88)), (5, .v (I (i : Int))), (49, .v (I k88)), (52, .v (pt q1.1.b (q1.1.off + i * 15 + 5)))], []⟩ (.cons (Q_idx o95.rn (l := a.length) (k := i) (i := (i : Int)) (by omega) rfl (by omega) Tryz.underlying52 (by kernel_rfl)) .nil) ?_; clear S; intro ac w β S
    refine RG.op rfl (S.setEl (α := TGuest) o95 (t := 3) (v := I k88) (k := i) (j := 5) (off := q1.1.off + i * 15 + 5) (y := ({ el a96 i with ctl := (⟨k88, ((el a96 i).ctl).post, ((el a96 i).ctl).opn⟩ : TCtl) } : TGuest)) (q := ((q1.1, p94).2 i)) (Fy := NoB) (by kernel_rfl) (by kernel_rfl) (by omega) (by kernel_rfl) (by kernel_rfl) (Nat.le_of_ble_eq_true (by kernel_rfl)) (by kernel_rfl) (fun G g _ => ⟨G, ows_Guest_ctl g ((show RCtl (⟨k88, ((el a96 i).ctl).post, ((el a96 i).ctl).opn⟩ : TCtl) from ⟨(show In64 k88 from ⟨by omega, by omega⟩), (RCtl.post (d := (el a96 i).ctl) (RGuest.ctl (d := (el a96 i)) (LRd.el o95.rn i (by omega))))⟩)), fun _ h => .inl h⟩) (fun b _ h => False.elim h) (fun b h => False.elim h) (fun b h => False.elim h) ?_)
    clear S; intro w N F103 q104 S up o102 d105 s106
    have s107 : ∀ b, F103 b → F b := fun b h => (s106 b h).elim (s47 b) (fun h => False.elim h)
    clear up d105 o95
    obtain ⟨a108, e109⟩ : ∃ z, z = (a96).set i ({ el a96 i with ctl := (⟨k88, ((el a96 i).ctl).post, ((el a96 i).ctl).opn⟩ : TCtl) }) := ⟨_, rfl⟩
    rw [← e109] at o102
    have l110 : a108.length = (a96).length := by rw [e109]; exact List.length_set
    have e111 : el a108 i = { el a96 i with ctl := (⟨k88, ((el a96 i).ctl).post, ((el a96 i).ctl).opn⟩ : TCtl) } := by rw [e109]; exact el_set_self (show i < (a96).length by omega)
    have t112 : a108.take i = (a96).take i := by rw [e109]; exact take_set_self
    have d113 : a108.drop (i + 1) = (a96).drop (i + 1) := by rw [e109]; exact drop_set_self
    clear e109
    replace S := S.p [0, 1, 5] 0 ⟨[(0, .v (slv a.length q1.1)), (1, .v (I k88)), (5, .v (I (i : Int)))], []⟩
    refine RG.done rfl (nx_then (wp_seq (RG.start ?_)))
    refine S.q 3 [0, 1, 5] 0 ⟨[(0, .v (slv a.length q1.1)), (1, .v (I (k88 + 1))), (5, .v (I (i : Int)))], []⟩ (.cons (Q_add (x := k88) (y := 1) ⟨by omega, by omega⟩) .nil) ?_; clear S; intro ac w β S
    refine RG.done rfl (nx_then (wp_seq (RG.start ?_)))
    refine S.q 6 [0, 1, 5, 57, 60] 0 ⟨[(0, .v (slv a.length q1.1)), (1, .v (I (k88 + 1))), (5, .v (I (i : Int))), (57, .v (I (k88 + 1))), (60, .v (pt q1.1.b (q1.1.off + i * 15 + 6)))], []⟩ (.cons (Q_idx o102.rn (l := a.length) (k := i) (i := (i : Int)) (by omega) rfl (by omega) Tryz.underlying52 (by kernel_rfl)) .nil) ?_; clear S; intro ac w β S
    refine RG.op rfl (S.setEl (α := TGuest) o102 (t := 3) (v := I (k88 + 1)) (k := i) (j := 6) (off := q1.1.off + i * 15 + 6) (y := ({ el a108 i with ctl := (⟨((el a108 i).ctl).traps, (k88 + 1), ((el a108 i).ctl).opn⟩ : TCtl) } : TGuest)) (q := ((q1.1, q104).2 i)) (Fy := NoB) (by kernel_rfl) (by kernel_rfl) (by omega) (by kernel_rfl) (by kernel_rfl) (Nat.le_of_ble_eq_true (by kernel_rfl)) (by kernel_rfl) (fun G g _ => ⟨G, ows_Guest_ctl g ((show RCtl (⟨((el a108 i).ctl).traps, (k88 + 1), ((el a108 i).ctl).opn⟩ : TCtl) from ⟨(RCtl.traps (d := (el a108 i).ctl) (RGuest.ctl (d := (el a108 i)) (LRd.el o102.rn i (by omega)))), (show In64 (k88 + 1) from ⟨by omega, by omega⟩)⟩)), fun _ h => .inl h⟩) (fun b _ h => False.elim h) (fun b h => False.elim h) (fun b h => False.elim h) ?_)
    clear S; intro w N F115 q116 S up o114 d117 s118
    have s119 : ∀ b, F115 b → F b := fun b h => (s118 b h).elim (s107 b) (fun h => False.elim h)
    clear up d117 o102
    obtain ⟨a120, e121⟩ : ∃ z, z = (a108).set i ({ el a108 i with ctl := (⟨((el a108 i).ctl).traps, (k88 + 1), ((el a108 i).ctl).opn⟩ : TCtl) }) := ⟨_, rfl⟩
    rw [← e121] at o114
    have l122 : a120.length = (a108).length := by rw [e121]; exact List.length_set
    have e123 : el a120 i = { el a108 i with ctl := (⟨((el a108 i).ctl).traps, (k88 + 1), ((el a108 i).ctl).opn⟩ : TCtl) } := by rw [e121]; exact el_set_self (show i < (a108).length by omega)
    have t124 : a120.take i = (a108).take i := by rw [e121]; exact take_set_self
    have d125 : a120.drop (i + 1) = (a108).drop (i + 1) := by rw [e121]; exact drop_set_self
    clear e121
    replace S := S.p [0, 1, 5] 0 ⟨[(0, .v (slv a.length q1.1)), (1, .v (I (k88 + 1))), (5, .v (I (i : Int)))], []⟩
    refine RG.done rfl (nx_then (wp_seq (RG.start ?_)))
    refine S.q 3 [0, 1, 5] 0 ⟨[(0, .v (slv a.length q1.1)), (1, .v (I ((k88 + 1) + 1))), (5, .v (I (i : Int)))], []⟩ (.cons (Q_add (x := (k88 + 1)) (y := 1) ⟨by omega, by omega⟩) .nil) ?_; clear S; intro ac w β S
    refine RG.done rfl (nx_then (wp_seq (RG.start ?_)))
    refine S.q 8 [0, 1, 5, 67, 70] 0 ⟨[(0, .v (slv a.length q1.1)), (1, .v (I ((k88 + 1) + 1))), (5, .v (I (i : Int))), (67, .v (B ((Int.tmod ((k88 + 1) + 1) 3) == 0))), (70, .v (pt q1.1.b (q1.1.off + i * 15 + 7)))], []⟩ (.cons (Q_rem (x := ((k88 + 1) + 1)) (y := 3) (by decide)) (.cons (Q_idx o114.rn (l := a.length) (k := i) (i := (i : Int)) (by omega) rfl (by omega) Tryz.underlying52 (by kernel_rfl)) .nil)) ?_; clear S; intro ac w β S
    refine RG.op rfl (S.setEl (α := TGuest) o114 (t := 4) (v := B ((Int.tmod ((k88 + 1) + 1) 3) == 0)) (k := i) (j := 7) (off := q1.1.off + i * 15 + 7) (y := ({ el a120 i with ctl := (⟨((el a120 i).ctl).traps, ((el a120 i).ctl).post, ((Int.tmod ((k88 + 1) + 1) 3) == 0)⟩ : TCtl) } : TGuest)) (q := ((q1.1, q116).2 i)) (Fy := NoB) (by kernel_rfl) (by kernel_rfl) (by omega) (by kernel_rfl) (by kernel_rfl) (Nat.le_of_ble_eq_true (by kernel_rfl)) (by kernel_rfl) (fun G g _ => ⟨G, ows_Guest_ctl g ((show RCtl (⟨((el a120 i).ctl).traps, ((el a120 i).ctl).post, ((Int.tmod ((k88 + 1) + 1) 3) == 0)⟩ : TCtl) from ⟨(RCtl.traps (d := (el a120 i).ctl) (RGuest.ctl (d := (el a120 i)) (LRd.el o114.rn i (by omega)))), (RCtl.post (d := (el a120 i).ctl) (RGuest.ctl (d := (el a120 i)) (LRd.el o114.rn i (by omega))))⟩)), fun _ h => .inl h⟩) (fun b _ h => False.elim h) (fun b h => False.elim h) (fun b h => False.elim h) ?_)
    clear S; intro w N F127 q128 S up o126 d129 s130
    have s131 : ∀ b, F127 b → F b := fun b h => (s130 b h).elim (s119 b) (fun h => False.elim h)
    clear up d129 o114
    obtain ⟨a132, e133⟩ : ∃ z, z = (a120).set i ({ el a120 i with ctl := (⟨((el a120 i).ctl).traps, ((el a120 i).ctl).post, ((Int.tmod ((k88 + 1) + 1) 3) == 0)⟩ : TCtl) }) := ⟨_, rfl⟩
    rw [← e133] at o126
    have l134 : a132.length = (a120).length := by rw [e133]; exact List.length_set
    have e135 : el a132 i = { el a120 i with ctl := (⟨((el a120 i).ctl).traps, ((el a120 i).ctl).post, ((Int.tmod ((k88 + 1) + 1) 3) == 0)⟩ : TCtl) } := by rw [e133]; exact el_set_self (show i < (a120).length by omega)
    have t136 : a132.take i = (a120).take i := by rw [e133]; exact take_set_self
    have d137 : a132.drop (i + 1) = (a120).drop (i + 1) := by rw [e133]; exact drop_set_self
    clear e133
    replace S := S.p [0, 1, 5] 0 ⟨[(0, .v (slv a.length q1.1)), (1, .v (I ((k88 + 1) + 1))), (5, .v (I (i : Int)))], []⟩
    refine RG.done rfl (nx_then (wp_seq (RG.start ?_)))
    refine S.q 3 [0, 1, 5] 0 ⟨[(0, .v (slv a.length q1.1)), (1, .v (I (((k88 + 1) + 1) + 1))), (5, .v (I (i : Int)))], []⟩ (.cons (Q_add (x := ((k88 + 1) + 1)) (y := 1) ⟨by omega, by omega⟩) .nil) ?_; clear S; intro ac w β S
    refine RG.done rfl (nx_then (wp_seq (RG.start ?_)))
    refine S.q 5 [0, 1, 5, 75, 77] 0 ⟨[(0, .v (slv a.length q1.1)), (1, .v (I (((k88 + 1) + 1) + 1))), (5, .v (I (i : Int))), (75, .v (I (((k88 + 1) + 1) + 1))), (77, .v (pt q1.1.b (q1.1.off + i * 15 + 8)))], []⟩ (.cons (Q_idx o126.rn (l := a.length) (k := i) (i := (i : Int)) (by omega) rfl (by omega) Tryz.underlying52 (by kernel_rfl)) .nil) ?_; clear S; intro ac w β S
    refine RG.op rfl (S.setEl (α := TGuest) o126 (t := 3) (v := I (((k88 + 1) + 1) + 1)) (k := i) (j := 8) (off := q1.1.off + i * 15 + 8) (y := ({ el a132 i with pend := (((k88 + 1) + 1) + 1) } : TGuest)) (q := ((q1.1, q128).2 i)) (Fy := NoB) (by kernel_rfl) (by kernel_rfl) (by omega) (by kernel_rfl) (by kernel_rfl) (Nat.le_of_ble_eq_true (by kernel_rfl)) (by kernel_rfl) (fun G g _ => ⟨G, ows_Guest_pend g (⟨by omega, by omega⟩), fun _ h => .inl h⟩) (fun b _ h => False.elim h) (fun b h => False.elim h) (fun b h => False.elim h) ?_)
    clear S; intro w N F139 q140 S up o138 d141 s142
    have s143 : ∀ b, F139 b → F b := fun b h => (s142 b h).elim (s131 b) (fun h => False.elim h)
    clear up d141 o126
    obtain ⟨a144, e145⟩ : ∃ z, z = (a132).set i ({ el a132 i with pend := (((k88 + 1) + 1) + 1) }) := ⟨_, rfl⟩
    rw [← e145] at o138
    have l146 : a144.length = (a132).length := by rw [e145]; exact List.length_set
    have e147 : el a144 i = { el a132 i with pend := (((k88 + 1) + 1) + 1) } := by rw [e145]; exact el_set_self (show i < (a132).length by omega)
    have t148 : a144.take i = (a132).take i := by rw [e145]; exact take_set_self
    have d149 : a144.drop (i + 1) = (a132).drop (i + 1) := by rw [e145]; exact drop_set_self
    clear e145
    replace S := S.p [0, 1, 5] 0 ⟨[(0, .v (slv a.length q1.1)), (1, .v (I (((k88 + 1) + 1) + 1))), (5, .v (I (i : Int)))], []⟩
    refine RG.done rfl (nx_then (wp_seq (RG.start ?_)))
    refine S.q 3 [0, 1, 5] 0 ⟨[(0, .v (slv a.length q1.1)), (1, .v (I ((((k88 + 1) + 1) + 1) + 1))), (5, .v (I (i : Int)))], []⟩ (.cons (Q_add (x := (((k88 + 1) + 1) + 1)) (y := 1) ⟨by omega, by omega⟩) .nil) ?_; clear S; intro ac w β S
    refine RG.done rfl (nx_then (wp_seq (RG.start ?_)))
    refine S.q 6 [0, 1, 5, 82, 85] 0 ⟨[(0, .v (slv a.length q1.1)), (1, .v (I ((((k88 + 1) + 1) + 1) + 1))), (5, .v (I (i : Int))), (82, .v (I ((((k88 + 1) + 1) + 1) + 1))), (85, .v (pt q1.1.b (q1.1.off + i * 15 + 9)))], []⟩ (.cons (Q_idx o138.rn (l := a.length) (k := i) (i := (i : Int)) (by omega) rfl (by omega) Tryz.underlying52 (by kernel_rfl)) .nil) ?_; clear S; intro ac w β S
    refine RG.op rfl (S.setEl (α := TGuest) o138 (t := 3) (v := I ((((k88 + 1) + 1) + 1) + 1)) (k := i) (j := 9) (off := q1.1.off + i * 15 + 9) (y := ({ el a144 i with exit := (⟨((((k88 + 1) + 1) + 1) + 1), ((el a144 i).exit).page, ((el a144 i).exit).wr, ((el a144 i).exit).n⟩ : TExit) } : TGuest)) (q := ((q1.1, q140).2 i)) (Fy := NoB) (by kernel_rfl) (by kernel_rfl) (by omega) (by kernel_rfl) (by kernel_rfl) (Nat.le_of_ble_eq_true (by kernel_rfl)) (by kernel_rfl) (fun G g _ => ⟨G, ows_Guest_exit g ((show RExit (⟨((((k88 + 1) + 1) + 1) + 1), ((el a144 i).exit).page, ((el a144 i).exit).wr, ((el a144 i).exit).n⟩ : TExit) from ⟨(show In64 ((((k88 + 1) + 1) + 1) + 1) from ⟨by omega, by omega⟩), (RExit.page (d := (el a144 i).exit) (RGuest.exit (d := (el a144 i)) (LRd.el o138.rn i (by omega)))), (RExit.n (d := (el a144 i).exit) (RGuest.exit (d := (el a144 i)) (LRd.el o138.rn i (by omega))))⟩)), fun _ h => .inl h⟩) (fun b _ h => False.elim h) (fun b h => False.elim h) (fun b h => False.elim h) ?_)
    clear S; intro w N F151 q152 S up o150 d153 s154
    have s155 : ∀ b, F151 b → F b := fun b h => (s154 b h).elim (s143 b) (fun h => False.elim h)
    clear up d153 o138
    obtain ⟨a156, e157⟩ : ∃ z, z = (a144).set i ({ el a144 i with exit := (⟨((((k88 + 1) + 1) + 1) + 1), ((el a144 i).exit).page, ((el a144 i).exit).wr, ((el a144 i).exit).n⟩ : TExit) }) := ⟨_, rfl⟩
    rw [← e157] at o150
    have l158 : a156.length = (a144).length := by rw [e157]; exact List.length_set
    have e159 : el a156 i = { el a144 i with exit := (⟨((((k88 + 1) + 1) + 1) + 1), ((el a144 i).exit).page, ((el a144 i).exit).wr, ((el a144 i).exit).n⟩ : TExit) } := by rw [e157]; exact el_set_self (show i < (a144).length by omega)
    have t160 : a156.take i = (a144).take i := by rw [e157]; exact take_set_self
    have d161 : a156.drop (i + 1) = (a144).drop (i + 1) := by rw [e157]; exact drop_set_self
    clear e157
    replace S := S.p [0, 1, 5] 0 ⟨[(0, .v (slv a.length q1.1)), (1, .v (I ((((k88 + 1) + 1) + 1) + 1))), (5, .v (I (i : Int)))], []⟩
    refine RG.done rfl (nx_then (wp_seq (RG.start ?_)))
    refine S.q 3 [0, 1, 5] 0 ⟨[(0, .v (slv a.length q1.1)), (1, .v (I (((((k88 + 1) + 1) + 1) + 1) + 1))), (5, .v (I (i : Int)))], []⟩ (.cons (Q_add (x := ((((k88 + 1) + 1) + 1) + 1)) (y := 1) ⟨by omega, by omega⟩) .nil) ?_; clear S; intro ac w β S
    refine RG.done rfl (nx_then (wp_seq (RG.start ?_)))
    refine S.q 6 [0, 1, 5, 90, 93] 0 ⟨[(0, .v (slv a.length q1.1)), (1, .v (I (((((k88 + 1) + 1) + 1) + 1) + 1))), (5, .v (I (i : Int))), (90, .v (I (((((k88 + 1) + 1) + 1) + 1) + 1))), (93, .v (pt q1.1.b (q1.1.off + i * 15 + 10)))], []⟩ (.cons (Q_idx o150.rn (l := a.length) (k := i) (i := (i : Int)) (by omega) rfl (by omega) Tryz.underlying52 (by kernel_rfl)) .nil) ?_; clear S; intro ac w β S
    refine RG.op rfl (S.setEl (α := TGuest) o150 (t := 3) (v := I (((((k88 + 1) + 1) + 1) + 1) + 1)) (k := i) (j := 10) (off := q1.1.off + i * 15 + 10) (y := ({ el a156 i with exit := (⟨((el a156 i).exit).kind, (((((k88 + 1) + 1) + 1) + 1) + 1), ((el a156 i).exit).wr, ((el a156 i).exit).n⟩ : TExit) } : TGuest)) (q := ((q1.1, q152).2 i)) (Fy := NoB) (by kernel_rfl) (by kernel_rfl) (by omega) (by kernel_rfl) (by kernel_rfl) (Nat.le_of_ble_eq_true (by kernel_rfl)) (by kernel_rfl) (fun G g _ => ⟨G, ows_Guest_exit g ((show RExit (⟨((el a156 i).exit).kind, (((((k88 + 1) + 1) + 1) + 1) + 1), ((el a156 i).exit).wr, ((el a156 i).exit).n⟩ : TExit) from ⟨(RExit.kind (d := (el a156 i).exit) (RGuest.exit (d := (el a156 i)) (LRd.el o150.rn i (by omega)))), (show In64 (((((k88 + 1) + 1) + 1) + 1) + 1) from ⟨by omega, by omega⟩), (RExit.n (d := (el a156 i).exit) (RGuest.exit (d := (el a156 i)) (LRd.el o150.rn i (by omega))))⟩)), fun _ h => .inl h⟩) (fun b _ h => False.elim h) (fun b h => False.elim h) (fun b h => False.elim h) ?_)
    clear S; intro w N F163 q164 S up o162 d165 s166
    have s167 : ∀ b, F163 b → F b := fun b h => (s166 b h).elim (s155 b) (fun h => False.elim h)
    clear up d165 o150
    obtain ⟨a168, e169⟩ : ∃ z, z = (a156).set i ({ el a156 i with exit := (⟨((el a156 i).exit).kind, (((((k88 + 1) + 1) + 1) + 1) + 1), ((el a156 i).exit).wr, ((el a156 i).exit).n⟩ : TExit) }) := ⟨_, rfl⟩
    rw [← e169] at o162
    have l170 : a168.length = (a156).length := by rw [e169]; exact List.length_set
    have e171 : el a168 i = { el a156 i with exit := (⟨((el a156 i).exit).kind, (((((k88 + 1) + 1) + 1) + 1) + 1), ((el a156 i).exit).wr, ((el a156 i).exit).n⟩ : TExit) } := by rw [e169]; exact el_set_self (show i < (a156).length by omega)
    have t172 : a168.take i = (a156).take i := by rw [e169]; exact take_set_self
    have d173 : a168.drop (i + 1) = (a156).drop (i + 1) := by rw [e169]; exact drop_set_self
    clear e169
    replace S := S.p [0, 1, 5] 0 ⟨[(0, .v (slv a.length q1.1)), (1, .v (I (((((k88 + 1) + 1) + 1) + 1) + 1))), (5, .v (I (i : Int)))], []⟩
    refine RG.done rfl (nx_then (wp_seq (RG.start ?_)))
    refine S.q 3 [0, 1, 5] 0 ⟨[(0, .v (slv a.length q1.1)), (1, .v (I ((((((k88 + 1) + 1) + 1) + 1) + 1) + 1))), (5, .v (I (i : Int)))], []⟩ (.cons (Q_add (x := (((((k88 + 1) + 1) + 1) + 1) + 1)) (y := 1) ⟨by omega, by omega⟩) .nil) ?_; clear S; intro ac w β S
    refine RG.done rfl (nx_then (wp_seq (RG.start ?_)))
    refine S.q 8 [0, 1, 5, 100, 103] 0 ⟨[(0, .v (slv a.length q1.1)), (1, .v (I ((((((k88 + 1) + 1) + 1) + 1) + 1) + 1))), (5, .v (I (i : Int))), (100, .v (B ((Int.tmod ((((((k88 + 1) + 1) + 1) + 1) + 1) + 1) 3) == 0))), (103, .v (pt q1.1.b (q1.1.off + i * 15 + 11)))], []⟩ (.cons (Q_rem (x := ((((((k88 + 1) + 1) + 1) + 1) + 1) + 1)) (y := 3) (by decide)) (.cons (Q_idx o162.rn (l := a.length) (k := i) (i := (i : Int)) (by omega) rfl (by omega) Tryz.underlying52 (by kernel_rfl)) .nil)) ?_; clear S; intro ac w β S
    refine RG.op rfl (S.setEl (α := TGuest) o162 (t := 4) (v := B ((Int.tmod ((((((k88 + 1) + 1) + 1) + 1) + 1) + 1) 3) == 0)) (k := i) (j := 11) (off := q1.1.off + i * 15 + 11) (y := ({ el a168 i with exit := (⟨((el a168 i).exit).kind, ((el a168 i).exit).page, ((Int.tmod ((((((k88 + 1) + 1) + 1) + 1) + 1) + 1) 3) == 0), ((el a168 i).exit).n⟩ : TExit) } : TGuest)) (q := ((q1.1, q164).2 i)) (Fy := NoB) (by kernel_rfl) (by kernel_rfl) (by omega) (by kernel_rfl) (by kernel_rfl) (Nat.le_of_ble_eq_true (by kernel_rfl)) (by kernel_rfl) (fun G g _ => ⟨G, ows_Guest_exit g ((show RExit (⟨((el a168 i).exit).kind, ((el a168 i).exit).page, ((Int.tmod ((((((k88 + 1) + 1) + 1) + 1) + 1) + 1) 3) == 0), ((el a168 i).exit).n⟩ : TExit) from ⟨(RExit.kind (d := (el a168 i).exit) (RGuest.exit (d := (el a168 i)) (LRd.el o162.rn i (by omega)))), (RExit.page (d := (el a168 i).exit) (RGuest.exit (d := (el a168 i)) (LRd.el o162.rn i (by omega)))), (RExit.n (d := (el a168 i).exit) (RGuest.exit (d := (el a168 i)) (LRd.el o162.rn i (by omega))))⟩)), fun _ h => .inl h⟩) (fun b _ h => False.elim h) (fun b h => False.elim h) (fun b h => False.elim h) ?_)
    clear S; intro w N F175 q176 S up o174 d177 s178
    have s179 : ∀ b, F175 b → F b := fun b h => (s178 b h).elim (s167 b) (fun h => False.elim h)
    clear up d177 o162
    obtain ⟨a180, e181⟩ : ∃ z, z = (a168).set i ({ el a168 i with exit := (⟨((el a168 i).exit).kind, ((el a168 i).exit).page, ((Int.tmod ((((((k88 + 1) + 1) + 1) + 1) + 1) + 1) 3) == 0), ((el a168 i).exit).n⟩ : TExit) }) := ⟨_, rfl⟩
    rw [← e181] at o174
    have l182 : a180.length = (a168).length := by rw [e181]; exact List.length_set
    have e183 : el a180 i = { el a168 i with exit := (⟨((el a168 i).exit).kind, ((el a168 i).exit).page, ((Int.tmod ((((((k88 + 1) + 1) + 1) + 1) + 1) + 1) 3) == 0), ((el a168 i).exit).n⟩ : TExit) } := by rw [e181]; exact el_set_self (show i < (a168).length by omega)
    have t184 : a180.take i = (a168).take i := by rw [e181]; exact take_set_self
    have d185 : a180.drop (i + 1) = (a168).drop (i + 1) := by rw [e181]; exact drop_set_self
    clear e181
    replace S := S.p [0, 1, 5] 0 ⟨[(0, .v (slv a.length q1.1)), (1, .v (I ((((((k88 + 1) + 1) + 1) + 1) + 1) + 1))), (5, .v (I (i : Int)))], []⟩
    refine RG.done rfl (nx_then (wp_seq (RG.start ?_)))
    refine S.q 3 [0, 1, 5] 0 ⟨[(0, .v (slv a.length q1.1)), (1, .v (I (((((((k88 + 1) + 1) + 1) + 1) + 1) + 1) + 1))), (5, .v (I (i : Int)))], []⟩ (.cons (Q_add (x := ((((((k88 + 1) + 1) + 1) + 1) + 1) + 1)) (y := 1) ⟨by omega, by omega⟩) .nil) ?_; clear S; intro ac w β S
    refine RG.done rfl (nx_then (wp_seq (RG.start ?_)))
    refine S.q 6 [0, 1, 5, 108, 111] 0 ⟨[(0, .v (slv a.length q1.1)), (1, .v (I (((((((k88 + 1) + 1) + 1) + 1) + 1) + 1) + 1))), (5, .v (I (i : Int))), (108, .v (I (((((((k88 + 1) + 1) + 1) + 1) + 1) + 1) + 1))), (111, .v (pt q1.1.b (q1.1.off + i * 15 + 12)))], []⟩ (.cons (Q_idx o174.rn (l := a.length) (k := i) (i := (i : Int)) (by omega) rfl (by omega) Tryz.underlying52 (by kernel_rfl)) .nil) ?_; clear S; intro ac w β S
    refine RG.op rfl (S.setEl (α := TGuest) o174 (t := 3) (v := I (((((((k88 + 1) + 1) + 1) + 1) + 1) + 1) + 1)) (k := i) (j := 12) (off := q1.1.off + i * 15 + 12) (y := ({ el a180 i with exit := (⟨((el a180 i).exit).kind, ((el a180 i).exit).page, ((el a180 i).exit).wr, (((((((k88 + 1) + 1) + 1) + 1) + 1) + 1) + 1)⟩ : TExit) } : TGuest)) (q := ((q1.1, q176).2 i)) (Fy := NoB) (by kernel_rfl) (by kernel_rfl) (by omega) (by kernel_rfl) (by kernel_rfl) (Nat.le_of_ble_eq_true (by kernel_rfl)) (by kernel_rfl) (fun G g _ => ⟨G, ows_Guest_exit g ((show RExit (⟨((el a180 i).exit).kind, ((el a180 i).exit).page, ((el a180 i).exit).wr, (((((((k88 + 1) + 1) + 1) + 1) + 1) + 1) + 1)⟩ : TExit) from ⟨(RExit.kind (d := (el a180 i).exit) (RGuest.exit (d := (el a180 i)) (LRd.el o174.rn i (by omega)))), (RExit.page (d := (el a180 i).exit) (RGuest.exit (d := (el a180 i)) (LRd.el o174.rn i (by omega)))), (show In64 (((((((k88 + 1) + 1) + 1) + 1) + 1) + 1) + 1) from ⟨by omega, by omega⟩)⟩)), fun _ h => .inl h⟩) (fun b _ h => False.elim h) (fun b h => False.elim h) (fun b h => False.elim h) ?_)
    clear S; intro w N F187 q188 S up o186 d189 s190
    have s191 : ∀ b, F187 b → F b := fun b h => (s190 b h).elim (s179 b) (fun h => False.elim h)
    clear up d189 o174
    obtain ⟨a192, e193⟩ : ∃ z, z = (a180).set i ({ el a180 i with exit := (⟨((el a180 i).exit).kind, ((el a180 i).exit).page, ((el a180 i).exit).wr, (((((((k88 + 1) + 1) + 1) + 1) + 1) + 1) + 1)⟩ : TExit) }) := ⟨_, rfl⟩
    rw [← e193] at o186
    have l194 : a192.length = (a180).length := by rw [e193]; exact List.length_set
    have e195 : el a192 i = { el a180 i with exit := (⟨((el a180 i).exit).kind, ((el a180 i).exit).page, ((el a180 i).exit).wr, (((((((k88 + 1) + 1) + 1) + 1) + 1) + 1) + 1)⟩ : TExit) } := by rw [e193]; exact el_set_self (show i < (a180).length by omega)
    have t196 : a192.take i = (a180).take i := by rw [e193]; exact take_set_self
    have d197 : a192.drop (i + 1) = (a180).drop (i + 1) := by rw [e193]; exact drop_set_self
    clear e193
    replace S := S.p [0, 1, 5] 0 ⟨[(0, .v (slv a.length q1.1)), (1, .v (I (((((((k88 + 1) + 1) + 1) + 1) + 1) + 1) + 1))), (5, .v (I (i : Int)))], []⟩
    refine RG.done rfl (nx_then (wp_seq (RG.start ?_)))
    refine S.q 3 [0, 1, 5] 0 ⟨[(0, .v (slv a.length q1.1)), (1, .v (I ((((((((k88 + 1) + 1) + 1) + 1) + 1) + 1) + 1) + 1))), (5, .v (I (i : Int)))], []⟩ (.cons (Q_add (x := (((((((k88 + 1) + 1) + 1) + 1) + 1) + 1) + 1)) (y := 1) ⟨by omega, by omega⟩) .nil) ?_; clear S; intro ac w β S
    refine RG.done rfl (nx_then (wp_seq (RG.start ?_)))
    refine S.q 7 [0, 1, 5, 118, 120] 0 ⟨[(0, .v (slv a.length q1.1)), (1, .v (I ((((((((k88 + 1) + 1) + 1) + 1) + 1) + 1) + 1) + 1))), (5, .v (I (i : Int))), (118, .v (B ((Int.tmod ((((((((k88 + 1) + 1) + 1) + 1) + 1) + 1) + 1) + 1) 3) == 0))), (120, .v (pt q1.1.b (q1.1.off + i * 15 + 13)))], []⟩ (.cons (Q_rem (x := ((((((((k88 + 1) + 1) + 1) + 1) + 1) + 1) + 1) + 1)) (y := 3) (by decide)) (.cons (Q_idx o186.rn (l := a.length) (k := i) (i := (i : Int)) (by omega) rfl (by omega) Tryz.underlying52 (by kernel_rfl)) .nil)) ?_; clear S; intro ac w β S
    refine RG.op rfl (S.setEl (α := TGuest) o186 (t := 4) (v := B ((Int.tmod ((((((((k88 + 1) + 1) + 1) + 1) + 1) + 1) + 1) + 1) 3) == 0)) (k := i) (j := 13) (off := q1.1.off + i * 15 + 13) (y := ({ el a192 i with halted := ((Int.tmod ((((((((k88 + 1) + 1) + 1) + 1) + 1) + 1) + 1) + 1) 3) == 0) } : TGuest)) (q := ((q1.1, q188).2 i)) (Fy := NoB) (by kernel_rfl) (by kernel_rfl) (by omega) (by kernel_rfl) (by kernel_rfl) (Nat.le_of_ble_eq_true (by kernel_rfl)) (by kernel_rfl) (fun G g _ => ⟨G, ows_Guest_halted g, fun _ h => .inl h⟩) (fun b _ h => False.elim h) (fun b h => False.elim h) (fun b h => False.elim h) ?_)
    clear S; intro w N F199 q200 S up o198 d201 s202
    have s203 : ∀ b, F199 b → F b := fun b h => (s202 b h).elim (s191 b) (fun h => False.elim h)
    clear up d201 o186
    obtain ⟨a204, e205⟩ : ∃ z, z = (a192).set i ({ el a192 i with halted := ((Int.tmod ((((((((k88 + 1) + 1) + 1) + 1) + 1) + 1) + 1) + 1) 3) == 0) }) := ⟨_, rfl⟩
    rw [← e205] at o198
    have l206 : a204.length = (a192).length := by rw [e205]; exact List.length_set
    have e207 : el a204 i = { el a192 i with halted := ((Int.tmod ((((((((k88 + 1) + 1) + 1) + 1) + 1) + 1) + 1) + 1) 3) == 0) } := by rw [e205]; exact el_set_self (show i < (a192).length by omega)
    have t208 : a204.take i = (a192).take i := by rw [e205]; exact take_set_self
    have d209 : a204.drop (i + 1) = (a192).drop (i + 1) := by rw [e205]; exact drop_set_self
    clear e205
    replace S := S.p [0, 1, 5] 0 ⟨[(0, .v (slv a.length q1.1)), (1, .v (I ((((((((k88 + 1) + 1) + 1) + 1) + 1) + 1) + 1) + 1))), (5, .v (I (i : Int)))], []⟩
    refine RG.done rfl (nx_then (wp_seq (RG.start ?_)))
    refine S.q 3 [0, 1, 5] 0 ⟨[(0, .v (slv a.length q1.1)), (1, .v (I (((((((((k88 + 1) + 1) + 1) + 1) + 1) + 1) + 1) + 1) + 1))), (5, .v (I (i : Int)))], []⟩ (.cons (Q_add (x := ((((((((k88 + 1) + 1) + 1) + 1) + 1) + 1) + 1) + 1)) (y := 1) ⟨by omega, by omega⟩) .nil) ?_; clear S; intro ac w β S
    refine RG.done rfl (nx_then (RG.start ?_))
    refine S.q 6 [0, 5, 127, 128] 0 ⟨[(0, .v (slv a.length q1.1)), (5, .v (I (i : Int))), (127, .v (slv ((el a204 i).seen).length (((q1.1, q200).2 i).seen).1)), (128, .v (I (((((((((k88 + 1) + 1) + 1) + 1) + 1) + 1) + 1) + 1) + 1)))], []⟩ (.cons (Q_idx o198.rn (l := a.length) (k := i) (i := (i : Int)) (by omega) rfl (by omega) Tryz.underlying52 (by kernel_rfl)) (.cons (Q_cell o198.rn (t := 53) (k := i) (j := 14) (v := slv ((el a204 i).seen).length (((q1.1, q200).2 i).seen).1) (by omega) (by kernel_rfl) (by kernel_rfl)) .nil)) ?_; clear S; intro ac w β S
    obtain ⟨F210, o211, s212, b213⟩ := foc_Guest_seen o198 (k := i) (show i < (a204).length by omega)
    have z214 := szsum_take (xs := a) (k := i) (by omega)
    have z215 := szsum_take_le a (i + 1)
    have z216 := sz_Guest (el a i)
    have e217 : (el a204 i).seen = (el a i).seen := by simp only [e207, e195, e183, e171, e159, e147, e135, e123, e111, e99, e75, e51, e39, e27, hel]
    refine RG.op rfl (S.callX (hd := hdl) (d := 129) o211 (c_laws_markIntS w ((el a204 i).seen) (((q1.1, q200).2 i).seen) F210 (S.ownw o211) (fun b hb => (S.sep b (o211.sub b hb)).1) (((((((((k88 + 1) + 1) + 1) + 1) + 1) + 1) + 1) + 1) + 1) (by omega) (by rw [e217]; omega)) (by kernel_rfl) rfl ?_)
    clear S; intro ac w N q218 y219 k220 S up o221 c222 x223 b224 b225
    rw [e217] at b225
    obtain ⟨p226, o227⟩ := b213 _ _ _ _ up o221 c222
    clear up o198 o211 s212 b213 o221 c222
    obtain ⟨a228, e229⟩ : ∃ z, z = (a204).set i ({ el a204 i with seen := y219 }) := ⟨_, rfl⟩
    rw [← e229] at o227
    have l230 : a228.length = (a204).length := by rw [e229]; exact List.length_set
    have e231 : el a228 i = { el a204 i with seen := y219 } := by rw [e229]; exact el_set_self (show i < (a204).length by omega)
    have t232 : a228.take i = (a204).take i := by rw [e229]; exact take_set_self
    have d233 : a228.drop (i + 1) = (a204).drop (i + 1) := by rw [e229]; exact drop_set_self
    clear e229
    refine S.q 1 [0, 1, 5] 0 ⟨[(0, .v (slv a.length q1.1)), (1, .v (I k220)), (5, .v (I (i : Int)))], []⟩ .nil ?_; clear S; intro ac w β S
    refine RG.done rfl (nx_block (nx_then (RG.start ?_)))
    refine S.q 3 [0, 1, 5] 0 ⟨[(0, .v (slv a.length q1.1)), (1, .v (I k220)), (5, .v (I ((i : Int) + 1)))], []⟩ (.cons (Q_add (x := (i : Int)) (y := 1) ⟨by omega, by omega⟩) .nil) ?_; clear S; intro ac w β S
    refine RG.done rfl (nx_then ?_)
    replace S := S.p [0, 1, 5] 0 ⟨[(0, .v (slv a.length q1.1)), (1, .v (I k220)), (5, .v (I ((i : Int) + 1)))], []⟩
    refine ⟨a.length - (i + 1), by omega, i + 1, a228, k220, (q1.1, p226), F199, _, _, _, rfl, ?_, ?_, ?_, ?_, ?_, ?_, S.cast (by kernel_rfl), o227, hq, s203⟩
    · clear S; first | omega | (simp [*]; done) | (simp [*]; omega)
    · clear S; omega
    · clear S; refine mk_step (acc := a228) (by omega) (by intro f; rw [t232, t208, t196, t184, t172, t160, t148, t136, t124, t112, t100, t76, t52, t40, t28]; exact hM f) ?_; intro f; simp (disch := first | omega | rfl) only [he_list, he_Guest, e231, e207, e195, e183, e171, e159, e147, e135, e123, e111, e99, e75, e51, e39, e27, x19, x67, x91, x223, hdc_pos, hdi_eq, hdb_eq]
    · clear S; rw [d233, d209, d197, d185, d173, d161, d149, d137, d125, d113, d101, d77, d53, d41, d29]; exact drop_more hD
    · clear S; omega
    · clear S; omega
  · have g234 : ¬ ((i : Int) < (a.length : Int)) := of_decide_eq_false h4
    refine wp_exit (ex_then (ex_then (ex_hit (nx_then (wp_seq (RG.start ?_))))))
    refine S.q 2 [4] 0 ⟨[(4, .v (I j))], []⟩ .nil ?_; clear S; intro ac w β S
    refine RG.done rfl (nx_then (wp_ret ?_))
    refine S.r [I j] ?_
    have hyd : hdl acc k = j := by clear S; exact mk_end (by omega) hM
    have hyb : k ≤ j ∧ j ≤ k + 16 * ((SZ.sz a : Nat) : Int) := by clear S; have hs2 := szsum_take_le a i; constructor <;> omega
    exact retX_of S hyd hyb.1 hyb.2 (by show [slv _ _] = [slv _ _]; rw [hl, hq]) o3 hs

set_option maxRecDepth 100000 in
theorem c_laws_markKeptS (w0 : World) (a : List TKept) (pa : LP TKept) (F : Bl) (ha : GT.own KK F w0 a pa) (hF : ∀ b, F b → b < w0.heap.size) (k : Int) (pre0 : 0 ≤ k) (pre1 : k + 16 * (SZ.sz a : Int) ≤ 4611686018427387904) : Calls Tryz.prog 66 [slv (a).length pa.1, I k].toArray w0 (RetX hdl F w0 pa a k) := by
  refine Calls.walk (args := [slv (a).length pa.1, I k]) F Tryz.func66 rfl rfl ?_
  intro ac β S
  have oa : Ow w0 F w0 (Lt w0.heap.size) F a pa := ⟨ha, hF, fun b hb => .inr hb⟩
  have hz := sz_list a
  have hlea : a.length ≤ 4194304 := LOwn.le ha
  refine wp_seq (RG.start ?_)
  refine S.q 1 [0, 1] 0 ⟨[(0, .v (slv (a).length pa.1)), (1, .v (I k))], []⟩ .nil ?_; clear S; intro ac w β S
  refine RG.done rfl (nx_then (wp_seq (wp_seq (RG.start ?_))))
  refine S.q 1 [0, 1, 5] 0 ⟨[(0, .v (slv (a).length pa.1)), (1, .v (I k)), (5, .v (I 0))], []⟩ .nil ?_; clear S; intro ac w β S
  refine RG.done rfl (nx_then (wp_block ?_))
  replace S := S.p [0, 1, 5] 0 ⟨[(0, .v (slv (a).length pa.1)), (1, .v (I k)), (5, .v (I 0))], []⟩
  refine wp_loop_down (fun mm ac w => ∃ (i : Nat) (acc : List TKept) (j : Int) (q1 : GT.Ptr (List TKept)) (F2 : Bl) (u : World) (N : Bl) (β : Nat → Nat), mm = a.length - i ∧ (i ≤ a.length) ∧ (acc.length = a.length) ∧ (∀ f, hdlc (acc.take i) k f = f j) ∧ (acc.drop i = a.drop i) ∧ (k ≤ j) ∧ (j ≤ k + 16 * ((i : Int) + (szsum (a.take i) : Nat))) ∧ St Tryz.prog Tryz.f66.ntmps w0 F u N β ⟨[(0, .v (slv a.length q1.1)), (1, .v (I j)), (5, .v (I (i : Int)))], []⟩ ac w ∧ Ow w0 F u N F2 acc q1 ∧ q1.1 = pa.1 ∧ (∀ b, F2 b → F b)) _ ⟨0, a, k, pa, F, _, _, _, rfl, (by first | omega | (simp; done) | (simp; omega)), (by rfl), (by intro f; rfl), (by rfl), (by first | omega | (simp; done) | (simp; omega)), (by simp [szsum_nil]), S.cast (by kernel_rfl), oa, rfl, (fun _ h => h)⟩ ?_
  clear S oa
  rintro mm ac w ⟨i, acc, j, q1, F2, u, N, β, rfl, hi, hl, hM, hD, hj0, hj1, S, o3, hq, hs⟩
  have hel := el_of_drop hD
  have hsl := szsum_take_le a i
  refine wp_seq (wp_seq (RG.start ?_))
  refine S.q 4 [0, 1, 5, 9] 0 ⟨[(0, .v (slv a.length q1.1)), (1, .v (I j)), (5, .v (I (i : Int))), (9, .v (B (decide ((i : Int) < (a.length : Int)))))], []⟩ .nil ?_; clear S; intro ac w β S
  refine RG.done rfl (nx_then ?_)
  refine S.c (decide ((i : Int) < (a.length : Int))) (fun h4 => ?_) (fun h4 => ?_)
  · have g5 : (i : Int) < (a.length : Int) := of_decide_eq_true h4
    refine wp_skip (nx_then (wp_seq (wp_block (wp_seq (RG.start ?_)))))
    refine S.q 6 [0, 5, 16, 17] 0 ⟨[(0, .v (slv a.length q1.1)), (5, .v (I (i : Int))), (16, .v (slv ((el acc i).known).length ((q1.2 i).known).1)), (17, .v (I j))], []⟩ (.cons (Q_idx o3.rn (l := a.length) (k := i) (i := (i : Int)) (by omega) rfl (by omega) Tryz.underlying54 (by kernel_rfl)) (.cons (Q_cell o3.rn (t := 51) (k := i) (j := 0) (v := slv ((el acc i).known).length ((q1.2 i).known).1) (by omega) (by kernel_rfl) (by kernel_rfl)) .nil)) ?_; clear S; intro ac w β S
    obtain ⟨F6, o7, s8, b9⟩ := foc_Kept_known o3 (k := i) (show i < (acc).length by omega)
    have z10 := szsum_take (xs := a) (k := i) (by omega)
    have z11 := szsum_take_le a (i + 1)
    have z12 := sz_Kept (el a i)
    have e13 : (el acc i).known = (el a i).known := by simp only [hel]
    refine RG.op rfl (S.callX (hd := hdl) (d := 18) o7 (c_laws_markBoolS w ((el acc i).known) ((q1.2 i).known) F6 (S.ownw o7) (fun b hb => (S.sep b (o7.sub b hb)).1) j (by omega) (by rw [e13]; omega)) (by kernel_rfl) rfl ?_)
    clear S; intro ac w N q14 y15 k16 S up o17 c18 x19 b20 b21
    rw [e13] at b21
    obtain ⟨p22, o23⟩ := b9 _ _ _ _ up o17 c18
    clear up o3 o7 s8 b9 o17 c18
    obtain ⟨a24, e25⟩ : ∃ z, z = (acc).set i ({ el acc i with known := y15 }) := ⟨_, rfl⟩
    rw [← e25] at o23
    have l26 : a24.length = (acc).length := by rw [e25]; exact List.length_set
    have e27 : el a24 i = { el acc i with known := y15 } := by rw [e25]; exact el_set_self (show i < (acc).length by omega)
    have t28 : a24.take i = (acc).take i := by rw [e25]; exact take_set_self
    have d29 : a24.drop (i + 1) = (acc).drop (i + 1) := by rw [e25]; exact drop_set_self
    clear e25
    refine S.q 1 [0, 1, 5] 0 ⟨[(0, .v (slv a.length q1.1)), (1, .v (I k16)), (5, .v (I (i : Int)))], []⟩ .nil ?_; clear S; intro ac w β S
    refine RG.done rfl (nx_then (RG.start ?_))
    refine S.q 6 [0, 5, 23, 24] 0 ⟨[(0, .v (slv a.length q1.1)), (5, .v (I (i : Int))), (23, .v (slv ((el a24 i).slots).length (((q1.1, p22).2 i).slots).1)), (24, .v (I k16))], []⟩ (.cons (Q_idx o23.rn (l := a.length) (k := i) (i := (i : Int)) (by omega) rfl (by omega) Tryz.underlying54 (by kernel_rfl)) (.cons (Q_cell o23.rn (t := 50) (k := i) (j := 1) (v := slv ((el a24 i).slots).length (((q1.1, p22).2 i).slots).1) (by omega) (by kernel_rfl) (by kernel_rfl)) .nil)) ?_; clear S; intro ac w β S
    obtain ⟨F30, o31, s32, b33⟩ := foc_Kept_slots o23 (k := i) (show i < (a24).length by omega)
    have z34 := szsum_take (xs := a) (k := i) (by omega)
    have z35 := szsum_take_le a (i + 1)
    have z36 := sz_Kept (el a i)
    have e37 : (el a24 i).slots = (el a i).slots := by simp only [e27, hel]
    refine RG.op rfl (S.callX (hd := hdl) (d := 25) o31 (c_laws_markSlotS w ((el a24 i).slots) (((q1.1, p22).2 i).slots) F30 (S.ownw o31) (fun b hb => (S.sep b (o31.sub b hb)).1) k16 (by omega) (by rw [e37]; omega)) (by kernel_rfl) rfl ?_)
    clear S; intro ac w N q38 y39 k40 S up o41 c42 x43 b44 b45
    rw [e37] at b45
    obtain ⟨p46, o47⟩ := b33 _ _ _ _ up o41 c42
    clear up o23 o31 s32 b33 o41 c42
    obtain ⟨a48, e49⟩ : ∃ z, z = (a24).set i ({ el a24 i with slots := y39 }) := ⟨_, rfl⟩
    rw [← e49] at o47
    have l50 : a48.length = (a24).length := by rw [e49]; exact List.length_set
    have e51 : el a48 i = { el a24 i with slots := y39 } := by rw [e49]; exact el_set_self (show i < (a24).length by omega)
    have t52 : a48.take i = (a24).take i := by rw [e49]; exact take_set_self
    have d53 : a48.drop (i + 1) = (a24).drop (i + 1) := by rw [e49]; exact drop_set_self
    clear e49
    refine S.q 1 [0, 1, 5] 0 ⟨[(0, .v (slv a.length q1.1)), (1, .v (I k40)), (5, .v (I (i : Int)))], []⟩ .nil ?_; clear S; intro ac w β S
    refine RG.done rfl (nx_block (nx_then (RG.start ?_)))
    refine S.q 3 [0, 1, 5] 0 ⟨[(0, .v (slv a.length q1.1)), (1, .v (I k40)), (5, .v (I ((i : Int) + 1)))], []⟩ (.cons (Q_add (x := (i : Int)) (y := 1) ⟨by omega, by omega⟩) .nil) ?_; clear S; intro ac w β S
    refine RG.done rfl (nx_then ?_)
    replace S := S.p [0, 1, 5] 0 ⟨[(0, .v (slv a.length q1.1)), (1, .v (I k40)), (5, .v (I ((i : Int) + 1)))], []⟩
    refine ⟨a.length - (i + 1), by omega, i + 1, a48, k40, (q1.1, p46), F2, _, _, _, rfl, ?_, ?_, ?_, ?_, ?_, ?_, S.cast (by kernel_rfl), o47, hq, hs⟩
    · clear S; first | omega | (simp [*]; done) | (simp [*]; omega)
    · clear S; omega
    · clear S; refine mk_step (acc := a48) (by omega) (by intro f; rw [t52, t28]; exact hM f) ?_; intro f; simp (disch := first | omega | rfl) only [he_list, he_Kept, e51, e27, x19, x43, hdc_pos, hdi_eq, hdb_eq]
    · clear S; rw [d53, d29]; exact drop_more hD
    · clear S; omega
    · clear S; omega
  · have g54 : ¬ ((i : Int) < (a.length : Int)) := of_decide_eq_false h4
    refine wp_exit (ex_then (ex_then (ex_hit (nx_then (wp_seq (RG.start ?_))))))
    refine S.q 2 [4] 0 ⟨[(4, .v (I j))], []⟩ .nil ?_; clear S; intro ac w β S
    refine RG.done rfl (nx_then (wp_ret ?_))
    refine S.r [I j] ?_
    have hyd : hdl acc k = j := by clear S; exact mk_end (by omega) hM
    have hyb : k ≤ j ∧ j ≤ k + 16 * ((SZ.sz a : Nat) : Int) := by clear S; have hs2 := szsum_take_le a i; constructor <;> omega
    exact retX_of S hyd hyb.1 hyb.2 (by show [slv _ _] = [slv _ _]; rw [hl, hq]) o3 hs

set_option maxRecDepth 100000 in
theorem c_laws_markMonS (w0 : World) (a : List TMon) (pa : LP TMon) (F : Bl) (ha : GT.own KK F w0 a pa) (hF : ∀ b, F b → b < w0.heap.size) (k : Int) (pre0 : 0 ≤ k) (pre1 : k + 16 * (SZ.sz a : Int) ≤ 4611686018427387904) : Calls Tryz.prog 32 [slv (a).length pa.1, I k].toArray w0 (RetX hdl F w0 pa a k) := by
  refine Calls.walk (args := [slv (a).length pa.1, I k]) F Tryz.func32 rfl rfl ?_
  intro ac β S
  have oa : Ow w0 F w0 (Lt w0.heap.size) F a pa := ⟨ha, hF, fun b hb => .inr hb⟩
  have hz := sz_list a
  have hlea : a.length ≤ 4194304 := LOwn.le ha
  refine wp_seq (RG.start ?_)
  refine S.q 1 [0, 1] 0 ⟨[(0, .v (slv (a).length pa.1)), (1, .v (I k))], []⟩ .nil ?_; clear S; intro ac w β S
  refine RG.done rfl (nx_then (wp_seq (wp_seq (RG.start ?_))))
  refine S.q 1 [0, 1, 5] 0 ⟨[(0, .v (slv (a).length pa.1)), (1, .v (I k)), (5, .v (I 0))], []⟩ .nil ?_; clear S; intro ac w β S
  refine RG.done rfl (nx_then (wp_block ?_))
  replace S := S.p [0, 1, 5] 0 ⟨[(0, .v (slv (a).length pa.1)), (1, .v (I k)), (5, .v (I 0))], []⟩
  refine wp_loop_down (fun mm ac w => ∃ (i : Nat) (acc : List TMon) (j : Int) (q1 : GT.Ptr (List TMon)) (F2 : Bl) (u : World) (N : Bl) (β : Nat → Nat), mm = a.length - i ∧ (i ≤ a.length) ∧ (acc.length = a.length) ∧ (∀ f, hdlc (acc.take i) k f = f j) ∧ (acc.drop i = a.drop i) ∧ (k ≤ j) ∧ (j ≤ k + 16 * ((i : Int) + (szsum (a.take i) : Nat))) ∧ St Tryz.prog Tryz.f32.ntmps w0 F u N β ⟨[(0, .v (slv a.length q1.1)), (1, .v (I j)), (5, .v (I (i : Int)))], []⟩ ac w ∧ Ow w0 F u N F2 acc q1 ∧ q1.1 = pa.1 ∧ (∀ b, F2 b → F b)) _ ⟨0, a, k, pa, F, _, _, _, rfl, (by first | omega | (simp; done) | (simp; omega)), (by rfl), (by intro f; rfl), (by rfl), (by first | omega | (simp; done) | (simp; omega)), (by simp [szsum_nil]), S.cast (by kernel_rfl), oa, rfl, (fun _ h => h)⟩ ?_
  clear S oa
  rintro mm ac w ⟨i, acc, j, q1, F2, u, N, β, rfl, hi, hl, hM, hD, hj0, hj1, S, o3, hq, hs⟩
  have hel := el_of_drop hD
  have hsl := szsum_take_le a i
  refine wp_seq (wp_seq (RG.start ?_))
  refine S.q 4 [0, 1, 5, 9] 0 ⟨[(0, .v (slv a.length q1.1)), (1, .v (I j)), (5, .v (I (i : Int))), (9, .v (B (decide ((i : Int) < (a.length : Int)))))], []⟩ .nil ?_; clear S; intro ac w β S
  refine RG.done rfl (nx_then ?_)
  refine S.c (decide ((i : Int) < (a.length : Int))) (fun h4 => ?_) (fun h4 => ?_)
  · have g5 : (i : Int) < (a.length : Int) := of_decide_eq_true h4
    refine wp_skip (nx_then (wp_seq (wp_block (wp_seq (RG.start ?_)))))
    refine S.q 6 [0, 5, 16, 17] 0 ⟨[(0, .v (slv a.length q1.1)), (5, .v (I (i : Int))), (16, .v (slv ((el acc i).outer).length ((q1.2 i).outer).1)), (17, .v (I j))], []⟩ (.cons (Q_idx o3.rn (l := a.length) (k := i) (i := (i : Int)) (by omega) rfl (by omega) Tryz.underlying28 (by kernel_rfl)) (.cons (Q_cell o3.rn (t := 50) (k := i) (j := 0) (v := slv ((el acc i).outer).length ((q1.2 i).outer).1) (by omega) (by kernel_rfl) (by kernel_rfl)) .nil)) ?_; clear S; intro ac w β S
    obtain ⟨F6, o7, s8, b9⟩ := foc_Mon_outer o3 (k := i) (show i < (acc).length by omega)
    have z10 := szsum_take (xs := a) (k := i) (by omega)
    have z11 := szsum_take_le a (i + 1)
    have z12 := sz_Mon (el a i)
    have e13 : (el acc i).outer = (el a i).outer := by simp only [hel]
    refine RG.op rfl (S.callX (hd := hdl) (d := 18) o7 (c_laws_markSlotS w ((el acc i).outer) ((q1.2 i).outer) F6 (S.ownw o7) (fun b hb => (S.sep b (o7.sub b hb)).1) j (by omega) (by rw [e13]; omega)) (by kernel_rfl) rfl ?_)
    clear S; intro ac w N q14 y15 k16 S up o17 c18 x19 b20 b21
    rw [e13] at b21
    obtain ⟨p22, o23⟩ := b9 _ _ _ _ up o17 c18
    clear up o3 o7 s8 b9 o17 c18
    obtain ⟨a24, e25⟩ : ∃ z, z = (acc).set i ({ el acc i with outer := y15 }) := ⟨_, rfl⟩
    rw [← e25] at o23
    have l26 : a24.length = (acc).length := by rw [e25]; exact List.length_set
    have e27 : el a24 i = { el acc i with outer := y15 } := by rw [e25]; exact el_set_self (show i < (acc).length by omega)
    have t28 : a24.take i = (acc).take i := by rw [e25]; exact take_set_self
    have d29 : a24.drop (i + 1) = (acc).drop (i + 1) := by rw [e25]; exact drop_set_self
    clear e25
    refine S.q 1 [0, 1, 5] 0 ⟨[(0, .v (slv a.length q1.1)), (1, .v (I k16)), (5, .v (I (i : Int)))], []⟩ .nil ?_; clear S; intro ac w β S
    refine RG.done rfl (nx_then (wp_seq (RG.start ?_)))
    refine S.q 6 [0, 5, 23, 24] 0 ⟨[(0, .v (slv a.length q1.1)), (5, .v (I (i : Int))), (23, .v (slv ((el a24 i).out).length (((q1.1, p22).2 i).out).1)), (24, .v (I k16))], []⟩ (.cons (Q_idx o23.rn (l := a.length) (k := i) (i := (i : Int)) (by omega) rfl (by omega) Tryz.underlying28 (by kernel_rfl)) (.cons (Q_cell o23.rn (t := 22) (k := i) (j := 1) (v := slv ((el a24 i).out).length (((q1.1, p22).2 i).out).1) (by omega) (by kernel_rfl) (by kernel_rfl)) .nil)) ?_; clear S; intro ac w β S
    obtain ⟨F30, o31, s32, b33⟩ := foc_Mon_out o23 (k := i) (show i < (a24).length by omega)
    have z34 := szsum_take (xs := a) (k := i) (by omega)
    have z35 := szsum_take_le a (i + 1)
    have z36 := sz_Mon (el a i)
    have e37 : (el a24 i).out = (el a i).out := by simp only [e27, hel]
    refine RG.op rfl (S.callX (hd := hdl) (d := 25) o31 (c_laws_markIntSS w ((el a24 i).out) (((q1.1, p22).2 i).out) F30 (S.ownw o31) (fun b hb => (S.sep b (o31.sub b hb)).1) k16 (by omega) (by rw [e37]; omega)) (by kernel_rfl) rfl ?_)
    clear S; intro ac w N q38 y39 k40 S up o41 c42 x43 b44 b45
    rw [e37] at b45
    obtain ⟨p46, o47⟩ := b33 _ _ _ _ up o41 c42
    clear up o23 o31 s32 b33 o41 c42
    obtain ⟨a48, e49⟩ : ∃ z, z = (a24).set i ({ el a24 i with out := y39 }) := ⟨_, rfl⟩
    rw [← e49] at o47
    have l50 : a48.length = (a24).length := by rw [e49]; exact List.length_set
    have e51 : el a48 i = { el a24 i with out := y39 } := by rw [e49]; exact el_set_self (show i < (a24).length by omega)
    have t52 : a48.take i = (a24).take i := by rw [e49]; exact take_set_self
    have d53 : a48.drop (i + 1) = (a24).drop (i + 1) := by rw [e49]; exact drop_set_self
    clear e49
    refine S.q 1 [0, 1, 5] 0 ⟨[(0, .v (slv a.length q1.1)), (1, .v (I k40)), (5, .v (I (i : Int)))], []⟩ .nil ?_; clear S; intro ac w β S
    refine RG.done rfl (nx_then (wp_seq (RG.start ?_)))
    refine S.q 6 [0, 5, 30, 31] 0 ⟨[(0, .v (slv a.length q1.1)), (5, .v (I (i : Int))), (30, .v (slv ((el a48 i).dirty).length (((q1.1, p46).2 i).dirty).1)), (31, .v (I k40))], []⟩ (.cons (Q_idx o47.rn (l := a.length) (k := i) (i := (i : Int)) (by omega) rfl (by omega) Tryz.underlying28 (by kernel_rfl)) (.cons (Q_cell o47.rn (t := 51) (k := i) (j := 2) (v := slv ((el a48 i).dirty).length (((q1.1, p46).2 i).dirty).1) (by omega) (by kernel_rfl) (by kernel_rfl)) .nil)) ?_; clear S; intro ac w β S
    obtain ⟨F54, o55, s56, b57⟩ := foc_Mon_dirty o47 (k := i) (show i < (a48).length by omega)
    have z58 := szsum_take (xs := a) (k := i) (by omega)
    have z59 := szsum_take_le a (i + 1)
    have z60 := sz_Mon (el a i)
    have e61 : (el a48 i).dirty = (el a i).dirty := by simp only [e51, e27, hel]
    refine RG.op rfl (S.callX (hd := hdl) (d := 32) o55 (c_laws_markBoolS w ((el a48 i).dirty) (((q1.1, p46).2 i).dirty) F54 (S.ownw o55) (fun b hb => (S.sep b (o55.sub b hb)).1) k40 (by omega) (by rw [e61]; omega)) (by kernel_rfl) rfl ?_)
    clear S; intro ac w N q62 y63 k64 S up o65 c66 x67 b68 b69
    rw [e61] at b69
    obtain ⟨p70, o71⟩ := b57 _ _ _ _ up o65 c66
    clear up o47 o55 s56 b57 o65 c66
    obtain ⟨a72, e73⟩ : ∃ z, z = (a48).set i ({ el a48 i with dirty := y63 }) := ⟨_, rfl⟩
    rw [← e73] at o71
    have l74 : a72.length = (a48).length := by rw [e73]; exact List.length_set
    have e75 : el a72 i = { el a48 i with dirty := y63 } := by rw [e73]; exact el_set_self (show i < (a48).length by omega)
    have t76 : a72.take i = (a48).take i := by rw [e73]; exact take_set_self
    have d77 : a72.drop (i + 1) = (a48).drop (i + 1) := by rw [e73]; exact drop_set_self
    clear e73
    refine S.q 1 [0, 1, 5] 0 ⟨[(0, .v (slv a.length q1.1)), (1, .v (I k64)), (5, .v (I (i : Int)))], []⟩ .nil ?_; clear S; intro ac w β S
    refine RG.done rfl (nx_then (wp_seq (RG.start ?_)))
    refine S.q 6 [0, 5, 37, 38] 0 ⟨[(0, .v (slv a.length q1.1)), (5, .v (I (i : Int))), (37, .v (slv ((el a72 i).guests).length (((q1.1, p70).2 i).guests).1)), (38, .v (I k64))], []⟩ (.cons (Q_idx o71.rn (l := a.length) (k := i) (i := (i : Int)) (by omega) rfl (by omega) Tryz.underlying28 (by kernel_rfl)) (.cons (Q_cell o71.rn (t := 52) (k := i) (j := 3) (v := slv ((el a72 i).guests).length (((q1.1, p70).2 i).guests).1) (by omega) (by kernel_rfl) (by kernel_rfl)) .nil)) ?_; clear S; intro ac w β S
    obtain ⟨F78, o79, s80, b81⟩ := foc_Mon_guests o71 (k := i) (show i < (a72).length by omega)
    have z82 := szsum_take (xs := a) (k := i) (by omega)
    have z83 := szsum_take_le a (i + 1)
    have z84 := sz_Mon (el a i)
    have e85 : (el a72 i).guests = (el a i).guests := by simp only [e75, e51, e27, hel]
    refine RG.op rfl (S.callX (hd := hdl) (d := 39) o79 (c_laws_markGuestS w ((el a72 i).guests) (((q1.1, p70).2 i).guests) F78 (S.ownw o79) (fun b hb => (S.sep b (o79.sub b hb)).1) k64 (by omega) (by rw [e85]; omega)) (by kernel_rfl) rfl ?_)
    clear S; intro ac w N q86 y87 k88 S up o89 c90 x91 b92 b93
    rw [e85] at b93
    obtain ⟨p94, o95⟩ := b81 _ _ _ _ up o89 c90
    clear up o71 o79 s80 b81 o89 c90
    obtain ⟨a96, e97⟩ : ∃ z, z = (a72).set i ({ el a72 i with guests := y87 }) := ⟨_, rfl⟩
    rw [← e97] at o95
    have l98 : a96.length = (a72).length := by rw [e97]; exact List.length_set
    have e99 : el a96 i = { el a72 i with guests := y87 } := by rw [e97]; exact el_set_self (show i < (a72).length by omega)
    have t100 : a96.take i = (a72).take i := by rw [e97]; exact take_set_self
    have d101 : a96.drop (i + 1) = (a72).drop (i + 1) := by rw [e97]; exact drop_set_self
    clear e97
    refine S.q 1 [0, 1, 5] 0 ⟨[(0, .v (slv a.length q1.1)), (1, .v (I k88)), (5, .v (I (i : Int)))], []⟩ .nil ?_; clear S; intro ac w β S
    refine RG.done rfl (nx_then (wp_seq (RG.start ?_)))
    refine S.q 6 [0, 5, 44, 45] 0 ⟨[(0, .v (slv a.length q1.1)), (5, .v (I (i : Int))), (44, .v (slv ((el a96 i).outs).length (((q1.1, p94).2 i).outs).1)), (45, .v (I k88))], []⟩ (.cons (Q_idx o95.rn (l := a.length) (k := i) (i := (i : Int)) (by omega) rfl (by omega) Tryz.underlying28 (by kernel_rfl)) (.cons (Q_cell o95.rn (t := 53) (k := i) (j := 4) (v := slv ((el a96 i).outs).length (((q1.1, p94).2 i).outs).1) (by omega) (by kernel_rfl) (by kernel_rfl)) .nil)) ?_; clear S; intro ac w β S
    obtain ⟨F102, o103, s104, b105⟩ := foc_Mon_outs o95 (k := i) (show i < (a96).length by omega)
    have z106 := szsum_take (xs := a) (k := i) (by omega)
    have z107 := szsum_take_le a (i + 1)
    have z108 := sz_Mon (el a i)
    have e109 : (el a96 i).outs = (el a i).outs := by simp only [e99, e75, e51, e27, hel]
    refine RG.op rfl (S.callX (hd := hdl) (d := 46) o103 (c_laws_markIntS w ((el a96 i).outs) (((q1.1, p94).2 i).outs) F102 (S.ownw o103) (fun b hb => (S.sep b (o103.sub b hb)).1) k88 (by omega) (by rw [e109]; omega)) (by kernel_rfl) rfl ?_)
    clear S; intro ac w N q110 y111 k112 S up o113 c114 x115 b116 b117
    rw [e109] at b117
    obtain ⟨p118, o119⟩ := b105 _ _ _ _ up o113 c114
    clear up o95 o103 s104 b105 o113 c114
    obtain ⟨a120, e121⟩ : ∃ z, z = (a96).set i ({ el a96 i with outs := y111 }) := ⟨_, rfl⟩
    rw [← e121] at o119
    have l122 : a120.length = (a96).length := by rw [e121]; exact List.length_set
    have e123 : el a120 i = { el a96 i with outs := y111 } := by rw [e121]; exact el_set_self (show i < (a96).length by omega)
    have t124 : a120.take i = (a96).take i := by rw [e121]; exact take_set_self
    have d125 : a120.drop (i + 1) = (a96).drop (i + 1) := by rw [e121]; exact drop_set_self
    clear e121
    refine S.q 1 [0, 1, 5] 0 ⟨[(0, .v (slv a.length q1.1)), (1, .v (I k112)), (5, .v (I (i : Int)))], []⟩ .nil ?_; clear S; intro ac w β S
    refine RG.done rfl (nx_then (wp_seq (RG.start ?_)))
    refine S.q 5 [0, 1, 5, 49, 51] 0 ⟨[(0, .v (slv a.length q1.1)), (1, .v (I k112)), (5, .v (I (i : Int))), (49, .v (I k112)), (51, .v (pt q1.1.b (q1.1.off + i * 9 + 5)))], []⟩ (.cons (Q_idx o119.rn (l := a.length) (k := i) (i := (i : Int)) (by omega) rfl (by omega) Tryz.underlying28 (by kernel_rfl)) .nil) ?_; clear S; intro ac w β S
    refine RG.op rfl (S.setEl (α := TMon) o119 (t := 3) (v := I k112) (k := i) (j := 5) (off := q1.1.off + i * 9 + 5) (y := ({ el a120 i with pend := k112 } : TMon)) (q := ((q1.1, p118).2 i)) (Fy := NoB) (by kernel_rfl) (by kernel_rfl) (by omega) (by kernel_rfl) (by kernel_rfl) (Nat.le_of_ble_eq_true (by kernel_rfl)) (by kernel_rfl) (fun G g _ => ⟨G, ows_Mon_pend g (⟨by omega, by omega⟩), fun _ h => .inl h⟩) (fun b _ h => False.elim h) (fun b h => False.elim h) (fun b h => False.elim h) ?_)
    clear S; intro w N F127 q128 S up o126 d129 s130
    have s131 : ∀ b, F127 b → F b := fun b h => (s130 b h).elim (hs b) (fun h => False.elim h)
    clear up d129 o119
    obtain ⟨a132, e133⟩ : ∃ z, z = (a120).set i ({ el a120 i with pend := k112 }) := ⟨_, rfl⟩
    rw [← e133] at o126
    have l134 : a132.length = (a120).length := by rw [e133]; exact List.length_set
    have e135 : el a132 i = { el a120 i with pend := k112 } := by rw [e133]; exact el_set_self (show i < (a120).length by omega)
    have t136 : a132.take i = (a120).take i := by rw [e133]; exact take_set_self
    have d137 : a132.drop (i + 1) = (a120).drop (i + 1) := by rw [e133]; exact drop_set_self
    clear e133
    replace S := S.p [0, 1, 5] 0 ⟨[(0, .v (slv a.length q1.1)), (1, .v (I k112)), (5, .v (I (i : Int)))], []⟩
    refine RG.done rfl (nx_then (wp_seq (RG.start ?_)))
    refine S.q 3 [0, 1, 5] 0 ⟨[(0, .v (slv a.length q1.1)), (1, .v (I (k112 + 1))), (5, .v (I (i : Int)))], []⟩ (.cons (Q_add (x := k112) (y := 1) ⟨by omega, by omega⟩) .nil) ?_; clear S; intro ac w β S
    refine RG.done rfl (nx_then (wp_seq (RG.start ?_)))
    refine S.q 5 [0, 1, 5, 56, 58] 0 ⟨[(0, .v (slv a.length q1.1)), (1, .v (I (k112 + 1))), (5, .v (I (i : Int))), (56, .v (I (k112 + 1))), (58, .v (pt q1.1.b (q1.1.off + i * 9 + 6)))], []⟩ (.cons (Q_idx o126.rn (l := a.length) (k := i) (i := (i : Int)) (by omega) rfl (by omega) Tryz.underlying28 (by kernel_rfl)) .nil) ?_; clear S; intro ac w β S
    refine RG.op rfl (S.setEl (α := TMon) o126 (t := 3) (v := I (k112 + 1)) (k := i) (j := 6) (off := q1.1.off + i * 9 + 6) (y := ({ el a132 i with traps := (k112 + 1) } : TMon)) (q := ((q1.1, q128).2 i)) (Fy := NoB) (by kernel_rfl) (by kernel_rfl) (by omega) (by kernel_rfl) (by kernel_rfl) (Nat.le_of_ble_eq_true (by kernel_rfl)) (by kernel_rfl) (fun G g _ => ⟨G, ows_Mon_traps g (⟨by omega, by omega⟩), fun _ h => .inl h⟩) (fun b _ h => False.elim h) (fun b h => False.elim h) (fun b h => False.elim h) ?_)
    clear S; intro w N F139 q140 S up o138 d141 s142
    have s143 : ∀ b, F139 b → F b := fun b h => (s142 b h).elim (s131 b) (fun h => False.elim h)
    clear up d141 o126
    obtain ⟨a144, e145⟩ : ∃ z, z = (a132).set i ({ el a132 i with traps := (k112 + 1) }) := ⟨_, rfl⟩
    rw [← e145] at o138
    have l146 : a144.length = (a132).length := by rw [e145]; exact List.length_set
    have e147 : el a144 i = { el a132 i with traps := (k112 + 1) } := by rw [e145]; exact el_set_self (show i < (a132).length by omega)
    have t148 : a144.take i = (a132).take i := by rw [e145]; exact take_set_self
    have d149 : a144.drop (i + 1) = (a132).drop (i + 1) := by rw [e145]; exact drop_set_self
    clear e145
    replace S := S.p [0, 1, 5] 0 ⟨[(0, .v (slv a.length q1.1)), (1, .v (I (k112 + 1))), (5, .v (I (i : Int)))], []⟩
    refine RG.done rfl (nx_then (wp_seq (RG.start ?_)))
    refine S.q 3 [0, 1, 5] 0 ⟨[(0, .v (slv a.length q1.1)), (1, .v (I ((k112 + 1) + 1))), (5, .v (I (i : Int)))], []⟩ (.cons (Q_add (x := (k112 + 1)) (y := 1) ⟨by omega, by omega⟩) .nil) ?_; clear S; intro ac w β S
    refine RG.done rfl (nx_then (wp_seq (RG.start ?_)))
    refine S.q 6 [0, 5, 65, 66] 0 ⟨[(0, .v (slv a.length q1.1)), (5, .v (I (i : Int))), (65, .v (slv ((el a144 i).tables).length (((q1.1, q140).2 i).tables).1)), (66, .v (I ((k112 + 1) + 1)))], []⟩ (.cons (Q_idx o138.rn (l := a.length) (k := i) (i := (i : Int)) (by omega) rfl (by omega) Tryz.underlying28 (by kernel_rfl)) (.cons (Q_cell o138.rn (t := 54) (k := i) (j := 7) (v := slv ((el a144 i).tables).length (((q1.1, q140).2 i).tables).1) (by omega) (by kernel_rfl) (by kernel_rfl)) .nil)) ?_; clear S; intro ac w β S
    obtain ⟨F150, o151, s152, b153⟩ := foc_Mon_tables o138 (k := i) (show i < (a144).length by omega)
    have z154 := szsum_take (xs := a) (k := i) (by omega)
    have z155 := szsum_take_le a (i + 1)
    have z156 := sz_Mon (el a i)
    have e157 : (el a144 i).tables = (el a i).tables := by simp only [e147, e135, e123, e99, e75, e51, e27, hel]
    refine RG.op rfl (S.callX (hd := hdl) (d := 67) o151 (c_laws_markKeptS w ((el a144 i).tables) (((q1.1, q140).2 i).tables) F150 (S.ownw o151) (fun b hb => (S.sep b (o151.sub b hb)).1) ((k112 + 1) + 1) (by omega) (by rw [e157]; omega)) (by kernel_rfl) rfl ?_)
    clear S; intro ac w N q158 y159 k160 S up o161 c162 x163 b164 b165
    rw [e157] at b165
    obtain ⟨p166, o167⟩ := b153 _ _ _ _ up o161 c162
    clear up o138 o151 s152 b153 o161 c162
    obtain ⟨a168, e169⟩ : ∃ z, z = (a144).set i ({ el a144 i with tables := y159 }) := ⟨_, rfl⟩
    rw [← e169] at o167
    have l170 : a168.length = (a144).length := by rw [e169]; exact List.length_set
    have e171 : el a168 i = { el a144 i with tables := y159 } := by rw [e169]; exact el_set_self (show i < (a144).length by omega)
    have t172 : a168.take i = (a144).take i := by rw [e169]; exact take_set_self
    have d173 : a168.drop (i + 1) = (a144).drop (i + 1) := by rw [e169]; exact drop_set_self
    clear e169
    refine S.q 1 [0, 1, 5] 0 ⟨[(0, .v (slv a.length q1.1)), (1, .v (I k160)), (5, .v (I (i : Int)))], []⟩ .nil ?_; clear S; intro ac w β S
    refine RG.done rfl (nx_then (wp_seq (RG.start ?_)))
    refine S.q 5 [0, 1, 5, 70, 72] 0 ⟨[(0, .v (slv a.length q1.1)), (1, .v (I k160)), (5, .v (I (i : Int))), (70, .v (I k160)), (72, .v (pt q1.1.b (q1.1.off + i * 9 + 8)))], []⟩ (.cons (Q_idx o167.rn (l := a.length) (k := i) (i := (i : Int)) (by omega) rfl (by omega) Tryz.underlying28 (by kernel_rfl)) .nil) ?_; clear S; intro ac w β S
    refine RG.op rfl (S.setEl (α := TMon) o167 (t := 3) (v := I k160) (k := i) (j := 8) (off := q1.1.off + i * 9 + 8) (y := ({ el a168 i with owned := k160 } : TMon)) (q := ((q1.1, p166).2 i)) (Fy := NoB) (by kernel_rfl) (by kernel_rfl) (by omega) (by kernel_rfl) (by kernel_rfl) (Nat.le_of_ble_eq_true (by kernel_rfl)) (by kernel_rfl) (fun G g _ => ⟨G, ows_Mon_owned g (⟨by omega, by omega⟩), fun _ h => .inl h⟩) (fun b _ h => False.elim h) (fun b h => False.elim h) (fun b h => False.elim h) ?_)
    clear S; intro w N F175 q176 S up o174 d177 s178
    have s179 : ∀ b, F175 b → F b := fun b h => (s178 b h).elim (s143 b) (fun h => False.elim h)
    clear up d177 o167
    obtain ⟨a180, e181⟩ : ∃ z, z = (a168).set i ({ el a168 i with owned := k160 }) := ⟨_, rfl⟩
    rw [← e181] at o174
    have l182 : a180.length = (a168).length := by rw [e181]; exact List.length_set
    have e183 : el a180 i = { el a168 i with owned := k160 } := by rw [e181]; exact el_set_self (show i < (a168).length by omega)
    have t184 : a180.take i = (a168).take i := by rw [e181]; exact take_set_self
    have d185 : a180.drop (i + 1) = (a168).drop (i + 1) := by rw [e181]; exact drop_set_self
    clear e181
    replace S := S.p [0, 1, 5] 0 ⟨[(0, .v (slv a.length q1.1)), (1, .v (I k160)), (5, .v (I (i : Int)))], []⟩
    refine RG.done rfl (nx_then (RG.start ?_))
    refine S.q 3 [0, 1, 5] 0 ⟨[(0, .v (slv a.length q1.1)), (1, .v (I (k160 + 1))), (5, .v (I (i : Int)))], []⟩ (.cons (Q_add (x := k160) (y := 1) ⟨by omega, by omega⟩) .nil) ?_; clear S; intro ac w β S
    refine RG.done rfl (nx_block (nx_then (RG.start ?_)))
    refine S.q 3 [0, 1, 5] 0 ⟨[(0, .v (slv a.length q1.1)), (1, .v (I (k160 + 1))), (5, .v (I ((i : Int) + 1)))], []⟩ (.cons (Q_add (x := (i : Int)) (y := 1) ⟨by omega, by omega⟩) .nil) ?_; clear S; intro ac w β S
    refine RG.done rfl (nx_then ?_)
    replace S := S.p [0, 1, 5] 0 ⟨[(0, .v (slv a.length q1.1)), (1, .v (I (k160 + 1))), (5, .v (I ((i : Int) + 1)))], []⟩
    refine ⟨a.length - (i + 1), by omega, i + 1, a180, (k160 + 1), (q1.1, q176), F175, _, _, _, rfl, ?_, ?_, ?_, ?_, ?_, ?_, S.cast (by kernel_rfl), o174, hq, s179⟩
    · clear S; first | omega | (simp [*]; done) | (simp [*]; omega)
    · clear S; omega
    · clear S; refine mk_step (acc := a180) (by omega) (by intro f; rw [t184, t172, t148, t136, t124, t100, t76, t52, t28]; exact hM f) ?_; intro f; simp (disch := first | omega | rfl) only [he_list, he_Mon, e183, e171, e147, e135, e123, e99, e75, e51, e27, x19, x43, x67, x91, x115, x163, hdc_pos, hdi_eq, hdb_eq]
    · clear S; rw [d185, d173, d149, d137, d125, d101, d77, d53, d29]; exact drop_more hD
    · clear S; omega
    · clear S; omega
  · have g186 : ¬ ((i : Int) < (a.length : Int)) := of_decide_eq_false h4
    refine wp_exit (ex_then (ex_then (ex_hit (nx_then (wp_seq (RG.start ?_))))))
    refine S.q 2 [4] 0 ⟨[(4, .v (I j))], []⟩ .nil ?_; clear S; intro ac w β S
    refine RG.done rfl (nx_then (wp_ret ?_))
    refine S.r [I j] ?_
    have hyd : hdl acc k = j := by clear S; exact mk_end (by omega) hM
    have hyb : k ≤ j ∧ j ≤ k + 16 * ((SZ.sz a : Nat) : Int) := by clear S; have hs2 := szsum_take_le a i; constructor <;> omega
    exact retX_of S hyd hyb.1 hyb.2 (by show [slv _ _] = [slv _ _]; rw [hl, hq]) o3 hs

set_option maxRecDepth 100000 in
theorem c_laws_markEntryS (w0 : World) (a : List TEntry) (pa : LP TEntry) (F : Bl) (ha : GT.own KK F w0 a pa) (hF : ∀ b, F b → b < w0.heap.size) (k : Int) (pre0 : 0 ≤ k) (pre1 : k + 16 * (SZ.sz a : Int) ≤ 4611686018427387904) : Calls Tryz.prog 33 [slv (a).length pa.1, I k].toArray w0 (RetX hdl F w0 pa a k) := by
  refine Calls.walk (args := [slv (a).length pa.1, I k]) F Tryz.func33 rfl rfl ?_
  intro ac β S
  have oa : Ow w0 F w0 (Lt w0.heap.size) F a pa := ⟨ha, hF, fun b hb => .inr hb⟩
  have hz := szl_TEntry a
  have hlea : a.length ≤ 4194304 := LOwn.le ha
  refine wp_seq (RG.start ?_)
  refine S.q 1 [0, 1] 0 ⟨[(0, .v (slv (a).length pa.1)), (1, .v (I k))], []⟩ .nil ?_; clear S; intro ac w β S
  refine RG.done rfl (nx_then (wp_seq (wp_seq (RG.start ?_))))
  refine S.q 1 [0, 1, 5] 0 ⟨[(0, .v (slv (a).length pa.1)), (1, .v (I k)), (5, .v (I 0))], []⟩ .nil ?_; clear S; intro ac w β S
  refine RG.done rfl (nx_then (wp_block ?_))
  replace S := S.p [0, 1, 5] 0 ⟨[(0, .v (slv (a).length pa.1)), (1, .v (I k)), (5, .v (I 0))], []⟩
  refine wp_loop_down (fun mm ac w => ∃ (i : Nat) (acc : List TEntry) (j : Int) (q1 : GT.Ptr (List TEntry)) (F2 : Bl) (u : World) (N : Bl) (β : Nat → Nat), mm = a.length - i ∧ (i ≤ a.length) ∧ (acc = f_marksEntry i k ++ a.drop i) ∧ (j = k + 4 * (i : Int)) ∧ St Tryz.prog Tryz.f33.ntmps w0 F u N β ⟨[(0, .v (slv a.length q1.1)), (1, .v (I j)), (5, .v (I (i : Int)))], []⟩ ac w ∧ Ow w0 F u N F2 acc q1 ∧ q1.1 = pa.1 ∧ (∀ b, F2 b → F b)) _ ⟨0, a, k, pa, F, _, _, _, rfl, (by first | omega | (simp; done) | (simp; omega)), (by simp [f_marksEntry]), (by simp), S.cast (by kernel_rfl), oa, rfl, (fun _ h => h)⟩ ?_
  clear S oa
  rintro mm ac w ⟨i, acc, j, q1, F2, u, N, β, rfl, hi, hacc, hj, S, o3, hq, hs⟩
  have hlacc : acc.length = a.length := by rw [hacc]; simp [f_marksEntry]; omega
  refine wp_seq (wp_seq (RG.start ?_))
  refine S.q 4 [0, 1, 5, 9] 0 ⟨[(0, .v (slv a.length q1.1)), (1, .v (I j)), (5, .v (I (i : Int))), (9, .v (B (decide ((i : Int) < (a.length : Int)))))], []⟩ .nil ?_; clear S; intro ac w β S
  refine RG.done rfl (nx_then ?_)
  refine S.c (decide ((i : Int) < (a.length : Int))) (fun h4 => ?_) (fun h4 => ?_)
  · have g5 : (i : Int) < (a.length : Int) := of_decide_eq_true h4
    refine wp_skip (nx_then (wp_seq (wp_block (wp_seq (RG.start ?_)))))
    refine S.q 5 [0, 1, 5, 14, 16] 0 ⟨[(0, .v (slv a.length q1.1)), (1, .v (I j)), (5, .v (I (i : Int))), (14, .v (I j)), (16, .v (pt q1.1.b (q1.1.off + i * 4)))], []⟩ (.cons (Q_idx o3.rn (l := a.length) (k := i) (i := (i : Int)) (by rw [hacc]; simp [f_marksEntry]; omega) rfl (by omega) Tryz.underlying29 (by kernel_rfl)) .nil) ?_; clear S; intro ac w β S
    have e6 : REntry (el acc i) := (LRd.el o3.rn i (by omega))
    refine RG.op rfl (S.setEl (α := TEntry) o3 (t := 3) (v := I j) (k := i) (j := 0) (off := q1.1.off + i * 4) (y := (⟨j, (el acc i).page, (el acc i).host, (el acc i).rights⟩ : TEntry)) (q := ()) (Fy := NoB) (by kernel_rfl) (by kernel_rfl) (by omega) (by kernel_rfl) (by kernel_rfl) (Nat.le_of_ble_eq_true (by kernel_rfl)) (by kernel_rfl) (fun _ _ _ => ⟨NoB, (show REntry (⟨j, (el acc i).page, (el acc i).host, (el acc i).rights⟩ : TEntry) from ⟨(show In64 j from ⟨by omega, by omega⟩), (REntry.page (d := (el acc i)) e6), (REntry.host (d := (el acc i)) e6), (REntry.rights (d := (el acc i)) e6)⟩), fun _ h => False.elim h⟩) (fun b _ h => False.elim h) (fun b h => False.elim h) (fun b h => False.elim h) ?_)
    clear S; intro w N F8 q9 S up o7 d10 s11
    have s12 : ∀ b, F8 b → F b := fun b h => (s11 b h).elim (hs b) (fun h => False.elim h)
    clear up d10 o3
    have l13 : (acc.set i (⟨j, (el acc i).page, (el acc i).host, (el acc i).rights⟩ : TEntry)).length = (acc).length := List.length_set
    replace S := S.p [0, 1, 5] 0 ⟨[(0, .v (slv a.length q1.1)), (1, .v (I j)), (5, .v (I (i : Int)))], []⟩
    refine RG.done rfl (nx_then (wp_seq (RG.start ?_)))
    refine S.q 3 [0, 1, 5] 0 ⟨[(0, .v (slv a.length q1.1)), (1, .v (I (j + 1))), (5, .v (I (i : Int)))], []⟩ (.cons (Q_add (x := j) (y := 1) ⟨by omega, by omega⟩) .nil) ?_; clear S; intro ac w β S
    refine RG.done rfl (nx_then (wp_seq (RG.start ?_)))
    refine S.q 5 [0, 1, 5, 21, 23] 0 ⟨[(0, .v (slv a.length q1.1)), (1, .v (I (j + 1))), (5, .v (I (i : Int))), (21, .v (I (j + 1))), (23, .v (pt q1.1.b (q1.1.off + i * 4 + 1)))], []⟩ (.cons (Q_idx o7.rn (l := a.length) (k := i) (i := (i : Int)) (by rw [List.length_set]; exact (by rw [hacc]; simp [f_marksEntry]; omega)) rfl (by omega) Tryz.underlying29 (by kernel_rfl)) .nil) ?_; clear S; intro ac w β S
    refine RG.op rfl (S.setEl (α := TEntry) o7 (t := 3) (v := I (j + 1)) (k := i) (j := 1) (off := q1.1.off + i * 4 + 1) (y := (⟨j, (j + 1), (el acc i).host, (el acc i).rights⟩ : TEntry)) (q := ()) (Fy := NoB) (by kernel_rfl) (by kernel_rfl) (by omega) (by kernel_rfl) (by kernel_rfl) (Nat.le_of_ble_eq_true (by kernel_rfl)) (by rw [el_set_self (show i < (acc).length by omega)]; kernel_rfl) (fun _ _ _ => ⟨NoB, (show REntry (⟨j, (j + 1), (el acc i).host, (el acc i).rights⟩ : TEntry) from ⟨(show In64 j from ⟨by omega, by omega⟩), (show In64 (j + 1) from ⟨by omega, by omega⟩), (REntry.host (d := (el acc i)) e6), (REntry.rights (d := (el acc i)) e6)⟩), fun _ h => False.elim h⟩) (fun b _ h => False.elim h) (fun b h => False.elim h) (fun b h => False.elim h) ?_)
    clear S; intro w N F15 q16 S up o14 d17 s18
    have s19 : ∀ b, F15 b → F b := fun b h => (s18 b h).elim (s12 b) (fun h => False.elim h)
    clear up d17 o7
    rw [List.set_set] at o14
    have l20 : (acc.set i (⟨j, (j + 1), (el acc i).host, (el acc i).rights⟩ : TEntry)).length = (acc).length := List.length_set
    replace S := S.p [0, 1, 5] 0 ⟨[(0, .v (slv a.length q1.1)), (1, .v (I (j + 1))), (5, .v (I (i : Int)))], []⟩
    refine RG.done rfl (nx_then (wp_seq (RG.start ?_)))
    refine S.q 3 [0, 1, 5] 0 ⟨[(0, .v (slv a.length q1.1)), (1, .v (I ((j + 1) + 1))), (5, .v (I (i : Int)))], []⟩ (.cons (Q_add (x := (j + 1)) (y := 1) ⟨by omega, by omega⟩) .nil) ?_; clear S; intro ac w β S
    refine RG.done rfl (nx_then (wp_seq (RG.start ?_)))
    refine S.q 5 [0, 1, 5, 28, 30] 0 ⟨[(0, .v (slv a.length q1.1)), (1, .v (I ((j + 1) + 1))), (5, .v (I (i : Int))), (28, .v (I ((j + 1) + 1))), (30, .v (pt q1.1.b (q1.1.off + i * 4 + 2)))], []⟩ (.cons (Q_idx o14.rn (l := a.length) (k := i) (i := (i : Int)) (by rw [List.length_set]; exact (by rw [hacc]; simp [f_marksEntry]; omega)) rfl (by omega) Tryz.underlying29 (by kernel_rfl)) .nil) ?_; clear S; intro ac w β S
    refine RG.op rfl (S.setEl (α := TEntry) o14 (t := 3) (v := I ((j + 1) + 1)) (k := i) (j := 2) (off := q1.1.off + i * 4 + 2) (y := (⟨j, (j + 1), ((j + 1) + 1), (el acc i).rights⟩ : TEntry)) (q := ()) (Fy := NoB) (by kernel_rfl) (by kernel_rfl) (by omega) (by kernel_rfl) (by kernel_rfl) (Nat.le_of_ble_eq_true (by kernel_rfl)) (by rw [el_set_self (show i < (acc).length by omega)]; kernel_rfl) (fun _ _ _ => ⟨NoB, (show REntry (⟨j, (j + 1), ((j + 1) + 1), (el acc i).rights⟩ : TEntry) from ⟨(show In64 j from ⟨by omega, by omega⟩), (show In64 (j + 1) from ⟨by omega, by omega⟩), (show In64 ((j + 1) + 1) from ⟨by omega, by omega⟩), (REntry.rights (d := (el acc i)) e6)⟩), fun _ h => False.elim h⟩) (fun b _ h => False.elim h) (fun b h => False.elim h) (fun b h => False.elim h) ?_)
    clear S; intro w N F22 q23 S up o21 d24 s25
    have s26 : ∀ b, F22 b → F b := fun b h => (s25 b h).elim (s19 b) (fun h => False.elim h)
    clear up d24 o14
    rw [List.set_set] at o21
    have l27 : (acc.set i (⟨j, (j + 1), ((j + 1) + 1), (el acc i).rights⟩ : TEntry)).length = (acc).length := List.length_set
    replace S := S.p [0, 1, 5] 0 ⟨[(0, .v (slv a.length q1.1)), (1, .v (I ((j + 1) + 1))), (5, .v (I (i : Int)))], []⟩
    refine RG.done rfl (nx_then (wp_seq (RG.start ?_)))
    refine S.q 3 [0, 1, 5] 0 ⟨[(0, .v (slv a.length q1.1)), (1, .v (I (((j + 1) + 1) + 1))), (5, .v (I (i : Int)))], []⟩ (.cons (Q_add (x := ((j + 1) + 1)) (y := 1) ⟨by omega, by omega⟩) .nil) ?_; clear S; intro ac w β S
    refine RG.done rfl (nx_then (wp_seq (RG.start ?_)))
    refine S.q 5 [0, 1, 5, 35, 37] 0 ⟨[(0, .v (slv a.length q1.1)), (1, .v (I (((j + 1) + 1) + 1))), (5, .v (I (i : Int))), (35, .v (I (((j + 1) + 1) + 1))), (37, .v (pt q1.1.b (q1.1.off + i * 4 + 3)))], []⟩ (.cons (Q_idx o21.rn (l := a.length) (k := i) (i := (i : Int)) (by rw [List.length_set]; exact (by rw [hacc]; simp [f_marksEntry]; omega)) rfl (by omega) Tryz.underlying29 (by kernel_rfl)) .nil) ?_; clear S; intro ac w β S
    refine RG.op rfl (S.setEl (α := TEntry) o21 (t := 3) (v := I (((j + 1) + 1) + 1)) (k := i) (j := 3) (off := q1.1.off + i * 4 + 3) (y := (⟨j, (j + 1), ((j + 1) + 1), (((j + 1) + 1) + 1)⟩ : TEntry)) (q := ()) (Fy := NoB) (by kernel_rfl) (by kernel_rfl) (by omega) (by kernel_rfl) (by kernel_rfl) (Nat.le_of_ble_eq_true (by kernel_rfl)) (by rw [el_set_self (show i < (acc).length by omega)]; kernel_rfl) (fun _ _ _ => ⟨NoB, (show REntry (⟨j, (j + 1), ((j + 1) + 1), (((j + 1) + 1) + 1)⟩ : TEntry) from ⟨(show In64 j from ⟨by omega, by omega⟩), (show In64 (j + 1) from ⟨by omega, by omega⟩), (show In64 ((j + 1) + 1) from ⟨by omega, by omega⟩), (show In64 (((j + 1) + 1) + 1) from ⟨by omega, by omega⟩)⟩), fun _ h => False.elim h⟩) (fun b _ h => False.elim h) (fun b h => False.elim h) (fun b h => False.elim h) ?_)
    clear S; intro w N F29 q30 S up o28 d31 s32
    have s33 : ∀ b, F29 b → F b := fun b h => (s32 b h).elim (s26 b) (fun h => False.elim h)
    clear up d31 o21
    rw [List.set_set] at o28
    have l34 : (acc.set i (⟨j, (j + 1), ((j + 1) + 1), (((j + 1) + 1) + 1)⟩ : TEntry)).length = (acc).length := List.length_set
    replace S := S.p [0, 1, 5] 0 ⟨[(0, .v (slv a.length q1.1)), (1, .v (I (((j + 1) + 1) + 1))), (5, .v (I (i : Int)))], []⟩
    refine RG.done rfl (nx_then (RG.start ?_))
    refine S.q 3 [0, 1, 5] 0 ⟨[(0, .v (slv a.length q1.1)), (1, .v (I ((((j + 1) + 1) + 1) + 1))), (5, .v (I (i : Int)))], []⟩ (.cons (Q_add (x := (((j + 1) + 1) + 1)) (y := 1) ⟨by omega, by omega⟩) .nil) ?_; clear S; intro ac w β S
    refine RG.done rfl (nx_block (nx_then (RG.start ?_)))
    refine S.q 3 [0, 1, 5] 0 ⟨[(0, .v (slv a.length q1.1)), (1, .v (I ((((j + 1) + 1) + 1) + 1))), (5, .v (I ((i : Int) + 1)))], []⟩ (.cons (Q_add (x := (i : Int)) (y := 1) ⟨by omega, by omega⟩) .nil) ?_; clear S; intro ac w β S
    refine RG.done rfl (nx_then ?_)
    replace S := S.p [0, 1, 5] 0 ⟨[(0, .v (slv a.length q1.1)), (1, .v (I ((((j + 1) + 1) + 1) + 1))), (5, .v (I ((i : Int) + 1)))], []⟩
    refine ⟨a.length - (i + 1), by omega, i + 1, (acc.set i (⟨j, (j + 1), ((j + 1) + 1), (((j + 1) + 1) + 1)⟩ : TEntry)), ((((j + 1) + 1) + 1) + 1), (q1.1, q30), F29, _, _, _, rfl, ?_, ?_, ?_, S.cast (by kernel_rfl), o28, hq, s33⟩
    · clear S; first | omega | (simp [*]; done) | (simp [*]; omega)
    · clear S; (have hlt : i < acc.length := (by omega)); rw [hacc, ← marksEntry_step (by omega) hj]; (first | rfl | (simp [g_markEntry, Int.add_assoc]; done))
    · clear S; omega
  · have g35 : ¬ ((i : Int) < (a.length : Int)) := of_decide_eq_false h4
    refine wp_exit (ex_then (ex_then (ex_hit (nx_then (wp_seq (RG.start ?_))))))
    refine S.q 2 [4] 0 ⟨[(4, .v (I j))], []⟩ .nil ?_; clear S; intro ac w β S
    refine RG.done rfl (nx_then (wp_ret ?_))
    refine S.r [I j] ?_
    have hyd : hdl acc k = j := by clear S; (have e : i = a.length := (by omega)); subst e; rw [hacc, List.drop_length, List.append_nil, hj]; exact hd_marksEntry k (by omega) _ (by omega) id
    have hyb : k ≤ j ∧ j ≤ k + 16 * ((SZ.sz a : Nat) : Int) := by clear S; skip; constructor <;> omega
    exact retX_of S hyd hyb.1 hyb.2 (by show [slv _ _] = [slv _ _]; rw [hlacc, hq]) o3 hs

set_option maxRecDepth 100000 in
theorem c_laws_markHost (w0 : World) (a : THost) (pa : PHost) (F : Bl) (ha : GT.own KK F w0 a pa) (hF : ∀ b, F b → b < w0.heap.size) (k : Int) (pre0 : 0 ≤ k) (pre1 : k + 16 * (SZ.sz a : Int) ≤ 4611686018427387904) : Calls Tryz.prog 10 [GT.val a pa, I k].toArray w0 (RetX hdT_Host F w0 pa a k) := by
  refine Calls.walk (args := [GT.val a pa, I k]) F Tryz.func10 rfl rfl ?_
  intro ac β S
  have oa : Ow w0 F w0 (Lt w0.heap.size) F a pa := ⟨ha, hF, fun b hb => .inr hb⟩
  obtain ⟨F1, F4, F7, F10, o2, o5, o8, o11, s3, s6, s9, s12, d13, d14, d15, d16, d17, d18⟩ := sp_Host oa
  have hz := sz_Host a
  refine wp_seq (RG.start ?_)
  refine S.q 2 [1, 2] 1 ⟨[(1, .v (I k)), (2, .p 0 0)], [[slv (a.mem).length pa.mem.1, slv (a.mons).length pa.mons.1, slv (a.buf).length pa.buf.1, slv (a.iobuf).length pa.iobuf.1]]⟩ .nil ?_; clear S; intro ac w β S
  refine RG.done rfl (nx_then (wp_seq (RG.start ?_)))
  refine S.q 3 [2, 6, 7] 1 ⟨[(2, .p 0 0), (6, .v (slv (a.mem).length pa.mem.1)), (7, .v (I k))], [[slv (a.mem).length pa.mem.1, slv (a.mons).length pa.mons.1, slv (a.buf).length pa.buf.1, slv (a.iobuf).length pa.iobuf.1]]⟩ .nil ?_; clear S; intro ac w β S
  refine RG.op rfl (S.callX (hd := hdl) (d := 8) o2 (c_laws_markIntSS w a.mem pa.mem F1 (S.ownw o2) (fun b hb => (S.sep b (o2.sub b hb)).1) k (by omega) (by omega)) (by kernel_rfl) rfl ?_)
  clear S; intro ac w N q19 y20 k21 S up o22 c23 x24 b25 b26
  replace o5 := o5.upF (Disj.symm d13) up
  replace o8 := o8.upF (Disj.symm d14) up
  replace o11 := o11.upF (Disj.symm d15) up
  clear up
  refine S.q 1 [1, 2] 1 ⟨[(1, .v (I k21)), (2, .p 0 0)], [[slv (a.mem).length pa.mem.1, slv (a.mons).length pa.mons.1, slv (a.buf).length pa.buf.1, slv (a.iobuf).length pa.iobuf.1]]⟩ .nil ?_; clear S; intro ac w β S
  refine RG.done rfl (nx_then (wp_seq (RG.start ?_)))
  refine S.q 3 [2, 10, 11] 1 ⟨[(2, .p 0 0), (10, .v (slv (a.mons).length pa.mons.1)), (11, .v (I k21))], [[slv (a.mem).length pa.mem.1, slv (a.mons).length pa.mons.1, slv (a.buf).length pa.buf.1, slv (a.iobuf).length pa.iobuf.1]]⟩ .nil ?_; clear S; intro ac w β S
  refine RG.op rfl (S.callX (hd := hdl) (d := 12) o5 (c_laws_markMonS w a.mons pa.mons F4 (S.ownw o5) (fun b hb => (S.sep b (o5.sub b hb)).1) k21 (by omega) (by omega)) (by kernel_rfl) rfl ?_)
  clear S; intro ac w N q27 y28 k29 S up o30 c31 x32 b33 b34
  replace o8 := o8.upF (Disj.symm d16) up
  replace o11 := o11.upF (Disj.symm d17) up
  replace o22 := o22.upF (Disj.symm (Disj.symm d13)) up
  clear up
  refine S.q 1 [1, 2] 1 ⟨[(1, .v (I k29)), (2, .p 0 0)], [[slv (a.mem).length pa.mem.1, slv (a.mons).length pa.mons.1, slv (a.buf).length pa.buf.1, slv (a.iobuf).length pa.iobuf.1]]⟩ .nil ?_; clear S; intro ac w β S
  refine RG.done rfl (nx_then (wp_seq (RG.start ?_)))
  refine S.q 3 [2, 14, 15] 1 ⟨[(2, .p 0 0), (14, .v (slv (a.buf).length pa.buf.1)), (15, .v (I k29))], [[slv (a.mem).length pa.mem.1, slv (a.mons).length pa.mons.1, slv (a.buf).length pa.buf.1, slv (a.iobuf).length pa.iobuf.1]]⟩ .nil ?_; clear S; intro ac w β S
  refine RG.op rfl (S.callX (hd := hdl) (d := 16) o8 (c_laws_markEntryS w a.buf pa.buf F7 (S.ownw o8) (fun b hb => (S.sep b (o8.sub b hb)).1) k29 (by omega) (by omega)) (by kernel_rfl) rfl ?_)
  clear S; intro ac w N q35 y36 k37 S up o38 c39 x40 b41 b42
  replace o11 := o11.upF (Disj.symm d18) up
  replace o22 := o22.upF (Disj.symm (Disj.symm d14)) up
  replace o30 := o30.upF (Disj.symm (Disj.symm d16)) up
  clear up
  refine S.q 1 [1, 2] 1 ⟨[(1, .v (I k37)), (2, .p 0 0)], [[slv (a.mem).length pa.mem.1, slv (a.mons).length pa.mons.1, slv (a.buf).length pa.buf.1, slv (a.iobuf).length pa.iobuf.1]]⟩ .nil ?_; clear S; intro ac w β S
  refine RG.done rfl (nx_then (wp_seq (RG.start ?_)))
  refine S.q 3 [18, 19] 0 ⟨[(18, .v (slv (a.iobuf).length pa.iobuf.1)), (19, .v (I k37))], []⟩ .nil ?_; clear S; intro ac w β S
  refine RG.op rfl (S.callX (hd := hdl) (d := 20) o11 (c_laws_markEntryS w a.iobuf pa.iobuf F10 (S.ownw o11) (fun b hb => (S.sep b (o11.sub b hb)).1) k37 (by omega) (by omega)) (by kernel_rfl) rfl ?_)
  clear S; intro ac w N q43 y44 k45 S up o46 c47 x48 b49 b50
  replace o22 := o22.upF (Disj.symm (Disj.symm d15)) up
  replace o30 := o30.upF (Disj.symm (Disj.symm d17)) up
  replace o38 := o38.upF (Disj.symm (Disj.symm d18)) up
  clear up
  refine S.q 1 [1] 0 ⟨[(1, .v (I k45))], []⟩ .nil ?_; clear S; intro ac w β S
  refine RG.done rfl (nx_then (wp_seq (RG.start ?_)))
  refine S.q 2 [4] 0 ⟨[(4, .v (I k45))], []⟩ .nil ?_; clear S; intro ac w β S
  refine RG.done rfl (nx_then (wp_ret ?_))
  refine S.r [I k45] ?_
  have o51 := ow_Host (x := (⟨y20, y28, y36, y44⟩ : THost)) (p := (⟨q19, q27, q35, q43⟩ : PHost)) o22 o30 o38 o46 (Disj.symm (Disj.symm d13)) (Disj.symm (Disj.symm d14)) (Disj.symm (Disj.symm d15)) (Disj.symm (Disj.symm d16)) (Disj.symm (Disj.symm d17)) (Disj.symm (Disj.symm d18)) 
  have hcc := cc_Host (x := (⟨y20, y28, y36, y44⟩ : THost)) (y := a) (p := (⟨q19, q27, q35, q43⟩ : PHost)) (q := pa) c23 c31 c39 c47 
  have hsz := sz_Host a
  have hyd : hdT_Host (⟨y20, y28, y36, y44⟩ : THost) k = k45 := by clear S; simp (disch := omega) only [hdT_Host, x24, x32, x40, x48, hdc_pos]
  have hyb : k ≤ k45 ∧ k45 ≤ k + 16 * ((SZ.sz a : Nat) : Int) := by clear S; constructor <;> omega
  exact retX_of S hyd hyb.1 hyb.2 hcc o51 (uni_all fun G hG => by simp only [List.mem_cons, List.not_mem_nil, or_false] at hG; rcases hG with rfl | rfl | rfl | rfl <;> assumption)

set_option maxRecDepth 100000 in
theorem c_laws_heldIntS (w0 : World) (a : List Int) (pa : LP Int) (ha : GT.rd KK (Lt w0.heap.size) w0 a pa) (k : Int) : Calls Tryz.prog 67 [slv (a).length pa.1, I k].toArray w0 (fun e w' => e = .returned (I (hdl a k)) ∧ Chg NoB w0 w') := by
  refine Calls.walk (args := [slv (a).length pa.1, I k]) NoB Tryz.func67 rfl rfl ?_
  intro ac β S
  have hlea : a.length ≤ 4194304 := LRd.le ha
  refine wp_seq (RG.start ?_)
  refine S.q 1 [0, 1] 0 ⟨[(0, .v (slv (a).length pa.1)), (1, .v (I k))], []⟩ .nil ?_; clear S; intro ac w β S
  refine RG.done rfl (nx_then (wp_seq (wp_seq (RG.start ?_))))
  refine S.q 1 [0, 1, 5] 0 ⟨[(0, .v (slv (a).length pa.1)), (1, .v (I k)), (5, .v (I 0))], []⟩ .nil ?_; clear S; intro ac w β S
  refine RG.done rfl (nx_then (wp_block ?_))
  replace S := S.p [0, 1, 5] 0 ⟨[(0, .v (slv (a).length pa.1)), (1, .v (I k)), (5, .v (I 0))], []⟩
  refine wp_loop_down (fun mm ac w => ∃ (i : Nat) (j : Int)  (u : World) (N : Bl) (β : Nat → Nat), mm = a.length - i ∧ (i ≤ a.length) ∧ (hdl a k = hdlc (a.drop i) j id) ∧ St Tryz.prog Tryz.f67.ntmps w0 NoB u N β ⟨[(0, .v (slv (a).length pa.1)), (1, .v (I j)), (5, .v (I (i : Int)))], []⟩ ac w) _ ⟨0, k, _, _, _, rfl, (by first | omega | (simp; done) | (simp; omega)), (by rfl), S.cast (by kernel_rfl)⟩ ?_
  clear S
  rintro mm ac w ⟨i, j, u, N, β, rfl, hi, hr, S⟩
  refine wp_seq (wp_seq (RG.start ?_))
  refine S.q 4 [0, 1, 5, 9] 0 ⟨[(0, .v (slv (a).length pa.1)), (1, .v (I j)), (5, .v (I (i : Int))), (9, .v (B (decide ((i : Int) < ((a).length : Int)))))], []⟩ .nil ?_; clear S; intro ac w β S
  refine RG.done rfl (nx_then ?_)
  refine S.c (decide ((i : Int) < ((a).length : Int))) (fun h1 => ?_) (fun h1 => ?_)
  · have g2 : (i : Int) < ((a).length : Int) := of_decide_eq_true h1
    refine wp_skip (nx_then (wp_seq (wp_block (wp_seq (wp_seq (RG.start ?_))))))
    refine S.q 6 [0, 1, 5, 17] 0 ⟨[(0, .v (slv (a).length pa.1)), (1, .v (I j)), (5, .v (I (i : Int))), (17, .v (B ((el a i) != j)))], []⟩ (.cons (Q_idx (S.arg ha) (l := (a).length) (k := i) (i := (i : Int)) rfl rfl (by omega) Tryz.underlying53 (by kernel_rfl)) (.cons (Q_el1 (S.arg ha) (t := 3) (k := i) (by omega) rfl (by kernel_rfl)) .nil)) ?_; clear S; intro ac w β S
    refine RG.done rfl (nx_then ?_)
    refine S.c ((el a i) != j) (fun h3 => ?_) (fun h3 => ?_)
    · have g4 : ¬ ((el a i) = j) := bne_iff_ne.1 h3
      refine wp_seq (RG.start ?_)
      refine S.q 1 [4] 0 ⟨[(4, .v (I (-1)))], []⟩ .nil ?_; clear S; intro ac w β S
      refine RG.done rfl (nx_then (wp_ret (rt_then (rt_block (rt_then (rt_then (rt_block (rt_then ?_))))))))
      refine S.r [I (-1)] ?_
      exact ⟨retI (by clear S; (first | (rw [hr, hd_end (by omega)]; done) | (rw [hr, hd_step (by omega)]; simp [he_Int, w1, hdi, hdb, hdc, *]; done) | (rw [hr, hd_step (by omega)]; simp_all [he_Int, w1, hdi, hdb, hdc]; done))), S.chg⟩
    · have g5 : (el a i) = j := ne_f h3
      refine wp_skip (nx_then (RG.start ?_))
      refine S.q 3 [0, 1, 5] 0 ⟨[(0, .v (slv (a).length pa.1)), (1, .v (I (w1 j))), (5, .v (I (i : Int)))], []⟩ (.cons (Q_addw (x := j) (y := 1)) .nil) ?_; clear S; intro ac w β S
      refine RG.done rfl (nx_block (nx_then (RG.start ?_)))
      refine S.q 3 [0, 1, 5] 0 ⟨[(0, .v (slv (a).length pa.1)), (1, .v (I (w1 j))), (5, .v (I ((i : Int) + 1)))], []⟩ (.cons (Q_add (x := (i : Int)) (y := 1) ⟨by omega, by omega⟩) .nil) ?_; clear S; intro ac w β S
      refine RG.done rfl (nx_then ?_)
      replace S := S.p [0, 1, 5] 0 ⟨[(0, .v (slv (a).length pa.1)), (1, .v (I (w1 j))), (5, .v (I ((i : Int) + 1)))], []⟩
      refine ⟨a.length - (i + 1), by omega, i + 1, (w1 j), _, _, _, rfl, ?_, ?_, S.cast (by kernel_rfl)⟩
      · clear S; first | omega | (simp [*]; done) | (simp [*]; omega)
      · clear S; (rw [hr, hd_step (by omega)]; simp [he_Int, w1, hdi, hdb, hdc, *])
  · have g6 : ¬ ((i : Int) < ((a).length : Int)) := of_decide_eq_false h1
    refine wp_exit (ex_then (ex_then (ex_hit (nx_then (wp_seq (RG.start ?_))))))
    refine S.q 2 [4] 0 ⟨[(4, .v (I j))], []⟩ .nil ?_; clear S; intro ac w β S
    refine RG.done rfl (nx_then (wp_ret ?_))
    refine S.r [I j] ?_
    exact ⟨retI (by clear S; (first | (rw [hr, hd_end (by omega)]; done) | (rw [hr, hd_step (by omega)]; simp [he_Int, w1, hdi, hdb, hdc, *]; done) | (rw [hr, hd_step (by omega)]; simp_all [he_Int, w1, hdi, hdb, hdc]; done))), S.chg⟩

set_option maxRecDepth 100000 in
theorem c_laws_heldIntSS (w0 : World) (a : List (List Int)) (pa : LP (List Int)) (ha : GT.rd KK (Lt w0.heap.size) w0 a pa) (k : Int) : Calls Tryz.prog 34 [slv (a).length pa.1, I k].toArray w0 (fun e w' => e = .returned (I (hdl a k)) ∧ Chg NoB w0 w') := by
  refine Calls.walk (args := [slv (a).length pa.1, I k]) NoB Tryz.func34 rfl rfl ?_
  intro ac β S
  have hlea : a.length ≤ 4194304 := LRd.le ha
  refine wp_seq (RG.start ?_)
  refine S.q 1 [0, 1] 0 ⟨[(0, .v (slv (a).length pa.1)), (1, .v (I k))], []⟩ .nil ?_; clear S; intro ac w β S
  refine RG.done rfl (nx_then (wp_seq (wp_seq (RG.start ?_))))
  refine S.q 1 [0, 1, 5] 0 ⟨[(0, .v (slv (a).length pa.1)), (1, .v (I k)), (5, .v (I 0))], []⟩ .nil ?_; clear S; intro ac w β S
  refine RG.done rfl (nx_then (wp_block ?_))
  replace S := S.p [0, 1, 5] 0 ⟨[(0, .v (slv (a).length pa.1)), (1, .v (I k)), (5, .v (I 0))], []⟩
  refine wp_loop_down (fun mm ac w => ∃ (i : Nat) (j : Int)  (u : World) (N : Bl) (β : Nat → Nat), mm = a.length - i ∧ (i ≤ a.length) ∧ (hdl a k = hdlc (a.drop i) j id) ∧ St Tryz.prog Tryz.f34.ntmps w0 NoB u N β ⟨[(0, .v (slv (a).length pa.1)), (1, .v (I j)), (5, .v (I (i : Int)))], []⟩ ac w) _ ⟨0, k, _, _, _, rfl, (by first | omega | (simp; done) | (simp; omega)), (by rfl), S.cast (by kernel_rfl)⟩ ?_
  clear S
  rintro mm ac w ⟨i, j, u, N, β, rfl, hi, hr, S⟩
  refine wp_seq (wp_seq (RG.start ?_))
  refine S.q 4 [0, 1, 5, 9] 0 ⟨[(0, .v (slv (a).length pa.1)), (1, .v (I j)), (5, .v (I (i : Int))), (9, .v (B (decide ((i : Int) < ((a).length : Int)))))], []⟩ .nil ?_; clear S; intro ac w β S
  refine RG.done rfl (nx_then ?_)
  refine S.c (decide ((i : Int) < ((a).length : Int))) (fun h1 => ?_) (fun h1 => ?_)
  · have g2 : (i : Int) < ((a).length : Int) := of_decide_eq_true h1
    refine wp_skip (nx_then (wp_seq (wp_block (wp_seq (RG.start ?_)))))
    refine S.q 7 [0, 1, 5] 0 ⟨[(0, .v (slv (a).length pa.1)), (1, .v (I (hdl (el a i) j))), (5, .v (I (i : Int)))], []⟩ (.cons (Q_idx (S.arg ha) (l := (a).length) (k := i) (i := (i : Int)) rfl rfl (by omega) Tryz.underlying22 (by kernel_rfl)) (.cons (Q_el1 (S.arg ha) (t := 53) (k := i) (by omega) rfl (by kernel_rfl)) (.cons (Q_call fun w hw => c_laws_heldIntS w (el a i) (pa.2 i) (rd_of (LRd.el (S.arg ha) i (by omega)) hw) j) .nil))) ?_; clear S; intro ac w β S
    refine RG.done rfl (nx_then (wp_seq (RG.start ?_)))
    refine S.q 2 [0, 1, 5, 19] 0 ⟨[(0, .v (slv (a).length pa.1)), (1, .v (I (hdl (el a i) j))), (5, .v (I (i : Int))), (19, .v (B (decide ((hdl (el a i) j) < 0))))], []⟩ .nil ?_; clear S; intro ac w β S
    refine RG.done rfl (nx_then ?_)
    refine S.c (decide ((hdl (el a i) j) < 0)) (fun h3 => ?_) (fun h3 => ?_)
    · have g4 : (hdl (el a i) j) < 0 := of_decide_eq_true h3
      refine wp_seq (RG.start ?_)
      refine S.q 1 [4] 0 ⟨[(4, .v (I (-1)))], []⟩ .nil ?_; clear S; intro ac w β S
      refine RG.done rfl (nx_then (wp_ret (rt_block (rt_then (rt_then (rt_block (rt_then ?_)))))))
      refine S.r [I (-1)] ?_
      exact ⟨retI (by clear S; (first | (rw [hr, hd_end (by omega)]; done) | (rw [hr, hd_step (by omega)]; simp [he_list, w1, hdi, hdb, hdc, *]; done) | (rw [hr, hd_step (by omega)]; simp_all [he_list, w1, hdi, hdb, hdc]; done))), S.chg⟩
    · have g5 : ¬ ((hdl (el a i) j) < 0) := of_decide_eq_false h3
      refine wp_skip (nx_block (nx_then (RG.start ?_)))
      refine S.q 3 [0, 1, 5] 0 ⟨[(0, .v (slv (a).length pa.1)), (1, .v (I (hdl (el a i) j))), (5, .v (I ((i : Int) + 1)))], []⟩ (.cons (Q_add (x := (i : Int)) (y := 1) ⟨by omega, by omega⟩) .nil) ?_; clear S; intro ac w β S
      refine RG.done rfl (nx_then ?_)
      replace S := S.p [0, 1, 5] 0 ⟨[(0, .v (slv (a).length pa.1)), (1, .v (I (hdl (el a i) j))), (5, .v (I ((i : Int) + 1)))], []⟩
      refine ⟨a.length - (i + 1), by omega, i + 1, (hdl (el a i) j), _, _, _, rfl, ?_, ?_, S.cast (by kernel_rfl)⟩
      · clear S; first | omega | (simp [*]; done) | (simp [*]; omega)
      · clear S; (rw [hr, hd_step (by omega)]; simp [he_list, w1, hdi, hdb, hdc, *])
  · have g6 : ¬ ((i : Int) < ((a).length : Int)) := of_decide_eq_false h1
    refine wp_exit (ex_then (ex_then (ex_hit (nx_then (wp_seq (RG.start ?_))))))
    refine S.q 2 [4] 0 ⟨[(4, .v (I j))], []⟩ .nil ?_; clear S; intro ac w β S
    refine RG.done rfl (nx_then (wp_ret ?_))
    refine S.r [I j] ?_
    exact ⟨retI (by clear S; (first | (rw [hr, hd_end (by omega)]; done) | (rw [hr, hd_step (by omega)]; simp [he_list, w1, hdi, hdb, hdc, *]; done) | (rw [hr, hd_step (by omega)]; simp_all [he_list, w1, hdi, hdb, hdc]; done))), S.chg⟩

set_option maxRecDepth 100000 in
theorem c_laws_heldSlotS (w0 : World) (a : List TSlot) (pa : LP TSlot) (ha : GT.rd KK (Lt w0.heap.size) w0 a pa) (k : Int) : Calls Tryz.prog 68 [slv (a).length pa.1, I k].toArray w0 (fun e w' => e = .returned (I (hdl a k)) ∧ Chg NoB w0 w') := by
  refine Calls.walk (args := [slv (a).length pa.1, I k]) NoB Tryz.func68 rfl rfl ?_
  intro ac β S
  have hlea : a.length ≤ 4194304 := LRd.le ha
  refine wp_seq (RG.start ?_)
  refine S.q 1 [0, 1] 0 ⟨[(0, .v (slv (a).length pa.1)), (1, .v (I k))], []⟩ .nil ?_; clear S; intro ac w β S
  refine RG.done rfl (nx_then (wp_seq (wp_seq (RG.start ?_))))
  refine S.q 1 [0, 1, 5] 0 ⟨[(0, .v (slv (a).length pa.1)), (1, .v (I k)), (5, .v (I 0))], []⟩ .nil ?_; clear S; intro ac w β S
  refine RG.done rfl (nx_then (wp_block ?_))
  replace S := S.p [0, 1, 5] 0 ⟨[(0, .v (slv (a).length pa.1)), (1, .v (I k)), (5, .v (I 0))], []⟩
  refine wp_loop_down (fun mm ac w => ∃ (i : Nat) (j : Int)  (u : World) (N : Bl) (β : Nat → Nat), mm = a.length - i ∧ (i ≤ a.length) ∧ (hdl a k = hdlc (a.drop i) j id) ∧ St Tryz.prog Tryz.f68.ntmps w0 NoB u N β ⟨[(0, .v (slv (a).length pa.1)), (1, .v (I j)), (5, .v (I (i : Int)))], []⟩ ac w) _ ⟨0, k, _, _, _, rfl, (by first | omega | (simp; done) | (simp; omega)), (by rfl), S.cast (by kernel_rfl)⟩ ?_
  clear S
  rintro mm ac w ⟨i, j, u, N, β, rfl, hi, hr, S⟩
  refine wp_seq (wp_seq (RG.start ?_))
  refine S.q 4 [0, 1, 5, 9] 0 ⟨[(0, .v (slv (a).length pa.1)), (1, .v (I j)), (5, .v (I (i : Int))), (9, .v (B (decide ((i : Int) < ((a).length : Int)))))], []⟩ .nil ?_; clear S; intro ac w β S
  refine RG.done rfl (nx_then ?_)
  refine S.c (decide ((i : Int) < ((a).length : Int))) (fun h1 => ?_) (fun h1 => ?_)
  · have g2 : (i : Int) < ((a).length : Int) := of_decide_eq_true h1
    refine wp_skip (nx_then (wp_seq (wp_block (wp_seq (wp_seq (RG.start ?_))))))
    refine S.q 7 [0, 1, 5, 18] 0 ⟨[(0, .v (slv (a).length pa.1)), (1, .v (I j)), (5, .v (I (i : Int))), (18, .v (B ((el a i).page != j)))], []⟩ (.cons (Q_idx (S.arg ha) (l := (a).length) (k := i) (i := (i : Int)) rfl rfl (by omega) Tryz.underlying50 (by kernel_rfl)) (.cons (Q_cell (S.arg ha) (t := 3) (k := i) (j := 0) (v := I ((el a i).page)) (by omega) (by kernel_rfl) (by kernel_rfl)) .nil)) ?_; clear S; intro ac w β S
    refine RG.done rfl (nx_then ?_)
    refine S.c ((el a i).page != j) (fun h3 => ?_) (fun h3 => ?_)
    · have g4 : ¬ ((el a i).page = j) := bne_iff_ne.1 h3
      refine wp_seq (RG.start ?_)
      refine S.q 1 [4] 0 ⟨[(4, .v (I (-1)))], []⟩ .nil ?_; clear S; intro ac w β S
      refine RG.done rfl (nx_then (wp_ret (rt_then (rt_block (rt_then (rt_then (rt_block (rt_then ?_))))))))
      refine S.r [I (-1)] ?_
      exact ⟨retI (by clear S; (first | (rw [hr, hd_end (by omega)]; done) | (rw [hr, hd_step (by omega)]; simp [he_Slot, w1, hdi, hdb, hdc, *]; done) | (rw [hr, hd_step (by omega)]; simp_all [he_Slot, w1, hdi, hdb, hdc]; done))), S.chg⟩
    · have g5 : (el a i).page = j := ne_f h3
      refine wp_skip (nx_then (wp_seq (RG.start ?_)))
      refine S.q 3 [0, 1, 5] 0 ⟨[(0, .v (slv (a).length pa.1)), (1, .v (I (w1 j))), (5, .v (I (i : Int)))], []⟩ (.cons (Q_addw (x := j) (y := 1)) .nil) ?_; clear S; intro ac w β S
      refine RG.done rfl (nx_then (wp_seq (wp_seq (RG.start ?_))))
      refine S.q 7 [0, 1, 5, 27] 0 ⟨[(0, .v (slv (a).length pa.1)), (1, .v (I (w1 j))), (5, .v (I (i : Int))), (27, .v (B ((el a i).rights != (w1 j))))], []⟩ (.cons (Q_idx (S.arg ha) (l := (a).length) (k := i) (i := (i : Int)) rfl rfl (by omega) Tryz.underlying50 (by kernel_rfl)) (.cons (Q_cell (S.arg ha) (t := 3) (k := i) (j := 1) (v := I ((el a i).rights)) (by omega) (by kernel_rfl) (by kernel_rfl)) .nil)) ?_; clear S; intro ac w β S
      refine RG.done rfl (nx_then ?_)
      refine S.c ((el a i).rights != (w1 j)) (fun h6 => ?_) (fun h6 => ?_)
      · have g7 : ¬ ((el a i).rights = (w1 j)) := bne_iff_ne.1 h6
        refine wp_seq (RG.start ?_)
        refine S.q 1 [4] 0 ⟨[(4, .v (I (-1)))], []⟩ .nil ?_; clear S; intro ac w β S
        refine RG.done rfl (nx_then (wp_ret (rt_then (rt_block (rt_then (rt_then (rt_block (rt_then ?_))))))))
        refine S.r [I (-1)] ?_
        exact ⟨retI (by clear S; (first | (rw [hr, hd_end (by omega)]; done) | (rw [hr, hd_step (by omega)]; simp [he_Slot, w1, hdi, hdb, hdc, *]; done) | (rw [hr, hd_step (by omega)]; simp_all [he_Slot, w1, hdi, hdb, hdc]; done))), S.chg⟩
      · have g8 : (el a i).rights = (w1 j) := ne_f h6
        refine wp_skip (nx_then (RG.start ?_))
        refine S.q 3 [0, 1, 5] 0 ⟨[(0, .v (slv (a).length pa.1)), (1, .v (I (w1 (w1 j)))), (5, .v (I (i : Int)))], []⟩ (.cons (Q_addw (x := (w1 j)) (y := 1)) .nil) ?_; clear S; intro ac w β S
        refine RG.done rfl (nx_block (nx_then (RG.start ?_)))
        refine S.q 3 [0, 1, 5] 0 ⟨[(0, .v (slv (a).length pa.1)), (1, .v (I (w1 (w1 j)))), (5, .v (I ((i : Int) + 1)))], []⟩ (.cons (Q_add (x := (i : Int)) (y := 1) ⟨by omega, by omega⟩) .nil) ?_; clear S; intro ac w β S
        refine RG.done rfl (nx_then ?_)
        replace S := S.p [0, 1, 5] 0 ⟨[(0, .v (slv (a).length pa.1)), (1, .v (I (w1 (w1 j)))), (5, .v (I ((i : Int) + 1)))], []⟩
        refine ⟨a.length - (i + 1), by omega, i + 1, (w1 (w1 j)), _, _, _, rfl, ?_, ?_, S.cast (by kernel_rfl)⟩
        · clear S; first | omega | (simp [*]; done) | (simp [*]; omega)
        · clear S; (rw [hr, hd_step (by omega)]; simp [he_Slot, w1, hdi, hdb, hdc, *])
  · have g9 : ¬ ((i : Int) < ((a).length : Int)) := of_decide_eq_false h1
    refine wp_exit (ex_then (ex_then (ex_hit (nx_then (wp_seq (RG.start ?_))))))
    refine S.q 2 [4] 0 ⟨[(4, .v (I j))], []⟩ .nil ?_; clear S; intro ac w β S
    refine RG.done rfl (nx_then (wp_ret ?_))
    refine S.r [I j] ?_
    exact ⟨retI (by clear S; (first | (rw [hr, hd_end (by omega)]; done) | (rw [hr, hd_step (by omega)]; simp [he_Slot, w1, hdi, hdb, hdc, *]; done) | (rw [hr, hd_step (by omega)]; simp_all [he_Slot, w1, hdi, hdb, hdc]; done))), S.chg⟩

set_option maxRecDepth 100000 in
theorem c_laws_heldBoolS (w0 : World) (a : List Bool) (pa : LP Bool) (ha : GT.rd KK (Lt w0.heap.size) w0 a pa) (k : Int) : Calls Tryz.prog 69 [slv (a).length pa.1, I k].toArray w0 (fun e w' => e = .returned (I (hdl a k)) ∧ Chg NoB w0 w') := by
  refine Calls.walk (args := [slv (a).length pa.1, I k]) NoB Tryz.func69 rfl rfl ?_
  intro ac β S
  have hlea : a.length ≤ 4194304 := LRd.le ha
  refine wp_seq (RG.start ?_)
  refine S.q 1 [0, 1] 0 ⟨[(0, .v (slv (a).length pa.1)), (1, .v (I k))], []⟩ .nil ?_; clear S; intro ac w β S
  refine RG.done rfl (nx_then (wp_seq (wp_seq (RG.start ?_))))
  refine S.q 1 [0, 1, 5] 0 ⟨[(0, .v (slv (a).length pa.1)), (1, .v (I k)), (5, .v (I 0))], []⟩ .nil ?_; clear S; intro ac w β S
  refine RG.done rfl (nx_then (wp_block ?_))
  replace S := S.p [0, 1, 5] 0 ⟨[(0, .v (slv (a).length pa.1)), (1, .v (I k)), (5, .v (I 0))], []⟩
  refine wp_loop_down (fun mm ac w => ∃ (i : Nat) (j : Int)  (u : World) (N : Bl) (β : Nat → Nat), mm = a.length - i ∧ (i ≤ a.length) ∧ (hdl a k = hdlc (a.drop i) j id) ∧ St Tryz.prog Tryz.f69.ntmps w0 NoB u N β ⟨[(0, .v (slv (a).length pa.1)), (1, .v (I j)), (5, .v (I (i : Int)))], []⟩ ac w) _ ⟨0, k, _, _, _, rfl, (by first | omega | (simp; done) | (simp; omega)), (by rfl), S.cast (by kernel_rfl)⟩ ?_
  clear S
  rintro mm ac w ⟨i, j, u, N, β, rfl, hi, hr, S⟩
  refine wp_seq (wp_seq (RG.start ?_))
  refine S.q 4 [0, 1, 5, 9] 0 ⟨[(0, .v (slv (a).length pa.1)), (1, .v (I j)), (5, .v (I (i : Int))), (9, .v (B (decide ((i : Int) < ((a).length : Int)))))], []⟩ .nil ?_; clear S; intro ac w β S
  refine RG.done rfl (nx_then ?_)
  refine S.c (decide ((i : Int) < ((a).length : Int))) (fun h1 => ?_) (fun h1 => ?_)
  · have g2 : (i : Int) < ((a).length : Int) := of_decide_eq_true h1
    refine wp_skip (nx_then (wp_seq (wp_block (wp_seq (wp_seq (RG.start ?_))))))
    refine S.q 8 [0, 1, 5, 19] 0 ⟨[(0, .v (slv (a).length pa.1)), (1, .v (I j)), (5, .v (I (i : Int))), (19, .v (B (!((el a i) == ((Int.tmod j 3) == 0)))))], []⟩ (.cons (Q_idx (S.arg ha) (l := (a).length) (k := i) (i := (i : Int)) rfl rfl (by omega) Tryz.underlying51 (by kernel_rfl)) (.cons (Q_el1 (S.arg ha) (t := 4) (k := i) (by omega) rfl (by kernel_rfl)) (.cons (Q_rem (x := j) (y := 3) (by decide)) .nil))) ?_; clear S; intro ac w β S
    refine RG.done rfl (nx_then ?_)
    refine S.c (!((el a i) == ((Int.tmod j 3) == 0))) (fun h3 => ?_) (fun h3 => ?_)
    · have h4 : ((el a i) == ((Int.tmod j 3) == 0)) = false := not_t h3
      have g5 : ¬ ((el a i) = ((Int.tmod j 3) == 0)) := ne_of_beq_false h4
      refine wp_seq (RG.start ?_)
      refine S.q 1 [4] 0 ⟨[(4, .v (I (-1)))], []⟩ .nil ?_; clear S; intro ac w β S
      refine RG.done rfl (nx_then (wp_ret (rt_then (rt_block (rt_then (rt_then (rt_block (rt_then ?_))))))))
      refine S.r [I (-1)] ?_
      exact ⟨retI (by clear S; (first | (rw [hr, hd_end (by omega)]; done) | (rw [hr, hd_step (by omega)]; simp [he_Bool, w1, hdi, hdb, hdc, *]; done) | (rw [hr, hd_step (by omega)]; simp_all [he_Bool, w1, hdi, hdb, hdc]; done))), S.chg⟩
    · have h6 : ((el a i) == ((Int.tmod j 3) == 0)) = true := not_f h3
      have g7 : (el a i) = ((Int.tmod j 3) == 0) := eq_of_beq h6
      refine wp_skip (nx_then (RG.start ?_))
      refine S.q 3 [0, 1, 5] 0 ⟨[(0, .v (slv (a).length pa.1)), (1, .v (I (w1 j))), (5, .v (I (i : Int)))], []⟩ (.cons (Q_addw (x := j) (y := 1)) .nil) ?_; clear S; intro ac w β S
      refine RG.done rfl (nx_block (nx_then (RG.start ?_)))
      refine S.q 3 [0, 1, 5] 0 ⟨[(0, .v (slv (a).length pa.1)), (1, .v (I (w1 j))), (5, .v (I ((i : Int) + 1)))], []⟩ (.cons (Q_add (x := (i : Int)) (y := 1) ⟨by omega, by omega⟩) .nil) ?_; clear S; intro ac w β S
      refine RG.done rfl (nx_then ?_)
      replace S := S.p [0, 1, 5] 0 ⟨[(0, .v (slv (a).length pa.1)), (1, .v (I (w1 j))), (5, .v (I ((i : Int) + 1)))], []⟩
      refine ⟨a.length - (i + 1), by omega, i + 1, (w1 j), _, _, _, rfl, ?_, ?_, S.cast (by kernel_rfl)⟩
      · clear S; first | omega | (simp [*]; done) | (simp [*]; omega)
      · clear S; (rw [hr, hd_step (by omega)]; simp [he_Bool, w1, hdi, hdb, hdc, *])
  · have g8 : ¬ ((i : Int) < ((a).length : Int)) := of_decide_eq_false h1
    refine wp_exit (ex_then (ex_then (ex_hit (nx_then (wp_seq (RG.start ?_))))))
    refine S.q 2 [4] 0 ⟨[(4, .v (I j))], []⟩ .nil ?_; clear S; intro ac w β S
    refine RG.done rfl (nx_then (wp_ret ?_))
    refine S.r [I j] ?_
    exact ⟨retI (by clear S; (first | (rw [hr, hd_end (by omega)]; done) | (rw [hr, hd_step (by omega)]; simp [he_Bool, w1, hdi, hdb, hdc, *]; done) | (rw [hr, hd_step (by omega)]; simp_all [he_Bool, w1, hdi, hdb, hdc]; done))), S.chg⟩

set_option maxRecDepth 100000 in
theorem c_laws_heldInsS (w0 : World) (a : List TIns) (pa : LP TIns) (ha : GT.rd KK (Lt w0.heap.size) w0 a pa) (k : Int) : Calls Tryz.prog 111 [slv (a).length pa.1, I k].toArray w0 (fun e w' => e = .returned (I (hdl a k)) ∧ Chg NoB w0 w') := by
  refine Calls.walk (args := [slv (a).length pa.1, I k]) NoB Tryz.func111 rfl rfl ?_
  intro ac β S
  have hlea : a.length ≤ 4194304 := LRd.le ha
  refine wp_seq (RG.start ?_)
  refine S.q 1 [0, 1] 0 ⟨[(0, .v (slv (a).length pa.1)), (1, .v (I k))], []⟩ .nil ?_; clear S; intro ac w β S
  refine RG.done rfl (nx_then (wp_seq (wp_seq (RG.start ?_))))
  refine S.q 1 [0, 1, 5] 0 ⟨[(0, .v (slv (a).length pa.1)), (1, .v (I k)), (5, .v (I 0))], []⟩ .nil ?_; clear S; intro ac w β S
  refine RG.done rfl (nx_then (wp_block ?_))
  replace S := S.p [0, 1, 5] 0 ⟨[(0, .v (slv (a).length pa.1)), (1, .v (I k)), (5, .v (I 0))], []⟩
  refine wp_loop_down (fun mm ac w => ∃ (i : Nat) (j : Int)  (u : World) (N : Bl) (β : Nat → Nat), mm = a.length - i ∧ (i ≤ a.length) ∧ (hdl a k = hdlc (a.drop i) j id) ∧ St Tryz.prog Tryz.f111.ntmps w0 NoB u N β ⟨[(0, .v (slv (a).length pa.1)), (1, .v (I j)), (5, .v (I (i : Int)))], []⟩ ac w) _ ⟨0, k, _, _, _, rfl, (by first | omega | (simp; done) | (simp; omega)), (by rfl), S.cast (by kernel_rfl)⟩ ?_
  clear S
  rintro mm ac w ⟨i, j, u, N, β, rfl, hi, hr, S⟩
  refine wp_seq (wp_seq (RG.start ?_))
  refine S.q 4 [0, 1, 5, 9] 0 ⟨[(0, .v (slv (a).length pa.1)), (1, .v (I j)), (5, .v (I (i : Int))), (9, .v (B (decide ((i : Int) < ((a).length : Int)))))], []⟩ .nil ?_; clear S; intro ac w β S
  refine RG.done rfl (nx_then ?_)
  refine S.c (decide ((i : Int) < ((a).length : Int))) (fun h1 => ?_) (fun h1 => ?_)
  · have g2 : (i : Int) < ((a).length : Int) := of_decide_eq_true h1
    refine wp_skip (nx_then (wp_seq (wp_block (wp_seq (wp_seq (RG.start ?_))))))
    refine S.q 7 [0, 1, 5, 18] 0 ⟨[(0, .v (slv (a).length pa.1)), (1, .v (I j)), (5, .v (I (i : Int))), (18, .v (B ((el a i).opc != j)))], []⟩ (.cons (Q_idx (S.arg ha) (l := (a).length) (k := i) (i := (i : Int)) rfl rfl (by omega) Tryz.underlying104 (by kernel_rfl)) (.cons (Q_cell (S.arg ha) (t := 3) (k := i) (j := 0) (v := I ((el a i).opc)) (by omega) (by kernel_rfl) (by kernel_rfl)) .nil)) ?_; clear S; intro ac w β S
    refine RG.done rfl (nx_then ?_)
    refine S.c ((el a i).opc != j) (fun h3 => ?_) (fun h3 => ?_)
    · have g4 : ¬ ((el a i).opc = j) := bne_iff_ne.1 h3
      refine wp_seq (RG.start ?_)
      refine S.q 1 [4] 0 ⟨[(4, .v (I (-1)))], []⟩ .nil ?_; clear S; intro ac w β S
      refine RG.done rfl (nx_then (wp_ret (rt_then (rt_block (rt_then (rt_then (rt_block (rt_then ?_))))))))
      refine S.r [I (-1)] ?_
      exact ⟨retI (by clear S; (first | (rw [hr, hd_end (by omega)]; done) | (rw [hr, hd_step (by omega)]; simp [he_Ins, w1, hdi, hdb, hdc, *]; done) | (rw [hr, hd_step (by omega)]; simp_all [he_Ins, w1, hdi, hdb, hdc]; done))), S.chg⟩
    · have g5 : (el a i).opc = j := ne_f h3
      refine wp_skip (nx_then (wp_seq (RG.start ?_)))
      refine S.q 3 [0, 1, 5] 0 ⟨[(0, .v (slv (a).length pa.1)), (1, .v (I (w1 j))), (5, .v (I (i : Int)))], []⟩ (.cons (Q_addw (x := j) (y := 1)) .nil) ?_; clear S; intro ac w β S
      refine RG.done rfl (nx_then (wp_seq (wp_seq (RG.start ?_))))
      refine S.q 7 [0, 1, 5, 27] 0 ⟨[(0, .v (slv (a).length pa.1)), (1, .v (I (w1 j))), (5, .v (I (i : Int))), (27, .v (B ((el a i).x != (w1 j))))], []⟩ (.cons (Q_idx (S.arg ha) (l := (a).length) (k := i) (i := (i : Int)) rfl rfl (by omega) Tryz.underlying104 (by kernel_rfl)) (.cons (Q_cell (S.arg ha) (t := 3) (k := i) (j := 1) (v := I ((el a i).x)) (by omega) (by kernel_rfl) (by kernel_rfl)) .nil)) ?_; clear S; intro ac w β S
      refine RG.done rfl (nx_then ?_)
      refine S.c ((el a i).x != (w1 j)) (fun h6 => ?_) (fun h6 => ?_)
      · have g7 : ¬ ((el a i).x = (w1 j)) := bne_iff_ne.1 h6
        refine wp_seq (RG.start ?_)
        refine S.q 1 [4] 0 ⟨[(4, .v (I (-1)))], []⟩ .nil ?_; clear S; intro ac w β S
        refine RG.done rfl (nx_then (wp_ret (rt_then (rt_block (rt_then (rt_then (rt_block (rt_then ?_))))))))
        refine S.r [I (-1)] ?_
        exact ⟨retI (by clear S; (first | (rw [hr, hd_end (by omega)]; done) | (rw [hr, hd_step (by omega)]; simp [he_Ins, w1, hdi, hdb, hdc, *]; done) | (rw [hr, hd_step (by omega)]; simp_all [he_Ins, w1, hdi, hdb, hdc]; done))), S.chg⟩
      · have g8 : (el a i).x = (w1 j) := ne_f h6
        refine wp_skip (nx_then (RG.start ?_))
        refine S.q 3 [0, 1, 5] 0 ⟨[(0, .v (slv (a).length pa.1)), (1, .v (I (w1 (w1 j)))), (5, .v (I (i : Int)))], []⟩ (.cons (Q_addw (x := (w1 j)) (y := 1)) .nil) ?_; clear S; intro ac w β S
        refine RG.done rfl (nx_block (nx_then (RG.start ?_)))
        refine S.q 3 [0, 1, 5] 0 ⟨[(0, .v (slv (a).length pa.1)), (1, .v (I (w1 (w1 j)))), (5, .v (I ((i : Int) + 1)))], []⟩ (.cons (Q_add (x := (i : Int)) (y := 1) ⟨by omega, by omega⟩) .nil) ?_; clear S; intro ac w β S
        refine RG.done rfl (nx_then ?_)
        replace S := S.p [0, 1, 5] 0 ⟨[(0, .v (slv (a).length pa.1)), (1, .v (I (w1 (w1 j)))), (5, .v (I ((i : Int) + 1)))], []⟩
        refine ⟨a.length - (i + 1), by omega, i + 1, (w1 (w1 j)), _, _, _, rfl, ?_, ?_, S.cast (by kernel_rfl)⟩
        · clear S; first | omega | (simp [*]; done) | (simp [*]; omega)
        · clear S; (rw [hr, hd_step (by omega)]; simp [he_Ins, w1, hdi, hdb, hdc, *])
  · have g9 : ¬ ((i : Int) < ((a).length : Int)) := of_decide_eq_false h1
    refine wp_exit (ex_then (ex_then (ex_hit (nx_then (wp_seq (RG.start ?_))))))
    refine S.q 2 [4] 0 ⟨[(4, .v (I j))], []⟩ .nil ?_; clear S; intro ac w β S
    refine RG.done rfl (nx_then (wp_ret ?_))
    refine S.r [I j] ?_
    exact ⟨retI (by clear S; (first | (rw [hr, hd_end (by omega)]; done) | (rw [hr, hd_step (by omega)]; simp [he_Ins, w1, hdi, hdb, hdc, *]; done) | (rw [hr, hd_step (by omega)]; simp_all [he_Ins, w1, hdi, hdb, hdc]; done))), S.chg⟩

set_option maxRecDepth 100000 in
theorem c_laws_heldGuestS (w0 : World) (a : List TGuest) (pa : LP TGuest) (ha : GT.rd KK (Lt w0.heap.size) w0 a pa) (k : Int) : Calls Tryz.prog 70 [slv (a).length pa.1, I k].toArray w0 (fun e w' => e = .returned (I (hdl a k)) ∧ Chg NoB w0 w') := by
  refine Calls.walk (args := [slv (a).length pa.1, I k]) NoB Tryz.func70 rfl rfl ?_
  intro ac β S
  have hlea : a.length ≤ 4194304 := LRd.le ha
  refine wp_seq (RG.start ?_)
  refine S.q 1 [0, 1] 0 ⟨[(0, .v (slv (a).length pa.1)), (1, .v (I k))], []⟩ .nil ?_; clear S; intro ac w β S
  refine RG.done rfl (nx_then (wp_seq (wp_seq (RG.start ?_))))
  refine S.q 1 [0, 1, 5] 0 ⟨[(0, .v (slv (a).length pa.1)), (1, .v (I k)), (5, .v (I 0))], []⟩ .nil ?_; clear S; intro ac w β S
  refine RG.done rfl (nx_then (wp_block ?_))
  replace S := S.p [0, 1, 5] 0 ⟨[(0, .v (slv (a).length pa.1)), (1, .v (I k)), (5, .v (I 0))], []⟩
  refine wp_loop_down (fun mm ac w => ∃ (i : Nat) (j : Int)  (u : World) (N : Bl) (β : Nat → Nat), mm = a.length - i ∧ (i ≤ a.length) ∧ (hdl a k = hdlc (a.drop i) j id) ∧ St Tryz.prog Tryz.f70.ntmps w0 NoB u N β ⟨[(0, .v (slv (a).length pa.1)), (1, .v (I j)), (5, .v (I (i : Int)))], []⟩ ac w) _ ⟨0, k, _, _, _, rfl, (by first | omega | (simp; done) | (simp; omega)), (by rfl), S.cast (by kernel_rfl)⟩ ?_
  clear S
  rintro mm ac w ⟨i, j, u, N, β, rfl, hi, hr, S⟩
  refine wp_seq (wp_seq (RG.start ?_))
  refine S.q 4 [0, 1, 5, 9] 0 ⟨[(0, .v (slv (a).length pa.1)), (1, .v (I j)), (5, .v (I (i : Int))), (9, .v (B (decide ((i : Int) < ((a).length : Int)))))], []⟩ .nil ?_; clear S; intro ac w β S
  refine RG.done rfl (nx_then ?_)
  refine S.c (decide ((i : Int) < ((a).length : Int))) (fun h1 => ?_) (fun h1 => ?_)
  · have g2 : (i : Int) < ((a).length : Int) := of_decide_eq_true h1
    refine wp_skip (nx_then (wp_seq (wp_block (wp_seq (RG.start ?_)))))
    refine S.q 8 [0, 1, 5] 0 ⟨[(0, .v (slv (a).length pa.1)), (1, .v (I (hdl ((el a i).prog) j))), (5, .v (I (i : Int)))], []⟩ (.cons (Q_idx (S.arg ha) (l := (a).length) (k := i) (i := (i : Int)) rfl rfl (by omega) Tryz.underlying52 (by kernel_rfl)) (.cons (Q_cell (S.arg ha) (t := 104) (k := i) (j := 0) (v := slv ((el a i).prog).length ((pa.2 i).prog).1) (by omega) (by kernel_rfl) (by kernel_rfl)) (.cons (Q_call fun w hw => c_laws_heldInsS w ((el a i).prog) ((pa.2 i).prog) (rd_of (RGuest.prog (d := (el a i)) (LRd.el (S.arg ha) i (by omega))) hw) j) .nil))) ?_; clear S; intro ac w β S
    refine RG.done rfl (nx_then (wp_seq (wp_seq (RG.start ?_))))
    refine S.q 2 [0, 1, 5, 20] 0 ⟨[(0, .v (slv (a).length pa.1)), (1, .v (I (hdl ((el a i).prog) j))), (5, .v (I (i : Int))), (20, .v (B (decide ((hdl ((el a i).prog) j) < 0))))], []⟩ .nil ?_; clear S; intro ac w β S
    refine RG.done rfl (nx_then ?_)
    refine S.c (decide ((hdl ((el a i).prog) j) < 0)) (fun h3 => ?_) (fun h3 => ?_)
    · have g4 : (hdl ((el a i).prog) j) < 0 := of_decide_eq_true h3
      refine wp_seq (RG.start ?_)
      refine S.q 1 [4] 0 ⟨[(4, .v (I (-1)))], []⟩ .nil ?_; clear S; intro ac w β S
      refine RG.done rfl (nx_then (wp_ret (rt_then (rt_block (rt_then (rt_then (rt_block (rt_then ?_))))))))
      refine S.r [I (-1)] ?_
      exact ⟨retI (by clear S; (first | (rw [hr, hd_end (by omega)]; done) | (rw [hr, hd_step (by omega)]; simp [he_Guest, w1, hdi, hdb, hdc, *]; done) | (rw [hr, hd_step (by omega)]; simp_all [he_Guest, w1, hdi, hdb, hdc]; done))), S.chg⟩
    · have g5 : ¬ ((hdl ((el a i).prog) j) < 0) := of_decide_eq_false h3
      refine wp_skip (nx_then (wp_seq (wp_seq (RG.start ?_))))
      refine S.q 7 [0, 1, 5, 27] 0 ⟨[(0, .v (slv (a).length pa.1)), (1, .v (I (hdl ((el a i).prog) j))), (5, .v (I (i : Int))), (27, .v (B ((el a i).acc != (hdl ((el a i).prog) j))))], []⟩ (.cons (Q_idx (S.arg ha) (l := (a).length) (k := i) (i := (i : Int)) rfl rfl (by omega) Tryz.underlying52 (by kernel_rfl)) (.cons (Q_cell (S.arg ha) (t := 3) (k := i) (j := 1) (v := I ((el a i).acc)) (by omega) (by kernel_rfl) (by kernel_rfl)) .nil)) ?_; clear S; intro ac w β S
      refine RG.done rfl (nx_then ?_)
      refine S.c ((el a i).acc != (hdl ((el a i).prog) j)) (fun h6 => ?_) (fun h6 => ?_)
      · have g7 : ¬ ((el a i).acc = (hdl ((el a i).prog) j)) := bne_iff_ne.1 h6
        refine wp_seq (RG.start ?_)
        refine S.q 1 [4] 0 ⟨[(4, .v (I (-1)))], []⟩ .nil ?_; clear S; intro ac w β S
        refine RG.done rfl (nx_then (wp_ret (rt_then (rt_block (rt_then (rt_then (rt_block (rt_then ?_))))))))
        refine S.r [I (-1)] ?_
        exact ⟨retI (by clear S; (first | (rw [hr, hd_end (by omega)]; done) | (rw [hr, hd_step (by omega)]; simp [he_Guest, w1, hdi, hdb, hdc, *]; done) | (rw [hr, hd_step (by omega)]; simp_all [he_Guest, w1, hdi, hdb, hdc]; done))), S.chg⟩
      · have g8 : (el a i).acc = (hdl ((el a i).prog) j) := ne_f h6
        refine wp_skip (nx_then (wp_seq (RG.start ?_)))
        refine S.q 3 [0, 1, 5] 0 ⟨[(0, .v (slv (a).length pa.1)), (1, .v (I (w1 (hdl ((el a i).prog) j)))), (5, .v (I (i : Int)))], []⟩ (.cons (Q_addw (x := (hdl ((el a i).prog) j)) (y := 1)) .nil) ?_; clear S; intro ac w β S
        refine RG.done rfl (nx_then (wp_seq (wp_seq (RG.start ?_))))
        refine S.q 7 [0, 1, 5, 36] 0 ⟨[(0, .v (slv (a).length pa.1)), (1, .v (I (w1 (hdl ((el a i).prog) j)))), (5, .v (I (i : Int))), (36, .v (B ((el a i).pc != (w1 (hdl ((el a i).prog) j)))))], []⟩ (.cons (Q_idx (S.arg ha) (l := (a).length) (k := i) (i := (i : Int)) rfl rfl (by omega) Tryz.underlying52 (by kernel_rfl)) (.cons (Q_cell (S.arg ha) (t := 3) (k := i) (j := 2) (v := I ((el a i).pc)) (by omega) (by kernel_rfl) (by kernel_rfl)) .nil)) ?_; clear S; intro ac w β S
        refine RG.done rfl (nx_then ?_)
        refine S.c ((el a i).pc != (w1 (hdl ((el a i).prog) j))) (fun h9 => ?_) (fun h9 => ?_)
        · have g10 : ¬ ((el a i).pc = (w1 (hdl ((el a i).prog) j))) := bne_iff_ne.1 h9
          refine wp_seq (RG.start ?_)
          refine S.q 1 [4] 0 ⟨[(4, .v (I (-1)))], []⟩ .nil ?_; clear S; intro ac w β S
          refine RG.done rfl (nx_then (wp_ret (rt_then (rt_block (rt_then (rt_then (rt_block (rt_then ?_))))))))
          refine S.r [I (-1)] ?_
          exact ⟨retI (by clear S; (first | (rw [hr, hd_end (by omega)]; done) | (rw [hr, hd_step (by omega)]; simp [he_Guest, w1, hdi, hdb, hdc, *]; done) | (rw [hr, hd_step (by omega)]; simp_all [he_Guest, w1, hdi, hdb, hdc]; done))), S.chg⟩
        · have g11 : (el a i).pc = (w1 (hdl ((el a i).prog) j)) := ne_f h9
          refine wp_skip (nx_then (wp_seq (RG.start ?_)))
          refine S.q 3 [0, 1, 5] 0 ⟨[(0, .v (slv (a).length pa.1)), (1, .v (I (w1 (w1 (hdl ((el a i).prog) j))))), (5, .v (I (i : Int)))], []⟩ (.cons (Q_addw (x := (w1 (hdl ((el a i).prog) j))) (y := 1)) .nil) ?_; clear S; intro ac w β S
          refine RG.done rfl (nx_then (wp_seq (RG.start ?_)))
          refine S.q 8 [0, 1, 5] 0 ⟨[(0, .v (slv (a).length pa.1)), (1, .v (I (hdl ((el a i).written) (w1 (w1 (hdl ((el a i).prog) j)))))), (5, .v (I (i : Int)))], []⟩ (.cons (Q_idx (S.arg ha) (l := (a).length) (k := i) (i := (i : Int)) rfl rfl (by omega) Tryz.underlying52 (by kernel_rfl)) (.cons (Q_cell (S.arg ha) (t := 50) (k := i) (j := 3) (v := slv ((el a i).written).length ((pa.2 i).written).1) (by omega) (by kernel_rfl) (by kernel_rfl)) (.cons (Q_call fun w hw => c_laws_heldSlotS w ((el a i).written) ((pa.2 i).written) (rd_of (RGuest.written (d := (el a i)) (LRd.el (S.arg ha) i (by omega))) hw) (w1 (w1 (hdl ((el a i).prog) j)))) .nil))) ?_; clear S; intro ac w β S
          refine RG.done rfl (nx_then (wp_seq (wp_seq (RG.start ?_))))
          refine S.q 2 [0, 1, 5, 47] 0 ⟨[(0, .v (slv (a).length pa.1)), (1, .v (I (hdl ((el a i).written) (w1 (w1 (hdl ((el a i).prog) j)))))), (5, .v (I (i : Int))), (47, .v (B (decide ((hdl ((el a i).written) (w1 (w1 (hdl ((el a i).prog) j)))) < 0))))], []⟩ .nil ?_; clear S; intro ac w β S
          refine RG.done rfl (nx_then ?_)
          refine S.c (decide ((hdl ((el a i).written) (w1 (w1 (hdl ((el a i).prog) j)))) < 0)) (fun h12 => ?_) (fun h12 => ?_)
          · have g13 : (hdl ((el a i).written) (w1 (w1 (hdl ((el a i).prog) j)))) < 0 := of_decide_eq_true h12
            refine wp_seq (RG.start ?_)
            refine S.q 1 [4] 0 ⟨[(4, .v (I (-1)))], []⟩ .nil ?_; clear S; intro ac w β S
            refine RG.done rfl (nx_then (wp_ret (rt_then (rt_block (rt_then (rt_then (rt_block (rt_then ?_))))))))
            refine S.r [I (-1)] ?_
            exact ⟨retI (by clear S; (first | (rw [hr, hd_end (by omega)]; done) | (rw [hr, hd_step (by omega)]; simp [he_Guest, w1, hdi, hdb, hdc, *]; done) | (rw [hr, hd_step (by omega)]; simp_all [he_Guest, w1, hdi, hdb, hdc]; done))), S.chg⟩
          · have g14 : ¬ ((hdl ((el a i).written) (w1 (w1 (hdl ((el a i).prog) j)))) < 0) := of_decide_eq_false h12
            refine wp_skip (nx_then (wp_seq (RG.start ?_)))
            refine S.q 8 [0, 1, 5] 0 ⟨[(0, .v (slv (a).length pa.1)), (1, .v (I (hdl ((el a i).live) (hdl ((el a i).written) (w1 (w1 (hdl ((el a i).prog) j))))))), (5, .v (I (i : Int)))], []⟩ (.cons (Q_idx (S.arg ha) (l := (a).length) (k := i) (i := (i : Int)) rfl rfl (by omega) Tryz.underlying52 (by kernel_rfl)) (.cons (Q_cell (S.arg ha) (t := 50) (k := i) (j := 4) (v := slv ((el a i).live).length ((pa.2 i).live).1) (by omega) (by kernel_rfl) (by kernel_rfl)) (.cons (Q_call fun w hw => c_laws_heldSlotS w ((el a i).live) ((pa.2 i).live) (rd_of (RGuest.live (d := (el a i)) (LRd.el (S.arg ha) i (by omega))) hw) (hdl ((el a i).written) (w1 (w1 (hdl ((el a i).prog) j))))) .nil))) ?_; clear S; intro ac w β S
            refine RG.done rfl (nx_then (wp_seq (wp_seq (RG.start ?_))))
            refine S.q 2 [0, 1, 5, 56] 0 ⟨[(0, .v (slv (a).length pa.1)), (1, .v (I (hdl ((el a i).live) (hdl ((el a i).written) (w1 (w1 (hdl ((el a i).prog) j))))))), (5, .v (I (i : Int))), (56, .v (B (decide ((hdl ((el a i).live) (hdl ((el a i).written) (w1 (w1 (hdl ((el a i).prog) j))))) < 0))))], []⟩ .nil ?_; clear S; intro ac w β S
            refine RG.done rfl (nx_then ?_)
            refine S.c (decide ((hdl ((el a i).live) (hdl ((el a i).written) (w1 (w1 (hdl ((el a i).prog) j))))) < 0)) (fun h15 => ?_) (fun h15 => ?_)
            · have g16 : (hdl ((el a i).live) (hdl ((el a i).written) (w1 (w1 (hdl ((el a i).prog) j))))) < 0 := of_decide_eq_true h15
              refine wp_seq (RG.start ?_)
              refine S.q 1 [4] 0 ⟨[(4, .v (I (-1)))], []⟩ .nil ?_; clear S; intro ac w β S
              refine RG.done rfl (nx_then (wp_ret (rt_then (rt_block (rt_then (rt_then (rt_block (rt_then ?_))))))))
              refine S.r [I (-1)] ?_
              exact ⟨retI (by clear S; (first | (rw [hr, hd_end (by omega)]; done) | (rw [hr, hd_step (by omega)]; simp [he_Guest, w1, hdi, hdb, hdc, *]; done) | (rw [hr, hd_step (by omega)]; simp_all [he_Guest, w1, hdi, hdb, hdc]; done))), S.chg⟩
            · have g17 : ¬ ((hdl ((el a i).live) (hdl ((el a i).written) (w1 (w1 (hdl ((el a i).prog) j))))) < 0) := of_decide_eq_false h15
              refine wp_skip (nx_then (wp_seq (wp_seq (RG.start ?_))))
              refine S.q 8 [0, 1, 5, 64] 0 ⟨[(0, .v (slv (a).length pa.1)), (1, .v (I (hdl ((el a i).live) (hdl ((el a i).written) (w1 (w1 (hdl ((el a i).prog) j))))))), (5, .v (I (i : Int))), (64, .v (B (((el a i).ctl).traps != (hdl ((el a i).live) (hdl ((el a i).written) (w1 (w1 (hdl ((el a i).prog) j))))))))], []⟩ (.cons (Q_idx (S.arg ha) (l := (a).length) (k := i) (i := (i : Int)) rfl rfl (by omega) Tryz.underlying52 (by kernel_rfl)) (.cons (Q_cell (S.arg ha) (t := 3) (k := i) (j := 5) (v := I (((el a i).ctl).traps)) (by omega) (by kernel_rfl) (by kernel_rfl)) .nil)) ?_; clear S; intro ac w β S
              refine RG.done rfl (nx_then ?_)
              refine S.c (((el a i).ctl).traps != (hdl ((el a i).live) (hdl ((el a i).written) (w1 (w1 (hdl ((el a i).prog) j)))))) (fun h18 => ?_) (fun h18 => ?_)
              · have g19 : ¬ (((el a i).ctl).traps = (hdl ((el a i).live) (hdl ((el a i).written) (w1 (w1 (hdl ((el a i).prog) j)))))) := bne_iff_ne.1 h18
                refine wp_seq (RG.start ?_)
                refine S.q 1 [4] 0 ⟨[(4, .v (I (-1)))], []⟩ .nil ?_; clear S; intro ac w β S
                refine RG.done rfl (nx_then (wp_ret (rt_then (rt_block (rt_then (rt_then (rt_block (rt_then ?_))))))))
                refine S.r [I (-1)] ?_
                exact ⟨retI (by clear S; (first | (rw [hr, hd_end (by omega)]; done) | (rw [hr, hd_step (by omega)]; simp [he_Guest, w1, hdi, hdb, hdc, *]; done) | (rw [hr, hd_step (by omega)]; simp_all [he_Guest, w1, hdi, hdb, hdc]; done))), S.chg⟩
              · have g20 : ((el a i).ctl).traps = (hdl ((el a i).live) (hdl ((el a i).written) (w1 (w1 (hdl ((el a i).prog) j))))) := ne_f h18
                refine wp_skip (nx_then (wp_seq (RG.start ?_)))
                refine S.q 3 [0, 1, 5] 0 ⟨[(0, .v (slv (a).length pa.1)), (1, .v (I (w1 (hdl ((el a i).live) (hdl ((el a i).written) (w1 (w1 (hdl ((el a i).prog) j)))))))), (5, .v (I (i : Int)))], []⟩ (.cons (Q_addw (x := (hdl ((el a i).live) (hdl ((el a i).written) (w1 (w1 (hdl ((el a i).prog) j)))))) (y := 1)) .nil) ?_; clear S; intro ac w β S
                refine RG.done rfl (nx_then (wp_seq (wp_seq (RG.start ?_))))
                refine S.q 8 [0, 1, 5, 74] 0 ⟨[(0, .v (slv (a).length pa.1)), (1, .v (I (w1 (hdl ((el a i).live) (hdl ((el a i).written) (w1 (w1 (hdl ((el a i).prog) j)))))))), (5, .v (I (i : Int))), (74, .v (B (((el a i).ctl).post != (w1 (hdl ((el a i).live) (hdl ((el a i).written) (w1 (w1 (hdl ((el a i).prog) j)))))))))], []⟩ (.cons (Q_idx (S.arg ha) (l := (a).length) (k := i) (i := (i : Int)) rfl rfl (by omega) Tryz.underlying52 (by kernel_rfl)) (.cons (Q_cell (S.arg ha) (t := 3) (k := i) (j := 6) (v := I (((el a i).ctl).post)) (by omega) (by kernel_rfl) (by kernel_rfl)) .nil)) ?_; clear S; intro ac w β S
                refine RG.done rfl (nx_then ?_)
                refine S.c (((el a i).ctl).post != (w1 (hdl ((el a i).live) (hdl ((el a i).written) (w1 (w1 (hdl ((el a i).prog) j))))))) (fun h21 => ?_) (fun h21 => ?_)
                · have g22 : ¬ (((el a i).ctl).post = (w1 (hdl ((el a i).live) (hdl ((el a i).written) (w1 (w1 (hdl ((el a i).prog) j))))))) := bne_iff_ne.1 h21
                  refine wp_seq (RG.start ?_)
                  refine S.q 1 [4] 0 ⟨[(4, .v (I (-1)))], []⟩ .nil ?_; clear S; intro ac w β S
                  refine RG.done rfl (nx_then (wp_ret (rt_then (rt_block (rt_then (rt_then (rt_block (rt_then ?_))))))))
                  refine S.r [I (-1)] ?_
                  exact ⟨retI (by clear S; (first | (rw [hr, hd_end (by omega)]; done) | (rw [hr, hd_step (by omega)]; simp [he_Guest, w1, hdi, hdb, hdc, *]; done) | (rw [hr, hd_step (by omega)]; simp_all [he_Guest, w1, hdi, hdb, hdc]; done))), S.chg⟩
                · have g23 : ((el a i).ctl).post = (w1 (hdl ((el a i).live) (hdl ((el a i).written) (w1 (w1 (hdl ((el a i).prog) j)))))) := ne_f h21
                  refine wp_skip (nx_then (wp_seq (RG.start ?_)))
                  refine S.q 3 [0, 1, 5] 0 ⟨[(0, .v (slv (a).length pa.1)), (1, .v (I (w1 (w1 (hdl ((el a i).live) (hdl ((el a i).written) (w1 (w1 (hdl ((el a i).prog) j))))))))), (5, .v (I (i : Int)))], []⟩ (.cons (Q_addw (x := (w1 (hdl ((el a i).live) (hdl ((el a i).written) (w1 (w1 (hdl ((el a i).prog) j))))))) (y := 1)) .nil) ?_; clear S; intro ac w β S
                  refine RG.done rfl (nx_then (wp_seq (wp_seq (RG.start ?_))))
                  refine S.q 10 [0, 1, 5, 86] 0 ⟨[(0, .v (slv (a).length pa.1)), (1, .v (I (w1 (w1 (hdl ((el a i).live) (hdl ((el a i).written) (w1 (w1 (hdl ((el a i).prog) j))))))))), (5, .v (I (i : Int))), (86, .v (B (!(((el a i).ctl).opn == ((Int.tmod (w1 (w1 (hdl ((el a i).live) (hdl ((el a i).written) (w1 (w1 (hdl ((el a i).prog) j))))))) 3) == 0)))))], []⟩ (.cons (Q_idx (S.arg ha) (l := (a).length) (k := i) (i := (i : Int)) rfl rfl (by omega) Tryz.underlying52 (by kernel_rfl)) (.cons (Q_cell (S.arg ha) (t := 4) (k := i) (j := 7) (v := B (((el a i).ctl).opn)) (by omega) (by kernel_rfl) (by kernel_rfl)) (.cons (Q_rem (x := (w1 (w1 (hdl ((el a i).live) (hdl ((el a i).written) (w1 (w1 (hdl ((el a i).prog) j)))))))) (y := 3) (by decide)) .nil))) ?_; clear S; intro ac w β S
                  refine RG.done rfl (nx_then ?_)
                  refine S.c (!(((el a i).ctl).opn == ((Int.tmod (w1 (w1 (hdl ((el a i).live) (hdl ((el a i).written) (w1 (w1 (hdl ((el a i).prog) j))))))) 3) == 0))) (fun h24 => ?_) (fun h24 => ?_)
                  · have h25 : (((el a i).ctl).opn == ((Int.tmod (w1 (w1 (hdl ((el a i).live) (hdl ((el a i).written) (w1 (w1 (hdl ((el a i).prog) j))))))) 3) == 0)) = false := not_t h24
                    have g26 : ¬ (((el a i).ctl).opn = ((Int.tmod (w1 (w1 (hdl ((el a i).live) (hdl ((el a i).written) (w1 (w1 (hdl ((el a i).prog) j))))))) 3) == 0)) := ne_of_beq_false h25
                    refine wp_seq (RG.start ?_)
                    refine S.q 1 [4] 0 ⟨[(4, .v (I (-1)))], []⟩ .nil ?_; clear S; intro ac w β S
                    refine RG.done rfl (nx_then (wp_ret (rt_then (rt_block (rt_then (rt_then (rt_block (rt_then ?_))))))))
                    refine S.r [I (-1)] ?_
                    exact ⟨retI (by clear S; (first | (rw [hr, hd_end (by omega)]; done) | (rw [hr, hd_step (by omega)]; simp [he_Guest, w1, hdi, hdb, hdc, *]; done) | (rw [hr, hd_step (by omega)]; simp_all [he_Guest, w1, hdi, hdb, hdc]; done))), S.chg⟩
                  · have h27 : (((el a i).ctl).opn == ((Int.tmod (w1 (w1 (hdl ((el a i).live) (hdl ((el a i).written) (w1 (w1 (hdl ((el a i).prog) j))))))) 3) == 0)) = true := not_f h24
                    have g28 : ((el a i).ctl).opn = ((Int.tmod (w1 (w1 (hdl ((el a i).live) (hdl ((el a i).written) (w1 (w1 (hdl ((el a i).prog) j))))))) 3) == 0) := eq_of_beq h27
                    refine wp_skip (nx_then (wp_seq (RG.start ?_)))
                    refine S.q 3 [0, 1, 5] 0 ⟨[(0, .v (slv (a).length pa.1)), (1, .v (I (w1 (w1 (w1 (hdl ((el a i).live) (hdl ((el a i).written) (w1 (w1 (hdl ((el a i).prog) j)))))))))), (5, .v (I (i : Int)))], []⟩ (.cons (Q_addw (x := (w1 (w1 (hdl ((el a i).live) (hdl ((el a i).written) (w1 (w1 (hdl ((el a i).prog) j)))))))) (y := 1)) .nil) ?_; clear S; intro ac w β S
                    refine RG.done rfl (nx_then (wp_seq (wp_seq (RG.start ?_))))
                    refine S.q 7 [0, 1, 5, 95] 0 ⟨[(0, .v (slv (a).length pa.1)), (1, .v (I (w1 (w1 (w1 (hdl ((el a i).live) (hdl ((el a i).written) (w1 (w1 (hdl ((el a i).prog) j)))))))))), (5, .v (I (i : Int))), (95, .v (B ((el a i).pend != (w1 (w1 (w1 (hdl ((el a i).live) (hdl ((el a i).written) (w1 (w1 (hdl ((el a i).prog) j)))))))))))], []⟩ (.cons (Q_idx (S.arg ha) (l := (a).length) (k := i) (i := (i : Int)) rfl rfl (by omega) Tryz.underlying52 (by kernel_rfl)) (.cons (Q_cell (S.arg ha) (t := 3) (k := i) (j := 8) (v := I ((el a i).pend)) (by omega) (by kernel_rfl) (by kernel_rfl)) .nil)) ?_; clear S; intro ac w β S
                    refine RG.done rfl (nx_then ?_)
                    refine S.c ((el a i).pend != (w1 (w1 (w1 (hdl ((el a i).live) (hdl ((el a i).written) (w1 (w1 (hdl ((el a i).prog) j))))))))) (fun h29 => ?_) (fun h29 => ?_)
                    · have g30 : ¬ ((el a i).pend = (w1 (w1 (w1 (hdl ((el a i).live) (hdl ((el a i).written) (w1 (w1 (hdl ((el a i).prog) j))))))))) := bne_iff_ne.1 h29
                      refine wp_seq (RG.start ?_)
                      refine S.q 1 [4] 0 ⟨[(4, .v (I (-1)))], []⟩ .nil ?_; clear S; intro ac w β S
                      refine RG.done rfl (nx_then (wp_ret (rt_then (rt_block (rt_then (rt_then (rt_block (rt_then ?_))))))))
                      refine S.r [I (-1)] ?_
                      exact ⟨retI (by clear S; (first | (rw [hr, hd_end (by omega)]; done) | (rw [hr, hd_step (by omega)]; simp [he_Guest, w1, hdi, hdb, hdc, *]; done) | (rw [hr, hd_step (by omega)]; simp_all [he_Guest, w1, hdi, hdb, hdc]; done))), S.chg⟩
                    · have g31 : (el a i).pend = (w1 (w1 (w1 (hdl ((el a i).live) (hdl ((el a i).written) (w1 (w1 (hdl ((el a i).prog) j)))))))) := ne_f h29
                      refine wp_skip (nx_then (wp_seq (RG.start ?_)))
                      refine S.q 3 [0, 1, 5] 0 ⟨[(0, .v (slv (a).length pa.1)), (1, .v (I (w1 (w1 (w1 (w1 (hdl ((el a i).live) (hdl ((el a i).written) (w1 (w1 (hdl ((el a i).prog) j))))))))))), (5, .v (I (i : Int)))], []⟩ (.cons (Q_addw (x := (w1 (w1 (w1 (hdl ((el a i).live) (hdl ((el a i).written) (w1 (w1 (hdl ((el a i).prog) j))))))))) (y := 1)) .nil) ?_; clear S; intro ac w β S
                      refine RG.done rfl (nx_then (wp_seq (wp_seq (RG.start ?_))))
                      refine S.q 8 [0, 1, 5, 105] 0 ⟨[(0, .v (slv (a).length pa.1)), (1, .v (I (w1 (w1 (w1 (w1 (hdl ((el a i).live) (hdl ((el a i).written) (w1 (w1 (hdl ((el a i).prog) j))))))))))), (5, .v (I (i : Int))), (105, .v (B (((el a i).exit).kind != (w1 (w1 (w1 (w1 (hdl ((el a i).live) (hdl ((el a i).written) (w1 (w1 (hdl ((el a i).prog) j))))))))))))], []⟩ (.cons (Q_idx (S.arg ha) (l := (a).length) (k := i) (i := (i : Int)) rfl rfl (by omega) Tryz.underlying52 (by kernel_rfl)) (.cons (Q_cell (S.arg ha) (t := 3) (k := i) (j := 9) (v := I (((el a i).exit).kind)) (by omega) (by kernel_rfl) (by kernel_rfl)) .nil)) ?_; clear S; intro ac w β S
                      refine RG.done rfl (nx_then ?_)
                      refine S.c (((el a i).exit).kind != (w1 (w1 (w1 (w1 (hdl ((el a i).live) (hdl ((el a i).written) (w1 (w1 (hdl ((el a i).prog) j)))))))))) (fun h32 => ?_) (fun h32 => ?_)
                      · have g33 : ¬ (((el a i).exit).kind = (w1 (w1 (w1 (w1 (hdl ((el a i).live) (hdl ((el a i).written) (w1 (w1 (hdl ((el a i).prog) j)))))))))) := bne_iff_ne.1 h32
                        refine wp_seq (RG.start ?_)
                        refine S.q 1 [4] 0 ⟨[(4, .v (I (-1)))], []⟩ .nil ?_; clear S; intro ac w β S
                        refine RG.done rfl (nx_then (wp_ret (rt_then (rt_block (rt_then (rt_then (rt_block (rt_then ?_))))))))
                        refine S.r [I (-1)] ?_
                        exact ⟨retI (by clear S; (first | (rw [hr, hd_end (by omega)]; done) | (rw [hr, hd_step (by omega)]; simp [he_Guest, w1, hdi, hdb, hdc, *]; done) | (rw [hr, hd_step (by omega)]; simp_all [he_Guest, w1, hdi, hdb, hdc]; done))), S.chg⟩
                      · have g34 : ((el a i).exit).kind = (w1 (w1 (w1 (w1 (hdl ((el a i).live) (hdl ((el a i).written) (w1 (w1 (hdl ((el a i).prog) j))))))))) := ne_f h32
                        refine wp_skip (nx_then (wp_seq (RG.start ?_)))
                        refine S.q 3 [0, 1, 5] 0 ⟨[(0, .v (slv (a).length pa.1)), (1, .v (I (w1 (w1 (w1 (w1 (w1 (hdl ((el a i).live) (hdl ((el a i).written) (w1 (w1 (hdl ((el a i).prog) j)))))))))))), (5, .v (I (i : Int)))], []⟩ (.cons (Q_addw (x := (w1 (w1 (w1 (w1 (hdl ((el a i).live) (hdl ((el a i).written) (w1 (w1 (hdl ((el a i).prog) j)))))))))) (y := 1)) .nil) ?_; clear S; intro ac w β S
                        refine RG.done rfl (nx_then (wp_seq (wp_seq (RG.start ?_))))
                        refine S.q 8 [0, 1, 5, 115] 0 ⟨[(0, .v (slv (a).length pa.1)), (1, .v (I (w1 (w1 (w1 (w1 (w1 (hdl ((el a i).live) (hdl ((el a i).written) (w1 (w1 (hdl ((el a i).prog) j)))))))))))), (5, .v (I (i : Int))), (115, .v (B (((el a i).exit).page != (w1 (w1 (w1 (w1 (w1 (hdl ((el a i).live) (hdl ((el a i).written) (w1 (w1 (hdl ((el a i).prog) j)))))))))))))], []⟩ (.cons (Q_idx (S.arg ha) (l := (a).length) (k := i) (i := (i : Int)) rfl rfl (by omega) Tryz.underlying52 (by kernel_rfl)) (.cons (Q_cell (S.arg ha) (t := 3) (k := i) (j := 10) (v := I (((el a i).exit).page)) (by omega) (by kernel_rfl) (by kernel_rfl)) .nil)) ?_; clear S; intro ac w β S
                        refine RG.done rfl (nx_then ?_)
                        refine S.c (((el a i).exit).page != (w1 (w1 (w1 (w1 (w1 (hdl ((el a i).live) (hdl ((el a i).written) (w1 (w1 (hdl ((el a i).prog) j))))))))))) (fun h35 => ?_) (fun h35 => ?_)
                        · have g36 : ¬ (((el a i).exit).page = (w1 (w1 (w1 (w1 (w1 (hdl ((el a i).live) (hdl ((el a i).written) (w1 (w1 (hdl ((el a i).prog) j))))))))))) := bne_iff_ne.1 h35
                          refine wp_seq (RG.start ?_)
                          refine S.q 1 [4] 0 ⟨[(4, .v (I (-1)))], []⟩ .nil ?_; clear S; intro ac w β S
                          refine RG.done rfl (nx_then (wp_ret (rt_then (rt_block (rt_then (rt_then (rt_block (rt_then ?_))))))))
                          refine S.r [I (-1)] ?_
                          exact ⟨retI (by clear S; (first | (rw [hr, hd_end (by omega)]; done) | (rw [hr, hd_step (by omega)]; simp [he_Guest, w1, hdi, hdb, hdc, *]; done) | (rw [hr, hd_step (by omega)]; simp_all [he_Guest, w1, hdi, hdb, hdc]; done))), S.chg⟩
                        · have g37 : ((el a i).exit).page = (w1 (w1 (w1 (w1 (w1 (hdl ((el a i).live) (hdl ((el a i).written) (w1 (w1 (hdl ((el a i).prog) j)))))))))) := ne_f h35
                          refine wp_skip (nx_then (wp_seq (RG.start ?_)))
                          refine S.q 3 [0, 1, 5] 0 ⟨[(0, .v (slv (a).length pa.1)), (1, .v (I (w1 (w1 (w1 (w1 (w1 (w1 (hdl ((el a i).live) (hdl ((el a i).written) (w1 (w1 (hdl ((el a i).prog) j))))))))))))), (5, .v (I (i : Int)))], []⟩ (.cons (Q_addw (x := (w1 (w1 (w1 (w1 (w1 (hdl ((el a i).live) (hdl ((el a i).written) (w1 (w1 (hdl ((el a i).prog) j))))))))))) (y := 1)) .nil) ?_; clear S; intro ac w β S
                          refine RG.done rfl (nx_then (wp_seq (wp_seq (RG.start ?_))))
                          refine S.q 10 [0, 1, 5, 127] 0 ⟨[(0, .v (slv (a).length pa.1)), (1, .v (I (w1 (w1 (w1 (w1 (w1 (w1 (hdl ((el a i).live) (hdl ((el a i).written) (w1 (w1 (hdl ((el a i).prog) j))))))))))))), (5, .v (I (i : Int))), (127, .v (B (!(((el a i).exit).wr == ((Int.tmod (w1 (w1 (w1 (w1 (w1 (w1 (hdl ((el a i).live) (hdl ((el a i).written) (w1 (w1 (hdl ((el a i).prog) j))))))))))) 3) == 0)))))], []⟩ (.cons (Q_idx (S.arg ha) (l := (a).length) (k := i) (i := (i : Int)) rfl rfl (by omega) Tryz.underlying52 (by kernel_rfl)) (.cons (Q_cell (S.arg ha) (t := 4) (k := i) (j := 11) (v := B (((el a i).exit).wr)) (by omega) (by kernel_rfl) (by kernel_rfl)) (.cons (Q_rem (x := (w1 (w1 (w1 (w1 (w1 (w1 (hdl ((el a i).live) (hdl ((el a i).written) (w1 (w1 (hdl ((el a i).prog) j)))))))))))) (y := 3) (by decide)) .nil))) ?_; clear S; intro ac w β S
                          refine RG.done rfl (nx_then ?_)
                          refine S.c (!(((el a i).exit).wr == ((Int.tmod (w1 (w1 (w1 (w1 (w1 (w1 (hdl ((el a i).live) (hdl ((el a i).written) (w1 (w1 (hdl ((el a i).prog) j))))))))))) 3) == 0))) (fun h38 => ?_) (fun h38 => ?_)
                          · have h39 : (((el a i).exit).wr == ((Int.tmod (w1 (w1 (w1 (w1 (w1 (w1 (hdl ((el a i).live) (hdl ((el a i).written) (w1 (w1 (hdl ((el a i).prog) j))))))))))) 3) == 0)) = false := not_t h38
                            have g40 : ¬ (((el a i).exit).wr = ((Int.tmod (w1 (w1 (w1 (w1 (w1 (w1 (hdl ((el a i).live) (hdl ((el a i).written) (w1 (w1 (hdl ((el a i).prog) j))))))))))) 3) == 0)) := ne_of_beq_false h39
                            refine wp_seq (RG.start ?_)
                            refine S.q 1 [4] 0 ⟨[(4, .v (I (-1)))], []⟩ .nil ?_; clear S; intro ac w β S
                            refine RG.done rfl (nx_then (wp_ret (rt_then (rt_block (rt_then (rt_then (rt_block (rt_then ?_))))))))
                            refine S.r [I (-1)] ?_
                            exact ⟨retI (by clear S; (first | (rw [hr, hd_end (by omega)]; done) | (rw [hr, hd_step (by omega)]; simp [he_Guest, w1, hdi, hdb, hdc, *]; done) | (rw [hr, hd_step (by omega)]; simp_all [he_Guest, w1, hdi, hdb, hdc]; done))), S.chg⟩
                          · have h41 : (((el a i).exit).wr == ((Int.tmod (w1 (w1 (w1 (w1 (w1 (w1 (hdl ((el a i).live) (hdl ((el a i).written) (w1 (w1 (hdl ((el a i).prog) j))))))))))) 3) == 0)) = true := not_f h38
                            have g42 : ((el a i).exit).wr = ((Int.tmod (w1 (w1 (w1 (w1 (w1 (w1 (hdl ((el a i).live) (hdl ((el a i).written) (w1 (w1 (hdl ((el a i).prog) j))))))))))) 3) == 0) := eq_of_beq h41
                            refine wp_skip (nx_then (wp_seq (RG.start ?_)))
                            refine S.q 3 [0, 1, 5] 0 ⟨[(0, .v (slv (a).length pa.1)), (1, .v (I (w1 (w1 (w1 (w1 (w1 (w1 (w1 (hdl ((el a i).live) (hdl ((el a i).written) (w1 (w1 (hdl ((el a i).prog) j)))))))))))))), (5, .v (I (i : Int)))], []⟩ (.cons (Q_addw (x := (w1 (w1 (w1 (w1 (w1 (w1 (hdl ((el a i).live) (hdl ((el a i).written) (w1 (w1 (hdl ((el a i).prog) j)))))))))))) (y := 1)) .nil) ?_; clear S; intro ac w β S
                            refine RG.done rfl (nx_then (wp_seq (wp_seq (RG.start ?_))))
                            refine S.q 8 [0, 1, 5, 137] 0 ⟨[(0, .v (slv (a).length pa.1)), (1, .v (I (w1 (w1 (w1 (w1 (w1 (w1 (w1 (hdl ((el a i).live) (hdl ((el a i).written) (w1 (w1 (hdl ((el a i).prog) j)))))))))))))), (5, .v (I (i : Int))), (137, .v (B (((el a i).exit).n != (w1 (w1 (w1 (w1 (w1 (w1 (w1 (hdl ((el a i).live) (hdl ((el a i).written) (w1 (w1 (hdl ((el a i).prog) j)))))))))))))))], []⟩ (.cons (Q_idx (S.arg ha) (l := (a).length) (k := i) (i := (i : Int)) rfl rfl (by omega) Tryz.underlying52 (by kernel_rfl)) (.cons (Q_cell (S.arg ha) (t := 3) (k := i) (j := 12) (v := I (((el a i).exit).n)) (by omega) (by kernel_rfl) (by kernel_rfl)) .nil)) ?_; clear S; intro ac w β S
                            refine RG.done rfl (nx_then ?_)
                            refine S.c (((el a i).exit).n != (w1 (w1 (w1 (w1 (w1 (w1 (w1 (hdl ((el a i).live) (hdl ((el a i).written) (w1 (w1 (hdl ((el a i).prog) j))))))))))))) (fun h43 => ?_) (fun h43 => ?_)
                            · have g44 : ¬ (((el a i).exit).n = (w1 (w1 (w1 (w1 (w1 (w1 (w1 (hdl ((el a i).live) (hdl ((el a i).written) (w1 (w1 (hdl ((el a i).prog) j))))))))))))) := bne_iff_ne.1 h43
                              refine wp_seq (RG.start ?_)
                              refine S.q 1 [4] 0 ⟨[(4, .v (I (-1)))], []⟩ .nil ?_; clear S; intro ac w β S
                              refine RG.done rfl (nx_then (wp_ret (rt_then (rt_block (rt_then (rt_then (rt_block (rt_then ?_))))))))
                              refine S.r [I (-1)] ?_
                              exact ⟨retI (by clear S; (first | (rw [hr, hd_end (by omega)]; done) | (rw [hr, hd_step (by omega)]; simp [he_Guest, w1, hdi, hdb, hdc, *]; done) | (rw [hr, hd_step (by omega)]; simp_all [he_Guest, w1, hdi, hdb, hdc]; done))), S.chg⟩
                            · have g45 : ((el a i).exit).n = (w1 (w1 (w1 (w1 (w1 (w1 (w1 (hdl ((el a i).live) (hdl ((el a i).written) (w1 (w1 (hdl ((el a i).prog) j)))))))))))) := ne_f h43
                              refine wp_skip (nx_then (wp_seq (RG.start ?_)))
                              refine S.q 3 [0, 1, 5] 0 ⟨[(0, .v (slv (a).length pa.1)), (1, .v (I (w1 (w1 (w1 (w1 (w1 (w1 (w1 (w1 (hdl ((el a i).live) (hdl ((el a i).written) (w1 (w1 (hdl ((el a i).prog) j))))))))))))))), (5, .v (I (i : Int)))], []⟩ (.cons (Q_addw (x := (w1 (w1 (w1 (w1 (w1 (w1 (w1 (hdl ((el a i).live) (hdl ((el a i).written) (w1 (w1 (hdl ((el a i).prog) j))))))))))))) (y := 1)) .nil) ?_; clear S; intro ac w β S
                              refine RG.done rfl (nx_then (wp_seq (wp_seq (RG.start ?_))))
                              refine S.q 9 [0, 1, 5, 148] 0 ⟨[(0, .v (slv (a).length pa.1)), (1, .v (I (w1 (w1 (w1 (w1 (w1 (w1 (w1 (w1 (hdl ((el a i).live) (hdl ((el a i).written) (w1 (w1 (hdl ((el a i).prog) j))))))))))))))), (5, .v (I (i : Int))), (148, .v (B (!((el a i).halted == ((Int.tmod (w1 (w1 (w1 (w1 (w1 (w1 (w1 (w1 (hdl ((el a i).live) (hdl ((el a i).written) (w1 (w1 (hdl ((el a i).prog) j))))))))))))) 3) == 0)))))], []⟩ (.cons (Q_idx (S.arg ha) (l := (a).length) (k := i) (i := (i : Int)) rfl rfl (by omega) Tryz.underlying52 (by kernel_rfl)) (.cons (Q_cell (S.arg ha) (t := 4) (k := i) (j := 13) (v := B ((el a i).halted)) (by omega) (by kernel_rfl) (by kernel_rfl)) (.cons (Q_rem (x := (w1 (w1 (w1 (w1 (w1 (w1 (w1 (w1 (hdl ((el a i).live) (hdl ((el a i).written) (w1 (w1 (hdl ((el a i).prog) j)))))))))))))) (y := 3) (by decide)) .nil))) ?_; clear S; intro ac w β S
                              refine RG.done rfl (nx_then ?_)
                              refine S.c (!((el a i).halted == ((Int.tmod (w1 (w1 (w1 (w1 (w1 (w1 (w1 (w1 (hdl ((el a i).live) (hdl ((el a i).written) (w1 (w1 (hdl ((el a i).prog) j))))))))))))) 3) == 0))) (fun h46 => ?_) (fun h46 => ?_)
                              · have h47 : ((el a i).halted == ((Int.tmod (w1 (w1 (w1 (w1 (w1 (w1 (w1 (w1 (hdl ((el a i).live) (hdl ((el a i).written) (w1 (w1 (hdl ((el a i).prog) j))))))))))))) 3) == 0)) = false := not_t h46
                                have g48 : ¬ ((el a i).halted = ((Int.tmod (w1 (w1 (w1 (w1 (w1 (w1 (w1 (w1 (hdl ((el a i).live) (hdl ((el a i).written) (w1 (w1 (hdl ((el a i).prog) j))))))))))))) 3) == 0)) := ne_of_beq_false h47
                                refine wp_seq (RG.start ?_)
                                refine S.q 1 [4] 0 ⟨[(4, .v (I (-1)))], []⟩ .nil ?_; clear S; intro ac w β S
                                refine RG.done rfl (nx_then (wp_ret (rt_then (rt_block (rt_then (rt_then (rt_block (rt_then ?_))))))))
                                refine S.r [I (-1)] ?_
                                exact ⟨retI (by clear S; (first | (rw [hr, hd_end (by omega)]; done) | (rw [hr, hd_step (by omega)]; simp [he_Guest, w1, hdi, hdb, hdc, *]; done) | (rw [hr, hd_step (by omega)]; simp_all [he_Guest, w1, hdi, hdb, hdc]; done))), S.chg⟩
                              · have h49 : ((el a i).halted == ((Int.tmod (w1 (w1 (w1 (w1 (w1 (w1 (w1 (w1 (hdl ((el a i).live) (hdl ((el a i).written) (w1 (w1 (hdl ((el a i).prog) j))))))))))))) 3) == 0)) = true := not_f h46
                                have g50 : (el a i).halted = ((Int.tmod (w1 (w1 (w1 (w1 (w1 (w1 (w1 (w1 (hdl ((el a i).live) (hdl ((el a i).written) (w1 (w1 (hdl ((el a i).prog) j))))))))))))) 3) == 0) := eq_of_beq h49
                                refine wp_skip (nx_then (wp_seq (RG.start ?_)))
                                refine S.q 3 [0, 1, 5] 0 ⟨[(0, .v (slv (a).length pa.1)), (1, .v (I (w1 (w1 (w1 (w1 (w1 (w1 (w1 (w1 (w1 (hdl ((el a i).live) (hdl ((el a i).written) (w1 (w1 (hdl ((el a i).prog) j)))))))))))))))), (5, .v (I (i : Int)))], []⟩ (.cons (Q_addw (x := (w1 (w1 (w1 (w1 (w1 (w1 (w1 (w1 (hdl ((el a i).live) (hdl ((el a i).written) (w1 (w1 (hdl ((el a i).prog) j)))))))))))))) (y := 1)) .nil) ?_; clear S; intro ac w β S
                                refine RG.done rfl (nx_then (wp_seq (RG.start ?_)))
                                refine S.q 8 [0, 1, 5] 0 ⟨[(0, .v (slv (a).length pa.1)), (1, .v (I (hdl ((el a i).seen) (w1 (w1 (w1 (w1 (w1 (w1 (w1 (w1 (w1 (hdl ((el a i).live) (hdl ((el a i).written) (w1 (w1 (hdl ((el a i).prog) j))))))))))))))))), (5, .v (I (i : Int)))], []⟩ (.cons (Q_idx (S.arg ha) (l := (a).length) (k := i) (i := (i : Int)) rfl rfl (by omega) Tryz.underlying52 (by kernel_rfl)) (.cons (Q_cell (S.arg ha) (t := 53) (k := i) (j := 14) (v := slv ((el a i).seen).length ((pa.2 i).seen).1) (by omega) (by kernel_rfl) (by kernel_rfl)) (.cons (Q_call fun w hw => c_laws_heldIntS w ((el a i).seen) ((pa.2 i).seen) (rd_of (RGuest.seen (d := (el a i)) (LRd.el (S.arg ha) i (by omega))) hw) (w1 (w1 (w1 (w1 (w1 (w1 (w1 (w1 (w1 (hdl ((el a i).live) (hdl ((el a i).written) (w1 (w1 (hdl ((el a i).prog) j))))))))))))))) .nil))) ?_; clear S; intro ac w β S
                                refine RG.done rfl (nx_then (wp_seq (RG.start ?_)))
                                refine S.q 2 [0, 1, 5, 159] 0 ⟨[(0, .v (slv (a).length pa.1)), (1, .v (I (hdl ((el a i).seen) (w1 (w1 (w1 (w1 (w1 (w1 (w1 (w1 (w1 (hdl ((el a i).live) (hdl ((el a i).written) (w1 (w1 (hdl ((el a i).prog) j))))))))))))))))), (5, .v (I (i : Int))), (159, .v (B (decide ((hdl ((el a i).seen) (w1 (w1 (w1 (w1 (w1 (w1 (w1 (w1 (w1 (hdl ((el a i).live) (hdl ((el a i).written) (w1 (w1 (hdl ((el a i).prog) j))))))))))))))) < 0))))], []⟩ .nil ?_; clear S; intro ac w β S
                                refine RG.done rfl (nx_then ?_)
                                refine S.c (decide ((hdl ((el a i).seen) (w1 (w1 (w1 (w1 (w1 (w1 (w1 (w1 (w1 (hdl ((el a i).live) (hdl ((el a i).written) (w1 (w1 (hdl ((el a i).prog) j))))))))))))))) < 0)) (fun h51 => ?_) (fun h51 => ?_)
                                · have g52 : (hdl ((el a i).seen) (w1 (w1 (w1 (w1 (w1 (w1 (w1 (w1 (w1 (hdl ((el a i).live) (hdl ((el a i).written) (w1 (w1 (hdl ((el a i).prog) j))))))))))))))) < 0 := of_decide_eq_true h51
                                  refine wp_seq (RG.start ?_)
                                  refine S.q 1 [4] 0 ⟨[(4, .v (I (-1)))], []⟩ .nil ?_; clear S; intro ac w β S
                                  refine RG.done rfl (nx_then (wp_ret (rt_block (rt_then (rt_then (rt_block (rt_then ?_)))))))
                                  refine S.r [I (-1)] ?_
                                  exact ⟨retI (by clear S; (first | (rw [hr, hd_end (by omega)]; done) | (rw [hr, hd_step (by omega)]; simp [he_Guest, w1, hdi, hdb, hdc, *]; done) | (rw [hr, hd_step (by omega)]; simp_all [he_Guest, w1, hdi, hdb, hdc]; done))), S.chg⟩
                                · have g53 : ¬ ((hdl ((el a i).seen) (w1 (w1 (w1 (w1 (w1 (w1 (w1 (w1 (w1 (hdl ((el a i).live) (hdl ((el a i).written) (w1 (w1 (hdl ((el a i).prog) j))))))))))))))) < 0) := of_decide_eq_false h51
                                  refine wp_skip (nx_block (nx_then (RG.start ?_)))
                                  refine S.q 3 [0, 1, 5] 0 ⟨[(0, .v (slv (a).length pa.1)), (1, .v (I (hdl ((el a i).seen) (w1 (w1 (w1 (w1 (w1 (w1 (w1 (w1 (w1 (hdl ((el a i).live) (hdl ((el a i).written) (w1 (w1 (hdl ((el a i).prog) j))))))))))))))))), (5, .v (I ((i : Int) + 1)))], []⟩ (.cons (Q_add (x := (i : Int)) (y := 1) ⟨by omega, by omega⟩) .nil) ?_; clear S; intro ac w β S
                                  refine RG.done rfl (nx_then ?_)
                                  replace S := S.p [0, 1, 5] 0 ⟨[(0, .v (slv (a).length pa.1)), (1, .v (I (hdl ((el a i).seen) (w1 (w1 (w1 (w1 (w1 (w1 (w1 (w1 (w1 (hdl ((el a i).live) (hdl ((el a i).written) (w1 (w1 (hdl ((el a i).prog) j))))))))))))))))), (5, .v (I ((i : Int) + 1)))], []⟩
                                  refine ⟨a.length - (i + 1), by omega, i + 1, (hdl ((el a i).seen) (w1 (w1 (w1 (w1 (w1 (w1 (w1 (w1 (w1 (hdl ((el a i).live) (hdl ((el a i).written) (w1 (w1 (hdl ((el a i).prog) j))))))))))))))), _, _, _, rfl, ?_, ?_, S.cast (by kernel_rfl)⟩
                                  · clear S; first | omega | (simp [*]; done) | (simp [*]; omega)
                                  · clear S; (rw [hr, hd_step (by omega)]; simp [he_Guest, w1, hdi, hdb, hdc, *])
  · have g54 : ¬ ((i : Int) < ((a).length : Int)) := of_decide_eq_false h1
    refine wp_exit (ex_then (ex_then (ex_hit (nx_then (wp_seq (RG.start ?_))))))
    refine S.q 2 [4] 0 ⟨[(4, .v (I j))], []⟩ .nil ?_; clear S; intro ac w β S
    refine RG.done rfl (nx_then (wp_ret ?_))
    refine S.r [I j] ?_
    exact ⟨retI (by clear S; (first | (rw [hr, hd_end (by omega)]; done) | (rw [hr, hd_step (by omega)]; simp [he_Guest, w1, hdi, hdb, hdc, *]; done) | (rw [hr, hd_step (by omega)]; simp_all [he_Guest, w1, hdi, hdb, hdc]; done))), S.chg⟩

set_option maxRecDepth 100000 in
theorem c_laws_heldKeptS (w0 : World) (a : List TKept) (pa : LP TKept) (ha : GT.rd KK (Lt w0.heap.size) w0 a pa) (k : Int) : Calls Tryz.prog 71 [slv (a).length pa.1, I k].toArray w0 (fun e w' => e = .returned (I (hdl a k)) ∧ Chg NoB w0 w') := by
  refine Calls.walk (args := [slv (a).length pa.1, I k]) NoB Tryz.func71 rfl rfl ?_
  intro ac β S
  have hlea : a.length ≤ 4194304 := LRd.le ha
  refine wp_seq (RG.start ?_)
  refine S.q 1 [0, 1] 0 ⟨[(0, .v (slv (a).length pa.1)), (1, .v (I k))], []⟩ .nil ?_; clear S; intro ac w β S
  refine RG.done rfl (nx_then (wp_seq (wp_seq (RG.start ?_))))
  refine S.q 1 [0, 1, 5] 0 ⟨[(0, .v (slv (a).length pa.1)), (1, .v (I k)), (5, .v (I 0))], []⟩ .nil ?_; clear S; intro ac w β S
  refine RG.done rfl (nx_then (wp_block ?_))
  replace S := S.p [0, 1, 5] 0 ⟨[(0, .v (slv (a).length pa.1)), (1, .v (I k)), (5, .v (I 0))], []⟩
  refine wp_loop_down (fun mm ac w => ∃ (i : Nat) (j : Int)  (u : World) (N : Bl) (β : Nat → Nat), mm = a.length - i ∧ (i ≤ a.length) ∧ (hdl a k = hdlc (a.drop i) j id) ∧ St Tryz.prog Tryz.f71.ntmps w0 NoB u N β ⟨[(0, .v (slv (a).length pa.1)), (1, .v (I j)), (5, .v (I (i : Int)))], []⟩ ac w) _ ⟨0, k, _, _, _, rfl, (by first | omega | (simp; done) | (simp; omega)), (by rfl), S.cast (by kernel_rfl)⟩ ?_
  clear S
  rintro mm ac w ⟨i, j, u, N, β, rfl, hi, hr, S⟩
  refine wp_seq (wp_seq (RG.start ?_))
  refine S.q 4 [0, 1, 5, 9] 0 ⟨[(0, .v (slv (a).length pa.1)), (1, .v (I j)), (5, .v (I (i : Int))), (9, .v (B (decide ((i : Int) < ((a).length : Int)))))], []⟩ .nil ?_; clear S; intro ac w β S
  refine RG.done rfl (nx_then ?_)
  refine S.c (decide ((i : Int) < ((a).length : Int))) (fun h1 => ?_) (fun h1 => ?_)
  · have g2 : (i : Int) < ((a).length : Int) := of_decide_eq_true h1
    refine wp_skip (nx_then (wp_seq (wp_block (wp_seq (RG.start ?_)))))
    refine S.q 8 [0, 1, 5] 0 ⟨[(0, .v (slv (a).length pa.1)), (1, .v (I (hdl ((el a i).known) j))), (5, .v (I (i : Int)))], []⟩ (.cons (Q_idx (S.arg ha) (l := (a).length) (k := i) (i := (i : Int)) rfl rfl (by omega) Tryz.underlying54 (by kernel_rfl)) (.cons (Q_cell (S.arg ha) (t := 51) (k := i) (j := 0) (v := slv ((el a i).known).length ((pa.2 i).known).1) (by omega) (by kernel_rfl) (by kernel_rfl)) (.cons (Q_call fun w hw => c_laws_heldBoolS w ((el a i).known) ((pa.2 i).known) (rd_of (RKept.known (d := (el a i)) (LRd.el (S.arg ha) i (by omega))) hw) j) .nil))) ?_; clear S; intro ac w β S
    refine RG.done rfl (nx_then (wp_seq (wp_seq (RG.start ?_))))
    refine S.q 2 [0, 1, 5, 20] 0 ⟨[(0, .v (slv (a).length pa.1)), (1, .v (I (hdl ((el a i).known) j))), (5, .v (I (i : Int))), (20, .v (B (decide ((hdl ((el a i).known) j) < 0))))], []⟩ .nil ?_; clear S; intro ac w β S
    refine RG.done rfl (nx_then ?_)
    refine S.c (decide ((hdl ((el a i).known) j) < 0)) (fun h3 => ?_) (fun h3 => ?_)
    · have g4 : (hdl ((el a i).known) j) < 0 := of_decide_eq_true h3
      refine wp_seq (RG.start ?_)
      refine S.q 1 [4] 0 ⟨[(4, .v (I (-1)))], []⟩ .nil ?_; clear S; intro ac w β S
      refine RG.done rfl (nx_then (wp_ret (rt_then (rt_block (rt_then (rt_then (rt_block (rt_then ?_))))))))
      refine S.r [I (-1)] ?_
      exact ⟨retI (by clear S; (first | (rw [hr, hd_end (by omega)]; done) | (rw [hr, hd_step (by omega)]; simp [he_Kept, w1, hdi, hdb, hdc, *]; done) | (rw [hr, hd_step (by omega)]; simp_all [he_Kept, w1, hdi, hdb, hdc]; done))), S.chg⟩
    · have g5 : ¬ ((hdl ((el a i).known) j) < 0) := of_decide_eq_false h3
      refine wp_skip (nx_then (wp_seq (RG.start ?_)))
      refine S.q 8 [0, 1, 5] 0 ⟨[(0, .v (slv (a).length pa.1)), (1, .v (I (hdl ((el a i).slots) (hdl ((el a i).known) j)))), (5, .v (I (i : Int)))], []⟩ (.cons (Q_idx (S.arg ha) (l := (a).length) (k := i) (i := (i : Int)) rfl rfl (by omega) Tryz.underlying54 (by kernel_rfl)) (.cons (Q_cell (S.arg ha) (t := 50) (k := i) (j := 1) (v := slv ((el a i).slots).length ((pa.2 i).slots).1) (by omega) (by kernel_rfl) (by kernel_rfl)) (.cons (Q_call fun w hw => c_laws_heldSlotS w ((el a i).slots) ((pa.2 i).slots) (rd_of (RKept.slots (d := (el a i)) (LRd.el (S.arg ha) i (by omega))) hw) (hdl ((el a i).known) j)) .nil))) ?_; clear S; intro ac w β S
      refine RG.done rfl (nx_then (wp_seq (RG.start ?_)))
      refine S.q 2 [0, 1, 5, 29] 0 ⟨[(0, .v (slv (a).length pa.1)), (1, .v (I (hdl ((el a i).slots) (hdl ((el a i).known) j)))), (5, .v (I (i : Int))), (29, .v (B (decide ((hdl ((el a i).slots) (hdl ((el a i).known) j)) < 0))))], []⟩ .nil ?_; clear S; intro ac w β S
      refine RG.done rfl (nx_then ?_)
      refine S.c (decide ((hdl ((el a i).slots) (hdl ((el a i).known) j)) < 0)) (fun h6 => ?_) (fun h6 => ?_)
      · have g7 : (hdl ((el a i).slots) (hdl ((el a i).known) j)) < 0 := of_decide_eq_true h6
        refine wp_seq (RG.start ?_)
        refine S.q 1 [4] 0 ⟨[(4, .v (I (-1)))], []⟩ .nil ?_; clear S; intro ac w β S
        refine RG.done rfl (nx_then (wp_ret (rt_block (rt_then (rt_then (rt_block (rt_then ?_)))))))
        refine S.r [I (-1)] ?_
        exact ⟨retI (by clear S; (first | (rw [hr, hd_end (by omega)]; done) | (rw [hr, hd_step (by omega)]; simp [he_Kept, w1, hdi, hdb, hdc, *]; done) | (rw [hr, hd_step (by omega)]; simp_all [he_Kept, w1, hdi, hdb, hdc]; done))), S.chg⟩
      · have g8 : ¬ ((hdl ((el a i).slots) (hdl ((el a i).known) j)) < 0) := of_decide_eq_false h6
        refine wp_skip (nx_block (nx_then (RG.start ?_)))
        refine S.q 3 [0, 1, 5] 0 ⟨[(0, .v (slv (a).length pa.1)), (1, .v (I (hdl ((el a i).slots) (hdl ((el a i).known) j)))), (5, .v (I ((i : Int) + 1)))], []⟩ (.cons (Q_add (x := (i : Int)) (y := 1) ⟨by omega, by omega⟩) .nil) ?_; clear S; intro ac w β S
        refine RG.done rfl (nx_then ?_)
        replace S := S.p [0, 1, 5] 0 ⟨[(0, .v (slv (a).length pa.1)), (1, .v (I (hdl ((el a i).slots) (hdl ((el a i).known) j)))), (5, .v (I ((i : Int) + 1)))], []⟩
        refine ⟨a.length - (i + 1), by omega, i + 1, (hdl ((el a i).slots) (hdl ((el a i).known) j)), _, _, _, rfl, ?_, ?_, S.cast (by kernel_rfl)⟩
        · clear S; first | omega | (simp [*]; done) | (simp [*]; omega)
        · clear S; (rw [hr, hd_step (by omega)]; simp [he_Kept, w1, hdi, hdb, hdc, *])
  · have g9 : ¬ ((i : Int) < ((a).length : Int)) := of_decide_eq_false h1
    refine wp_exit (ex_then (ex_then (ex_hit (nx_then (wp_seq (RG.start ?_))))))
    refine S.q 2 [4] 0 ⟨[(4, .v (I j))], []⟩ .nil ?_; clear S; intro ac w β S
    refine RG.done rfl (nx_then (wp_ret ?_))
    refine S.r [I j] ?_
    exact ⟨retI (by clear S; (first | (rw [hr, hd_end (by omega)]; done) | (rw [hr, hd_step (by omega)]; simp [he_Kept, w1, hdi, hdb, hdc, *]; done) | (rw [hr, hd_step (by omega)]; simp_all [he_Kept, w1, hdi, hdb, hdc]; done))), S.chg⟩

set_option maxRecDepth 100000 in
theorem c_laws_heldMonS (w0 : World) (a : List TMon) (pa : LP TMon) (ha : GT.rd KK (Lt w0.heap.size) w0 a pa) (k : Int) : Calls Tryz.prog 35 [slv (a).length pa.1, I k].toArray w0 (fun e w' => e = .returned (I (hdl a k)) ∧ Chg NoB w0 w') := by
  refine Calls.walk (args := [slv (a).length pa.1, I k]) NoB Tryz.func35 rfl rfl ?_
  intro ac β S
  have hlea : a.length ≤ 4194304 := LRd.le ha
  refine wp_seq (RG.start ?_)
  refine S.q 1 [0, 1] 0 ⟨[(0, .v (slv (a).length pa.1)), (1, .v (I k))], []⟩ .nil ?_; clear S; intro ac w β S
  refine RG.done rfl (nx_then (wp_seq (wp_seq (RG.start ?_))))
  refine S.q 1 [0, 1, 5] 0 ⟨[(0, .v (slv (a).length pa.1)), (1, .v (I k)), (5, .v (I 0))], []⟩ .nil ?_; clear S; intro ac w β S
  refine RG.done rfl (nx_then (wp_block ?_))
  replace S := S.p [0, 1, 5] 0 ⟨[(0, .v (slv (a).length pa.1)), (1, .v (I k)), (5, .v (I 0))], []⟩
  refine wp_loop_down (fun mm ac w => ∃ (i : Nat) (j : Int)  (u : World) (N : Bl) (β : Nat → Nat), mm = a.length - i ∧ (i ≤ a.length) ∧ (hdl a k = hdlc (a.drop i) j id) ∧ St Tryz.prog Tryz.f35.ntmps w0 NoB u N β ⟨[(0, .v (slv (a).length pa.1)), (1, .v (I j)), (5, .v (I (i : Int)))], []⟩ ac w) _ ⟨0, k, _, _, _, rfl, (by first | omega | (simp; done) | (simp; omega)), (by rfl), S.cast (by kernel_rfl)⟩ ?_
  clear S
  rintro mm ac w ⟨i, j, u, N, β, rfl, hi, hr, S⟩
  refine wp_seq (wp_seq (RG.start ?_))
  refine S.q 4 [0, 1, 5, 9] 0 ⟨[(0, .v (slv (a).length pa.1)), (1, .v (I j)), (5, .v (I (i : Int))), (9, .v (B (decide ((i : Int) < ((a).length : Int)))))], []⟩ .nil ?_; clear S; intro ac w β S
  refine RG.done rfl (nx_then ?_)
  refine S.c (decide ((i : Int) < ((a).length : Int))) (fun h1 => ?_) (fun h1 => ?_)
  · have g2 : (i : Int) < ((a).length : Int) := of_decide_eq_true h1
    refine wp_skip (nx_then (wp_seq (wp_block (wp_seq (RG.start ?_)))))
    refine S.q 8 [0, 1, 5] 0 ⟨[(0, .v (slv (a).length pa.1)), (1, .v (I (hdl ((el a i).outer) j))), (5, .v (I (i : Int)))], []⟩ (.cons (Q_idx (S.arg ha) (l := (a).length) (k := i) (i := (i : Int)) rfl rfl (by omega) Tryz.underlying28 (by kernel_rfl)) (.cons (Q_cell (S.arg ha) (t := 50) (k := i) (j := 0) (v := slv ((el a i).outer).length ((pa.2 i).outer).1) (by omega) (by kernel_rfl) (by kernel_rfl)) (.cons (Q_call fun w hw => c_laws_heldSlotS w ((el a i).outer) ((pa.2 i).outer) (rd_of (RMon.outer (d := (el a i)) (LRd.el (S.arg ha) i (by omega))) hw) j) .nil))) ?_; clear S; intro ac w β S
    refine RG.done rfl (nx_then (wp_seq (wp_seq (RG.start ?_))))
    refine S.q 2 [0, 1, 5, 20] 0 ⟨[(0, .v (slv (a).length pa.1)), (1, .v (I (hdl ((el a i).outer) j))), (5, .v (I (i : Int))), (20, .v (B (decide ((hdl ((el a i).outer) j) < 0))))], []⟩ .nil ?_; clear S; intro ac w β S
    refine RG.done rfl (nx_then ?_)
    refine S.c (decide ((hdl ((el a i).outer) j) < 0)) (fun h3 => ?_) (fun h3 => ?_)
    · have g4 : (hdl ((el a i).outer) j) < 0 := of_decide_eq_true h3
      refine wp_seq (RG.start ?_)
      refine S.q 1 [4] 0 ⟨[(4, .v (I (-1)))], []⟩ .nil ?_; clear S; intro ac w β S
      refine RG.done rfl (nx_then (wp_ret (rt_then (rt_block (rt_then (rt_then (rt_block (rt_then ?_))))))))
      refine S.r [I (-1)] ?_
      exact ⟨retI (by clear S; (first | (rw [hr, hd_end (by omega)]; done) | (rw [hr, hd_step (by omega)]; simp [he_Mon, w1, hdi, hdb, hdc, *]; done) | (rw [hr, hd_step (by omega)]; simp_all [he_Mon, w1, hdi, hdb, hdc]; done))), S.chg⟩
    · have g5 : ¬ ((hdl ((el a i).outer) j) < 0) := of_decide_eq_false h3
      refine wp_skip (nx_then (wp_seq (RG.start ?_)))
      refine S.q 8 [0, 1, 5] 0 ⟨[(0, .v (slv (a).length pa.1)), (1, .v (I (hdl ((el a i).out) (hdl ((el a i).outer) j)))), (5, .v (I (i : Int)))], []⟩ (.cons (Q_idx (S.arg ha) (l := (a).length) (k := i) (i := (i : Int)) rfl rfl (by omega) Tryz.underlying28 (by kernel_rfl)) (.cons (Q_cell (S.arg ha) (t := 22) (k := i) (j := 1) (v := slv ((el a i).out).length ((pa.2 i).out).1) (by omega) (by kernel_rfl) (by kernel_rfl)) (.cons (Q_call fun w hw => c_laws_heldIntSS w ((el a i).out) ((pa.2 i).out) (rd_of (RMon.out (d := (el a i)) (LRd.el (S.arg ha) i (by omega))) hw) (hdl ((el a i).outer) j)) .nil))) ?_; clear S; intro ac w β S
      refine RG.done rfl (nx_then (wp_seq (wp_seq (RG.start ?_))))
      refine S.q 2 [0, 1, 5, 29] 0 ⟨[(0, .v (slv (a).length pa.1)), (1, .v (I (hdl ((el a i).out) (hdl ((el a i).outer) j)))), (5, .v (I (i : Int))), (29, .v (B (decide ((hdl ((el a i).out) (hdl ((el a i).outer) j)) < 0))))], []⟩ .nil ?_; clear S; intro ac w β S
      refine RG.done rfl (nx_then ?_)
      refine S.c (decide ((hdl ((el a i).out) (hdl ((el a i).outer) j)) < 0)) (fun h6 => ?_) (fun h6 => ?_)
      · have g7 : (hdl ((el a i).out) (hdl ((el a i).outer) j)) < 0 := of_decide_eq_true h6
        refine wp_seq (RG.start ?_)
        refine S.q 1 [4] 0 ⟨[(4, .v (I (-1)))], []⟩ .nil ?_; clear S; intro ac w β S
        refine RG.done rfl (nx_then (wp_ret (rt_then (rt_block (rt_then (rt_then (rt_block (rt_then ?_))))))))
        refine S.r [I (-1)] ?_
        exact ⟨retI (by clear S; (first | (rw [hr, hd_end (by omega)]; done) | (rw [hr, hd_step (by omega)]; simp [he_Mon, w1, hdi, hdb, hdc, *]; done) | (rw [hr, hd_step (by omega)]; simp_all [he_Mon, w1, hdi, hdb, hdc]; done))), S.chg⟩
      · have g8 : ¬ ((hdl ((el a i).out) (hdl ((el a i).outer) j)) < 0) := of_decide_eq_false h6
        refine wp_skip (nx_then (wp_seq (RG.start ?_)))
        refine S.q 8 [0, 1, 5] 0 ⟨[(0, .v (slv (a).length pa.1)), (1, .v (I (hdl ((el a i).dirty) (hdl ((el a i).out) (hdl ((el a i).outer) j))))), (5, .v (I (i : Int)))], []⟩ (.cons (Q_idx (S.arg ha) (l := (a).length) (k := i) (i := (i : Int)) rfl rfl (by omega) Tryz.underlying28 (by kernel_rfl)) (.cons (Q_cell (S.arg ha) (t := 51) (k := i) (j := 2) (v := slv ((el a i).dirty).length ((pa.2 i).dirty).1) (by omega) (by kernel_rfl) (by kernel_rfl)) (.cons (Q_call fun w hw => c_laws_heldBoolS w ((el a i).dirty) ((pa.2 i).dirty) (rd_of (RMon.dirty (d := (el a i)) (LRd.el (S.arg ha) i (by omega))) hw) (hdl ((el a i).out) (hdl ((el a i).outer) j))) .nil))) ?_; clear S; intro ac w β S
        refine RG.done rfl (nx_then (wp_seq (wp_seq (RG.start ?_))))
        refine S.q 2 [0, 1, 5, 38] 0 ⟨[(0, .v (slv (a).length pa.1)), (1, .v (I (hdl ((el a i).dirty) (hdl ((el a i).out) (hdl ((el a i).outer) j))))), (5, .v (I (i : Int))), (38, .v (B (decide ((hdl ((el a i).dirty) (hdl ((el a i).out) (hdl ((el a i).outer) j))) < 0))))], []⟩ .nil ?_; clear S; intro ac w β S
        refine RG.done rfl (nx_then ?_)
        refine S.c (decide ((hdl ((el a i).dirty) (hdl ((el a i).out) (hdl ((el a i).outer) j))) < 0)) (fun h9 => ?_) (fun h9 => ?_)
        · have g10 : (hdl ((el a i).dirty) (hdl ((el a i).out) (hdl ((el a i).outer) j))) < 0 := of_decide_eq_true h9
          refine wp_seq (RG.start ?_)
          refine S.q 1 [4] 0 ⟨[(4, .v (I (-1)))], []⟩ .nil ?_; clear S; intro ac w β S
          refine RG.done rfl (nx_then (wp_ret (rt_then (rt_block (rt_then (rt_then (rt_block (rt_then ?_))))))))
          refine S.r [I (-1)] ?_
          exact ⟨retI (by clear S; (first | (rw [hr, hd_end (by omega)]; done) | (rw [hr, hd_step (by omega)]; simp [he_Mon, w1, hdi, hdb, hdc, *]; done) | (rw [hr, hd_step (by omega)]; simp_all [he_Mon, w1, hdi, hdb, hdc]; done))), S.chg⟩
        · have g11 : ¬ ((hdl ((el a i).dirty) (hdl ((el a i).out) (hdl ((el a i).outer) j))) < 0) := of_decide_eq_false h9
          refine wp_skip (nx_then (wp_seq (RG.start ?_)))
          refine S.q 8 [0, 1, 5] 0 ⟨[(0, .v (slv (a).length pa.1)), (1, .v (I (hdl ((el a i).guests) (hdl ((el a i).dirty) (hdl ((el a i).out) (hdl ((el a i).outer) j)))))), (5, .v (I (i : Int)))], []⟩ (.cons (Q_idx (S.arg ha) (l := (a).length) (k := i) (i := (i : Int)) rfl rfl (by omega) Tryz.underlying28 (by kernel_rfl)) (.cons (Q_cell (S.arg ha) (t := 52) (k := i) (j := 3) (v := slv ((el a i).guests).length ((pa.2 i).guests).1) (by omega) (by kernel_rfl) (by kernel_rfl)) (.cons (Q_call fun w hw => c_laws_heldGuestS w ((el a i).guests) ((pa.2 i).guests) (rd_of (RMon.guests (d := (el a i)) (LRd.el (S.arg ha) i (by omega))) hw) (hdl ((el a i).dirty) (hdl ((el a i).out) (hdl ((el a i).outer) j)))) .nil))) ?_; clear S; intro ac w β S
          refine RG.done rfl (nx_then (wp_seq (wp_seq (RG.start ?_))))
          refine S.q 2 [0, 1, 5, 47] 0 ⟨[(0, .v (slv (a).length pa.1)), (1, .v (I (hdl ((el a i).guests) (hdl ((el a i).dirty) (hdl ((el a i).out) (hdl ((el a i).outer) j)))))), (5, .v (I (i : Int))), (47, .v (B (decide ((hdl ((el a i).guests) (hdl ((el a i).dirty) (hdl ((el a i).out) (hdl ((el a i).outer) j)))) < 0))))], []⟩ .nil ?_; clear S; intro ac w β S
          refine RG.done rfl (nx_then ?_)
          refine S.c (decide ((hdl ((el a i).guests) (hdl ((el a i).dirty) (hdl ((el a i).out) (hdl ((el a i).outer) j)))) < 0)) (fun h12 => ?_) (fun h12 => ?_)
          · have g13 : (hdl ((el a i).guests) (hdl ((el a i).dirty) (hdl ((el a i).out) (hdl ((el a i).outer) j)))) < 0 := of_decide_eq_true h12
            refine wp_seq (RG.start ?_)
            refine S.q 1 [4] 0 ⟨[(4, .v (I (-1)))], []⟩ .nil ?_; clear S; intro ac w β S
            refine RG.done rfl (nx_then (wp_ret (rt_then (rt_block (rt_then (rt_then (rt_block (rt_then ?_))))))))
            refine S.r [I (-1)] ?_
            exact ⟨retI (by clear S; (first | (rw [hr, hd_end (by omega)]; done) | (rw [hr, hd_step (by omega)]; simp [he_Mon, w1, hdi, hdb, hdc, *]; done) | (rw [hr, hd_step (by omega)]; simp_all [he_Mon, w1, hdi, hdb, hdc]; done))), S.chg⟩
          · have g14 : ¬ ((hdl ((el a i).guests) (hdl ((el a i).dirty) (hdl ((el a i).out) (hdl ((el a i).outer) j)))) < 0) := of_decide_eq_false h12
            refine wp_skip (nx_then (wp_seq (RG.start ?_)))
            refine S.q 8 [0, 1, 5] 0 ⟨[(0, .v (slv (a).length pa.1)), (1, .v (I (hdl ((el a i).outs) (hdl ((el a i).guests) (hdl ((el a i).dirty) (hdl ((el a i).out) (hdl ((el a i).outer) j))))))), (5, .v (I (i : Int)))], []⟩ (.cons (Q_idx (S.arg ha) (l := (a).length) (k := i) (i := (i : Int)) rfl rfl (by omega) Tryz.underlying28 (by kernel_rfl)) (.cons (Q_cell (S.arg ha) (t := 53) (k := i) (j := 4) (v := slv ((el a i).outs).length ((pa.2 i).outs).1) (by omega) (by kernel_rfl) (by kernel_rfl)) (.cons (Q_call fun w hw => c_laws_heldIntS w ((el a i).outs) ((pa.2 i).outs) (rd_of (RMon.outs (d := (el a i)) (LRd.el (S.arg ha) i (by omega))) hw) (hdl ((el a i).guests) (hdl ((el a i).dirty) (hdl ((el a i).out) (hdl ((el a i).outer) j))))) .nil))) ?_; clear S; intro ac w β S
            refine RG.done rfl (nx_then (wp_seq (wp_seq (RG.start ?_))))
            refine S.q 2 [0, 1, 5, 56] 0 ⟨[(0, .v (slv (a).length pa.1)), (1, .v (I (hdl ((el a i).outs) (hdl ((el a i).guests) (hdl ((el a i).dirty) (hdl ((el a i).out) (hdl ((el a i).outer) j))))))), (5, .v (I (i : Int))), (56, .v (B (decide ((hdl ((el a i).outs) (hdl ((el a i).guests) (hdl ((el a i).dirty) (hdl ((el a i).out) (hdl ((el a i).outer) j))))) < 0))))], []⟩ .nil ?_; clear S; intro ac w β S
            refine RG.done rfl (nx_then ?_)
            refine S.c (decide ((hdl ((el a i).outs) (hdl ((el a i).guests) (hdl ((el a i).dirty) (hdl ((el a i).out) (hdl ((el a i).outer) j))))) < 0)) (fun h15 => ?_) (fun h15 => ?_)
            · have g16 : (hdl ((el a i).outs) (hdl ((el a i).guests) (hdl ((el a i).dirty) (hdl ((el a i).out) (hdl ((el a i).outer) j))))) < 0 := of_decide_eq_true h15
              refine wp_seq (RG.start ?_)
              refine S.q 1 [4] 0 ⟨[(4, .v (I (-1)))], []⟩ .nil ?_; clear S; intro ac w β S
              refine RG.done rfl (nx_then (wp_ret (rt_then (rt_block (rt_then (rt_then (rt_block (rt_then ?_))))))))
              refine S.r [I (-1)] ?_
              exact ⟨retI (by clear S; (first | (rw [hr, hd_end (by omega)]; done) | (rw [hr, hd_step (by omega)]; simp [he_Mon, w1, hdi, hdb, hdc, *]; done) | (rw [hr, hd_step (by omega)]; simp_all [he_Mon, w1, hdi, hdb, hdc]; done))), S.chg⟩
            · have g17 : ¬ ((hdl ((el a i).outs) (hdl ((el a i).guests) (hdl ((el a i).dirty) (hdl ((el a i).out) (hdl ((el a i).outer) j))))) < 0) := of_decide_eq_false h15
              refine wp_skip (nx_then (wp_seq (wp_seq (RG.start ?_))))
              refine S.q 7 [0, 1, 5, 63] 0 ⟨[(0, .v (slv (a).length pa.1)), (1, .v (I (hdl ((el a i).outs) (hdl ((el a i).guests) (hdl ((el a i).dirty) (hdl ((el a i).out) (hdl ((el a i).outer) j))))))), (5, .v (I (i : Int))), (63, .v (B ((el a i).pend != (hdl ((el a i).outs) (hdl ((el a i).guests) (hdl ((el a i).dirty) (hdl ((el a i).out) (hdl ((el a i).outer) j))))))))], []⟩ (.cons (Q_idx (S.arg ha) (l := (a).length) (k := i) (i := (i : Int)) rfl rfl (by omega) Tryz.underlying28 (by kernel_rfl)) (.cons (Q_cell (S.arg ha) (t := 3) (k := i) (j := 5) (v := I ((el a i).pend)) (by omega) (by kernel_rfl) (by kernel_rfl)) .nil)) ?_; clear S; intro ac w β S
              refine RG.done rfl (nx_then ?_)
              refine S.c ((el a i).pend != (hdl ((el a i).outs) (hdl ((el a i).guests) (hdl ((el a i).dirty) (hdl ((el a i).out) (hdl ((el a i).outer) j)))))) (fun h18 => ?_) (fun h18 => ?_)
              · have g19 : ¬ ((el a i).pend = (hdl ((el a i).outs) (hdl ((el a i).guests) (hdl ((el a i).dirty) (hdl ((el a i).out) (hdl ((el a i).outer) j)))))) := bne_iff_ne.1 h18
                refine wp_seq (RG.start ?_)
                refine S.q 1 [4] 0 ⟨[(4, .v (I (-1)))], []⟩ .nil ?_; clear S; intro ac w β S
                refine RG.done rfl (nx_then (wp_ret (rt_then (rt_block (rt_then (rt_then (rt_block (rt_then ?_))))))))
                refine S.r [I (-1)] ?_
                exact ⟨retI (by clear S; (first | (rw [hr, hd_end (by omega)]; done) | (rw [hr, hd_step (by omega)]; simp [he_Mon, w1, hdi, hdb, hdc, *]; done) | (rw [hr, hd_step (by omega)]; simp_all [he_Mon, w1, hdi, hdb, hdc]; done))), S.chg⟩
              · have g20 : (el a i).pend = (hdl ((el a i).outs) (hdl ((el a i).guests) (hdl ((el a i).dirty) (hdl ((el a i).out) (hdl ((el a i).outer) j))))) := ne_f h18
                refine wp_skip (nx_then (wp_seq (RG.start ?_)))
                refine S.q 3 [0, 1, 5] 0 ⟨[(0, .v (slv (a).length pa.1)), (1, .v (I (w1 (hdl ((el a i).outs) (hdl ((el a i).guests) (hdl ((el a i).dirty) (hdl ((el a i).out) (hdl ((el a i).outer) j)))))))), (5, .v (I (i : Int)))], []⟩ (.cons (Q_addw (x := (hdl ((el a i).outs) (hdl ((el a i).guests) (hdl ((el a i).dirty) (hdl ((el a i).out) (hdl ((el a i).outer) j)))))) (y := 1)) .nil) ?_; clear S; intro ac w β S
                refine RG.done rfl (nx_then (wp_seq (wp_seq (RG.start ?_))))
                refine S.q 7 [0, 1, 5, 72] 0 ⟨[(0, .v (slv (a).length pa.1)), (1, .v (I (w1 (hdl ((el a i).outs) (hdl ((el a i).guests) (hdl ((el a i).dirty) (hdl ((el a i).out) (hdl ((el a i).outer) j)))))))), (5, .v (I (i : Int))), (72, .v (B ((el a i).traps != (w1 (hdl ((el a i).outs) (hdl ((el a i).guests) (hdl ((el a i).dirty) (hdl ((el a i).out) (hdl ((el a i).outer) j)))))))))], []⟩ (.cons (Q_idx (S.arg ha) (l := (a).length) (k := i) (i := (i : Int)) rfl rfl (by omega) Tryz.underlying28 (by kernel_rfl)) (.cons (Q_cell (S.arg ha) (t := 3) (k := i) (j := 6) (v := I ((el a i).traps)) (by omega) (by kernel_rfl) (by kernel_rfl)) .nil)) ?_; clear S; intro ac w β S
                refine RG.done rfl (nx_then ?_)
                refine S.c ((el a i).traps != (w1 (hdl ((el a i).outs) (hdl ((el a i).guests) (hdl ((el a i).dirty) (hdl ((el a i).out) (hdl ((el a i).outer) j))))))) (fun h21 => ?_) (fun h21 => ?_)
                · have g22 : ¬ ((el a i).traps = (w1 (hdl ((el a i).outs) (hdl ((el a i).guests) (hdl ((el a i).dirty) (hdl ((el a i).out) (hdl ((el a i).outer) j))))))) := bne_iff_ne.1 h21
                  refine wp_seq (RG.start ?_)
                  refine S.q 1 [4] 0 ⟨[(4, .v (I (-1)))], []⟩ .nil ?_; clear S; intro ac w β S
                  refine RG.done rfl (nx_then (wp_ret (rt_then (rt_block (rt_then (rt_then (rt_block (rt_then ?_))))))))
                  refine S.r [I (-1)] ?_
                  exact ⟨retI (by clear S; (first | (rw [hr, hd_end (by omega)]; done) | (rw [hr, hd_step (by omega)]; simp [he_Mon, w1, hdi, hdb, hdc, *]; done) | (rw [hr, hd_step (by omega)]; simp_all [he_Mon, w1, hdi, hdb, hdc]; done))), S.chg⟩
                · have g23 : (el a i).traps = (w1 (hdl ((el a i).outs) (hdl ((el a i).guests) (hdl ((el a i).dirty) (hdl ((el a i).out) (hdl ((el a i).outer) j)))))) := ne_f h21
                  refine wp_skip (nx_then (wp_seq (RG.start ?_)))
                  refine S.q 3 [0, 1, 5] 0 ⟨[(0, .v (slv (a).length pa.1)), (1, .v (I (w1 (w1 (hdl ((el a i).outs) (hdl ((el a i).guests) (hdl ((el a i).dirty) (hdl ((el a i).out) (hdl ((el a i).outer) j))))))))), (5, .v (I (i : Int)))], []⟩ (.cons (Q_addw (x := (w1 (hdl ((el a i).outs) (hdl ((el a i).guests) (hdl ((el a i).dirty) (hdl ((el a i).out) (hdl ((el a i).outer) j))))))) (y := 1)) .nil) ?_; clear S; intro ac w β S
                  refine RG.done rfl (nx_then (wp_seq (RG.start ?_)))
                  refine S.q 8 [0, 1, 5] 0 ⟨[(0, .v (slv (a).length pa.1)), (1, .v (I (hdl ((el a i).tables) (w1 (w1 (hdl ((el a i).outs) (hdl ((el a i).guests) (hdl ((el a i).dirty) (hdl ((el a i).out) (hdl ((el a i).outer) j)))))))))), (5, .v (I (i : Int)))], []⟩ (.cons (Q_idx (S.arg ha) (l := (a).length) (k := i) (i := (i : Int)) rfl rfl (by omega) Tryz.underlying28 (by kernel_rfl)) (.cons (Q_cell (S.arg ha) (t := 54) (k := i) (j := 7) (v := slv ((el a i).tables).length ((pa.2 i).tables).1) (by omega) (by kernel_rfl) (by kernel_rfl)) (.cons (Q_call fun w hw => c_laws_heldKeptS w ((el a i).tables) ((pa.2 i).tables) (rd_of (RMon.tables (d := (el a i)) (LRd.el (S.arg ha) i (by omega))) hw) (w1 (w1 (hdl ((el a i).outs) (hdl ((el a i).guests) (hdl ((el a i).dirty) (hdl ((el a i).out) (hdl ((el a i).outer) j)))))))) .nil))) ?_; clear S; intro ac w β S
                  refine RG.done rfl (nx_then (wp_seq (wp_seq (RG.start ?_))))
                  refine S.q 2 [0, 1, 5, 83] 0 ⟨[(0, .v (slv (a).length pa.1)), (1, .v (I (hdl ((el a i).tables) (w1 (w1 (hdl ((el a i).outs) (hdl ((el a i).guests) (hdl ((el a i).dirty) (hdl ((el a i).out) (hdl ((el a i).outer) j)))))))))), (5, .v (I (i : Int))), (83, .v (B (decide ((hdl ((el a i).tables) (w1 (w1 (hdl ((el a i).outs) (hdl ((el a i).guests) (hdl ((el a i).dirty) (hdl ((el a i).out) (hdl ((el a i).outer) j)))))))) < 0))))], []⟩ .nil ?_; clear S; intro ac w β S
                  refine RG.done rfl (nx_then ?_)
                  refine S.c (decide ((hdl ((el a i).tables) (w1 (w1 (hdl ((el a i).outs) (hdl ((el a i).guests) (hdl ((el a i).dirty) (hdl ((el a i).out) (hdl ((el a i).outer) j)))))))) < 0)) (fun h24 => ?_) (fun h24 => ?_)
                  · have g25 : (hdl ((el a i).tables) (w1 (w1 (hdl ((el a i).outs) (hdl ((el a i).guests) (hdl ((el a i).dirty) (hdl ((el a i).out) (hdl ((el a i).outer) j)))))))) < 0 := of_decide_eq_true h24
                    refine wp_seq (RG.start ?_)
                    refine S.q 1 [4] 0 ⟨[(4, .v (I (-1)))], []⟩ .nil ?_; clear S; intro ac w β S
                    refine RG.done rfl (nx_then (wp_ret (rt_then (rt_block (rt_then (rt_then (rt_block (rt_then ?_))))))))
                    refine S.r [I (-1)] ?_
                    exact ⟨retI (by clear S; (first | (rw [hr, hd_end (by omega)]; done) | (rw [hr, hd_step (by omega)]; simp [he_Mon, w1, hdi, hdb, hdc, *]; done) | (rw [hr, hd_step (by omega)]; simp_all [he_Mon, w1, hdi, hdb, hdc]; done))), S.chg⟩
                  · have g26 : ¬ ((hdl ((el a i).tables) (w1 (w1 (hdl ((el a i).outs) (hdl ((el a i).guests) (hdl ((el a i).dirty) (hdl ((el a i).out) (hdl ((el a i).outer) j)))))))) < 0) := of_decide_eq_false h24
                    refine wp_skip (nx_then (wp_seq (wp_seq (RG.start ?_))))
                    refine S.q 7 [0, 1, 5, 90] 0 ⟨[(0, .v (slv (a).length pa.1)), (1, .v (I (hdl ((el a i).tables) (w1 (w1 (hdl ((el a i).outs) (hdl ((el a i).guests) (hdl ((el a i).dirty) (hdl ((el a i).out) (hdl ((el a i).outer) j)))))))))), (5, .v (I (i : Int))), (90, .v (B ((el a i).owned != (hdl ((el a i).tables) (w1 (w1 (hdl ((el a i).outs) (hdl ((el a i).guests) (hdl ((el a i).dirty) (hdl ((el a i).out) (hdl ((el a i).outer) j)))))))))))], []⟩ (.cons (Q_idx (S.arg ha) (l := (a).length) (k := i) (i := (i : Int)) rfl rfl (by omega) Tryz.underlying28 (by kernel_rfl)) (.cons (Q_cell (S.arg ha) (t := 3) (k := i) (j := 8) (v := I ((el a i).owned)) (by omega) (by kernel_rfl) (by kernel_rfl)) .nil)) ?_; clear S; intro ac w β S
                    refine RG.done rfl (nx_then ?_)
                    refine S.c ((el a i).owned != (hdl ((el a i).tables) (w1 (w1 (hdl ((el a i).outs) (hdl ((el a i).guests) (hdl ((el a i).dirty) (hdl ((el a i).out) (hdl ((el a i).outer) j))))))))) (fun h27 => ?_) (fun h27 => ?_)
                    · have g28 : ¬ ((el a i).owned = (hdl ((el a i).tables) (w1 (w1 (hdl ((el a i).outs) (hdl ((el a i).guests) (hdl ((el a i).dirty) (hdl ((el a i).out) (hdl ((el a i).outer) j))))))))) := bne_iff_ne.1 h27
                      refine wp_seq (RG.start ?_)
                      refine S.q 1 [4] 0 ⟨[(4, .v (I (-1)))], []⟩ .nil ?_; clear S; intro ac w β S
                      refine RG.done rfl (nx_then (wp_ret (rt_then (rt_block (rt_then (rt_then (rt_block (rt_then ?_))))))))
                      refine S.r [I (-1)] ?_
                      exact ⟨retI (by clear S; (first | (rw [hr, hd_end (by omega)]; done) | (rw [hr, hd_step (by omega)]; simp [he_Mon, w1, hdi, hdb, hdc, *]; done) | (rw [hr, hd_step (by omega)]; simp_all [he_Mon, w1, hdi, hdb, hdc]; done))), S.chg⟩
                    · have g29 : (el a i).owned = (hdl ((el a i).tables) (w1 (w1 (hdl ((el a i).outs) (hdl ((el a i).guests) (hdl ((el a i).dirty) (hdl ((el a i).out) (hdl ((el a i).outer) j)))))))) := ne_f h27
                      refine wp_skip (nx_then (RG.start ?_))
                      refine S.q 3 [0, 1, 5] 0 ⟨[(0, .v (slv (a).length pa.1)), (1, .v (I (w1 (hdl ((el a i).tables) (w1 (w1 (hdl ((el a i).outs) (hdl ((el a i).guests) (hdl ((el a i).dirty) (hdl ((el a i).out) (hdl ((el a i).outer) j))))))))))), (5, .v (I (i : Int)))], []⟩ (.cons (Q_addw (x := (hdl ((el a i).tables) (w1 (w1 (hdl ((el a i).outs) (hdl ((el a i).guests) (hdl ((el a i).dirty) (hdl ((el a i).out) (hdl ((el a i).outer) j))))))))) (y := 1)) .nil) ?_; clear S; intro ac w β S
                      refine RG.done rfl (nx_block (nx_then (RG.start ?_)))
                      refine S.q 3 [0, 1, 5] 0 ⟨[(0, .v (slv (a).length pa.1)), (1, .v (I (w1 (hdl ((el a i).tables) (w1 (w1 (hdl ((el a i).outs) (hdl ((el a i).guests) (hdl ((el a i).dirty) (hdl ((el a i).out) (hdl ((el a i).outer) j))))))))))), (5, .v (I ((i : Int) + 1)))], []⟩ (.cons (Q_add (x := (i : Int)) (y := 1) ⟨by omega, by omega⟩) .nil) ?_; clear S; intro ac w β S
                      refine RG.done rfl (nx_then ?_)
                      replace S := S.p [0, 1, 5] 0 ⟨[(0, .v (slv (a).length pa.1)), (1, .v (I (w1 (hdl ((el a i).tables) (w1 (w1 (hdl ((el a i).outs) (hdl ((el a i).guests) (hdl ((el a i).dirty) (hdl ((el a i).out) (hdl ((el a i).outer) j))))))))))), (5, .v (I ((i : Int) + 1)))], []⟩
                      refine ⟨a.length - (i + 1), by omega, i + 1, (w1 (hdl ((el a i).tables) (w1 (w1 (hdl ((el a i).outs) (hdl ((el a i).guests) (hdl ((el a i).dirty) (hdl ((el a i).out) (hdl ((el a i).outer) j))))))))), _, _, _, rfl, ?_, ?_, S.cast (by kernel_rfl)⟩
                      · clear S; first | omega | (simp [*]; done) | (simp [*]; omega)
                      · clear S; (rw [hr, hd_step (by omega)]; simp [he_Mon, w1, hdi, hdb, hdc, *])
  · have g30 : ¬ ((i : Int) < ((a).length : Int)) := of_decide_eq_false h1
    refine wp_exit (ex_then (ex_then (ex_hit (nx_then (wp_seq (RG.start ?_))))))
    refine S.q 2 [4] 0 ⟨[(4, .v (I j))], []⟩ .nil ?_; clear S; intro ac w β S
    refine RG.done rfl (nx_then (wp_ret ?_))
    refine S.r [I j] ?_
    exact ⟨retI (by clear S; (first | (rw [hr, hd_end (by omega)]; done) | (rw [hr, hd_step (by omega)]; simp [he_Mon, w1, hdi, hdb, hdc, *]; done) | (rw [hr, hd_step (by omega)]; simp_all [he_Mon, w1, hdi, hdb, hdc]; done))), S.chg⟩

set_option maxRecDepth 100000 in
theorem c_laws_heldEntryS (w0 : World) (a : List TEntry) (pa : LP TEntry) (ha : GT.rd KK (Lt w0.heap.size) w0 a pa) (k : Int) : Calls Tryz.prog 36 [slv (a).length pa.1, I k].toArray w0 (fun e w' => e = .returned (I (hdl a k)) ∧ Chg NoB w0 w') := by
  refine Calls.walk (args := [slv (a).length pa.1, I k]) NoB Tryz.func36 rfl rfl ?_
  intro ac β S
  have hlea : a.length ≤ 4194304 := LRd.le ha
  refine wp_seq (RG.start ?_)
  refine S.q 1 [0, 1] 0 ⟨[(0, .v (slv (a).length pa.1)), (1, .v (I k))], []⟩ .nil ?_; clear S; intro ac w β S
  refine RG.done rfl (nx_then (wp_seq (wp_seq (RG.start ?_))))
  refine S.q 1 [0, 1, 5] 0 ⟨[(0, .v (slv (a).length pa.1)), (1, .v (I k)), (5, .v (I 0))], []⟩ .nil ?_; clear S; intro ac w β S
  refine RG.done rfl (nx_then (wp_block ?_))
  replace S := S.p [0, 1, 5] 0 ⟨[(0, .v (slv (a).length pa.1)), (1, .v (I k)), (5, .v (I 0))], []⟩
  refine wp_loop_down (fun mm ac w => ∃ (i : Nat) (j : Int)  (u : World) (N : Bl) (β : Nat → Nat), mm = a.length - i ∧ (i ≤ a.length) ∧ (hdl a k = hdlc (a.drop i) j id) ∧ St Tryz.prog Tryz.f36.ntmps w0 NoB u N β ⟨[(0, .v (slv (a).length pa.1)), (1, .v (I j)), (5, .v (I (i : Int)))], []⟩ ac w) _ ⟨0, k, _, _, _, rfl, (by first | omega | (simp; done) | (simp; omega)), (by rfl), S.cast (by kernel_rfl)⟩ ?_
  clear S
  rintro mm ac w ⟨i, j, u, N, β, rfl, hi, hr, S⟩
  refine wp_seq (wp_seq (RG.start ?_))
  refine S.q 4 [0, 1, 5, 9] 0 ⟨[(0, .v (slv (a).length pa.1)), (1, .v (I j)), (5, .v (I (i : Int))), (9, .v (B (decide ((i : Int) < ((a).length : Int)))))], []⟩ .nil ?_; clear S; intro ac w β S
  refine RG.done rfl (nx_then ?_)
  refine S.c (decide ((i : Int) < ((a).length : Int))) (fun h1 => ?_) (fun h1 => ?_)
  · have g2 : (i : Int) < ((a).length : Int) := of_decide_eq_true h1
    refine wp_skip (nx_then (wp_seq (wp_block (wp_seq (wp_seq (RG.start ?_))))))
    refine S.q 7 [0, 1, 5, 18] 0 ⟨[(0, .v (slv (a).length pa.1)), (1, .v (I j)), (5, .v (I (i : Int))), (18, .v (B ((el a i).tag != j)))], []⟩ (.cons (Q_idx (S.arg ha) (l := (a).length) (k := i) (i := (i : Int)) rfl rfl (by omega) Tryz.underlying29 (by kernel_rfl)) (.cons (Q_cell (S.arg ha) (t := 3) (k := i) (j := 0) (v := I ((el a i).tag)) (by omega) (by kernel_rfl) (by kernel_rfl)) .nil)) ?_; clear S; intro ac w β S
    refine RG.done rfl (nx_then ?_)
    refine S.c ((el a i).tag != j) (fun h3 => ?_) (fun h3 => ?_)
    · have g4 : ¬ ((el a i).tag = j) := bne_iff_ne.1 h3
      refine wp_seq (RG.start ?_)
      refine S.q 1 [4] 0 ⟨[(4, .v (I (-1)))], []⟩ .nil ?_; clear S; intro ac w β S
      refine RG.done rfl (nx_then (wp_ret (rt_then (rt_block (rt_then (rt_then (rt_block (rt_then ?_))))))))
      refine S.r [I (-1)] ?_
      exact ⟨retI (by clear S; (first | (rw [hr, hd_end (by omega)]; done) | (rw [hr, hd_step (by omega)]; simp [he_Entry, w1, hdi, hdb, hdc, *]; done) | (rw [hr, hd_step (by omega)]; simp_all [he_Entry, w1, hdi, hdb, hdc]; done))), S.chg⟩
    · have g5 : (el a i).tag = j := ne_f h3
      refine wp_skip (nx_then (wp_seq (RG.start ?_)))
      refine S.q 3 [0, 1, 5] 0 ⟨[(0, .v (slv (a).length pa.1)), (1, .v (I (w1 j))), (5, .v (I (i : Int)))], []⟩ (.cons (Q_addw (x := j) (y := 1)) .nil) ?_; clear S; intro ac w β S
      refine RG.done rfl (nx_then (wp_seq (wp_seq (RG.start ?_))))
      refine S.q 7 [0, 1, 5, 27] 0 ⟨[(0, .v (slv (a).length pa.1)), (1, .v (I (w1 j))), (5, .v (I (i : Int))), (27, .v (B ((el a i).page != (w1 j))))], []⟩ (.cons (Q_idx (S.arg ha) (l := (a).length) (k := i) (i := (i : Int)) rfl rfl (by omega) Tryz.underlying29 (by kernel_rfl)) (.cons (Q_cell (S.arg ha) (t := 3) (k := i) (j := 1) (v := I ((el a i).page)) (by omega) (by kernel_rfl) (by kernel_rfl)) .nil)) ?_; clear S; intro ac w β S
      refine RG.done rfl (nx_then ?_)
      refine S.c ((el a i).page != (w1 j)) (fun h6 => ?_) (fun h6 => ?_)
      · have g7 : ¬ ((el a i).page = (w1 j)) := bne_iff_ne.1 h6
        refine wp_seq (RG.start ?_)
        refine S.q 1 [4] 0 ⟨[(4, .v (I (-1)))], []⟩ .nil ?_; clear S; intro ac w β S
        refine RG.done rfl (nx_then (wp_ret (rt_then (rt_block (rt_then (rt_then (rt_block (rt_then ?_))))))))
        refine S.r [I (-1)] ?_
        exact ⟨retI (by clear S; (first | (rw [hr, hd_end (by omega)]; done) | (rw [hr, hd_step (by omega)]; simp [he_Entry, w1, hdi, hdb, hdc, *]; done) | (rw [hr, hd_step (by omega)]; simp_all [he_Entry, w1, hdi, hdb, hdc]; done))), S.chg⟩
      · have g8 : (el a i).page = (w1 j) := ne_f h6
        refine wp_skip (nx_then (wp_seq (RG.start ?_)))
        refine S.q 3 [0, 1, 5] 0 ⟨[(0, .v (slv (a).length pa.1)), (1, .v (I (w1 (w1 j)))), (5, .v (I (i : Int)))], []⟩ (.cons (Q_addw (x := (w1 j)) (y := 1)) .nil) ?_; clear S; intro ac w β S
        refine RG.done rfl (nx_then (wp_seq (wp_seq (RG.start ?_))))
        refine S.q 7 [0, 1, 5, 36] 0 ⟨[(0, .v (slv (a).length pa.1)), (1, .v (I (w1 (w1 j)))), (5, .v (I (i : Int))), (36, .v (B ((el a i).host != (w1 (w1 j)))))], []⟩ (.cons (Q_idx (S.arg ha) (l := (a).length) (k := i) (i := (i : Int)) rfl rfl (by omega) Tryz.underlying29 (by kernel_rfl)) (.cons (Q_cell (S.arg ha) (t := 3) (k := i) (j := 2) (v := I ((el a i).host)) (by omega) (by kernel_rfl) (by kernel_rfl)) .nil)) ?_; clear S; intro ac w β S
        refine RG.done rfl (nx_then ?_)
        refine S.c ((el a i).host != (w1 (w1 j))) (fun h9 => ?_) (fun h9 => ?_)
        · have g10 : ¬ ((el a i).host = (w1 (w1 j))) := bne_iff_ne.1 h9
          refine wp_seq (RG.start ?_)
          refine S.q 1 [4] 0 ⟨[(4, .v (I (-1)))], []⟩ .nil ?_; clear S; intro ac w β S
          refine RG.done rfl (nx_then (wp_ret (rt_then (rt_block (rt_then (rt_then (rt_block (rt_then ?_))))))))
          refine S.r [I (-1)] ?_
          exact ⟨retI (by clear S; (first | (rw [hr, hd_end (by omega)]; done) | (rw [hr, hd_step (by omega)]; simp [he_Entry, w1, hdi, hdb, hdc, *]; done) | (rw [hr, hd_step (by omega)]; simp_all [he_Entry, w1, hdi, hdb, hdc]; done))), S.chg⟩
        · have g11 : (el a i).host = (w1 (w1 j)) := ne_f h9
          refine wp_skip (nx_then (wp_seq (RG.start ?_)))
          refine S.q 3 [0, 1, 5] 0 ⟨[(0, .v (slv (a).length pa.1)), (1, .v (I (w1 (w1 (w1 j))))), (5, .v (I (i : Int)))], []⟩ (.cons (Q_addw (x := (w1 (w1 j))) (y := 1)) .nil) ?_; clear S; intro ac w β S
          refine RG.done rfl (nx_then (wp_seq (wp_seq (RG.start ?_))))
          refine S.q 7 [0, 1, 5, 45] 0 ⟨[(0, .v (slv (a).length pa.1)), (1, .v (I (w1 (w1 (w1 j))))), (5, .v (I (i : Int))), (45, .v (B ((el a i).rights != (w1 (w1 (w1 j))))))], []⟩ (.cons (Q_idx (S.arg ha) (l := (a).length) (k := i) (i := (i : Int)) rfl rfl (by omega) Tryz.underlying29 (by kernel_rfl)) (.cons (Q_cell (S.arg ha) (t := 3) (k := i) (j := 3) (v := I ((el a i).rights)) (by omega) (by kernel_rfl) (by kernel_rfl)) .nil)) ?_; clear S; intro ac w β S
          refine RG.done rfl (nx_then ?_)
          refine S.c ((el a i).rights != (w1 (w1 (w1 j)))) (fun h12 => ?_) (fun h12 => ?_)
          · have g13 : ¬ ((el a i).rights = (w1 (w1 (w1 j)))) := bne_iff_ne.1 h12
            refine wp_seq (RG.start ?_)
            refine S.q 1 [4] 0 ⟨[(4, .v (I (-1)))], []⟩ .nil ?_; clear S; intro ac w β S
            refine RG.done rfl (nx_then (wp_ret (rt_then (rt_block (rt_then (rt_then (rt_block (rt_then ?_))))))))
            refine S.r [I (-1)] ?_
            exact ⟨retI (by clear S; (first | (rw [hr, hd_end (by omega)]; done) | (rw [hr, hd_step (by omega)]; simp [he_Entry, w1, hdi, hdb, hdc, *]; done) | (rw [hr, hd_step (by omega)]; simp_all [he_Entry, w1, hdi, hdb, hdc]; done))), S.chg⟩
          · have g14 : (el a i).rights = (w1 (w1 (w1 j))) := ne_f h12
            refine wp_skip (nx_then (RG.start ?_))
            refine S.q 3 [0, 1, 5] 0 ⟨[(0, .v (slv (a).length pa.1)), (1, .v (I (w1 (w1 (w1 (w1 j)))))), (5, .v (I (i : Int)))], []⟩ (.cons (Q_addw (x := (w1 (w1 (w1 j)))) (y := 1)) .nil) ?_; clear S; intro ac w β S
            refine RG.done rfl (nx_block (nx_then (RG.start ?_)))
            refine S.q 3 [0, 1, 5] 0 ⟨[(0, .v (slv (a).length pa.1)), (1, .v (I (w1 (w1 (w1 (w1 j)))))), (5, .v (I ((i : Int) + 1)))], []⟩ (.cons (Q_add (x := (i : Int)) (y := 1) ⟨by omega, by omega⟩) .nil) ?_; clear S; intro ac w β S
            refine RG.done rfl (nx_then ?_)
            replace S := S.p [0, 1, 5] 0 ⟨[(0, .v (slv (a).length pa.1)), (1, .v (I (w1 (w1 (w1 (w1 j)))))), (5, .v (I ((i : Int) + 1)))], []⟩
            refine ⟨a.length - (i + 1), by omega, i + 1, (w1 (w1 (w1 (w1 j)))), _, _, _, rfl, ?_, ?_, S.cast (by kernel_rfl)⟩
            · clear S; first | omega | (simp [*]; done) | (simp [*]; omega)
            · clear S; (rw [hr, hd_step (by omega)]; simp [he_Entry, w1, hdi, hdb, hdc, *])
  · have g15 : ¬ ((i : Int) < ((a).length : Int)) := of_decide_eq_false h1
    refine wp_exit (ex_then (ex_then (ex_hit (nx_then (wp_seq (RG.start ?_))))))
    refine S.q 2 [4] 0 ⟨[(4, .v (I j))], []⟩ .nil ?_; clear S; intro ac w β S
    refine RG.done rfl (nx_then (wp_ret ?_))
    refine S.r [I j] ?_
    exact ⟨retI (by clear S; (first | (rw [hr, hd_end (by omega)]; done) | (rw [hr, hd_step (by omega)]; simp [he_Entry, w1, hdi, hdb, hdc, *]; done) | (rw [hr, hd_step (by omega)]; simp_all [he_Entry, w1, hdi, hdb, hdc]; done))), S.chg⟩

set_option maxRecDepth 100000 in
theorem c_laws_heldHost (w0 : World) (a : THost) (pa : PHost) (ha : GT.rd KK (Lt w0.heap.size) w0 a pa) (k : Int) : Calls Tryz.prog 11 [GT.val a pa, I k].toArray w0 (fun e w' => e = .returned (I (hdT_Host a k)) ∧ Chg NoB w0 w') := by
  refine Calls.walk (args := [GT.val a pa, I k]) NoB Tryz.func11 rfl rfl ?_
  intro ac β S
  have hlea_mem : a.mem.length ≤ 4194304 := LRd.le (RHost.mem (d := a) ha)
  have hlea_mons : a.mons.length ≤ 4194304 := LRd.le (RHost.mons (d := a) ha)
  have hlea_buf : a.buf.length ≤ 4194304 := LRd.le (RHost.buf (d := a) ha)
  have hlea_iobuf : a.iobuf.length ≤ 4194304 := LRd.le (RHost.iobuf (d := a) ha)
  refine wp_seq (RG.start ?_)
  refine S.q 2 [1, 2] 1 ⟨[(1, .v (I k)), (2, .p 0 0)], [GT.cells a pa]⟩ .nil ?_; clear S; intro ac w β S
  refine RG.done rfl (nx_then (wp_seq (RG.start ?_)))
  refine S.q 5 [1, 2] 1 ⟨[(1, .v (I (hdl a.mem k))), (2, .p 0 0)], [GT.cells a pa]⟩ (.cons (Q_call fun w hw => c_laws_heldIntSS w a.mem pa.mem (rd_of (RHost.mem (d := a) (S.arg ha)) hw) k) .nil) ?_; clear S; intro ac w β S
  refine RG.done rfl (nx_then (wp_seq (wp_seq (RG.start ?_))))
  refine S.q 2 [1, 2, 10] 1 ⟨[(1, .v (I (hdl a.mem k))), (2, .p 0 0), (10, .v (B (decide ((hdl a.mem k) < 0))))], [GT.cells a pa]⟩ .nil ?_; clear S; intro ac w β S
  refine RG.done rfl (nx_then ?_)
  refine S.c (decide ((hdl a.mem k) < 0)) (fun h1 => ?_) (fun h1 => ?_)
  · have g2 : (hdl a.mem k) < 0 := of_decide_eq_true h1
    refine wp_seq (RG.start ?_)
    refine S.q 1 [4] 0 ⟨[(4, .v (I (-1)))], []⟩ .nil ?_; clear S; intro ac w β S
    refine RG.done rfl (nx_then (wp_ret (rt_then ?_)))
    refine S.r [I (-1)] ?_
    exact ⟨retI (by clear S; (simp [hdT_Host, hdc, *])), S.chg⟩
  · have g3 : ¬ ((hdl a.mem k) < 0) := of_decide_eq_false h1
    refine wp_skip (nx_then (wp_seq (RG.start ?_)))
    refine S.q 5 [1, 2] 1 ⟨[(1, .v (I (hdl a.mons (hdl a.mem k)))), (2, .p 0 0)], [GT.cells a pa]⟩ (.cons (Q_call fun w hw => c_laws_heldMonS w a.mons pa.mons (rd_of (RHost.mons (d := a) (S.arg ha)) hw) (hdl a.mem k)) .nil) ?_; clear S; intro ac w β S
    refine RG.done rfl (nx_then (wp_seq (wp_seq (RG.start ?_))))
    refine S.q 2 [1, 2, 16] 1 ⟨[(1, .v (I (hdl a.mons (hdl a.mem k)))), (2, .p 0 0), (16, .v (B (decide ((hdl a.mons (hdl a.mem k)) < 0))))], [GT.cells a pa]⟩ .nil ?_; clear S; intro ac w β S
    refine RG.done rfl (nx_then ?_)
    refine S.c (decide ((hdl a.mons (hdl a.mem k)) < 0)) (fun h4 => ?_) (fun h4 => ?_)
    · have g5 : (hdl a.mons (hdl a.mem k)) < 0 := of_decide_eq_true h4
      refine wp_seq (RG.start ?_)
      refine S.q 1 [4] 0 ⟨[(4, .v (I (-1)))], []⟩ .nil ?_; clear S; intro ac w β S
      refine RG.done rfl (nx_then (wp_ret (rt_then ?_)))
      refine S.r [I (-1)] ?_
      exact ⟨retI (by clear S; (simp [hdT_Host, hdc, *])), S.chg⟩
    · have g6 : ¬ ((hdl a.mons (hdl a.mem k)) < 0) := of_decide_eq_false h4
      refine wp_skip (nx_then (wp_seq (RG.start ?_)))
      refine S.q 5 [1, 2] 1 ⟨[(1, .v (I (hdl a.buf (hdl a.mons (hdl a.mem k))))), (2, .p 0 0)], [GT.cells a pa]⟩ (.cons (Q_call fun w hw => c_laws_heldEntryS w a.buf pa.buf (rd_of (RHost.buf (d := a) (S.arg ha)) hw) (hdl a.mons (hdl a.mem k))) .nil) ?_; clear S; intro ac w β S
      refine RG.done rfl (nx_then (wp_seq (wp_seq (RG.start ?_))))
      refine S.q 2 [1, 2, 22] 1 ⟨[(1, .v (I (hdl a.buf (hdl a.mons (hdl a.mem k))))), (2, .p 0 0), (22, .v (B (decide ((hdl a.buf (hdl a.mons (hdl a.mem k))) < 0))))], [GT.cells a pa]⟩ .nil ?_; clear S; intro ac w β S
      refine RG.done rfl (nx_then ?_)
      refine S.c (decide ((hdl a.buf (hdl a.mons (hdl a.mem k))) < 0)) (fun h7 => ?_) (fun h7 => ?_)
      · have g8 : (hdl a.buf (hdl a.mons (hdl a.mem k))) < 0 := of_decide_eq_true h7
        refine wp_seq (RG.start ?_)
        refine S.q 1 [4] 0 ⟨[(4, .v (I (-1)))], []⟩ .nil ?_; clear S; intro ac w β S
        refine RG.done rfl (nx_then (wp_ret (rt_then ?_)))
        refine S.r [I (-1)] ?_
        exact ⟨retI (by clear S; (simp [hdT_Host, hdc, *])), S.chg⟩
      · have g9 : ¬ ((hdl a.buf (hdl a.mons (hdl a.mem k))) < 0) := of_decide_eq_false h7
        refine wp_skip (nx_then (wp_seq (RG.start ?_)))
        refine S.q 5 [1] 0 ⟨[(1, .v (I (hdl a.iobuf (hdl a.buf (hdl a.mons (hdl a.mem k))))))], []⟩ (.cons (Q_call fun w hw => c_laws_heldEntryS w a.iobuf pa.iobuf (rd_of (RHost.iobuf (d := a) (S.arg ha)) hw) (hdl a.buf (hdl a.mons (hdl a.mem k)))) .nil) ?_; clear S; intro ac w β S
        refine RG.done rfl (nx_then (wp_seq (wp_seq (RG.start ?_))))
        refine S.q 2 [1, 28] 0 ⟨[(1, .v (I (hdl a.iobuf (hdl a.buf (hdl a.mons (hdl a.mem k)))))), (28, .v (B (decide ((hdl a.iobuf (hdl a.buf (hdl a.mons (hdl a.mem k)))) < 0))))], []⟩ .nil ?_; clear S; intro ac w β S
        refine RG.done rfl (nx_then ?_)
        refine S.c (decide ((hdl a.iobuf (hdl a.buf (hdl a.mons (hdl a.mem k)))) < 0)) (fun h10 => ?_) (fun h10 => ?_)
        · have g11 : (hdl a.iobuf (hdl a.buf (hdl a.mons (hdl a.mem k)))) < 0 := of_decide_eq_true h10
          refine wp_seq (RG.start ?_)
          refine S.q 1 [4] 0 ⟨[(4, .v (I (-1)))], []⟩ .nil ?_; clear S; intro ac w β S
          refine RG.done rfl (nx_then (wp_ret (rt_then ?_)))
          refine S.r [I (-1)] ?_
          exact ⟨retI (by clear S; (simp [hdT_Host, hdc, *])), S.chg⟩
        · have g12 : ¬ ((hdl a.iobuf (hdl a.buf (hdl a.mons (hdl a.mem k)))) < 0) := of_decide_eq_false h10
          refine wp_skip (nx_then (wp_seq (RG.start ?_)))
          refine S.q 2 [4] 0 ⟨[(4, .v (I (hdl a.iobuf (hdl a.buf (hdl a.mons (hdl a.mem k))))))], []⟩ .nil ?_; clear S; intro ac w β S
          refine RG.done rfl (nx_then (wp_ret ?_))
          refine S.r [I (hdl a.iobuf (hdl a.buf (hdl a.mons (hdl a.mem k))))] ?_
          exact ⟨retI (by clear S; (simp [hdT_Host, hdc, *])), S.chg⟩

set_option maxRecDepth 100000 in
theorem c_laws_FnExactSetTraps (w0 : World) (aH : THost) (paH : PHost) (haH : GT.rd KR (Lt w0.heap.size) w0 aH paH) (aM : Int) (aTraps : Int) (haTraps : In64 aTraps) : Calls Tryz.prog 3 [GT.val aH paH, I aM, I aTraps].toArray w0 (fun e w' => e = .returned (B true) ∧ Chg NoB w0 w') := by
  refine Calls.walk (args := [GT.val aH paH, I aM, I aTraps]) NoB Tryz.func3 rfl rfl ?_
  intro ac β S
  have hloaTraps := haTraps.lo; have hhiaTraps := haTraps.hi
  refine wp_seq (RG.start ?_)
  refine S.q 2 [1, 2, 3] 1 ⟨[(1, .v (I aM)), (2, .v (I aTraps)), (3, .p 0 0)], [GT.cells aH paH]⟩ .nil ?_; clear S; intro ac w β S
  refine RG.done rfl (nx_then (wp_seq (RG.start ?_)))
  refine S.q 1 [1, 2, 3, 7] 1 ⟨[(1, .v (I aM)), (2, .v (I aTraps)), (3, .p 0 0), (7, .v (I 1048576))], [GT.cells aH paH]⟩ .nil ?_; clear S; intro ac w β S
  refine RG.done rfl (nx_then (wp_seq (RG.start ?_)))
  have b1 := f_sz_cs (SZ.sz aH) 1048576
  refine S.q 4 [1, 2, 3, 7] 1 ⟨[(1, .v (I aM)), (2, .v (I aTraps)), (3, .p 0 0), (7, .v (I (f_sz (SZ.sz aH) 1048576)))], [GT.cells aH paH]⟩ (.cons (Q_call fun w hw => c_laws_szHost w aH paH (rd_of (S.arg haH) hw) 1048576 (by omega) (by omega)) .nil) ?_; clear S; intro ac w β S
  refine RG.done rfl (nx_then (wp_seq (wp_seq (RG.start ?_))))
  refine S.q 2 [1, 2, 3, 22] 1 ⟨[(1, .v (I aM)), (2, .v (I aTraps)), (3, .p 0 0), (22, .v (B (decide ((f_sz (SZ.sz aH) 1048576) < 0))))], [GT.cells aH paH]⟩ .nil ?_; clear S; intro ac w β S
  refine RG.done rfl (nx_then ?_)
  refine S.c (decide ((f_sz (SZ.sz aH) 1048576) < 0)) (fun h2 => ?_) (fun h2 => ?_)
  · have g3 : (f_sz (SZ.sz aH) 1048576) < 0 := of_decide_eq_true h2
    refine wp_seq (RG.start ?_)
    refine S.q 1 [6] 0 ⟨[(6, .v (B true))], []⟩ .nil ?_; clear S; intro ac w β S
    refine RG.done rfl (nx_then (wp_ret (rt_then ?_)))
    refine S.r [B true] ?_
    exact ⟨retB (by clear S; first | rfl | (exfalso; omega) | (exfalso; simp_all; done) | (exfalso; simp_all; omega)), S.chg⟩
  · have g4 : ¬ ((f_sz (SZ.sz aH) 1048576) < 0) := of_decide_eq_false h2
    have hkaH : GT.rd KK (Lt w0.heap.size) w0 aH paH := SZ.cut haH (show SZ.sz aH ≤ 4194304 by omega)
    have hcaH : SZ.sz aH ≤ 1048576 := by omega
    refine wp_skip (nx_then (wp_seq (RG.start ?_)))
    refine S.q 1 [1, 2, 3, 24] 1 ⟨[(1, .v (I aM)), (2, .v (I aTraps)), (3, .p 0 0), (24, .v (GT.val aH paH))], [GT.cells aH paH]⟩ .nil ?_; clear S; intro ac w β S
    refine RG.op rfl (S.call1 (r := aH) (d := 25) (c_laws_toHost w aH paH (S.rd (S.arg hkaH))) (by kernel_rfl) rfl ?_)
    clear S; intro ac w N q5 F6 S up o7 d8
    clear up d8
    refine S.q 2 [1, 2, 3, 25, 26, 27] 1 ⟨[(1, .v (I aM)), (2, .v (I aTraps)), (3, .p 0 0), (25, .v (GT.val aH q5)), (26, .v (I aM)), (27, .v (I aTraps))], [GT.cells aH paH]⟩ .nil ?_; clear S; intro ac w β S
    refine RG.op rfl (S.call2 (r := (f_setTraps aH aM aTraps).1) (r' := (f_setTraps aH aM aTraps).2) (d := 28) (c_spec_SetTraps w aH q5 (S.rd o7.rn) aM aTraps haTraps) (by kernel_rfl) rfl ?_)
    clear S; intro ac w N q9 q10 F11 F12 S up o13 o14 d15 d16 d17
    have d18 : Disj F6 F12 := fun b x y => d16 b (o7.sub b x) y
    have d19 : Disj F6 F11 := fun b x y => d15 b (o7.sub b x) y
    replace o7 := o7.up up
    clear up d15
    clear d16
    refine S.q 6 [1, 2, 3, 8, 9] 2 ⟨[(1, .v (I aM)), (2, .v (I aTraps)), (3, .p 0 0), (8, .p 1 0), (9, .v (B ((f_setTraps aH aM aTraps).2)))], [GT.cells aH paH, GT.cells ((f_setTraps aH aM aTraps).1) q9]⟩ .nil ?_; clear S; intro ac w β S
    refine RG.done rfl (nx_then (wp_seq (RG.start ?_)))
    refine S.q 1 [1, 2, 3, 8, 9, 31] 2 ⟨[(1, .v (I aM)), (2, .v (I aTraps)), (3, .p 0 0), (8, .p 1 0), (9, .v (B ((f_setTraps aH aM aTraps).2))), (31, .v (GT.val aH paH))], [GT.cells aH paH, GT.cells ((f_setTraps aH aM aTraps).1) q9]⟩ .nil ?_; clear S; intro ac w β S
    refine RG.op rfl (S.call1 (r := aH) (d := 32) (c_laws_toHost w aH paH (S.rd (S.arg hkaH))) (by kernel_rfl) rfl ?_)
    clear S; intro ac w N q20 F21 S up o22 d23
    have d24 : Disj F11 F21 := fun b x y => d23 b (o13.sub b x) y
    replace o13 := o13.up up
    clear up d23
    refine S.q 2 [1, 2, 3, 8, 9, 10] 3 ⟨[(1, .v (I aM)), (2, .v (I aTraps)), (3, .p 0 0), (8, .p 1 0), (9, .v (B ((f_setTraps aH aM aTraps).2))), (10, .p 2 0)], [GT.cells aH paH, GT.cells ((f_setTraps aH aM aTraps).1) q9, GT.cells aH q20]⟩ .nil ?_; clear S; intro ac w β S
    refine RG.done rfl (nx_then (wp_seq (RG.start ?_)))
    refine S.q 3 [1, 2, 3, 8, 9, 10, 34, 35, 36] 3 ⟨[(1, .v (I aM)), (2, .v (I aTraps)), (3, .p 0 0), (8, .p 1 0), (9, .v (B ((f_setTraps aH aM aTraps).2))), (10, .p 2 0), (34, .v (GT.val aH q20)), (35, .v (I aM)), (36, .v (I aTraps))], [GT.cells aH paH, GT.cells ((f_setTraps aH aM aTraps).1) q9, GT.cells aH q20]⟩ .nil ?_; clear S; intro ac w β S
    refine RG.op rfl (S.call2 (r := (f_setTraps aH aM aTraps).1) (r' := (f_setTraps aH aM aTraps).2) (d := 37) (c_impl_SetTraps w aH q20 (S.rd o22.rn) aM aTraps haTraps) (by kernel_rfl) rfl ?_)
    clear S; intro ac w N q25 q26 F27 F28 S up o29 o30 d31 d32 d33
    have d34 : Disj F11 F28 := fun b x y => d32 b (o13.sub b x) y
    have d35 : Disj F21 F28 := fun b x y => d32 b (o22.sub b x) y
    have d36 : Disj F11 F27 := fun b x y => d31 b (o13.sub b x) y
    have d37 : Disj F21 F27 := fun b x y => d31 b (o22.sub b x) y
    replace o13 := o13.up up
    replace o22 := o22.up up
    clear up d31
    clear d32
    refine S.q 6 [1, 2, 3, 8, 9, 10, 11, 12] 4 ⟨[(1, .v (I aM)), (2, .v (I aTraps)), (3, .p 0 0), (8, .p 1 0), (9, .v (B ((f_setTraps aH aM aTraps).2))), (10, .p 2 0), (11, .p 3 0), (12, .v (B ((f_setTraps aH aM aTraps).2)))], [GT.cells aH paH, GT.cells ((f_setTraps aH aM aTraps).1) q9, GT.cells aH q20, GT.cells ((f_setTraps aH aM aTraps).1) q25]⟩ .nil ?_; clear S; intro ac w β S
    refine RG.done rfl (nx_then (wp_seq (wp_seq (RG.start ?_))))
    refine S.q 5 [1, 2, 3, 8, 9, 10, 11, 12, 44] 4 ⟨[(1, .v (I aM)), (2, .v (I aTraps)), (3, .p 0 0), (8, .p 1 0), (9, .v (B ((f_setTraps aH aM aTraps).2))), (10, .p 2 0), (11, .p 3 0), (12, .v (B ((f_setTraps aH aM aTraps).2))), (44, .v (B (!(decide (((f_setTraps aH aM aTraps).1) = ((f_setTraps aH aM aTraps).1))))))], [GT.cells aH paH, GT.cells ((f_setTraps aH aM aTraps).1) q9, GT.cells aH q20, GT.cells ((f_setTraps aH aM aTraps).1) q25]⟩ (.cons (Q_call fun w hw => c_laws_eqHost w ((f_setTraps aH aM aTraps).1) q25 (rd_of o29.rn hw) ((f_setTraps aH aM aTraps).1) q9 (rd_of o13.rn hw)) .nil) ?_; clear S; intro ac w β S
    rcases Bool.eq_false_or_eq_true (!(decide (((f_setTraps aH aM aTraps).1) = ((f_setTraps aH aM aTraps).1)))) with h38 | h38 <;> rw [h38] at S
    · have h39 : (decide (((f_setTraps aH aM aTraps).1) = ((f_setTraps aH aM aTraps).1))) = false := not_t h38
      have g40 := of_decide_eq_false h39
      refine S.q 4 [1, 2, 3, 8, 9, 10, 11, 12, 48] 4 ⟨[(1, .v (I aM)), (2, .v (I aTraps)), (3, .p 0 0), (8, .p 1 0), (9, .v (B ((f_setTraps aH aM aTraps).2))), (10, .p 2 0), (11, .p 3 0), (12, .v (B ((f_setTraps aH aM aTraps).2))), (48, .v (B true))], [GT.cells aH paH, GT.cells ((f_setTraps aH aM aTraps).1) q9, GT.cells aH q20, GT.cells ((f_setTraps aH aM aTraps).1) q25]⟩ .nil ?_; clear S; intro ac w β S
      refine RG.done rfl (nx_then ?_)
      refine S.c true (fun _ => ?_) (fun hx => by cases hx)
      refine wp_seq (RG.start ?_)
      refine S.q 1 [6] 0 ⟨[(6, .v (B false))], []⟩ .nil ?_; clear S; intro ac w β S
      refine RG.done rfl (nx_then (wp_ret (rt_then ?_)))
      refine S.r [B false] ?_
      exact ⟨retB (by clear S; first | rfl | (exfalso; omega) | (exfalso; simp_all; done) | (exfalso; simp_all; omega)), S.chg⟩
    · have h41 : (decide (((f_setTraps aH aM aTraps).1) = ((f_setTraps aH aM aTraps).1))) = true := not_f h38
      have g42 := of_decide_eq_true h41
      refine S.q 4 [1, 2, 3, 8, 9, 10, 11, 12, 48] 4 ⟨[(1, .v (I aM)), (2, .v (I aTraps)), (3, .p 0 0), (8, .p 1 0), (9, .v (B ((f_setTraps aH aM aTraps).2))), (10, .p 2 0), (11, .p 3 0), (12, .v (B ((f_setTraps aH aM aTraps).2))), (48, .v (B (!((f_setTraps aH aM aTraps).2 == (f_setTraps aH aM aTraps).2))))], [GT.cells aH paH, GT.cells ((f_setTraps aH aM aTraps).1) q9, GT.cells aH q20, GT.cells ((f_setTraps aH aM aTraps).1) q25]⟩ .nil ?_; clear S; intro ac w β S
      refine RG.done rfl (nx_then ?_)
      refine S.c (!((f_setTraps aH aM aTraps).2 == (f_setTraps aH aM aTraps).2)) (fun h43 => ?_) (fun h43 => ?_)
      · have h44 : ((f_setTraps aH aM aTraps).2 == (f_setTraps aH aM aTraps).2) = false := not_t h43
        have g45 : ¬ ((f_setTraps aH aM aTraps).2 = (f_setTraps aH aM aTraps).2) := ne_of_beq_false h44
        refine wp_seq (RG.start ?_)
        refine S.q 1 [6] 0 ⟨[(6, .v (B false))], []⟩ .nil ?_; clear S; intro ac w β S
        refine RG.done rfl (nx_then (wp_ret (rt_then ?_)))
        refine S.r [B false] ?_
        exact ⟨retB (by clear S; first | rfl | (exfalso; omega) | (exfalso; simp_all; done) | (exfalso; simp_all; omega)), S.chg⟩
      · have h46 : ((f_setTraps aH aM aTraps).2 == (f_setTraps aH aM aTraps).2) = true := not_f h43
        have g47 : (f_setTraps aH aM aTraps).2 = (f_setTraps aH aM aTraps).2 := eq_of_beq h46
        refine wp_skip (nx_then (wp_seq (wp_seq ?_)))
        refine S.draw0 (f := 5) 5 rfl rfl ?_
        clear S; intro w S
        refine S.hoist (i := 0) (path := []) (keep := [1, 2, 3, 8, 9, 10, 11, 12, 49]) (m := 4) (σ' := ⟨[(1, .v (I aM)), (2, .v (I aTraps)), (3, .p 0 0), (8, .p 1 0), (9, .v (B ((f_setTraps aH aM aTraps).2))), (10, .p 2 0), (11, .p 3 0), (12, .v (B ((f_setTraps aH aM aTraps).2))), (49, .v (GT.val aH q20))], [GT.cells aH paH, GT.cells ((f_setTraps aH aM aTraps).1) q9, GT.cells aH q20, GT.cells ((f_setTraps aH aM aTraps).1) q25]⟩) (by kernel_rfl) (by kernel_rfl) .nil (by kernel_rfl) ?_
        clear S; intro ac S
        refine S.hoist (i := 1) (path := []) (keep := [1, 2, 3, 8, 9, 10, 11, 12, 49, 50]) (m := 4) (σ' := ⟨[(1, .v (I aM)), (2, .v (I aTraps)), (3, .p 0 0), (8, .p 1 0), (9, .v (B ((f_setTraps aH aM aTraps).2))), (10, .p 2 0), (11, .p 3 0), (12, .v (B ((f_setTraps aH aM aTraps).2))), (49, .v (GT.val aH q20)), (50, .v (GT.val aH paH))], [GT.cells aH paH, GT.cells ((f_setTraps aH aM aTraps).1) q9, GT.cells aH q20, GT.cells ((f_setTraps aH aM aTraps).1) q25]⟩) (by kernel_rfl) (by kernel_rfl) .nil (by kernel_rfl) ?_
        clear S; intro ac S
        refine WD.one (i := 2) (by kernel_rfl) ?_
        refine id (S.call1 (r := aH) (d := 51) (c_laws_toHost w aH paH (S.rd (S.arg hkaH))) (by kernel_rfl) rfl ?_)
        clear S; intro ac w N q48 F49 S up o50 d51
        refine WD.next S up rfl ?_
        have d52 : Disj F11 F49 := fun b x y => d51 b (o13.sub b x) y
        have d53 : Disj F21 F49 := fun b x y => d51 b (o22.sub b x) y
        have d54 : Disj F27 F49 := fun b x y => d51 b (o29.sub b x) y
        replace o13 := o13.up up
        replace o22 := o22.up up
        replace o29 := o29.up up
        clear up d51
        refine WD.one (i := 3) (by kernel_rfl) ?_
        refine S.stepq (i := 3) (keep := [1, 2, 3, 8, 9, 10, 11, 12, 52]) (m := 4) (σ' := ⟨[(1, .v (I aM)), (2, .v (I aTraps)), (3, .p 0 0), (8, .p 1 0), (9, .v (B ((f_setTraps aH aM aTraps).2))), (10, .p 2 0), (11, .p 3 0), (12, .v (B ((f_setTraps aH aM aTraps).2))), (52, .v (B (decide (aH = aH))))], [GT.cells aH paH, GT.cells ((f_setTraps aH aM aTraps).1) q9, GT.cells aH q20, GT.cells ((f_setTraps aH aM aTraps).1) q25]⟩) (.cons (Q_call fun w hw => c_laws_eqHost w aH q20 (rd_of o22.rn hw) aH q48 (rd_of o50.rn hw)) .nil) (by kernel_rfl) ?_
        clear S; intro ac w β S hβ
        refine WD.stay S hβ (fun _ _ h => h) ?_
        clear hβ
        refine S.hoist (i := 4) (path := []) (keep := [1, 2, 3, 8, 9, 10, 11, 12, 53]) (m := 4) (σ' := ⟨[(1, .v (I aM)), (2, .v (I aTraps)), (3, .p 0 0), (8, .p 1 0), (9, .v (B ((f_setTraps aH aM aTraps).2))), (10, .p 2 0), (11, .p 3 0), (12, .v (B ((f_setTraps aH aM aTraps).2))), (53, .v (B (!(decide (aH = aH)))))], [GT.cells aH paH, GT.cells ((f_setTraps aH aM aTraps).1) q9, GT.cells aH q20, GT.cells ((f_setTraps aH aM aTraps).1) q25]⟩) (by kernel_rfl) (by kernel_rfl) .nil (by kernel_rfl) ?_
        clear S; intro ac S
        refine WD.done (by kernel_rfl) ?_ _
        replace S := S.p [1, 2, 3, 8, 9, 10, 11, 12, 53] 4 ⟨[(1, .v (I aM)), (2, .v (I aTraps)), (3, .p 0 0), (8, .p 1 0), (9, .v (B ((f_setTraps aH aM aTraps).2))), (10, .p 2 0), (11, .p 3 0), (12, .v (B ((f_setTraps aH aM aTraps).2))), (53, .v (B (!(decide (aH = aH)))))], [GT.cells aH paH, GT.cells ((f_setTraps aH aM aTraps).1) q9, GT.cells aH q20, GT.cells ((f_setTraps aH aM aTraps).1) q25]⟩
        refine id (nx_then ?_)
        refine S.c (!(decide (aH = aH))) (fun h55 => ?_) (fun h55 => ?_)
        · have h56 : (decide (aH = aH)) = false := not_t h55
          have g57 := of_decide_eq_false h56
          refine wp_seq (RG.start ?_)
          refine S.q 1 [6] 0 ⟨[(6, .v (B false))], []⟩ .nil ?_; clear S; intro ac w β S
          refine RG.done rfl (nx_then (wp_ret (rt_then ?_)))
          refine S.r [B false] ?_
          exact ⟨retB (by clear S; first | rfl | (exfalso; omega) | (exfalso; simp_all; done) | (exfalso; simp_all; omega)), S.chg⟩
        · have h58 : (decide (aH = aH)) = true := not_f h55
          have g59 := of_decide_eq_true h58
          refine wp_skip (nx_then (wp_seq (RG.start ?_)))
          refine S.q 1 [1, 2, 3, 8, 9, 10, 11, 12, 13] 4 ⟨[(1, .v (I aM)), (2, .v (I aTraps)), (3, .p 0 0), (8, .p 1 0), (9, .v (B ((f_setTraps aH aM aTraps).2))), (10, .p 2 0), (11, .p 3 0), (12, .v (B ((f_setTraps aH aM aTraps).2))), (13, .v (I 1))], [GT.cells aH paH, GT.cells ((f_setTraps aH aM aTraps).1) q9, GT.cells aH q20, GT.cells ((f_setTraps aH aM aTraps).1) q25]⟩ .nil ?_; clear S; intro ac w β S
          refine RG.done rfl (nx_then (wp_seq (RG.start ?_)))
          refine S.q 2 [1, 2, 3, 8, 9, 11, 12, 54, 55] 4 ⟨[(1, .v (I aM)), (2, .v (I aTraps)), (3, .p 0 0), (8, .p 1 0), (9, .v (B ((f_setTraps aH aM aTraps).2))), (11, .p 3 0), (12, .v (B ((f_setTraps aH aM aTraps).2))), (54, .v (GT.val aH q20)), (55, .v (I 1))], [GT.cells aH paH, GT.cells ((f_setTraps aH aM aTraps).1) q9, GT.cells aH q20, GT.cells ((f_setTraps aH aM aTraps).1) q25]⟩ .nil ?_; clear S; intro ac w β S
          have z68 := sz_setTraps aH aM aTraps
          refine RG.op rfl (S.callX (hd := hdT_Host) (d := 56) o22 (c_laws_markHost w aH q20 F21 (S.ownw o22) (fun b hb => (S.sep b (o22.sub b hb)).1) 1 (by omega) (by omega)) (by kernel_rfl) rfl ?_)
          clear S; intro ac w N q60 y61 k62 S up o63 c64 x65 b66 b67
          replace o13 := o13.upF d24 up
          replace o29 := o29.upF (Disj.symm d37) up
          clear up
          replace S := S.p [1, 2, 3, 8, 9, 11, 12, 55, 56] 4 ⟨[(1, .v (I aM)), (2, .v (I aTraps)), (3, .p 0 0), (8, .p 1 0), (9, .v (B ((f_setTraps aH aM aTraps).2))), (11, .p 3 0), (12, .v (B ((f_setTraps aH aM aTraps).2))), (55, .v (I 1)), (56, .v (I k62))], [GT.cells aH paH, GT.cells ((f_setTraps aH aM aTraps).1) q9, GT.cells aH q20, GT.cells ((f_setTraps aH aM aTraps).1) q25]⟩
          have hw0 : GT.cells y61 q60 = GT.cells aH q20 := c64
          replace S := S.cast (σ' := ⟨[(1, .v (I aM)), (2, .v (I aTraps)), (3, .p 0 0), (8, .p 1 0), (9, .v (B ((f_setTraps aH aM aTraps).2))), (11, .p 3 0), (12, .v (B ((f_setTraps aH aM aTraps).2))), (55, .v (I 1)), (56, .v (I k62))], [GT.cells aH paH, GT.cells ((f_setTraps aH aM aTraps).1) q9, GT.cells y61 q60, GT.cells ((f_setTraps aH aM aTraps).1) q25]⟩) (by rw [hw0])
          clear hw0
          refine S.q 1 [1, 2, 3, 8, 9, 11, 12, 13] 4 ⟨[(1, .v (I aM)), (2, .v (I aTraps)), (3, .p 0 0), (8, .p 1 0), (9, .v (B ((f_setTraps aH aM aTraps).2))), (11, .p 3 0), (12, .v (B ((f_setTraps aH aM aTraps).2))), (13, .v (I k62))], [GT.cells aH paH, GT.cells ((f_setTraps aH aM aTraps).1) q9, GT.cells y61 q60, GT.cells ((f_setTraps aH aM aTraps).1) q25]⟩ .nil ?_; clear S; intro ac w β S
          refine RG.done rfl (nx_then (wp_seq (wp_seq (RG.start ?_))))
          refine S.q 3 [1, 2, 3, 8, 9, 11, 12, 59] 4 ⟨[(1, .v (I aM)), (2, .v (I aTraps)), (3, .p 0 0), (8, .p 1 0), (9, .v (B ((f_setTraps aH aM aTraps).2))), (11, .p 3 0), (12, .v (B ((f_setTraps aH aM aTraps).2))), (59, .v (B (decide (k62 < 0))))], [GT.cells aH paH, GT.cells ((f_setTraps aH aM aTraps).1) q9, GT.cells y61 q60, GT.cells ((f_setTraps aH aM aTraps).1) q25]⟩ .nil ?_; clear S; intro ac w β S
          rcases Bool.eq_false_or_eq_true (decide (k62 < 0)) with h69 | h69 <;> rw [h69] at S
          · have g70 : k62 < 0 := of_decide_eq_true h69
            refine S.q 10 [1, 2, 3, 8, 9, 11, 69] 4 ⟨[(1, .v (I aM)), (2, .v (I aTraps)), (3, .p 0 0), (8, .p 1 0), (9, .v (B ((f_setTraps aH aM aTraps).2))), (11, .p 3 0), (69, .v (B true))], [GT.cells aH paH, GT.cells ((f_setTraps aH aM aTraps).1) q9, GT.cells y61 q60, GT.cells ((f_setTraps aH aM aTraps).1) q25]⟩ .nil ?_; clear S; intro ac w β S
            refine RG.done rfl (nx_then ?_)
            refine S.c true (fun _ => ?_) (fun hx => by cases hx)
            refine wp_seq (RG.start ?_)
            refine S.q 1 [6] 0 ⟨[(6, .v (B false))], []⟩ .nil ?_; clear S; intro ac w β S
            refine RG.done rfl (nx_then (wp_ret (rt_then ?_)))
            refine S.r [B false] ?_
            exact ⟨retB (by clear S; first | rfl | (exfalso; omega) | (exfalso; simp_all; done) | (exfalso; simp_all; omega)), S.chg⟩
          · have g71 : ¬ (k62 < 0) := of_decide_eq_false h69
            refine S.q 6 [1, 2, 3, 8, 9, 11, 12, 65] 4 ⟨[(1, .v (I aM)), (2, .v (I aTraps)), (3, .p 0 0), (8, .p 1 0), (9, .v (B ((f_setTraps aH aM aTraps).2))), (11, .p 3 0), (12, .v (B ((f_setTraps aH aM aTraps).2))), (65, .v (B (!(decide (((f_setTraps aH aM aTraps).1) = ((f_setTraps aH aM aTraps).1))))))], [GT.cells aH paH, GT.cells ((f_setTraps aH aM aTraps).1) q9, GT.cells y61 q60, GT.cells ((f_setTraps aH aM aTraps).1) q25]⟩ (.cons (Q_call fun w hw => c_laws_eqHost w ((f_setTraps aH aM aTraps).1) q25 (rd_of o29.rn hw) ((f_setTraps aH aM aTraps).1) q9 (rd_of o13.rn hw)) .nil) ?_; clear S; intro ac w β S
            rw [h38] at S
            refine S.q 4 [1, 2, 3, 8, 9, 11, 69] 4 ⟨[(1, .v (I aM)), (2, .v (I aTraps)), (3, .p 0 0), (8, .p 1 0), (9, .v (B ((f_setTraps aH aM aTraps).2))), (11, .p 3 0), (69, .v (B (!((f_setTraps aH aM aTraps).2 == (f_setTraps aH aM aTraps).2))))], [GT.cells aH paH, GT.cells ((f_setTraps aH aM aTraps).1) q9, GT.cells y61 q60, GT.cells ((f_setTraps aH aM aTraps).1) q25]⟩ .nil ?_; clear S; intro ac w β S
            refine RG.done rfl (nx_then ?_)
            refine S.c (!((f_setTraps aH aM aTraps).2 == (f_setTraps aH aM aTraps).2)) (fun h72 => ?_) (fun h72 => ?_)
            · have h73 : ((f_setTraps aH aM aTraps).2 == (f_setTraps aH aM aTraps).2) = false := not_t h72
              have g74 : ¬ ((f_setTraps aH aM aTraps).2 = (f_setTraps aH aM aTraps).2) := ne_of_beq_false h73
              refine wp_seq (RG.start ?_)
              refine S.q 1 [6] 0 ⟨[(6, .v (B false))], []⟩ .nil ?_; clear S; intro ac w β S
              refine RG.done rfl (nx_then (wp_ret (rt_then ?_)))
              refine S.r [B false] ?_
              exact ⟨retB (by clear S; first | rfl | (exfalso; omega) | (exfalso; simp_all; done) | (exfalso; simp_all; omega)), S.chg⟩
            · have h75 : ((f_setTraps aH aM aTraps).2 == (f_setTraps aH aM aTraps).2) = true := not_f h72
              have g76 : (f_setTraps aH aM aTraps).2 = (f_setTraps aH aM aTraps).2 := eq_of_beq h75
              refine wp_skip (nx_then (wp_seq (RG.start ?_)))
              refine S.q 1 [1, 2, 3, 8, 9, 11, 14] 4 ⟨[(1, .v (I aM)), (2, .v (I aTraps)), (3, .p 0 0), (8, .p 1 0), (9, .v (B ((f_setTraps aH aM aTraps).2))), (11, .p 3 0), (14, .v (I 1))], [GT.cells aH paH, GT.cells ((f_setTraps aH aM aTraps).1) q9, GT.cells y61 q60, GT.cells ((f_setTraps aH aM aTraps).1) q25]⟩ .nil ?_; clear S; intro ac w β S
              refine RG.done rfl (nx_then (wp_seq (RG.start ?_)))
              refine S.q 2 [1, 2, 3, 8, 9, 11, 70, 71] 4 ⟨[(1, .v (I aM)), (2, .v (I aTraps)), (3, .p 0 0), (8, .p 1 0), (9, .v (B ((f_setTraps aH aM aTraps).2))), (11, .p 3 0), (70, .v (GT.val ((f_setTraps aH aM aTraps).1) q25)), (71, .v (I 1))], [GT.cells aH paH, GT.cells ((f_setTraps aH aM aTraps).1) q9, GT.cells y61 q60, GT.cells ((f_setTraps aH aM aTraps).1) q25]⟩ .nil ?_; clear S; intro ac w β S
              have z85 := sz_setTraps aH aM aTraps
              refine RG.op rfl (S.callX (hd := hdT_Host) (d := 72) o29 (c_laws_markHost w ((f_setTraps aH aM aTraps).1) q25 F27 (S.ownw o29) (fun b hb => (S.sep b (o29.sub b hb)).1) 1 (by omega) (by omega)) (by kernel_rfl) rfl ?_)
              clear S; intro ac w N q77 y78 k79 S up o80 c81 x82 b83 b84
              replace o13 := o13.upF d36 up
              replace o63 := o63.upF (Disj.symm (Disj.symm d37)) up
              clear up
              replace S := S.p [1, 2, 3, 8, 9, 11, 71, 72] 4 ⟨[(1, .v (I aM)), (2, .v (I aTraps)), (3, .p 0 0), (8, .p 1 0), (9, .v (B ((f_setTraps aH aM aTraps).2))), (11, .p 3 0), (71, .v (I 1)), (72, .v (I k79))], [GT.cells aH paH, GT.cells ((f_setTraps aH aM aTraps).1) q9, GT.cells y61 q60, GT.cells ((f_setTraps aH aM aTraps).1) q25]⟩
              have hw0 : GT.cells y78 q77 = GT.cells ((f_setTraps aH aM aTraps).1) q25 := c81
              replace S := S.cast (σ' := ⟨[(1, .v (I aM)), (2, .v (I aTraps)), (3, .p 0 0), (8, .p 1 0), (9, .v (B ((f_setTraps aH aM aTraps).2))), (11, .p 3 0), (71, .v (I 1)), (72, .v (I k79))], [GT.cells aH paH, GT.cells ((f_setTraps aH aM aTraps).1) q9, GT.cells y61 q60, GT.cells y78 q77]⟩) (by rw [hw0])
              clear hw0
              refine S.q 1 [1, 2, 3, 8, 9, 11, 14] 4 ⟨[(1, .v (I aM)), (2, .v (I aTraps)), (3, .p 0 0), (8, .p 1 0), (9, .v (B ((f_setTraps aH aM aTraps).2))), (11, .p 3 0), (14, .v (I k79))], [GT.cells aH paH, GT.cells ((f_setTraps aH aM aTraps).1) q9, GT.cells y61 q60, GT.cells y78 q77]⟩ .nil ?_; clear S; intro ac w β S
              refine RG.done rfl (nx_then (wp_seq (RG.start ?_)))
              refine S.q 1 [1, 2, 3, 8, 9, 11, 14, 15] 4 ⟨[(1, .v (I aM)), (2, .v (I aTraps)), (3, .p 0 0), (8, .p 1 0), (9, .v (B ((f_setTraps aH aM aTraps).2))), (11, .p 3 0), (14, .v (I k79)), (15, .v (I 1))], [GT.cells aH paH, GT.cells ((f_setTraps aH aM aTraps).1) q9, GT.cells y61 q60, GT.cells y78 q77]⟩ .nil ?_; clear S; intro ac w β S
              refine RG.done rfl (nx_then (wp_seq (RG.start ?_)))
              refine S.q 4 [1, 2, 3, 8, 9, 11, 14, 15] 4 ⟨[(1, .v (I aM)), (2, .v (I aTraps)), (3, .p 0 0), (8, .p 1 0), (9, .v (B ((f_setTraps aH aM aTraps).2))), (11, .p 3 0), (14, .v (I k79)), (15, .v (I (hdT_Host y78 1)))], [GT.cells aH paH, GT.cells ((f_setTraps aH aM aTraps).1) q9, GT.cells y61 q60, GT.cells y78 q77]⟩ (.cons (Q_call fun w hw => c_laws_heldHost w y78 q77 (rd_of o80.rn hw) 1) .nil) ?_; clear S; intro ac w β S
              refine RG.done rfl (nx_then (wp_seq (wp_seq (RG.start ?_))))
              refine S.q 2 [1, 2, 3, 8, 9, 11, 14, 15, 77] 4 ⟨[(1, .v (I aM)), (2, .v (I aTraps)), (3, .p 0 0), (8, .p 1 0), (9, .v (B ((f_setTraps aH aM aTraps).2))), (11, .p 3 0), (14, .v (I k79)), (15, .v (I (hdT_Host y78 1))), (77, .v (B (decide ((hdT_Host y78 1) < 0))))], [GT.cells aH paH, GT.cells ((f_setTraps aH aM aTraps).1) q9, GT.cells y61 q60, GT.cells y78 q77]⟩ .nil ?_; clear S; intro ac w β S
              refine RG.done rfl (nx_then ?_)
              refine S.c (decide ((hdT_Host y78 1) < 0)) (fun h86 => ?_) (fun h86 => ?_)
              · have g87 : (hdT_Host y78 1) < 0 := of_decide_eq_true h86
                refine wp_seq (RG.start ?_)
                refine S.q 1 [6] 0 ⟨[(6, .v (B false))], []⟩ .nil ?_; clear S; intro ac w β S
                refine RG.done rfl (nx_then (wp_ret (rt_then ?_)))
                refine S.r [B false] ?_
                exact ⟨retB (by clear S; first | rfl | (exfalso; omega) | (exfalso; simp_all; done) | (exfalso; simp_all; omega)), S.chg⟩
              · have g88 : ¬ ((hdT_Host y78 1) < 0) := of_decide_eq_false h86
                refine wp_skip (nx_then (wp_seq (wp_seq (RG.start ?_))))
                refine S.q 3 [1, 2, 3, 8, 9, 11, 14, 80] 4 ⟨[(1, .v (I aM)), (2, .v (I aTraps)), (3, .p 0 0), (8, .p 1 0), (9, .v (B ((f_setTraps aH aM aTraps).2))), (11, .p 3 0), (14, .v (I k79)), (80, .v (B ((hdT_Host y78 1) != k79)))], [GT.cells aH paH, GT.cells ((f_setTraps aH aM aTraps).1) q9, GT.cells y61 q60, GT.cells y78 q77]⟩ .nil ?_; clear S; intro ac w β S
                refine RG.done rfl (nx_then ?_)
                refine S.c ((hdT_Host y78 1) != k79) (fun h89 => ?_) (fun h89 => ?_)
                · have g90 : ¬ ((hdT_Host y78 1) = k79) := bne_iff_ne.1 h89
                  refine wp_seq (RG.start ?_)
                  refine S.q 1 [6] 0 ⟨[(6, .v (B false))], []⟩ .nil ?_; clear S; intro ac w β S
                  refine RG.done rfl (nx_then (wp_ret (rt_then ?_)))
                  refine S.r [B false] ?_
                  exact ⟨retB (by clear S; first | rfl | (exfalso; omega) | (exfalso; simp_all; done) | (exfalso; simp_all; omega)), S.chg⟩
                · have g91 : (hdT_Host y78 1) = k79 := ne_f h89
                  refine wp_skip (nx_then (wp_seq (RG.start ?_)))
                  refine S.q 1 [1, 2, 8, 9, 11, 14, 82] 4 ⟨[(1, .v (I aM)), (2, .v (I aTraps)), (8, .p 1 0), (9, .v (B ((f_setTraps aH aM aTraps).2))), (11, .p 3 0), (14, .v (I k79)), (82, .v (GT.val aH paH))], [GT.cells aH paH, GT.cells ((f_setTraps aH aM aTraps).1) q9, GT.cells y61 q60, GT.cells y78 q77]⟩ .nil ?_; clear S; intro ac w β S
                  refine RG.op rfl (S.call1 (r := aH) (d := 83) (c_laws_toHost w aH paH (S.rd (S.arg hkaH))) (by kernel_rfl) rfl ?_)
                  clear S; intro ac w N q92 F93 S up o94 d95
                  have d96 : Disj F11 F93 := fun b x y => d95 b (o13.sub b x) y
                  have d97 : Disj F21 F93 := fun b x y => d95 b (o63.sub b x) y
                  have d98 : Disj F27 F93 := fun b x y => d95 b (o80.sub b x) y
                  replace o13 := o13.up up
                  replace o63 := o63.up up
                  replace o80 := o80.up up
                  clear up d95
                  refine S.q 2 [8, 9, 11, 14, 83, 84, 85] 4 ⟨[(8, .p 1 0), (9, .v (B ((f_setTraps aH aM aTraps).2))), (11, .p 3 0), (14, .v (I k79)), (83, .v (GT.val aH q92)), (84, .v (I aM)), (85, .v (I aTraps))], [GT.cells aH paH, GT.cells ((f_setTraps aH aM aTraps).1) q9, GT.cells y61 q60, GT.cells y78 q77]⟩ .nil ?_; clear S; intro ac w β S
                  refine RG.op rfl (S.call2 (r := (f_setTraps aH aM aTraps).1) (r' := (f_setTraps aH aM aTraps).2) (d := 86) (c_impl_SetTraps w aH q92 (S.rd o94.rn) aM aTraps haTraps) (by kernel_rfl) rfl ?_)
                  clear S; intro ac w N q99 q100 F101 F102 S up o103 o104 d105 d106 d107
                  have d108 : Disj F11 F102 := fun b x y => d106 b (o13.sub b x) y
                  have d109 : Disj F21 F102 := fun b x y => d106 b (o63.sub b x) y
                  have d110 : Disj F27 F102 := fun b x y => d106 b (o80.sub b x) y
                  have d111 : Disj F93 F102 := fun b x y => d106 b (o94.sub b x) y
                  have d112 : Disj F11 F101 := fun b x y => d105 b (o13.sub b x) y
                  have d113 : Disj F21 F101 := fun b x y => d105 b (o63.sub b x) y
                  have d114 : Disj F27 F101 := fun b x y => d105 b (o80.sub b x) y
                  have d115 : Disj F93 F101 := fun b x y => d105 b (o94.sub b x) y
                  replace o13 := o13.up up
                  replace o63 := o63.up up
                  replace o80 := o80.up up
                  replace o94 := o94.up up
                  clear up d105
                  clear d106
                  refine S.q 6 [8, 9, 11, 14, 16, 17] 5 ⟨[(8, .p 1 0), (9, .v (B ((f_setTraps aH aM aTraps).2))), (11, .p 3 0), (14, .v (I k79)), (16, .p 4 0), (17, .v (B ((f_setTraps aH aM aTraps).2)))], [GT.cells aH paH, GT.cells ((f_setTraps aH aM aTraps).1) q9, GT.cells y61 q60, GT.cells y78 q77, GT.cells ((f_setTraps aH aM aTraps).1) q99]⟩ .nil ?_; clear S; intro ac w β S
                  refine RG.done rfl (nx_then (wp_seq (wp_seq (RG.start ?_))))
                  refine S.q 5 [9, 11, 14, 17, 93] 4 ⟨[(9, .v (B ((f_setTraps aH aM aTraps).2))), (11, .p 3 0), (14, .v (I k79)), (17, .v (B ((f_setTraps aH aM aTraps).2))), (93, .v (B (!(decide (((f_setTraps aH aM aTraps).1) = ((f_setTraps aH aM aTraps).1))))))], [GT.cells aH paH, GT.cells ((f_setTraps aH aM aTraps).1) q9, GT.cells y61 q60, GT.cells y78 q77]⟩ (.cons (Q_call fun w hw => c_laws_eqHost w ((f_setTraps aH aM aTraps).1) q99 (rd_of o103.rn hw) ((f_setTraps aH aM aTraps).1) q9 (rd_of o13.rn hw)) .nil) ?_; clear S; intro ac w β S
                  rw [h38] at S
                  refine S.q 4 [11, 14, 97] 4 ⟨[(11, .p 3 0), (14, .v (I k79)), (97, .v (B (!((f_setTraps aH aM aTraps).2 == (f_setTraps aH aM aTraps).2))))], [GT.cells aH paH, GT.cells ((f_setTraps aH aM aTraps).1) q9, GT.cells y61 q60, GT.cells y78 q77]⟩ .nil ?_; clear S; intro ac w β S
                  refine RG.done rfl (nx_then ?_)
                  refine S.c (!((f_setTraps aH aM aTraps).2 == (f_setTraps aH aM aTraps).2)) (fun h116 => ?_) (fun h116 => ?_)
                  · have h117 : ((f_setTraps aH aM aTraps).2 == (f_setTraps aH aM aTraps).2) = false := not_t h116
                    have g118 : ¬ ((f_setTraps aH aM aTraps).2 = (f_setTraps aH aM aTraps).2) := ne_of_beq_false h117
                    refine wp_seq (RG.start ?_)
                    refine S.q 1 [6] 0 ⟨[(6, .v (B false))], []⟩ .nil ?_; clear S; intro ac w β S
                    refine RG.done rfl (nx_then (wp_ret (rt_then ?_)))
                    refine S.r [B false] ?_
                    exact ⟨retB (by clear S; first | rfl | (exfalso; omega) | (exfalso; simp_all; done) | (exfalso; simp_all; omega)), S.chg⟩
                  · have h119 : ((f_setTraps aH aM aTraps).2 == (f_setTraps aH aM aTraps).2) = true := not_f h116
                    have g120 : (f_setTraps aH aM aTraps).2 = (f_setTraps aH aM aTraps).2 := eq_of_beq h119
                    refine wp_skip (nx_then (wp_seq (RG.start ?_)))
                    refine S.q 1 [11, 14, 15] 4 ⟨[(11, .p 3 0), (14, .v (I k79)), (15, .v (I 1))], [GT.cells aH paH, GT.cells ((f_setTraps aH aM aTraps).1) q9, GT.cells y61 q60, GT.cells y78 q77]⟩ .nil ?_; clear S; intro ac w β S
                    refine RG.done rfl (nx_then (wp_seq (RG.start ?_)))
                    refine S.q 4 [14, 15] 0 ⟨[(14, .v (I k79)), (15, .v (I (hdT_Host y78 1)))], []⟩ (.cons (Q_call fun w hw => c_laws_heldHost w y78 q77 (rd_of o80.rn hw) 1) .nil) ?_; clear S; intro ac w β S
                    refine RG.done rfl (nx_then (wp_seq (wp_seq (RG.start ?_))))
                    refine S.q 2 [14, 15, 102] 0 ⟨[(14, .v (I k79)), (15, .v (I (hdT_Host y78 1))), (102, .v (B (decide ((hdT_Host y78 1) < 0))))], []⟩ .nil ?_; clear S; intro ac w β S
                    refine RG.done rfl (nx_then ?_)
                    refine S.c (decide ((hdT_Host y78 1) < 0)) (fun h121 => ?_) (fun h121 => ?_)
                    · have g122 : (hdT_Host y78 1) < 0 := of_decide_eq_true h121
                      refine wp_seq (RG.start ?_)
                      refine S.q 1 [6] 0 ⟨[(6, .v (B false))], []⟩ .nil ?_; clear S; intro ac w β S
                      refine RG.done rfl (nx_then (wp_ret (rt_then ?_)))
                      refine S.r [B false] ?_
                      exact ⟨retB (by clear S; first | rfl | (exfalso; omega) | (exfalso; simp_all; done) | (exfalso; simp_all; omega)), S.chg⟩
                    · have g123 : ¬ ((hdT_Host y78 1) < 0) := of_decide_eq_false h121
                      refine wp_skip (nx_then (wp_seq (wp_seq (RG.start ?_))))
                      refine S.q 3 [105] 0 ⟨[(105, .v (B ((hdT_Host y78 1) != k79)))], []⟩ .nil ?_; clear S; intro ac w β S
                      refine RG.done rfl (nx_then ?_)
                      refine S.c ((hdT_Host y78 1) != k79) (fun h124 => ?_) (fun h124 => ?_)
                      · have g125 : ¬ ((hdT_Host y78 1) = k79) := bne_iff_ne.1 h124
                        refine wp_seq (RG.start ?_)
                        refine S.q 1 [6] 0 ⟨[(6, .v (B false))], []⟩ .nil ?_; clear S; intro ac w β S
                        refine RG.done rfl (nx_then (wp_ret (rt_then ?_)))
                        refine S.r [B false] ?_
                        exact ⟨retB (by clear S; first | rfl | (exfalso; omega) | (exfalso; simp_all; done) | (exfalso; simp_all; omega)), S.chg⟩
                      · have g126 : (hdT_Host y78 1) = k79 := ne_f h124
                        refine wp_skip (nx_then (wp_seq (RG.start ?_)))
                        refine S.q 1 [6] 0 ⟨[(6, .v (B true))], []⟩ .nil ?_; clear S; intro ac w β S
                        refine RG.done rfl (nx_then (wp_ret ?_))
                        refine S.r [B true] ?_
                        exact ⟨retB (by clear S; first | rfl | (exfalso; omega) | (exfalso; simp_all; done) | (exfalso; simp_all; omega)), S.chg⟩

end Go.Proofs.YtacgkoohinlhjaaGreat
