/- The walks: what each function that the laws reach computes (part 4). -/
import Derived.Test.YtacgkoohinlhjaaW3
import Derived.Test.YtacgkoohinlhjaaProg
import Derived.KernelRfl
namespace Go.Proofs.Ytacgkoohinlhjaa
open Go
set_option linter.unusedVariables false
set_option linter.unusedSimpArgs false

set_option maxRecDepth 100000 in
theorem c_laws_markMonS (w0 : World) (a : List TMon) (pa : LP TMon) (F : Bl) (ha : GT.own KK F w0 a pa) (hF : ∀ b, F b → b < w0.heap.size) (k : Int) (pre0 : 0 ≤ k) (pre1 : k + 16 * (SZ.sz a : Int) ≤ 4611686018427387904) : Calls Go.Proofs.Try.prog 61 [slv (a).length pa.1, I k].toArray w0 (RetX hdl F w0 pa a k) := by
  refine Calls.walk (args := [slv (a).length pa.1, I k]) F Go.Proofs.Try.func61 rfl rfl ?_
  intro ac β S
  have oa : Ow w0 F w0 (Lt w0.heap.size) F a pa := ⟨ha, hF, fun b hb => .inr hb⟩
  have hz := sz_list a
  have hlea : a.length ≤ 4194304 := LOwn.le ha
  refine wp_seq ?_
  refine RG.start ?_
  refine S.quiet (k := 1) (keep := [0, 1]) (m := 0) (σ' := ⟨[(0, .v (slv (a).length pa.1)), (1, .v (I k))], []⟩) .nil (by kernel_rfl) ?_
  clear S; intro ac w β S
  refine RG.done rfl (nx_then ?_)
  refine wp_seq ?_
  refine wp_seq ?_
  refine RG.start ?_
  refine S.quiet (k := 1) (keep := [0, 1, 5]) (m := 0) (σ' := ⟨[(0, .v (slv (a).length pa.1)), (1, .v (I k)), (5, .v (I 0))], []⟩) .nil (by kernel_rfl) ?_
  clear S; intro ac w β S
  refine RG.done rfl (nx_then ?_)
  refine wp_block ?_
  replace S := S.prune (keep := [0, 1, 5]) (m := 0) (σ' := ⟨[(0, .v (slv (a).length pa.1)), (1, .v (I k)), (5, .v (I 0))], []⟩) (by kernel_rfl)
  refine wp_loop_down (fun mm ac w => ∃ (i : Nat) (acc : List TMon) (j : Int) (q1 : GT.Ptr (List TMon)) (F2 : Bl) (u : World) (N : Bl) (β : Nat → Nat), mm = a.length - i ∧ (i ≤ a.length) ∧ (acc.length = a.length) ∧ (∀ f, hdlc (acc.take i) k f = f j) ∧ (acc.drop i = a.drop i) ∧ (k ≤ j) ∧ (j ≤ k + 16 * ((i : Int) + (szsum (a.take i) : Nat))) ∧ St Go.Proofs.Try.prog Go.Proofs.Try.f61.ntmps w0 F u N β ⟨[(0, .v (slv a.length q1.1)), (1, .v (I j)), (5, .v (I (i : Int)))], []⟩ ac w ∧ Ow w0 F u N F2 acc q1 ∧ q1.1 = pa.1 ∧ (∀ b, F2 b → F b)) _ ⟨0, a, k, pa, F, _, _, _, rfl, (by first | omega | (simp; done) | (simp; omega)), (by rfl), (by intro f; rfl), (by rfl), (by first | omega | (simp; done) | (simp; omega)), (by simp [szsum_nil]), S.cast (by kernel_rfl), oa, rfl, (fun _ h => h)⟩ ?_
  clear S oa
  rintro mm ac w ⟨i, acc, j, q1, F2, u, N, β, rfl, hi, hl, hM, hD, hj0, hj1, S, o3, hq, hs⟩
  have hel := el_of_drop hD
  have hsl := szsum_take_le a i
  refine wp_seq ?_
  refine wp_seq ?_
  refine RG.start ?_
  refine S.quiet (k := 4) (keep := [0, 1, 5, 9]) (m := 0) (σ' := ⟨[(0, .v (slv a.length q1.1)), (1, .v (I j)), (5, .v (I (i : Int))), (9, .v (B (decide ((i : Int) < (a.length : Int)))))], []⟩) .nil (by kernel_rfl) ?_
  clear S; intro ac w β S
  refine RG.done rfl (nx_then ?_)
  refine S.cond (e := (decide ((i : Int) < (a.length : Int)))) (by kernel_rfl) (fun h4 => ?_) (fun h4 => ?_)
  · have g5 : (i : Int) < (a.length : Int) := of_decide_eq_true h4
    refine wp_skip (nx_then ?_)
    refine wp_seq ?_
    refine wp_block ?_
    refine wp_seq ?_
    refine RG.start ?_
    refine S.quiet (k := 6) (keep := [0, 5, 16, 17]) (m := 0) (σ' := ⟨[(0, .v (slv a.length q1.1)), (5, .v (I (i : Int))), (16, .v (slv ((el acc i).outer).length ((q1.2 i).outer).1)), (17, .v (I j))], []⟩) (.cons (Q_idx o3.rn (l := a.length) (k := i) (i := (i : Int)) (by omega) rfl (by omega) Go.Proofs.Try.underlying36 (by kernel_rfl)) (.cons (Q_cell o3.rn (t := 42) (k := i) (j := 0) (v := slv ((el acc i).outer).length ((q1.2 i).outer).1) (by omega) (by kernel_rfl) (by kernel_rfl)) .nil)) (by kernel_rfl) ?_
    clear S; intro ac w β S
    obtain ⟨F6, o7, s8, b9⟩ := foc_Mon_outer o3 (k := i) (show i < (acc).length by omega)
    have z10 := szsum_take (xs := a) (k := i) (by omega)
    have z11 := szsum_take_le a (i + 1)
    have z12 := sz_Mon (el a i)
    have e13 : (el acc i).outer = (el a i).outer := by simp only [hel]
    refine RG.op rfl (S.callX (hd := hdl) (d := 18) o7 (c_laws_markSlotS w ((el acc i).outer) ((q1.2 i).outer) F6 (S.ownw o7) (fun b hb => (S.sep b (o7.sub b hb)).1) j (by omega) (by rw [e13]; omega)) (by kernel_rfl) rfl ?_)
    clear S; intro ac w N q14 y15 k16 S up o17 c18 x19 b20 b21
    rw [e13] at b21
    obtain ⟨p22, o23⟩ := b9 _ _ _ _ up o17 c18
    clear up o3 o7 s8 b9 o17 c18
    obtain ⟨a24, e25⟩ : ∃ z, z = (acc).set i ({ el acc i with outer := y15 }) := ⟨_, rfl⟩
    rw [← e25] at o23
    have l26 : a24.length = (acc).length := by rw [e25]; exact List.length_set
    have e27 : el a24 i = { el acc i with outer := y15 } := by rw [e25]; exact el_set_self (show i < (acc).length by omega)
    have t28 : a24.take i = (acc).take i := by rw [e25]; exact take_set_self
    have d29 : a24.drop (i + 1) = (acc).drop (i + 1) := by rw [e25]; exact drop_set_self
    clear e25
    refine S.quiet (k := 1) (keep := [0, 1, 5]) (m := 0) (σ' := ⟨[(0, .v (slv a.length q1.1)), (1, .v (I k16)), (5, .v (I (i : Int)))], []⟩) .nil (by kernel_rfl) ?_
    clear S; intro ac w β S
    refine RG.done rfl (nx_then ?_)
    refine wp_seq ?_
    refine RG.start ?_
    refine S.quiet (k := 6) (keep := [0, 5, 23, 24]) (m := 0) (σ' := ⟨[(0, .v (slv a.length q1.1)), (5, .v (I (i : Int))), (23, .v (slv ((el a24 i).out).length (((q1.1, p22).2 i).out).1)), (24, .v (I k16))], []⟩) (.cons (Q_idx o23.rn (l := a.length) (k := i) (i := (i : Int)) (by omega) rfl (by omega) Go.Proofs.Try.underlying36 (by kernel_rfl)) (.cons (Q_cell o23.rn (t := 22) (k := i) (j := 1) (v := slv ((el a24 i).out).length (((q1.1, p22).2 i).out).1) (by omega) (by kernel_rfl) (by kernel_rfl)) .nil)) (by kernel_rfl) ?_
    clear S; intro ac w β S
    obtain ⟨F30, o31, s32, b33⟩ := foc_Mon_out o23 (k := i) (show i < (a24).length by omega)
    have z34 := szsum_take (xs := a) (k := i) (by omega)
    have z35 := szsum_take_le a (i + 1)
    have z36 := sz_Mon (el a i)
    have e37 : (el a24 i).out = (el a i).out := by simp only [e27, hel]
    refine RG.op rfl (S.callX (hd := hdl) (d := 25) o31 (c_laws_markIntSS w ((el a24 i).out) (((q1.1, p22).2 i).out) F30 (S.ownw o31) (fun b hb => (S.sep b (o31.sub b hb)).1) k16 (by omega) (by rw [e37]; omega)) (by kernel_rfl) rfl ?_)
    clear S; intro ac w N q38 y39 k40 S up o41 c42 x43 b44 b45
    rw [e37] at b45
    obtain ⟨p46, o47⟩ := b33 _ _ _ _ up o41 c42
    clear up o23 o31 s32 b33 o41 c42
    obtain ⟨a48, e49⟩ : ∃ z, z = (a24).set i ({ el a24 i with out := y39 }) := ⟨_, rfl⟩
    rw [← e49] at o47
    have l50 : a48.length = (a24).length := by rw [e49]; exact List.length_set
    have e51 : el a48 i = { el a24 i with out := y39 } := by rw [e49]; exact el_set_self (show i < (a24).length by omega)
    have t52 : a48.take i = (a24).take i := by rw [e49]; exact take_set_self
    have d53 : a48.drop (i + 1) = (a24).drop (i + 1) := by rw [e49]; exact drop_set_self
    clear e49
    refine S.quiet (k := 1) (keep := [0, 1, 5]) (m := 0) (σ' := ⟨[(0, .v (slv a.length q1.1)), (1, .v (I k40)), (5, .v (I (i : Int)))], []⟩) .nil (by kernel_rfl) ?_
    clear S; intro ac w β S
    refine RG.done rfl (nx_then ?_)
    refine wp_seq ?_
    refine RG.start ?_
    refine S.quiet (k := 6) (keep := [0, 5, 30, 31]) (m := 0) (σ' := ⟨[(0, .v (slv a.length q1.1)), (5, .v (I (i : Int))), (30, .v (slv ((el a48 i).dirty).length (((q1.1, p46).2 i).dirty).1)), (31, .v (I k40))], []⟩) (.cons (Q_idx o47.rn (l := a.length) (k := i) (i := (i : Int)) (by omega) rfl (by omega) Go.Proofs.Try.underlying36 (by kernel_rfl)) (.cons (Q_cell o47.rn (t := 28) (k := i) (j := 2) (v := slv ((el a48 i).dirty).length (((q1.1, p46).2 i).dirty).1) (by omega) (by kernel_rfl) (by kernel_rfl)) .nil)) (by kernel_rfl) ?_
    clear S; intro ac w β S
    obtain ⟨F54, o55, s56, b57⟩ := foc_Mon_dirty o47 (k := i) (show i < (a48).length by omega)
    have z58 := szsum_take (xs := a) (k := i) (by omega)
    have z59 := szsum_take_le a (i + 1)
    have z60 := sz_Mon (el a i)
    have e61 : (el a48 i).dirty = (el a i).dirty := by simp only [e51, e27, hel]
    refine RG.op rfl (S.callX (hd := hdl) (d := 32) o55 (c_laws_markBoolS w ((el a48 i).dirty) (((q1.1, p46).2 i).dirty) F54 (S.ownw o55) (fun b hb => (S.sep b (o55.sub b hb)).1) k40 (by omega) (by rw [e61]; omega)) (by kernel_rfl) rfl ?_)
    clear S; intro ac w N q62 y63 k64 S up o65 c66 x67 b68 b69
    rw [e61] at b69
    obtain ⟨p70, o71⟩ := b57 _ _ _ _ up o65 c66
    clear up o47 o55 s56 b57 o65 c66
    obtain ⟨a72, e73⟩ : ∃ z, z = (a48).set i ({ el a48 i with dirty := y63 }) := ⟨_, rfl⟩
    rw [← e73] at o71
    have l74 : a72.length = (a48).length := by rw [e73]; exact List.length_set
    have e75 : el a72 i = { el a48 i with dirty := y63 } := by rw [e73]; exact el_set_self (show i < (a48).length by omega)
    have t76 : a72.take i = (a48).take i := by rw [e73]; exact take_set_self
    have d77 : a72.drop (i + 1) = (a48).drop (i + 1) := by rw [e73]; exact drop_set_self
    clear e73
    refine S.quiet (k := 1) (keep := [0, 1, 5]) (m := 0) (σ' := ⟨[(0, .v (slv a.length q1.1)), (1, .v (I k64)), (5, .v (I (i : Int)))], []⟩) .nil (by kernel_rfl) ?_
    clear S; intro ac w β S
    refine RG.done rfl (nx_then ?_)
    refine wp_seq ?_
    refine RG.start ?_
    refine S.quiet (k := 6) (keep := [0, 5, 37, 38]) (m := 0) (σ' := ⟨[(0, .v (slv a.length q1.1)), (5, .v (I (i : Int))), (37, .v (slv ((el a72 i).guests).length (((q1.1, p70).2 i).guests).1)), (38, .v (I k64))], []⟩) (.cons (Q_idx o71.rn (l := a.length) (k := i) (i := (i : Int)) (by omega) rfl (by omega) Go.Proofs.Try.underlying36 (by kernel_rfl)) (.cons (Q_cell o71.rn (t := 43) (k := i) (j := 3) (v := slv ((el a72 i).guests).length (((q1.1, p70).2 i).guests).1) (by omega) (by kernel_rfl) (by kernel_rfl)) .nil)) (by kernel_rfl) ?_
    clear S; intro ac w β S
    obtain ⟨F78, o79, s80, b81⟩ := foc_Mon_guests o71 (k := i) (show i < (a72).length by omega)
    have z82 := szsum_take (xs := a) (k := i) (by omega)
    have z83 := szsum_take_le a (i + 1)
    have z84 := sz_Mon (el a i)
    have e85 : (el a72 i).guests = (el a i).guests := by simp only [e75, e51, e27, hel]
    refine RG.op rfl (S.callX (hd := hdl) (d := 39) o79 (c_laws_markGuestS w ((el a72 i).guests) (((q1.1, p70).2 i).guests) F78 (S.ownw o79) (fun b hb => (S.sep b (o79.sub b hb)).1) k64 (by omega) (by rw [e85]; omega)) (by kernel_rfl) rfl ?_)
    clear S; intro ac w N q86 y87 k88 S up o89 c90 x91 b92 b93
    rw [e85] at b93
    obtain ⟨p94, o95⟩ := b81 _ _ _ _ up o89 c90
    clear up o71 o79 s80 b81 o89 c90
    obtain ⟨a96, e97⟩ : ∃ z, z = (a72).set i ({ el a72 i with guests := y87 }) := ⟨_, rfl⟩
    rw [← e97] at o95
    have l98 : a96.length = (a72).length := by rw [e97]; exact List.length_set
    have e99 : el a96 i = { el a72 i with guests := y87 } := by rw [e97]; exact el_set_self (show i < (a72).length by omega)
    have t100 : a96.take i = (a72).take i := by rw [e97]; exact take_set_self
    have d101 : a96.drop (i + 1) = (a72).drop (i + 1) := by rw [e97]; exact drop_set_self
    clear e97
    refine S.quiet (k := 1) (keep := [0, 1, 5]) (m := 0) (σ' := ⟨[(0, .v (slv a.length q1.1)), (1, .v (I k88)), (5, .v (I (i : Int)))], []⟩) .nil (by kernel_rfl) ?_
    clear S; intro ac w β S
    refine RG.done rfl (nx_then ?_)
    refine wp_seq ?_
    refine RG.start ?_
    refine S.quiet (k := 6) (keep := [0, 5, 44, 45]) (m := 0) (σ' := ⟨[(0, .v (slv a.length q1.1)), (5, .v (I (i : Int))), (44, .v (slv ((el a96 i).outs).length (((q1.1, p94).2 i).outs).1)), (45, .v (I k88))], []⟩) (.cons (Q_idx o95.rn (l := a.length) (k := i) (i := (i : Int)) (by omega) rfl (by omega) Go.Proofs.Try.underlying36 (by kernel_rfl)) (.cons (Q_cell o95.rn (t := 30) (k := i) (j := 4) (v := slv ((el a96 i).outs).length (((q1.1, p94).2 i).outs).1) (by omega) (by kernel_rfl) (by kernel_rfl)) .nil)) (by kernel_rfl) ?_
    clear S; intro ac w β S
    obtain ⟨F102, o103, s104, b105⟩ := foc_Mon_outs o95 (k := i) (show i < (a96).length by omega)
    have z106 := szsum_take (xs := a) (k := i) (by omega)
    have z107 := szsum_take_le a (i + 1)
    have z108 := sz_Mon (el a i)
    have e109 : (el a96 i).outs = (el a i).outs := by simp only [e99, e75, e51, e27, hel]
    refine RG.op rfl (S.callX (hd := hdl) (d := 46) o103 (c_laws_markIntS w ((el a96 i).outs) (((q1.1, p94).2 i).outs) F102 (S.ownw o103) (fun b hb => (S.sep b (o103.sub b hb)).1) k88 (by omega) (by rw [e109]; omega)) (by kernel_rfl) rfl ?_)
    clear S; intro ac w N q110 y111 k112 S up o113 c114 x115 b116 b117
    rw [e109] at b117
    obtain ⟨p118, o119⟩ := b105 _ _ _ _ up o113 c114
    clear up o95 o103 s104 b105 o113 c114
    obtain ⟨a120, e121⟩ : ∃ z, z = (a96).set i ({ el a96 i with outs := y111 }) := ⟨_, rfl⟩
    rw [← e121] at o119
    have l122 : a120.length = (a96).length := by rw [e121]; exact List.length_set
    have e123 : el a120 i = { el a96 i with outs := y111 } := by rw [e121]; exact el_set_self (show i < (a96).length by omega)
    have t124 : a120.take i = (a96).take i := by rw [e121]; exact take_set_self
    have d125 : a120.drop (i + 1) = (a96).drop (i + 1) := by rw [e121]; exact drop_set_self
    clear e121
    refine S.quiet (k := 1) (keep := [0, 1, 5]) (m := 0) (σ' := ⟨[(0, .v (slv a.length q1.1)), (1, .v (I k112)), (5, .v (I (i : Int)))], []⟩) .nil (by kernel_rfl) ?_
    clear S; intro ac w β S
    refine RG.done rfl (nx_then ?_)
    refine wp_seq ?_
    refine RG.start ?_
    refine S.quiet (k := 5) (keep := [0, 1, 5, 49, 51]) (m := 0) (σ' := ⟨[(0, .v (slv a.length q1.1)), (1, .v (I k112)), (5, .v (I (i : Int))), (49, .v (I k112)), (51, .v (pt q1.1.b (q1.1.off + i * 9 + 5)))], []⟩) (.cons (Q_idx o119.rn (l := a.length) (k := i) (i := (i : Int)) (by omega) rfl (by omega) Go.Proofs.Try.underlying36 (by kernel_rfl)) .nil) (by kernel_rfl) ?_
    clear S; intro ac w β S
    refine RG.op rfl (S.setEl (α := TMon) o119 (t := 3) (v := I k112) (k := i) (j := 5) (off := q1.1.off + i * 9 + 5) (y := ({ el a120 i with pend := k112 } : TMon)) (q := ((q1.1, p118).2 i)) (Fy := NoB) (by kernel_rfl) (by kernel_rfl) (by omega) (by kernel_rfl) (by kernel_rfl) (Nat.le_of_ble_eq_true (by kernel_rfl)) (by kernel_rfl) (fun G g _ => ⟨G, ows_Mon_pend g (⟨by omega, by omega⟩), fun _ h => .inl h⟩) (fun b _ h => False.elim h) (fun b h => False.elim h) (fun b h => False.elim h) ?_)
    clear S; intro w N F127 q128 S up o126 d129 s130
    have s131 : ∀ b, F127 b → F b := fun b h => (s130 b h).elim (hs b) (fun h => False.elim h)
    clear up d129 o119
    obtain ⟨a132, e133⟩ : ∃ z, z = (a120).set i ({ el a120 i with pend := k112 }) := ⟨_, rfl⟩
    rw [← e133] at o126
    have l134 : a132.length = (a120).length := by rw [e133]; exact List.length_set
    have e135 : el a132 i = { el a120 i with pend := k112 } := by rw [e133]; exact el_set_self (show i < (a120).length by omega)
    have t136 : a132.take i = (a120).take i := by rw [e133]; exact take_set_self
    have d137 : a132.drop (i + 1) = (a120).drop (i + 1) := by rw [e133]; exact drop_set_self
    clear e133
    replace S := S.prune (keep := [0, 1, 5]) (m := 0) (σ' := ⟨[(0, .v (slv a.length q1.1)), (1, .v (I k112)), (5, .v (I (i : Int)))], []⟩) (by kernel_rfl)
    refine RG.done rfl (nx_then ?_)
    refine wp_seq ?_
    refine RG.start ?_
    refine S.quiet (k := 3) (keep := [0, 1, 5]) (m := 0) (σ' := ⟨[(0, .v (slv a.length q1.1)), (1, .v (I (k112 + 1))), (5, .v (I (i : Int)))], []⟩) (.cons (Q_add (x := k112) (y := 1) ⟨by omega, by omega⟩) .nil) (by kernel_rfl) ?_
    clear S; intro ac w β S
    refine RG.done rfl (nx_then ?_)
    refine wp_seq ?_
    refine RG.start ?_
    refine S.quiet (k := 5) (keep := [0, 1, 5, 56, 58]) (m := 0) (σ' := ⟨[(0, .v (slv a.length q1.1)), (1, .v (I (k112 + 1))), (5, .v (I (i : Int))), (56, .v (I (k112 + 1))), (58, .v (pt q1.1.b (q1.1.off + i * 9 + 6)))], []⟩) (.cons (Q_idx o126.rn (l := a.length) (k := i) (i := (i : Int)) (by omega) rfl (by omega) Go.Proofs.Try.underlying36 (by kernel_rfl)) .nil) (by kernel_rfl) ?_
    clear S; intro ac w β S
    refine RG.op rfl (S.setEl (α := TMon) o126 (t := 3) (v := I (k112 + 1)) (k := i) (j := 6) (off := q1.1.off + i * 9 + 6) (y := ({ el a132 i with traps := (k112 + 1) } : TMon)) (q := ((q1.1, q128).2 i)) (Fy := NoB) (by kernel_rfl) (by kernel_rfl) (by omega) (by kernel_rfl) (by kernel_rfl) (Nat.le_of_ble_eq_true (by kernel_rfl)) (by kernel_rfl) (fun G g _ => ⟨G, ows_Mon_traps g (⟨by omega, by omega⟩), fun _ h => .inl h⟩) (fun b _ h => False.elim h) (fun b h => False.elim h) (fun b h => False.elim h) ?_)
    clear S; intro w N F139 q140 S up o138 d141 s142
    have s143 : ∀ b, F139 b → F b := fun b h => (s142 b h).elim (s131 b) (fun h => False.elim h)
    clear up d141 o126
    obtain ⟨a144, e145⟩ : ∃ z, z = (a132).set i ({ el a132 i with traps := (k112 + 1) }) := ⟨_, rfl⟩
    rw [← e145] at o138
    have l146 : a144.length = (a132).length := by rw [e145]; exact List.length_set
    have e147 : el a144 i = { el a132 i with traps := (k112 + 1) } := by rw [e145]; exact el_set_self (show i < (a132).length by omega)
    have t148 : a144.take i = (a132).take i := by rw [e145]; exact take_set_self
    have d149 : a144.drop (i + 1) = (a132).drop (i + 1) := by rw [e145]; exact drop_set_self
    clear e145
    replace S := S.prune (keep := [0, 1, 5]) (m := 0) (σ' := ⟨[(0, .v (slv a.length q1.1)), (1, .v (I (k112 + 1))), (5, .v (I (i : Int)))], []⟩) (by kernel_rfl)
    refine RG.done rfl (nx_then ?_)
    refine wp_seq ?_
    refine RG.start ?_
    refine S.quiet (k := 3) (keep := [0, 1, 5]) (m := 0) (σ' := ⟨[(0, .v (slv a.length q1.1)), (1, .v (I ((k112 + 1) + 1))), (5, .v (I (i : Int)))], []⟩) (.cons (Q_add (x := (k112 + 1)) (y := 1) ⟨by omega, by omega⟩) .nil) (by kernel_rfl) ?_
    clear S; intro ac w β S
    refine RG.done rfl (nx_then ?_)
    refine wp_seq ?_
    refine RG.start ?_
    refine S.quiet (k := 6) (keep := [0, 5, 65, 66]) (m := 0) (σ' := ⟨[(0, .v (slv a.length q1.1)), (5, .v (I (i : Int))), (65, .v (slv ((el a144 i).tables).length (((q1.1, q140).2 i).tables).1)), (66, .v (I ((k112 + 1) + 1)))], []⟩) (.cons (Q_idx o138.rn (l := a.length) (k := i) (i := (i : Int)) (by omega) rfl (by omega) Go.Proofs.Try.underlying36 (by kernel_rfl)) (.cons (Q_cell o138.rn (t := 44) (k := i) (j := 7) (v := slv ((el a144 i).tables).length (((q1.1, q140).2 i).tables).1) (by omega) (by kernel_rfl) (by kernel_rfl)) .nil)) (by kernel_rfl) ?_
    clear S; intro ac w β S
    obtain ⟨F150, o151, s152, b153⟩ := foc_Mon_tables o138 (k := i) (show i < (a144).length by omega)
    have z154 := szsum_take (xs := a) (k := i) (by omega)
    have z155 := szsum_take_le a (i + 1)
    have z156 := sz_Mon (el a i)
    have e157 : (el a144 i).tables = (el a i).tables := by simp only [e147, e135, e123, e99, e75, e51, e27, hel]
    refine RG.op rfl (S.callX (hd := hdl) (d := 67) o151 (c_laws_markKeptS w ((el a144 i).tables) (((q1.1, q140).2 i).tables) F150 (S.ownw o151) (fun b hb => (S.sep b (o151.sub b hb)).1) ((k112 + 1) + 1) (by omega) (by rw [e157]; omega)) (by kernel_rfl) rfl ?_)
    clear S; intro ac w N q158 y159 k160 S up o161 c162 x163 b164 b165
    rw [e157] at b165
    obtain ⟨p166, o167⟩ := b153 _ _ _ _ up o161 c162
    clear up o138 o151 s152 b153 o161 c162
    obtain ⟨a168, e169⟩ : ∃ z, z = (a144).set i ({ el a144 i with tables := y159 }) := ⟨_, rfl⟩
    rw [← e169] at o167
    have l170 : a168.length = (a144).length := by rw [e169]; exact List.length_set
    have e171 : el a168 i = { el a144 i with tables := y159 } := by rw [e169]; exact el_set_self (show i < (a144).length by omega)
    have t172 : a168.take i = (a144).take i := by rw [e169]; exact take_set_self
    have d173 : a168.drop (i + 1) = (a144).drop (i + 1) := by rw [e169]; exact drop_set_self
    clear e169
    refine S.quiet (k := 1) (keep := [0, 1, 5]) (m := 0) (σ' := ⟨[(0, .v (slv a.length q1.1)), (1, .v (I k160)), (5, .v (I (i : Int)))], []⟩) .nil (by kernel_rfl) ?_
    clear S; intro ac w β S
    refine RG.done rfl (nx_then ?_)
    refine wp_seq ?_
    refine RG.start ?_
    refine S.quiet (k := 5) (keep := [0, 1, 5, 70, 72]) (m := 0) (σ' := ⟨[(0, .v (slv a.length q1.1)), (1, .v (I k160)), (5, .v (I (i : Int))), (70, .v (I k160)), (72, .v (pt q1.1.b (q1.1.off + i * 9 + 8)))], []⟩) (.cons (Q_idx o167.rn (l := a.length) (k := i) (i := (i : Int)) (by omega) rfl (by omega) Go.Proofs.Try.underlying36 (by kernel_rfl)) .nil) (by kernel_rfl) ?_
    clear S; intro ac w β S
    refine RG.op rfl (S.setEl (α := TMon) o167 (t := 3) (v := I k160) (k := i) (j := 8) (off := q1.1.off + i * 9 + 8) (y := ({ el a168 i with owned := k160 } : TMon)) (q := ((q1.1, p166).2 i)) (Fy := NoB) (by kernel_rfl) (by kernel_rfl) (by omega) (by kernel_rfl) (by kernel_rfl) (Nat.le_of_ble_eq_true (by kernel_rfl)) (by kernel_rfl) (fun G g _ => ⟨G, ows_Mon_owned g (⟨by omega, by omega⟩), fun _ h => .inl h⟩) (fun b _ h => False.elim h) (fun b h => False.elim h) (fun b h => False.elim h) ?_)
    clear S; intro w N F175 q176 S up o174 d177 s178
    have s179 : ∀ b, F175 b → F b := fun b h => (s178 b h).elim (s143 b) (fun h => False.elim h)
    clear up d177 o167
    obtain ⟨a180, e181⟩ : ∃ z, z = (a168).set i ({ el a168 i with owned := k160 }) := ⟨_, rfl⟩
    rw [← e181] at o174
    have l182 : a180.length = (a168).length := by rw [e181]; exact List.length_set
    have e183 : el a180 i = { el a168 i with owned := k160 } := by rw [e181]; exact el_set_self (show i < (a168).length by omega)
    have t184 : a180.take i = (a168).take i := by rw [e181]; exact take_set_self
    have d185 : a180.drop (i + 1) = (a168).drop (i + 1) := by rw [e181]; exact drop_set_self
    clear e181
    replace S := S.prune (keep := [0, 1, 5]) (m := 0) (σ' := ⟨[(0, .v (slv a.length q1.1)), (1, .v (I k160)), (5, .v (I (i : Int)))], []⟩) (by kernel_rfl)
    refine RG.done rfl (nx_then ?_)
    refine RG.start ?_
    refine S.quiet (k := 3) (keep := [0, 1, 5]) (m := 0) (σ' := ⟨[(0, .v (slv a.length q1.1)), (1, .v (I (k160 + 1))), (5, .v (I (i : Int)))], []⟩) (.cons (Q_add (x := k160) (y := 1) ⟨by omega, by omega⟩) .nil) (by kernel_rfl) ?_
    clear S; intro ac w β S
    refine RG.done rfl (nx_block (nx_then ?_))
    refine RG.start ?_
    refine S.quiet (k := 3) (keep := [0, 1, 5]) (m := 0) (σ' := ⟨[(0, .v (slv a.length q1.1)), (1, .v (I (k160 + 1))), (5, .v (I ((i : Int) + 1)))], []⟩) (.cons (Q_add (x := (i : Int)) (y := 1) ⟨by omega, by omega⟩) .nil) (by kernel_rfl) ?_
    clear S; intro ac w β S
    refine RG.done rfl (nx_then ?_)
    replace S := S.prune (keep := [0, 1, 5]) (m := 0) (σ' := ⟨[(0, .v (slv a.length q1.1)), (1, .v (I (k160 + 1))), (5, .v (I ((i : Int) + 1)))], []⟩) (by kernel_rfl)
    refine ⟨a.length - (i + 1), by omega, i + 1, a180, (k160 + 1), (q1.1, q176), F175, _, _, _, rfl, ?_, ?_, ?_, ?_, ?_, ?_, S.cast (by kernel_rfl), o174, hq, s179⟩
    · clear S; first | omega | (simp [*]; done) | (simp [*]; omega)
    · clear S; omega
    · clear S; refine mk_step (acc := a180) (by omega) (by intro f; rw [t184, t172, t148, t136, t124, t100, t76, t52, t28]; exact hM f) ?_; intro f; simp (disch := first | omega | rfl) only [he_list, he_Mon, e183, e171, e147, e135, e123, e99, e75, e51, e27, x19, x43, x67, x91, x115, x163, hdc_pos, hdi_eq, hdb_eq]
    · clear S; rw [d185, d173, d149, d137, d125, d101, d77, d53, d29]; exact drop_more hD
    · clear S; omega
    · clear S; omega
  · have g186 : ¬ ((i : Int) < (a.length : Int)) := of_decide_eq_false h4
    refine wp_exit (ex_then (ex_then (ex_hit (nx_then ?_))))
    refine wp_seq ?_
    refine RG.start ?_
    refine S.quiet (k := 2) (keep := [4]) (m := 0) (σ' := ⟨[(4, .v (I j))], []⟩) .nil (by kernel_rfl) ?_
    clear S; intro ac w β S
    refine RG.done rfl (nx_then ?_)
    refine wp_ret ?_
    refine S.ret (vs := [I j]) (by kernel_rfl) ?_
    have hyd : hdl acc k = j := by clear S; exact mk_end (by omega) hM
    have hyb : k ≤ j ∧ j ≤ k + 16 * ((SZ.sz a : Nat) : Int) := by clear S; have hs2 := szsum_take_le a i; constructor <;> omega
    exact retX_of S hyd hyb.1 hyb.2 (by show [slv _ _] = [slv _ _]; rw [hl, hq]) o3 hs

set_option maxRecDepth 100000 in
theorem c_laws_markEntryS (w0 : World) (a : List TEntry) (pa : LP TEntry) (F : Bl) (ha : GT.own KK F w0 a pa) (hF : ∀ b, F b → b < w0.heap.size) (k : Int) (pre0 : 0 ≤ k) (pre1 : k + 16 * (SZ.sz a : Int) ≤ 4611686018427387904) : Calls Go.Proofs.Try.prog 62 [slv (a).length pa.1, I k].toArray w0 (RetX hdl F w0 pa a k) := by
  refine Calls.walk (args := [slv (a).length pa.1, I k]) F Go.Proofs.Try.func62 rfl rfl ?_
  intro ac β S
  have oa : Ow w0 F w0 (Lt w0.heap.size) F a pa := ⟨ha, hF, fun b hb => .inr hb⟩
  have hz := szl_TEntry a
  have hlea : a.length ≤ 4194304 := LOwn.le ha
  refine wp_seq ?_
  refine RG.start ?_
  refine S.quiet (k := 1) (keep := [0, 1]) (m := 0) (σ' := ⟨[(0, .v (slv (a).length pa.1)), (1, .v (I k))], []⟩) .nil (by kernel_rfl) ?_
  clear S; intro ac w β S
  refine RG.done rfl (nx_then ?_)
  refine wp_seq ?_
  refine wp_seq ?_
  refine RG.start ?_
  refine S.quiet (k := 1) (keep := [0, 1, 5]) (m := 0) (σ' := ⟨[(0, .v (slv (a).length pa.1)), (1, .v (I k)), (5, .v (I 0))], []⟩) .nil (by kernel_rfl) ?_
  clear S; intro ac w β S
  refine RG.done rfl (nx_then ?_)
  refine wp_block ?_
  replace S := S.prune (keep := [0, 1, 5]) (m := 0) (σ' := ⟨[(0, .v (slv (a).length pa.1)), (1, .v (I k)), (5, .v (I 0))], []⟩) (by kernel_rfl)
  refine wp_loop_down (fun mm ac w => ∃ (i : Nat) (acc : List TEntry) (j : Int) (q1 : GT.Ptr (List TEntry)) (F2 : Bl) (u : World) (N : Bl) (β : Nat → Nat), mm = a.length - i ∧ (i ≤ a.length) ∧ (acc = f_marksEntry i k ++ a.drop i) ∧ (j = k + 4 * (i : Int)) ∧ St Go.Proofs.Try.prog Go.Proofs.Try.f62.ntmps w0 F u N β ⟨[(0, .v (slv a.length q1.1)), (1, .v (I j)), (5, .v (I (i : Int)))], []⟩ ac w ∧ Ow w0 F u N F2 acc q1 ∧ q1.1 = pa.1 ∧ (∀ b, F2 b → F b)) _ ⟨0, a, k, pa, F, _, _, _, rfl, (by first | omega | (simp; done) | (simp; omega)), (by simp [f_marksEntry]), (by simp), S.cast (by kernel_rfl), oa, rfl, (fun _ h => h)⟩ ?_
  clear S oa
  rintro mm ac w ⟨i, acc, j, q1, F2, u, N, β, rfl, hi, hacc, hj, S, o3, hq, hs⟩
  have hlacc : acc.length = a.length := by rw [hacc]; simp [f_marksEntry]; omega
  refine wp_seq ?_
  refine wp_seq ?_
  refine RG.start ?_
  refine S.quiet (k := 4) (keep := [0, 1, 5, 9]) (m := 0) (σ' := ⟨[(0, .v (slv a.length q1.1)), (1, .v (I j)), (5, .v (I (i : Int))), (9, .v (B (decide ((i : Int) < (a.length : Int)))))], []⟩) .nil (by kernel_rfl) ?_
  clear S; intro ac w β S
  refine RG.done rfl (nx_then ?_)
  refine S.cond (e := (decide ((i : Int) < (a.length : Int)))) (by kernel_rfl) (fun h4 => ?_) (fun h4 => ?_)
  · have g5 : (i : Int) < (a.length : Int) := of_decide_eq_true h4
    refine wp_skip (nx_then ?_)
    refine wp_seq ?_
    refine wp_block ?_
    refine wp_seq ?_
    refine RG.start ?_
    refine S.quiet (k := 5) (keep := [0, 1, 5, 14, 16]) (m := 0) (σ' := ⟨[(0, .v (slv a.length q1.1)), (1, .v (I j)), (5, .v (I (i : Int))), (14, .v (I j)), (16, .v (pt q1.1.b (q1.1.off + i * 4)))], []⟩) (.cons (Q_idx o3.rn (l := a.length) (k := i) (i := (i : Int)) (by rw [hacc]; simp [f_marksEntry]; omega) rfl (by omega) Go.Proofs.Try.underlying37 (by kernel_rfl)) .nil) (by kernel_rfl) ?_
    clear S; intro ac w β S
    have e6 : REntry (el acc i) := (LRd.el o3.rn i (by omega))
    refine RG.op rfl (S.setEl (α := TEntry) o3 (t := 3) (v := I j) (k := i) (j := 0) (off := q1.1.off + i * 4) (y := (⟨j, (el acc i).page, (el acc i).host, (el acc i).rights⟩ : TEntry)) (q := ()) (Fy := NoB) (by kernel_rfl) (by kernel_rfl) (by omega) (by kernel_rfl) (by kernel_rfl) (Nat.le_of_ble_eq_true (by kernel_rfl)) (by kernel_rfl) (fun _ _ _ => ⟨NoB, (show REntry (⟨j, (el acc i).page, (el acc i).host, (el acc i).rights⟩ : TEntry) from ⟨(show In64 j from ⟨by omega, by omega⟩), (REntry.page (d := (el acc i)) e6), (REntry.host (d := (el acc i)) e6), (REntry.rights (d := (el acc i)) e6)⟩), fun _ h => False.elim h⟩) (fun b _ h => False.elim h) (fun b h => False.elim h) (fun b h => False.elim h) ?_)
    clear S; intro w N F8 q9 S up o7 d10 s11
    have s12 : ∀ b, F8 b → F b := fun b h => (s11 b h).elim (hs b) (fun h => False.elim h)
    clear up d10 o3
    have l13 : (acc.set i (⟨j, (el acc i).page, (el acc i).host, (el acc i).rights⟩ : TEntry)).length = (acc).length := List.length_set
    replace S := S.prune (keep := [0, 1, 5]) (m := 0) (σ' := ⟨[(0, .v (slv a.length q1.1)), (1, .v (I j)), (5, .v (I (i : Int)))], []⟩) (by kernel_rfl)
    refine RG.done rfl (nx_then ?_)
    refine wp_seq ?_
    refine RG.start ?_
    refine S.quiet (k := 3) (keep := [0, 1, 5]) (m := 0) (σ' := ⟨[(0, .v (slv a.length q1.1)), (1, .v (I (j + 1))), (5, .v (I (i : Int)))], []⟩) (.cons (Q_add (x := j) (y := 1) ⟨by omega, by omega⟩) .nil) (by kernel_rfl) ?_
    clear S; intro ac w β S
    refine RG.done rfl (nx_then ?_)
    refine wp_seq ?_
    refine RG.start ?_
    refine S.quiet (k := 5) (keep := [0, 1, 5, 21, 23]) (m := 0) (σ' := ⟨[(0, .v (slv a.length q1.1)), (1, .v (I (j + 1))), (5, .v (I (i : Int))), (21, .v (I (j + 1))), (23, .v (pt q1.1.b (q1.1.off + i * 4 + 1)))], []⟩) (.cons (Q_idx o7.rn (l := a.length) (k := i) (i := (i : Int)) (by rw [List.length_set]; exact (by rw [hacc]; simp [f_marksEntry]; omega)) rfl (by omega) Go.Proofs.Try.underlying37 (by kernel_rfl)) .nil) (by kernel_rfl) ?_
    clear S; intro ac w β S
    refine RG.op rfl (S.setEl (α := TEntry) o7 (t := 3) (v := I (j + 1)) (k := i) (j := 1) (off := q1.1.off + i * 4 + 1) (y := (⟨j, (j + 1), (el acc i).host, (el acc i).rights⟩ : TEntry)) (q := ()) (Fy := NoB) (by kernel_rfl) (by kernel_rfl) (by omega) (by kernel_rfl) (by kernel_rfl) (Nat.le_of_ble_eq_true (by kernel_rfl)) (by rw [el_set_self (show i < (acc).length by omega)]; kernel_rfl) (fun _ _ _ => ⟨NoB, (show REntry (⟨j, (j + 1), (el acc i).host, (el acc i).rights⟩ : TEntry) from ⟨(show In64 j from ⟨by omega, by omega⟩), (show In64 (j + 1) from ⟨by omega, by omega⟩), (REntry.host (d := (el acc i)) e6), (REntry.rights (d := (el acc i)) e6)⟩), fun _ h => False.elim h⟩) (fun b _ h => False.elim h) (fun b h => False.elim h) (fun b h => False.elim h) ?_)
    clear S; intro w N F15 q16 S up o14 d17 s18
    have s19 : ∀ b, F15 b → F b := fun b h => (s18 b h).elim (s12 b) (fun h => False.elim h)
    clear up d17 o7
    rw [List.set_set] at o14
    have l20 : (acc.set i (⟨j, (j + 1), (el acc i).host, (el acc i).rights⟩ : TEntry)).length = (acc).length := List.length_set
    replace S := S.prune (keep := [0, 1, 5]) (m := 0) (σ' := ⟨[(0, .v (slv a.length q1.1)), (1, .v (I (j + 1))), (5, .v (I (i : Int)))], []⟩) (by kernel_rfl)
    refine RG.done rfl (nx_then ?_)
    refine wp_seq ?_
    refine RG.start ?_
    refine S.quiet (k := 3) (keep := [0, 1, 5]) (m := 0) (σ' := ⟨[(0, .v (slv a.length q1.1)), (1, .v (I ((j + 1) + 1))), (5, .v (I (i : Int)))], []⟩) (.cons (Q_add (x := (j + 1)) (y := 1) ⟨by omega, by omega⟩) .nil) (by kernel_rfl) ?_
    clear S; intro ac w β S
    refine RG.done rfl (nx_then ?_)
    refine wp_seq ?_
    refine RG.start ?_
    refine S.quiet (k := 5) (keep := [0, 1, 5, 28, 30]) (m := 0) (σ' := ⟨[(0, .v (slv a.length q1.1)), (1, .v (I ((j + 1) + 1))), (5, .v (I (i : Int))), (28, .v (I ((j + 1) + 1))), (30, .v (pt q1.1.b (q1.1.off + i * 4 + 2)))], []⟩) (.cons (Q_idx o14.rn (l := a.length) (k := i) (i := (i : Int)) (by rw [List.length_set]; exact (by rw [hacc]; simp [f_marksEntry]; omega)) rfl (by omega) Go.Proofs.Try.underlying37 (by kernel_rfl)) .nil) (by kernel_rfl) ?_
    clear S; intro ac w β S
    refine RG.op rfl (S.setEl (α := TEntry) o14 (t := 3) (v := I ((j + 1) + 1)) (k := i) (j := 2) (off := q1.1.off + i * 4 + 2) (y := (⟨j, (j + 1), ((j + 1) + 1), (el acc i).rights⟩ : TEntry)) (q := ()) (Fy := NoB) (by kernel_rfl) (by kernel_rfl) (by omega) (by kernel_rfl) (by kernel_rfl) (Nat.le_of_ble_eq_true (by kernel_rfl)) (by rw [el_set_self (show i < (acc).length by omega)]; kernel_rfl) (fun _ _ _ => ⟨NoB, (show REntry (⟨j, (j + 1), ((j + 1) + 1), (el acc i).rights⟩ : TEntry) from ⟨(show In64 j from ⟨by omega, by omega⟩), (show In64 (j + 1) from ⟨by omega, by omega⟩), (show In64 ((j + 1) + 1) from ⟨by omega, by omega⟩), (REntry.rights (d := (el acc i)) e6)⟩), fun _ h => False.elim h⟩) (fun b _ h => False.elim h) (fun b h => False.elim h) (fun b h => False.elim h) ?_)
    clear S; intro w N F22 q23 S up o21 d24 s25
    have s26 : ∀ b, F22 b → F b := fun b h => (s25 b h).elim (s19 b) (fun h => False.elim h)
    clear up d24 o14
    rw [List.set_set] at o21
    have l27 : (acc.set i (⟨j, (j + 1), ((j + 1) + 1), (el acc i).rights⟩ : TEntry)).length = (acc).length := List.length_set
    replace S := S.prune (keep := [0, 1, 5]) (m := 0) (σ' := ⟨[(0, .v (slv a.length q1.1)), (1, .v (I ((j + 1) + 1))), (5, .v (I (i : Int)))], []⟩) (by kernel_rfl)
    refine RG.done rfl (nx_then ?_)
    refine wp_seq ?_
    refine RG.start ?_
    refine S.quiet (k := 3) (keep := [0, 1, 5]) (m := 0) (σ' := ⟨[(0, .v (slv a.length q1.1)), (1, .v (I (((j + 1) + 1) + 1))), (5, .v (I (i : Int)))], []⟩) (.cons (Q_add (x := ((j + 1) + 1)) (y := 1) ⟨by omega, by omega⟩) .nil) (by kernel_rfl) ?_
    clear S; intro ac w β S
    refine RG.done rfl (nx_then ?_)
    refine wp_seq ?_
    refine RG.start ?_
    refine S.quiet (k := 5) (keep := [0, 1, 5, 35, 37]) (m := 0) (σ' := ⟨[(0, .v (slv a.length q1.1)), (1, .v (I (((j + 1) + 1) + 1))), (5, .v (I (i : Int))), (35, .v (I (((j + 1) + 1) + 1))), (37, .v (pt q1.1.b (q1.1.off + i * 4 + 3)))], []⟩) (.cons (Q_idx o21.rn (l := a.length) (k := i) (i := (i : Int)) (by rw [List.length_set]; exact (by rw [hacc]; simp [f_marksEntry]; omega)) rfl (by omega) Go.Proofs.Try.underlying37 (by kernel_rfl)) .nil) (by kernel_rfl) ?_
    clear S; intro ac w β S
    refine RG.op rfl (S.setEl (α := TEntry) o21 (t := 3) (v := I (((j + 1) + 1) + 1)) (k := i) (j := 3) (off := q1.1.off + i * 4 + 3) (y := (⟨j, (j + 1), ((j + 1) + 1), (((j + 1) + 1) + 1)⟩ : TEntry)) (q := ()) (Fy := NoB) (by kernel_rfl) (by kernel_rfl) (by omega) (by kernel_rfl) (by kernel_rfl) (Nat.le_of_ble_eq_true (by kernel_rfl)) (by rw [el_set_self (show i < (acc).length by omega)]; kernel_rfl) (fun _ _ _ => ⟨NoB, (show REntry (⟨j, (j + 1), ((j + 1) + 1), (((j + 1) + 1) + 1)⟩ : TEntry) from ⟨(show In64 j from ⟨by omega, by omega⟩), (show In64 (j + 1) from ⟨by omega, by omega⟩), (show In64 ((j + 1) + 1) from ⟨by omega, by omega⟩), (show In64 (((j + 1) + 1) + 1) from ⟨by omega, by omega⟩)⟩), fun _ h => False.elim h⟩) (fun b _ h => False.elim h) (fun b h => False.elim h) (fun b h => False.elim h) ?_)
    clear S; intro w N F29 q30 S up o28 d31 s32
    have s33 : ∀ b, F29 b → F b := fun b h => (s32 b h).elim (s26 b) (fun h => False.elim h)
    clear up d31 o21
    rw [List.set_set] at o28
    have l34 : (acc.set i (⟨j, (j + 1), ((j + 1) + 1), (((j + 1) + 1) + 1)⟩ : TEntry)).length = (acc).length := List.length_set
    replace S := S.prune (keep := [0, 1, 5]) (m := 0) (σ' := ⟨[(0, .v (slv a.length q1.1)), (1, .v (I (((j + 1) + 1) + 1))), (5, .v (I (i : Int)))], []⟩) (by kernel_rfl)
    refine RG.done rfl (nx_then ?_)
    refine RG.start ?_
    refine S.quiet (k := 3) (keep := [0, 1, 5]) (m := 0) (σ' := ⟨[(0, .v (slv a.length q1.1)), (1, .v (I ((((j + 1) + 1) + 1) + 1))), (5, .v (I (i : Int)))], []⟩) (.cons (Q_add (x := (((j + 1) + 1) + 1)) (y := 1) ⟨by omega, by omega⟩) .nil) (by kernel_rfl) ?_
    clear S; intro ac w β S
    refine RG.done rfl (nx_block (nx_then ?_))
    refine RG.start ?_
    refine S.quiet (k := 3) (keep := [0, 1, 5]) (m := 0) (σ' := ⟨[(0, .v (slv a.length q1.1)), (1, .v (I ((((j + 1) + 1) + 1) + 1))), (5, .v (I ((i : Int) + 1)))], []⟩) (.cons (Q_add (x := (i : Int)) (y := 1) ⟨by omega, by omega⟩) .nil) (by kernel_rfl) ?_
    clear S; intro ac w β S
    refine RG.done rfl (nx_then ?_)
    replace S := S.prune (keep := [0, 1, 5]) (m := 0) (σ' := ⟨[(0, .v (slv a.length q1.1)), (1, .v (I ((((j + 1) + 1) + 1) + 1))), (5, .v (I ((i : Int) + 1)))], []⟩) (by kernel_rfl)
    refine ⟨a.length - (i + 1), by omega, i + 1, (acc.set i (⟨j, (j + 1), ((j + 1) + 1), (((j + 1) + 1) + 1)⟩ : TEntry)), ((((j + 1) + 1) + 1) + 1), (q1.1, q30), F29, _, _, _, rfl, ?_, ?_, ?_, S.cast (by kernel_rfl), o28, hq, s33⟩
    · clear S; first | omega | (simp [*]; done) | (simp [*]; omega)
    · clear S; (have hlt : i < acc.length := (by omega)); rw [hacc, ← marksEntry_step (by omega) hj]; (first | rfl | (simp [g_markEntry, Int.add_assoc]; done))
    · clear S; omega
  · have g35 : ¬ ((i : Int) < (a.length : Int)) := of_decide_eq_false h4
    refine wp_exit (ex_then (ex_then (ex_hit (nx_then ?_))))
    refine wp_seq ?_
    refine RG.start ?_
    refine S.quiet (k := 2) (keep := [4]) (m := 0) (σ' := ⟨[(4, .v (I j))], []⟩) .nil (by kernel_rfl) ?_
    clear S; intro ac w β S
    refine RG.done rfl (nx_then ?_)
    refine wp_ret ?_
    refine S.ret (vs := [I j]) (by kernel_rfl) ?_
    have hyd : hdl acc k = j := by clear S; (have e : i = a.length := (by omega)); subst e; rw [hacc, List.drop_length, List.append_nil, hj]; exact hd_marksEntry k (by omega) _ (by omega) id
    have hyb : k ≤ j ∧ j ≤ k + 16 * ((SZ.sz a : Nat) : Int) := by clear S; skip; constructor <;> omega
    exact retX_of S hyd hyb.1 hyb.2 (by show [slv _ _] = [slv _ _]; rw [hlacc, hq]) o3 hs

set_option maxRecDepth 100000 in
theorem c_laws_markHost (w0 : World) (a : THost) (pa : PHost) (F : Bl) (ha : GT.own KK F w0 a pa) (hF : ∀ b, F b → b < w0.heap.size) (k : Int) (pre0 : 0 ≤ k) (pre1 : k + 16 * (SZ.sz a : Int) ≤ 4611686018427387904) : Calls Go.Proofs.Try.prog 15 [GT.val (α := THost) a pa, I k].toArray w0 (RetX hdT_Host F w0 pa a k) := by
  refine Calls.walk (args := [GT.val (α := THost) a pa, I k]) F Go.Proofs.Try.func15 rfl rfl ?_
  intro ac β S
  have oa : Ow w0 F w0 (Lt w0.heap.size) F a pa := ⟨ha, hF, fun b hb => .inr hb⟩
  obtain ⟨F1, F4, F7, F10, o2, o5, o8, o11, s3, s6, s9, s12, d13, d14, d15, d16, d17, d18⟩ := sp_Host oa
  have hz := sz_Host a
  refine wp_seq ?_
  refine RG.start ?_
  refine S.quiet (k := 2) (keep := [1, 2]) (m := 1) (σ' := ⟨[(1, .v (I k)), (2, .p 0 0)], [[slv (a.mem).length pa.mem.1, slv (a.mons).length pa.mons.1, slv (a.buf).length pa.buf.1, slv (a.iobuf).length pa.iobuf.1]]⟩) .nil (by kernel_rfl) ?_
  clear S; intro ac w β S
  refine RG.done rfl (nx_then ?_)
  refine wp_seq ?_
  refine RG.start ?_
  refine S.quiet (k := 3) (keep := [2, 6, 7]) (m := 1) (σ' := ⟨[(2, .p 0 0), (6, .v (slv (a.mem).length pa.mem.1)), (7, .v (I k))], [[slv (a.mem).length pa.mem.1, slv (a.mons).length pa.mons.1, slv (a.buf).length pa.buf.1, slv (a.iobuf).length pa.iobuf.1]]⟩) .nil (by kernel_rfl) ?_
  clear S; intro ac w β S
  refine RG.op rfl (S.callX (hd := hdl) (d := 8) o2 (c_laws_markIntSS w a.mem pa.mem F1 (S.ownw o2) (fun b hb => (S.sep b (o2.sub b hb)).1) k (by omega) (by omega)) (by kernel_rfl) rfl ?_)
  clear S; intro ac w N q19 y20 k21 S up o22 c23 x24 b25 b26
  replace o5 := o5.upF (Disj.symm d13) up
  replace o8 := o8.upF (Disj.symm d14) up
  replace o11 := o11.upF (Disj.symm d15) up
  clear up
  refine S.quiet (k := 1) (keep := [1, 2]) (m := 1) (σ' := ⟨[(1, .v (I k21)), (2, .p 0 0)], [[slv (a.mem).length pa.mem.1, slv (a.mons).length pa.mons.1, slv (a.buf).length pa.buf.1, slv (a.iobuf).length pa.iobuf.1]]⟩) .nil (by kernel_rfl) ?_
  clear S; intro ac w β S
  refine RG.done rfl (nx_then ?_)
  refine wp_seq ?_
  refine RG.start ?_
  refine S.quiet (k := 3) (keep := [2, 10, 11]) (m := 1) (σ' := ⟨[(2, .p 0 0), (10, .v (slv (a.mons).length pa.mons.1)), (11, .v (I k21))], [[slv (a.mem).length pa.mem.1, slv (a.mons).length pa.mons.1, slv (a.buf).length pa.buf.1, slv (a.iobuf).length pa.iobuf.1]]⟩) .nil (by kernel_rfl) ?_
  clear S; intro ac w β S
  refine RG.op rfl (S.callX (hd := hdl) (d := 12) o5 (c_laws_markMonS w a.mons pa.mons F4 (S.ownw o5) (fun b hb => (S.sep b (o5.sub b hb)).1) k21 (by omega) (by omega)) (by kernel_rfl) rfl ?_)
  clear S; intro ac w N q27 y28 k29 S up o30 c31 x32 b33 b34
  replace o8 := o8.upF (Disj.symm d16) up
  replace o11 := o11.upF (Disj.symm d17) up
  replace o22 := o22.upF (Disj.symm (Disj.symm d13)) up
  clear up
  refine S.quiet (k := 1) (keep := [1, 2]) (m := 1) (σ' := ⟨[(1, .v (I k29)), (2, .p 0 0)], [[slv (a.mem).length pa.mem.1, slv (a.mons).length pa.mons.1, slv (a.buf).length pa.buf.1, slv (a.iobuf).length pa.iobuf.1]]⟩) .nil (by kernel_rfl) ?_
  clear S; intro ac w β S
  refine RG.done rfl (nx_then ?_)
  refine wp_seq ?_
  refine RG.start ?_
  refine S.quiet (k := 3) (keep := [2, 14, 15]) (m := 1) (σ' := ⟨[(2, .p 0 0), (14, .v (slv (a.buf).length pa.buf.1)), (15, .v (I k29))], [[slv (a.mem).length pa.mem.1, slv (a.mons).length pa.mons.1, slv (a.buf).length pa.buf.1, slv (a.iobuf).length pa.iobuf.1]]⟩) .nil (by kernel_rfl) ?_
  clear S; intro ac w β S
  refine RG.op rfl (S.callX (hd := hdl) (d := 16) o8 (c_laws_markEntryS w a.buf pa.buf F7 (S.ownw o8) (fun b hb => (S.sep b (o8.sub b hb)).1) k29 (by omega) (by omega)) (by kernel_rfl) rfl ?_)
  clear S; intro ac w N q35 y36 k37 S up o38 c39 x40 b41 b42
  replace o11 := o11.upF (Disj.symm d18) up
  replace o22 := o22.upF (Disj.symm (Disj.symm d14)) up
  replace o30 := o30.upF (Disj.symm (Disj.symm d16)) up
  clear up
  refine S.quiet (k := 1) (keep := [1, 2]) (m := 1) (σ' := ⟨[(1, .v (I k37)), (2, .p 0 0)], [[slv (a.mem).length pa.mem.1, slv (a.mons).length pa.mons.1, slv (a.buf).length pa.buf.1, slv (a.iobuf).length pa.iobuf.1]]⟩) .nil (by kernel_rfl) ?_
  clear S; intro ac w β S
  refine RG.done rfl (nx_then ?_)
  refine wp_seq ?_
  refine RG.start ?_
  refine S.quiet (k := 3) (keep := [18, 19]) (m := 0) (σ' := ⟨[(18, .v (slv (a.iobuf).length pa.iobuf.1)), (19, .v (I k37))], []⟩) .nil (by kernel_rfl) ?_
  clear S; intro ac w β S
  refine RG.op rfl (S.callX (hd := hdl) (d := 20) o11 (c_laws_markEntryS w a.iobuf pa.iobuf F10 (S.ownw o11) (fun b hb => (S.sep b (o11.sub b hb)).1) k37 (by omega) (by omega)) (by kernel_rfl) rfl ?_)
  clear S; intro ac w N q43 y44 k45 S up o46 c47 x48 b49 b50
  replace o22 := o22.upF (Disj.symm (Disj.symm d15)) up
  replace o30 := o30.upF (Disj.symm (Disj.symm d17)) up
  replace o38 := o38.upF (Disj.symm (Disj.symm d18)) up
  clear up
  refine S.quiet (k := 1) (keep := [1]) (m := 0) (σ' := ⟨[(1, .v (I k45))], []⟩) .nil (by kernel_rfl) ?_
  clear S; intro ac w β S
  refine RG.done rfl (nx_then ?_)
  refine wp_seq ?_
  refine RG.start ?_
  refine S.quiet (k := 2) (keep := [4]) (m := 0) (σ' := ⟨[(4, .v (I k45))], []⟩) .nil (by kernel_rfl) ?_
  clear S; intro ac w β S
  refine RG.done rfl (nx_then ?_)
  refine wp_ret ?_
  refine S.ret (vs := [I k45]) (by kernel_rfl) ?_
  have o51 := ow_Host (x := (⟨y20, y28, y36, y44⟩ : THost)) (p := (⟨q19, q27, q35, q43⟩ : PHost)) o22 o30 o38 o46 (Disj.symm (Disj.symm d13)) (Disj.symm (Disj.symm d14)) (Disj.symm (Disj.symm d15)) (Disj.symm (Disj.symm d16)) (Disj.symm (Disj.symm d17)) (Disj.symm (Disj.symm d18)) 
  have hcc := cc_Host (x := (⟨y20, y28, y36, y44⟩ : THost)) (y := a) (p := (⟨q19, q27, q35, q43⟩ : PHost)) (q := pa) c23 c31 c39 c47 
  have hsz := sz_Host a
  have hyd : hdT_Host (⟨y20, y28, y36, y44⟩ : THost) k = k45 := by clear S; simp (disch := omega) only [hdT_Host, x24, x32, x40, x48, hdc_pos]
  have hyb : k ≤ k45 ∧ k45 ≤ k + 16 * ((SZ.sz a : Nat) : Int) := by clear S; constructor <;> omega
  exact retX_of S hyd hyb.1 hyb.2 hcc o51 (uni_all fun G hG => by simp only [List.mem_cons, List.not_mem_nil, or_false] at hG; rcases hG with rfl | rfl | rfl | rfl <;> assumption)

set_option maxRecDepth 100000 in
theorem c_laws_markBareS (w0 : World) (a : List TBare) (pa : LP TBare) (F : Bl) (ha : GT.own KK F w0 a pa) (hF : ∀ b, F b → b < w0.heap.size) (k : Int) (pre0 : 0 ≤ k) (pre1 : k + 16 * (SZ.sz a : Int) ≤ 4611686018427387904) : Calls Go.Proofs.Try.prog 26 [slv (a).length pa.1, I k].toArray w0 (RetX hdl F w0 pa a k) := by
  refine Calls.walk (args := [slv (a).length pa.1, I k]) F Go.Proofs.Try.func26 rfl rfl ?_
  intro ac β S
  have oa : Ow w0 F w0 (Lt w0.heap.size) F a pa := ⟨ha, hF, fun b hb => .inr hb⟩
  have hz := sz_list a
  have hlea : a.length ≤ 4194304 := LOwn.le ha
  refine wp_seq ?_
  refine RG.start ?_
  refine S.quiet (k := 1) (keep := [0, 1]) (m := 0) (σ' := ⟨[(0, .v (slv (a).length pa.1)), (1, .v (I k))], []⟩) .nil (by kernel_rfl) ?_
  clear S; intro ac w β S
  refine RG.done rfl (nx_then ?_)
  refine wp_seq ?_
  refine wp_seq ?_
  refine RG.start ?_
  refine S.quiet (k := 1) (keep := [0, 1, 5]) (m := 0) (σ' := ⟨[(0, .v (slv (a).length pa.1)), (1, .v (I k)), (5, .v (I 0))], []⟩) .nil (by kernel_rfl) ?_
  clear S; intro ac w β S
  refine RG.done rfl (nx_then ?_)
  refine wp_block ?_
  replace S := S.prune (keep := [0, 1, 5]) (m := 0) (σ' := ⟨[(0, .v (slv (a).length pa.1)), (1, .v (I k)), (5, .v (I 0))], []⟩) (by kernel_rfl)
  refine wp_loop_down (fun mm ac w => ∃ (i : Nat) (acc : List TBare) (j : Int) (q1 : GT.Ptr (List TBare)) (F2 : Bl) (u : World) (N : Bl) (β : Nat → Nat), mm = a.length - i ∧ (i ≤ a.length) ∧ (acc.length = a.length) ∧ (∀ f, hdlc (acc.take i) k f = f j) ∧ (acc.drop i = a.drop i) ∧ (k ≤ j) ∧ (j ≤ k + 16 * ((i : Int) + (szsum (a.take i) : Nat))) ∧ St Go.Proofs.Try.prog Go.Proofs.Try.f26.ntmps w0 F u N β ⟨[(0, .v (slv a.length q1.1)), (1, .v (I j)), (5, .v (I (i : Int)))], []⟩ ac w ∧ Ow w0 F u N F2 acc q1 ∧ q1.1 = pa.1 ∧ (∀ b, F2 b → F b)) _ ⟨0, a, k, pa, F, _, _, _, rfl, (by first | omega | (simp; done) | (simp; omega)), (by rfl), (by intro f; rfl), (by rfl), (by first | omega | (simp; done) | (simp; omega)), (by simp [szsum_nil]), S.cast (by kernel_rfl), oa, rfl, (fun _ h => h)⟩ ?_
  clear S oa
  rintro mm ac w ⟨i, acc, j, q1, F2, u, N, β, rfl, hi, hl, hM, hD, hj0, hj1, S, o3, hq, hs⟩
  have hel := el_of_drop hD
  have hsl := szsum_take_le a i
  refine wp_seq ?_
  refine wp_seq ?_
  refine RG.start ?_
  refine S.quiet (k := 4) (keep := [0, 1, 5, 9]) (m := 0) (σ' := ⟨[(0, .v (slv a.length q1.1)), (1, .v (I j)), (5, .v (I (i : Int))), (9, .v (B (decide ((i : Int) < (a.length : Int)))))], []⟩) .nil (by kernel_rfl) ?_
  clear S; intro ac w β S
  refine RG.done rfl (nx_then ?_)
  refine S.cond (e := (decide ((i : Int) < (a.length : Int)))) (by kernel_rfl) (fun h4 => ?_) (fun h4 => ?_)
  · have g5 : (i : Int) < (a.length : Int) := of_decide_eq_true h4
    refine wp_skip (nx_then ?_)
    refine wp_seq ?_
    refine wp_block ?_
    refine wp_seq ?_
    refine RG.start ?_
    refine S.quiet (k := 6) (keep := [0, 5, 16, 17]) (m := 0) (σ' := ⟨[(0, .v (slv a.length q1.1)), (5, .v (I (i : Int))), (16, .v (slv ((el acc i).mem).length ((q1.2 i).mem).1)), (17, .v (I j))], []⟩) (.cons (Q_idx o3.rn (l := a.length) (k := i) (i := (i : Int)) (by omega) rfl (by omega) Go.Proofs.Try.underlying59 (by kernel_rfl)) (.cons (Q_cell o3.rn (t := 22) (k := i) (j := 0) (v := slv ((el acc i).mem).length ((q1.2 i).mem).1) (by omega) (by kernel_rfl) (by kernel_rfl)) .nil)) (by kernel_rfl) ?_
    clear S; intro ac w β S
    obtain ⟨F6, o7, s8, b9⟩ := foc_Bare_mem o3 (k := i) (show i < (acc).length by omega)
    have z10 := szsum_take (xs := a) (k := i) (by omega)
    have z11 := szsum_take_le a (i + 1)
    have z12 := sz_Bare (el a i)
    have e13 : (el acc i).mem = (el a i).mem := by simp only [hel]
    refine RG.op rfl (S.callX (hd := hdl) (d := 18) o7 (c_laws_markIntSS w ((el acc i).mem) ((q1.2 i).mem) F6 (S.ownw o7) (fun b hb => (S.sep b (o7.sub b hb)).1) j (by omega) (by rw [e13]; omega)) (by kernel_rfl) rfl ?_)
    clear S; intro ac w N q14 y15 k16 S up o17 c18 x19 b20 b21
    rw [e13] at b21
    obtain ⟨p22, o23⟩ := b9 _ _ _ _ up o17 c18
    clear up o3 o7 s8 b9 o17 c18
    obtain ⟨a24, e25⟩ : ∃ z, z = (acc).set i ({ el acc i with mem := y15 }) := ⟨_, rfl⟩
    rw [← e25] at o23
    have l26 : a24.length = (acc).length := by rw [e25]; exact List.length_set
    have e27 : el a24 i = { el acc i with mem := y15 } := by rw [e25]; exact el_set_self (show i < (acc).length by omega)
    have t28 : a24.take i = (acc).take i := by rw [e25]; exact take_set_self
    have d29 : a24.drop (i + 1) = (acc).drop (i + 1) := by rw [e25]; exact drop_set_self
    clear e25
    refine S.quiet (k := 1) (keep := [0, 1, 5]) (m := 0) (σ' := ⟨[(0, .v (slv a.length q1.1)), (1, .v (I k16)), (5, .v (I (i : Int)))], []⟩) .nil (by kernel_rfl) ?_
    clear S; intro ac w β S
    refine RG.done rfl (nx_then ?_)
    refine wp_seq ?_
    refine RG.start ?_
    refine S.quiet (k := 6) (keep := [0, 5, 23, 24]) (m := 0) (σ' := ⟨[(0, .v (slv a.length q1.1)), (5, .v (I (i : Int))), (23, .v (slv ((el a24 i).guests).length (((q1.1, p22).2 i).guests).1)), (24, .v (I k16))], []⟩) (.cons (Q_idx o23.rn (l := a.length) (k := i) (i := (i : Int)) (by omega) rfl (by omega) Go.Proofs.Try.underlying59 (by kernel_rfl)) (.cons (Q_cell o23.rn (t := 43) (k := i) (j := 1) (v := slv ((el a24 i).guests).length (((q1.1, p22).2 i).guests).1) (by omega) (by kernel_rfl) (by kernel_rfl)) .nil)) (by kernel_rfl) ?_
    clear S; intro ac w β S
    obtain ⟨F30, o31, s32, b33⟩ := foc_Bare_guests o23 (k := i) (show i < (a24).length by omega)
    have z34 := szsum_take (xs := a) (k := i) (by omega)
    have z35 := szsum_take_le a (i + 1)
    have z36 := sz_Bare (el a i)
    have e37 : (el a24 i).guests = (el a i).guests := by simp only [e27, hel]
    refine RG.op rfl (S.callX (hd := hdl) (d := 25) o31 (c_laws_markGuestS w ((el a24 i).guests) (((q1.1, p22).2 i).guests) F30 (S.ownw o31) (fun b hb => (S.sep b (o31.sub b hb)).1) k16 (by omega) (by rw [e37]; omega)) (by kernel_rfl) rfl ?_)
    clear S; intro ac w N q38 y39 k40 S up o41 c42 x43 b44 b45
    rw [e37] at b45
    obtain ⟨p46, o47⟩ := b33 _ _ _ _ up o41 c42
    clear up o23 o31 s32 b33 o41 c42
    obtain ⟨a48, e49⟩ : ∃ z, z = (a24).set i ({ el a24 i with guests := y39 }) := ⟨_, rfl⟩
    rw [← e49] at o47
    have l50 : a48.length = (a24).length := by rw [e49]; exact List.length_set
    have e51 : el a48 i = { el a24 i with guests := y39 } := by rw [e49]; exact el_set_self (show i < (a24).length by omega)
    have t52 : a48.take i = (a24).take i := by rw [e49]; exact take_set_self
    have d53 : a48.drop (i + 1) = (a24).drop (i + 1) := by rw [e49]; exact drop_set_self
    clear e49
    refine S.quiet (k := 1) (keep := [0, 1, 5]) (m := 0) (σ' := ⟨[(0, .v (slv a.length q1.1)), (1, .v (I k40)), (5, .v (I (i : Int)))], []⟩) .nil (by kernel_rfl) ?_
    clear S; intro ac w β S
    refine RG.done rfl (nx_then ?_)
    refine wp_seq ?_
    refine RG.start ?_
    refine S.quiet (k := 6) (keep := [0, 5, 30, 31]) (m := 0) (σ' := ⟨[(0, .v (slv a.length q1.1)), (5, .v (I (i : Int))), (30, .v (slv ((el a48 i).outs).length (((q1.1, p46).2 i).outs).1)), (31, .v (I k40))], []⟩) (.cons (Q_idx o47.rn (l := a.length) (k := i) (i := (i : Int)) (by omega) rfl (by omega) Go.Proofs.Try.underlying59 (by kernel_rfl)) (.cons (Q_cell o47.rn (t := 30) (k := i) (j := 2) (v := slv ((el a48 i).outs).length (((q1.1, p46).2 i).outs).1) (by omega) (by kernel_rfl) (by kernel_rfl)) .nil)) (by kernel_rfl) ?_
    clear S; intro ac w β S
    obtain ⟨F54, o55, s56, b57⟩ := foc_Bare_outs o47 (k := i) (show i < (a48).length by omega)
    have z58 := szsum_take (xs := a) (k := i) (by omega)
    have z59 := szsum_take_le a (i + 1)
    have z60 := sz_Bare (el a i)
    have e61 : (el a48 i).outs = (el a i).outs := by simp only [e51, e27, hel]
    refine RG.op rfl (S.callX (hd := hdl) (d := 32) o55 (c_laws_markIntS w ((el a48 i).outs) (((q1.1, p46).2 i).outs) F54 (S.ownw o55) (fun b hb => (S.sep b (o55.sub b hb)).1) k40 (by omega) (by rw [e61]; omega)) (by kernel_rfl) rfl ?_)
    clear S; intro ac w N q62 y63 k64 S up o65 c66 x67 b68 b69
    rw [e61] at b69
    obtain ⟨p70, o71⟩ := b57 _ _ _ _ up o65 c66
    clear up o47 o55 s56 b57 o65 c66
    obtain ⟨a72, e73⟩ : ∃ z, z = (a48).set i ({ el a48 i with outs := y63 }) := ⟨_, rfl⟩
    rw [← e73] at o71
    have l74 : a72.length = (a48).length := by rw [e73]; exact List.length_set
    have e75 : el a72 i = { el a48 i with outs := y63 } := by rw [e73]; exact el_set_self (show i < (a48).length by omega)
    have t76 : a72.take i = (a48).take i := by rw [e73]; exact take_set_self
    have d77 : a72.drop (i + 1) = (a48).drop (i + 1) := by rw [e73]; exact drop_set_self
    clear e73
    refine S.quiet (k := 1) (keep := [0, 1, 5]) (m := 0) (σ' := ⟨[(0, .v (slv a.length q1.1)), (1, .v (I k64)), (5, .v (I (i : Int)))], []⟩) .nil (by kernel_rfl) ?_
    clear S; intro ac w β S
    refine RG.done rfl (nx_then ?_)
    refine wp_seq ?_
    refine RG.start ?_
    refine S.quiet (k := 5) (keep := [0, 1, 5, 35, 37]) (m := 0) (σ' := ⟨[(0, .v (slv a.length q1.1)), (1, .v (I k64)), (5, .v (I (i : Int))), (35, .v (I k64)), (37, .v (pt q1.1.b (q1.1.off + i * 4 + 3)))], []⟩) (.cons (Q_idx o71.rn (l := a.length) (k := i) (i := (i : Int)) (by omega) rfl (by omega) Go.Proofs.Try.underlying59 (by kernel_rfl)) .nil) (by kernel_rfl) ?_
    clear S; intro ac w β S
    refine RG.op rfl (S.setEl (α := TBare) o71 (t := 3) (v := I k64) (k := i) (j := 3) (off := q1.1.off + i * 4 + 3) (y := ({ el a72 i with pend := k64 } : TBare)) (q := ((q1.1, p70).2 i)) (Fy := NoB) (by kernel_rfl) (by kernel_rfl) (by omega) (by kernel_rfl) (by kernel_rfl) (Nat.le_of_ble_eq_true (by kernel_rfl)) (by kernel_rfl) (fun G g _ => ⟨G, ows_Bare_pend g (⟨by omega, by omega⟩), fun _ h => .inl h⟩) (fun b _ h => False.elim h) (fun b h => False.elim h) (fun b h => False.elim h) ?_)
    clear S; intro w N F79 q80 S up o78 d81 s82
    have s83 : ∀ b, F79 b → F b := fun b h => (s82 b h).elim (hs b) (fun h => False.elim h)
    clear up d81 o71
    obtain ⟨a84, e85⟩ : ∃ z, z = (a72).set i ({ el a72 i with pend := k64 }) := ⟨_, rfl⟩
    rw [← e85] at o78
    have l86 : a84.length = (a72).length := by rw [e85]; exact List.length_set
    have e87 : el a84 i = { el a72 i with pend := k64 } := by rw [e85]; exact el_set_self (show i < (a72).length by omega)
    have t88 : a84.take i = (a72).take i := by rw [e85]; exact take_set_self
    have d89 : a84.drop (i + 1) = (a72).drop (i + 1) := by rw [e85]; exact drop_set_self
    clear e85
    replace S := S.prune (keep := [0, 1, 5]) (m := 0) (σ' := ⟨[(0, .v (slv a.length q1.1)), (1, .v (I k64)), (5, .v (I (i : Int)))], []⟩) (by kernel_rfl)
    refine RG.done rfl (nx_then ?_)
    refine RG.start ?_
    refine S.quiet (k := 3) (keep := [0, 1, 5]) (m := 0) (σ' := ⟨[(0, .v (slv a.length q1.1)), (1, .v (I (k64 + 1))), (5, .v (I (i : Int)))], []⟩) (.cons (Q_add (x := k64) (y := 1) ⟨by omega, by omega⟩) .nil) (by kernel_rfl) ?_
    clear S; intro ac w β S
    refine RG.done rfl (nx_block (nx_then ?_))
    refine RG.start ?_
    refine S.quiet (k := 3) (keep := [0, 1, 5]) (m := 0) (σ' := ⟨[(0, .v (slv a.length q1.1)), (1, .v (I (k64 + 1))), (5, .v (I ((i : Int) + 1)))], []⟩) (.cons (Q_add (x := (i : Int)) (y := 1) ⟨by omega, by omega⟩) .nil) (by kernel_rfl) ?_
    clear S; intro ac w β S
    refine RG.done rfl (nx_then ?_)
    replace S := S.prune (keep := [0, 1, 5]) (m := 0) (σ' := ⟨[(0, .v (slv a.length q1.1)), (1, .v (I (k64 + 1))), (5, .v (I ((i : Int) + 1)))], []⟩) (by kernel_rfl)
    refine ⟨a.length - (i + 1), by omega, i + 1, a84, (k64 + 1), (q1.1, q80), F79, _, _, _, rfl, ?_, ?_, ?_, ?_, ?_, ?_, S.cast (by kernel_rfl), o78, hq, s83⟩
    · clear S; first | omega | (simp [*]; done) | (simp [*]; omega)
    · clear S; omega
    · clear S; refine mk_step (acc := a84) (by omega) (by intro f; rw [t88, t76, t52, t28]; exact hM f) ?_; intro f; simp (disch := first | omega | rfl) only [he_list, he_Bare, e87, e75, e51, e27, x19, x43, x67, hdc_pos, hdi_eq, hdb_eq]
    · clear S; rw [d89, d77, d53, d29]; exact drop_more hD
    · clear S; omega
    · clear S; omega
  · have g90 : ¬ ((i : Int) < (a.length : Int)) := of_decide_eq_false h4
    refine wp_exit (ex_then (ex_then (ex_hit (nx_then ?_))))
    refine wp_seq ?_
    refine RG.start ?_
    refine S.quiet (k := 2) (keep := [4]) (m := 0) (σ' := ⟨[(4, .v (I j))], []⟩) .nil (by kernel_rfl) ?_
    clear S; intro ac w β S
    refine RG.done rfl (nx_then ?_)
    refine wp_ret ?_
    refine S.ret (vs := [I j]) (by kernel_rfl) ?_
    have hyd : hdl acc k = j := by clear S; exact mk_end (by omega) hM
    have hyb : k ≤ j ∧ j ≤ k + 16 * ((SZ.sz a : Nat) : Int) := by clear S; have hs2 := szsum_take_le a i; constructor <;> omega
    exact retX_of S hyd hyb.1 hyb.2 (by show [slv _ _] = [slv _ _]; rw [hl, hq]) o3 hs

set_option maxRecDepth 100000 in
theorem c_laws_heldIntS (w0 : World) (a : List Int) (pa : LP Int) (ha : GT.rd KK (Lt w0.heap.size) w0 a pa) (k : Int) : Calls Go.Proofs.Try.prog 76 [slv (a).length pa.1, I k].toArray w0 (fun e w' => e = .returned (I (hdl a k)) ∧ Chg NoB w0 w') := by
  refine Calls.walk (args := [slv (a).length pa.1, I k]) NoB Go.Proofs.Try.func76 rfl rfl ?_
  intro ac β S
  have hlea : a.length ≤ 4194304 := LRd.le ha
  refine wp_seq ?_
  refine RG.start ?_
  refine S.quiet (k := 1) (keep := [0, 1]) (m := 0) (σ' := ⟨[(0, .v (slv (a).length pa.1)), (1, .v (I k))], []⟩) .nil (by kernel_rfl) ?_
  clear S; intro ac w β S
  refine RG.done rfl (nx_then ?_)
  refine wp_seq ?_
  refine wp_seq ?_
  refine RG.start ?_
  refine S.quiet (k := 1) (keep := [0, 1, 5]) (m := 0) (σ' := ⟨[(0, .v (slv (a).length pa.1)), (1, .v (I k)), (5, .v (I 0))], []⟩) .nil (by kernel_rfl) ?_
  clear S; intro ac w β S
  refine RG.done rfl (nx_then ?_)
  refine wp_block ?_
  replace S := S.prune (keep := [0, 1, 5]) (m := 0) (σ' := ⟨[(0, .v (slv (a).length pa.1)), (1, .v (I k)), (5, .v (I 0))], []⟩) (by kernel_rfl)
  refine wp_loop_down (fun mm ac w => ∃ (i : Nat) (j : Int)  (u : World) (N : Bl) (β : Nat → Nat), mm = a.length - i ∧ (i ≤ a.length) ∧ (hdl a k = hdlc (a.drop i) j id) ∧ St Go.Proofs.Try.prog Go.Proofs.Try.f76.ntmps w0 NoB u N β ⟨[(0, .v (slv (a).length pa.1)), (1, .v (I j)), (5, .v (I (i : Int)))], []⟩ ac w) _ ⟨0, k, _, _, _, rfl, (by first | omega | (simp; done) | (simp; omega)), (by rfl), S.cast (by kernel_rfl)⟩ ?_
  clear S
  rintro mm ac w ⟨i, j, u, N, β, rfl, hi, hr, S⟩
  refine wp_seq ?_
  refine wp_seq ?_
  refine RG.start ?_
  refine S.quiet (k := 4) (keep := [0, 1, 5, 9]) (m := 0) (σ' := ⟨[(0, .v (slv (a).length pa.1)), (1, .v (I j)), (5, .v (I (i : Int))), (9, .v (B (decide ((i : Int) < ((a).length : Int)))))], []⟩) .nil (by kernel_rfl) ?_
  clear S; intro ac w β S
  refine RG.done rfl (nx_then ?_)
  refine S.cond (e := (decide ((i : Int) < ((a).length : Int)))) (by kernel_rfl) (fun h1 => ?_) (fun h1 => ?_)
  · have g2 : (i : Int) < ((a).length : Int) := of_decide_eq_true h1
    refine wp_skip (nx_then ?_)
    refine wp_seq ?_
    refine wp_block ?_
    refine wp_seq ?_
    refine wp_seq ?_
    refine RG.start ?_
    refine S.quiet (k := 6) (keep := [0, 1, 5, 17]) (m := 0) (σ' := ⟨[(0, .v (slv (a).length pa.1)), (1, .v (I j)), (5, .v (I (i : Int))), (17, .v (B ((el a i) != j)))], []⟩) (.cons (Q_idx (S.arg ha) (l := (a).length) (k := i) (i := (i : Int)) rfl rfl (by omega) Go.Proofs.Try.underlying30 (by kernel_rfl)) (.cons (Q_el1 (S.arg ha) (t := 3) (k := i) (by omega) rfl (by kernel_rfl)) .nil)) (by kernel_rfl) ?_
    clear S; intro ac w β S
    refine RG.done rfl (nx_then ?_)
    refine S.cond (e := ((el a i) != j)) (by kernel_rfl) (fun h3 => ?_) (fun h3 => ?_)
    · have g4 : ¬ ((el a i) = j) := bne_iff_ne.1 h3
      refine wp_seq ?_
      refine RG.start ?_
      refine S.quiet (k := 1) (keep := [4]) (m := 0) (σ' := ⟨[(4, .v (I (-1)))], []⟩) .nil (by kernel_rfl) ?_
      clear S; intro ac w β S
      refine RG.done rfl (nx_then ?_)
      refine wp_ret (rt_then (rt_block (rt_then (rt_then (rt_block (rt_then ?_))))))
      refine S.ret (vs := [I (-1)]) (by kernel_rfl) ?_
      exact ⟨retI (show (-1) = hdl a k by clear S; (first | (rw [hr, hd_end (by omega)]; done) | (rw [hr, hd_step (by omega)]; simp [he_Int, hdi, hdb, hdc, *]; done) | (rw [hr, hd_step (by omega)]; simp_all [he_Int, hdi, hdb, hdc]; done))), S.chg⟩
    · have g5 : (el a i) = j := ne_f h3
      refine wp_skip (nx_then ?_)
      refine RG.start ?_
      refine S.quiet (k := 3) (keep := [0, 1, 5]) (m := 0) (σ' := ⟨[(0, .v (slv (a).length pa.1)), (1, .v (I (IntKind.i64.wrap (j + 1)))), (5, .v (I (i : Int)))], []⟩) (.cons (Q_addw (x := j) (y := 1)) .nil) (by kernel_rfl) ?_
      clear S; intro ac w β S
      refine RG.done rfl (nx_block (nx_then ?_))
      refine RG.start ?_
      refine S.quiet (k := 3) (keep := [0, 1, 5]) (m := 0) (σ' := ⟨[(0, .v (slv (a).length pa.1)), (1, .v (I (IntKind.i64.wrap (j + 1)))), (5, .v (I ((i : Int) + 1)))], []⟩) (.cons (Q_add (x := (i : Int)) (y := 1) ⟨by omega, by omega⟩) .nil) (by kernel_rfl) ?_
      clear S; intro ac w β S
      refine RG.done rfl (nx_then ?_)
      replace S := S.prune (keep := [0, 1, 5]) (m := 0) (σ' := ⟨[(0, .v (slv (a).length pa.1)), (1, .v (I (IntKind.i64.wrap (j + 1)))), (5, .v (I ((i : Int) + 1)))], []⟩) (by kernel_rfl)
      refine ⟨a.length - (i + 1), by omega, i + 1, (IntKind.i64.wrap (j + 1)), _, _, _, rfl, ?_, ?_, S.cast (by kernel_rfl)⟩
      · clear S; first | omega | (simp [*]; done) | (simp [*]; omega)
      · clear S; (rw [hr, hd_step (by omega)]; simp [he_Int, hdi, hdb, hdc, *])
  · have g6 : ¬ ((i : Int) < ((a).length : Int)) := of_decide_eq_false h1
    refine wp_exit (ex_then (ex_then (ex_hit (nx_then ?_))))
    refine wp_seq ?_
    refine RG.start ?_
    refine S.quiet (k := 2) (keep := [4]) (m := 0) (σ' := ⟨[(4, .v (I j))], []⟩) .nil (by kernel_rfl) ?_
    clear S; intro ac w β S
    refine RG.done rfl (nx_then ?_)
    refine wp_ret ?_
    refine S.ret (vs := [I j]) (by kernel_rfl) ?_
    exact ⟨retI (show j = hdl a k by clear S; (first | (rw [hr, hd_end (by omega)]; done) | (rw [hr, hd_step (by omega)]; simp [he_Int, hdi, hdb, hdc, *]; done) | (rw [hr, hd_step (by omega)]; simp_all [he_Int, hdi, hdb, hdc]; done))), S.chg⟩

set_option maxRecDepth 100000 in
theorem c_laws_heldIntSS (w0 : World) (a : List (List Int)) (pa : LP (List Int)) (ha : GT.rd KK (Lt w0.heap.size) w0 a pa) (k : Int) : Calls Go.Proofs.Try.prog 68 [slv (a).length pa.1, I k].toArray w0 (fun e w' => e = .returned (I (hdl a k)) ∧ Chg NoB w0 w') := by
  refine Calls.walk (args := [slv (a).length pa.1, I k]) NoB Go.Proofs.Try.func68 rfl rfl ?_
  intro ac β S
  have hlea : a.length ≤ 4194304 := LRd.le ha
  refine wp_seq ?_
  refine RG.start ?_
  refine S.quiet (k := 1) (keep := [0, 1]) (m := 0) (σ' := ⟨[(0, .v (slv (a).length pa.1)), (1, .v (I k))], []⟩) .nil (by kernel_rfl) ?_
  clear S; intro ac w β S
  refine RG.done rfl (nx_then ?_)
  refine wp_seq ?_
  refine wp_seq ?_
  refine RG.start ?_
  refine S.quiet (k := 1) (keep := [0, 1, 5]) (m := 0) (σ' := ⟨[(0, .v (slv (a).length pa.1)), (1, .v (I k)), (5, .v (I 0))], []⟩) .nil (by kernel_rfl) ?_
  clear S; intro ac w β S
  refine RG.done rfl (nx_then ?_)
  refine wp_block ?_
  replace S := S.prune (keep := [0, 1, 5]) (m := 0) (σ' := ⟨[(0, .v (slv (a).length pa.1)), (1, .v (I k)), (5, .v (I 0))], []⟩) (by kernel_rfl)
  refine wp_loop_down (fun mm ac w => ∃ (i : Nat) (j : Int)  (u : World) (N : Bl) (β : Nat → Nat), mm = a.length - i ∧ (i ≤ a.length) ∧ (hdl a k = hdlc (a.drop i) j id) ∧ St Go.Proofs.Try.prog Go.Proofs.Try.f68.ntmps w0 NoB u N β ⟨[(0, .v (slv (a).length pa.1)), (1, .v (I j)), (5, .v (I (i : Int)))], []⟩ ac w) _ ⟨0, k, _, _, _, rfl, (by first | omega | (simp; done) | (simp; omega)), (by rfl), S.cast (by kernel_rfl)⟩ ?_
  clear S
  rintro mm ac w ⟨i, j, u, N, β, rfl, hi, hr, S⟩
  refine wp_seq ?_
  refine wp_seq ?_
  refine RG.start ?_
  refine S.quiet (k := 4) (keep := [0, 1, 5, 9]) (m := 0) (σ' := ⟨[(0, .v (slv (a).length pa.1)), (1, .v (I j)), (5, .v (I (i : Int))), (9, .v (B (decide ((i : Int) < ((a).length : Int)))))], []⟩) .nil (by kernel_rfl) ?_
  clear S; intro ac w β S
  refine RG.done rfl (nx_then ?_)
  refine S.cond (e := (decide ((i : Int) < ((a).length : Int)))) (by kernel_rfl) (fun h1 => ?_) (fun h1 => ?_)
  · have g2 : (i : Int) < ((a).length : Int) := of_decide_eq_true h1
    refine wp_skip (nx_then ?_)
    refine wp_seq ?_
    refine wp_block ?_
    refine wp_seq ?_
    refine RG.start ?_
    refine S.quiet (k := 7) (keep := [0, 1, 5]) (m := 0) (σ' := ⟨[(0, .v (slv (a).length pa.1)), (1, .v (I (hdl (el a i) j))), (5, .v (I (i : Int)))], []⟩) (.cons (Q_idx (S.arg ha) (l := (a).length) (k := i) (i := (i : Int)) rfl rfl (by omega) Go.Proofs.Try.underlying22 (by kernel_rfl)) (.cons (Q_el1 (S.arg ha) (t := 30) (k := i) (by omega) rfl (by kernel_rfl)) (.cons (Q_call fun w hw => c_laws_heldIntS w (el a i) (pa.2 i) (rd_of (LRd.el (S.arg ha) i (by omega)) hw) j) .nil))) (by kernel_rfl) ?_
    clear S; intro ac w β S
    refine RG.done rfl (nx_then ?_)
    refine wp_seq ?_
    refine RG.start ?_
    refine S.quiet (k := 2) (keep := [0, 1, 5, 19]) (m := 0) (σ' := ⟨[(0, .v (slv (a).length pa.1)), (1, .v (I (hdl (el a i) j))), (5, .v (I (i : Int))), (19, .v (B (decide ((hdl (el a i) j) < 0))))], []⟩) .nil (by kernel_rfl) ?_
    clear S; intro ac w β S
    refine RG.done rfl (nx_then ?_)
    refine S.cond (e := (decide ((hdl (el a i) j) < 0))) (by kernel_rfl) (fun h3 => ?_) (fun h3 => ?_)
    · have g4 : (hdl (el a i) j) < 0 := of_decide_eq_true h3
      refine wp_seq ?_
      refine RG.start ?_
      refine S.quiet (k := 1) (keep := [4]) (m := 0) (σ' := ⟨[(4, .v (I (-1)))], []⟩) .nil (by kernel_rfl) ?_
      clear S; intro ac w β S
      refine RG.done rfl (nx_then ?_)
      refine wp_ret (rt_block (rt_then (rt_then (rt_block (rt_then ?_)))))
      refine S.ret (vs := [I (-1)]) (by kernel_rfl) ?_
      exact ⟨retI (show (-1) = hdl a k by clear S; (first | (rw [hr, hd_end (by omega)]; done) | (rw [hr, hd_step (by omega)]; simp [he_list, hdi, hdb, hdc, *]; done) | (rw [hr, hd_step (by omega)]; simp_all [he_list, hdi, hdb, hdc]; done))), S.chg⟩
    · have g5 : ¬ ((hdl (el a i) j) < 0) := of_decide_eq_false h3
      refine wp_skip (nx_block (nx_then ?_))
      refine RG.start ?_
      refine S.quiet (k := 3) (keep := [0, 1, 5]) (m := 0) (σ' := ⟨[(0, .v (slv (a).length pa.1)), (1, .v (I (hdl (el a i) j))), (5, .v (I ((i : Int) + 1)))], []⟩) (.cons (Q_add (x := (i : Int)) (y := 1) ⟨by omega, by omega⟩) .nil) (by kernel_rfl) ?_
      clear S; intro ac w β S
      refine RG.done rfl (nx_then ?_)
      replace S := S.prune (keep := [0, 1, 5]) (m := 0) (σ' := ⟨[(0, .v (slv (a).length pa.1)), (1, .v (I (hdl (el a i) j))), (5, .v (I ((i : Int) + 1)))], []⟩) (by kernel_rfl)
      refine ⟨a.length - (i + 1), by omega, i + 1, (hdl (el a i) j), _, _, _, rfl, ?_, ?_, S.cast (by kernel_rfl)⟩
      · clear S; first | omega | (simp [*]; done) | (simp [*]; omega)
      · clear S; (rw [hr, hd_step (by omega)]; simp [he_list, hdi, hdb, hdc, *])
  · have g6 : ¬ ((i : Int) < ((a).length : Int)) := of_decide_eq_false h1
    refine wp_exit (ex_then (ex_then (ex_hit (nx_then ?_))))
    refine wp_seq ?_
    refine RG.start ?_
    refine S.quiet (k := 2) (keep := [4]) (m := 0) (σ' := ⟨[(4, .v (I j))], []⟩) .nil (by kernel_rfl) ?_
    clear S; intro ac w β S
    refine RG.done rfl (nx_then ?_)
    refine wp_ret ?_
    refine S.ret (vs := [I j]) (by kernel_rfl) ?_
    exact ⟨retI (show j = hdl a k by clear S; (first | (rw [hr, hd_end (by omega)]; done) | (rw [hr, hd_step (by omega)]; simp [he_list, hdi, hdb, hdc, *]; done) | (rw [hr, hd_step (by omega)]; simp_all [he_list, hdi, hdb, hdc]; done))), S.chg⟩

set_option maxRecDepth 100000 in
theorem c_laws_heldInsS (w0 : World) (a : List TIns) (pa : LP TIns) (ha : GT.rd KK (Lt w0.heap.size) w0 a pa) (k : Int) : Calls Go.Proofs.Try.prog 105 [slv (a).length pa.1, I k].toArray w0 (fun e w' => e = .returned (I (hdl a k)) ∧ Chg NoB w0 w') := by
  refine Calls.walk (args := [slv (a).length pa.1, I k]) NoB Go.Proofs.Try.func105 rfl rfl ?_
  intro ac β S
  have hlea : a.length ≤ 4194304 := LRd.le ha
  refine wp_seq ?_
  refine RG.start ?_
  refine S.quiet (k := 1) (keep := [0, 1]) (m := 0) (σ' := ⟨[(0, .v (slv (a).length pa.1)), (1, .v (I k))], []⟩) .nil (by kernel_rfl) ?_
  clear S; intro ac w β S
  refine RG.done rfl (nx_then ?_)
  refine wp_seq ?_
  refine wp_seq ?_
  refine RG.start ?_
  refine S.quiet (k := 1) (keep := [0, 1, 5]) (m := 0) (σ' := ⟨[(0, .v (slv (a).length pa.1)), (1, .v (I k)), (5, .v (I 0))], []⟩) .nil (by kernel_rfl) ?_
  clear S; intro ac w β S
  refine RG.done rfl (nx_then ?_)
  refine wp_block ?_
  replace S := S.prune (keep := [0, 1, 5]) (m := 0) (σ' := ⟨[(0, .v (slv (a).length pa.1)), (1, .v (I k)), (5, .v (I 0))], []⟩) (by kernel_rfl)
  refine wp_loop_down (fun mm ac w => ∃ (i : Nat) (j : Int)  (u : World) (N : Bl) (β : Nat → Nat), mm = a.length - i ∧ (i ≤ a.length) ∧ (hdl a k = hdlc (a.drop i) j id) ∧ St Go.Proofs.Try.prog Go.Proofs.Try.f105.ntmps w0 NoB u N β ⟨[(0, .v (slv (a).length pa.1)), (1, .v (I j)), (5, .v (I (i : Int)))], []⟩ ac w) _ ⟨0, k, _, _, _, rfl, (by first | omega | (simp; done) | (simp; omega)), (by rfl), S.cast (by kernel_rfl)⟩ ?_
  clear S
  rintro mm ac w ⟨i, j, u, N, β, rfl, hi, hr, S⟩
  refine wp_seq ?_
  refine wp_seq ?_
  refine RG.start ?_
  refine S.quiet (k := 4) (keep := [0, 1, 5, 9]) (m := 0) (σ' := ⟨[(0, .v (slv (a).length pa.1)), (1, .v (I j)), (5, .v (I (i : Int))), (9, .v (B (decide ((i : Int) < ((a).length : Int)))))], []⟩) .nil (by kernel_rfl) ?_
  clear S; intro ac w β S
  refine RG.done rfl (nx_then ?_)
  refine S.cond (e := (decide ((i : Int) < ((a).length : Int)))) (by kernel_rfl) (fun h1 => ?_) (fun h1 => ?_)
  · have g2 : (i : Int) < ((a).length : Int) := of_decide_eq_true h1
    refine wp_skip (nx_then ?_)
    refine wp_seq ?_
    refine wp_block ?_
    refine wp_seq ?_
    refine wp_seq ?_
    refine RG.start ?_
    refine S.quiet (k := 7) (keep := [0, 1, 5, 18]) (m := 0) (σ' := ⟨[(0, .v (slv (a).length pa.1)), (1, .v (I j)), (5, .v (I (i : Int))), (18, .v (B ((el a i).opc != j)))], []⟩) (.cons (Q_idx (S.arg ha) (l := (a).length) (k := i) (i := (i : Int)) rfl rfl (by omega) Go.Proofs.Try.underlying123 (by kernel_rfl)) (.cons (Q_cell (S.arg ha) (t := 3) (k := i) (j := 0) (v := I ((el a i).opc)) (by omega) (by kernel_rfl) (by kernel_rfl)) .nil)) (by kernel_rfl) ?_
    clear S; intro ac w β S
    refine RG.done rfl (nx_then ?_)
    refine S.cond (e := ((el a i).opc != j)) (by kernel_rfl) (fun h3 => ?_) (fun h3 => ?_)
    · have g4 : ¬ ((el a i).opc = j) := bne_iff_ne.1 h3
      refine wp_seq ?_
      refine RG.start ?_
      refine S.quiet (k := 1) (keep := [4]) (m := 0) (σ' := ⟨[(4, .v (I (-1)))], []⟩) .nil (by kernel_rfl) ?_
      clear S; intro ac w β S
      refine RG.done rfl (nx_then ?_)
      refine wp_ret (rt_then (rt_block (rt_then (rt_then (rt_block (rt_then ?_))))))
      refine S.ret (vs := [I (-1)]) (by kernel_rfl) ?_
      exact ⟨retI (show (-1) = hdl a k by clear S; (first | (rw [hr, hd_end (by omega)]; done) | (rw [hr, hd_step (by omega)]; simp [he_Ins, hdi, hdb, hdc, *]; done) | (rw [hr, hd_step (by omega)]; simp_all [he_Ins, hdi, hdb, hdc]; done))), S.chg⟩
    · have g5 : (el a i).opc = j := ne_f h3
      refine wp_skip (nx_then ?_)
      refine wp_seq ?_
      refine RG.start ?_
      refine S.quiet (k := 3) (keep := [0, 1, 5]) (m := 0) (σ' := ⟨[(0, .v (slv (a).length pa.1)), (1, .v (I (IntKind.i64.wrap (j + 1)))), (5, .v (I (i : Int)))], []⟩) (.cons (Q_addw (x := j) (y := 1)) .nil) (by kernel_rfl) ?_
      clear S; intro ac w β S
      refine RG.done rfl (nx_then ?_)
      refine wp_seq ?_
      refine wp_seq ?_
      refine RG.start ?_
      refine S.quiet (k := 7) (keep := [0, 1, 5, 27]) (m := 0) (σ' := ⟨[(0, .v (slv (a).length pa.1)), (1, .v (I (IntKind.i64.wrap (j + 1)))), (5, .v (I (i : Int))), (27, .v (B ((el a i).x != (IntKind.i64.wrap (j + 1)))))], []⟩) (.cons (Q_idx (S.arg ha) (l := (a).length) (k := i) (i := (i : Int)) rfl rfl (by omega) Go.Proofs.Try.underlying123 (by kernel_rfl)) (.cons (Q_cell (S.arg ha) (t := 3) (k := i) (j := 1) (v := I ((el a i).x)) (by omega) (by kernel_rfl) (by kernel_rfl)) .nil)) (by kernel_rfl) ?_
      clear S; intro ac w β S
      refine RG.done rfl (nx_then ?_)
      refine S.cond (e := ((el a i).x != (IntKind.i64.wrap (j + 1)))) (by kernel_rfl) (fun h6 => ?_) (fun h6 => ?_)
      · have g7 : ¬ ((el a i).x = (IntKind.i64.wrap (j + 1))) := bne_iff_ne.1 h6
        refine wp_seq ?_
        refine RG.start ?_
        refine S.quiet (k := 1) (keep := [4]) (m := 0) (σ' := ⟨[(4, .v (I (-1)))], []⟩) .nil (by kernel_rfl) ?_
        clear S; intro ac w β S
        refine RG.done rfl (nx_then ?_)
        refine wp_ret (rt_then (rt_block (rt_then (rt_then (rt_block (rt_then ?_))))))
        refine S.ret (vs := [I (-1)]) (by kernel_rfl) ?_
        exact ⟨retI (show (-1) = hdl a k by clear S; (first | (rw [hr, hd_end (by omega)]; done) | (rw [hr, hd_step (by omega)]; simp [he_Ins, hdi, hdb, hdc, *]; done) | (rw [hr, hd_step (by omega)]; simp_all [he_Ins, hdi, hdb, hdc]; done))), S.chg⟩
      · have g8 : (el a i).x = (IntKind.i64.wrap (j + 1)) := ne_f h6
        refine wp_skip (nx_then ?_)
        refine RG.start ?_
        refine S.quiet (k := 3) (keep := [0, 1, 5]) (m := 0) (σ' := ⟨[(0, .v (slv (a).length pa.1)), (1, .v (I (IntKind.i64.wrap ((IntKind.i64.wrap (j + 1)) + 1)))), (5, .v (I (i : Int)))], []⟩) (.cons (Q_addw (x := (IntKind.i64.wrap (j + 1))) (y := 1)) .nil) (by kernel_rfl) ?_
        clear S; intro ac w β S
        refine RG.done rfl (nx_block (nx_then ?_))
        refine RG.start ?_
        refine S.quiet (k := 3) (keep := [0, 1, 5]) (m := 0) (σ' := ⟨[(0, .v (slv (a).length pa.1)), (1, .v (I (IntKind.i64.wrap ((IntKind.i64.wrap (j + 1)) + 1)))), (5, .v (I ((i : Int) + 1)))], []⟩) (.cons (Q_add (x := (i : Int)) (y := 1) ⟨by omega, by omega⟩) .nil) (by kernel_rfl) ?_
        clear S; intro ac w β S
        refine RG.done rfl (nx_then ?_)
        replace S := S.prune (keep := [0, 1, 5]) (m := 0) (σ' := ⟨[(0, .v (slv (a).length pa.1)), (1, .v (I (IntKind.i64.wrap ((IntKind.i64.wrap (j + 1)) + 1)))), (5, .v (I ((i : Int) + 1)))], []⟩) (by kernel_rfl)
        refine ⟨a.length - (i + 1), by omega, i + 1, (IntKind.i64.wrap ((IntKind.i64.wrap (j + 1)) + 1)), _, _, _, rfl, ?_, ?_, S.cast (by kernel_rfl)⟩
        · clear S; first | omega | (simp [*]; done) | (simp [*]; omega)
        · clear S; (rw [hr, hd_step (by omega)]; simp [he_Ins, hdi, hdb, hdc, *])
  · have g9 : ¬ ((i : Int) < ((a).length : Int)) := of_decide_eq_false h1
    refine wp_exit (ex_then (ex_then (ex_hit (nx_then ?_))))
    refine wp_seq ?_
    refine RG.start ?_
    refine S.quiet (k := 2) (keep := [4]) (m := 0) (σ' := ⟨[(4, .v (I j))], []⟩) .nil (by kernel_rfl) ?_
    clear S; intro ac w β S
    refine RG.done rfl (nx_then ?_)
    refine wp_ret ?_
    refine S.ret (vs := [I j]) (by kernel_rfl) ?_
    exact ⟨retI (show j = hdl a k by clear S; (first | (rw [hr, hd_end (by omega)]; done) | (rw [hr, hd_step (by omega)]; simp [he_Ins, hdi, hdb, hdc, *]; done) | (rw [hr, hd_step (by omega)]; simp_all [he_Ins, hdi, hdb, hdc]; done))), S.chg⟩

set_option maxRecDepth 100000 in
theorem c_laws_heldSlotS (w0 : World) (a : List TSlot) (pa : LP TSlot) (ha : GT.rd KK (Lt w0.heap.size) w0 a pa) (k : Int) : Calls Go.Proofs.Try.prog 98 [slv (a).length pa.1, I k].toArray w0 (fun e w' => e = .returned (I (hdl a k)) ∧ Chg NoB w0 w') := by
  refine Calls.walk (args := [slv (a).length pa.1, I k]) NoB Go.Proofs.Try.func98 rfl rfl ?_
  intro ac β S
  have hlea : a.length ≤ 4194304 := LRd.le ha
  refine wp_seq ?_
  refine RG.start ?_
  refine S.quiet (k := 1) (keep := [0, 1]) (m := 0) (σ' := ⟨[(0, .v (slv (a).length pa.1)), (1, .v (I k))], []⟩) .nil (by kernel_rfl) ?_
  clear S; intro ac w β S
  refine RG.done rfl (nx_then ?_)
  refine wp_seq ?_
  refine wp_seq ?_
  refine RG.start ?_
  refine S.quiet (k := 1) (keep := [0, 1, 5]) (m := 0) (σ' := ⟨[(0, .v (slv (a).length pa.1)), (1, .v (I k)), (5, .v (I 0))], []⟩) .nil (by kernel_rfl) ?_
  clear S; intro ac w β S
  refine RG.done rfl (nx_then ?_)
  refine wp_block ?_
  replace S := S.prune (keep := [0, 1, 5]) (m := 0) (σ' := ⟨[(0, .v (slv (a).length pa.1)), (1, .v (I k)), (5, .v (I 0))], []⟩) (by kernel_rfl)
  refine wp_loop_down (fun mm ac w => ∃ (i : Nat) (j : Int)  (u : World) (N : Bl) (β : Nat → Nat), mm = a.length - i ∧ (i ≤ a.length) ∧ (hdl a k = hdlc (a.drop i) j id) ∧ St Go.Proofs.Try.prog Go.Proofs.Try.f98.ntmps w0 NoB u N β ⟨[(0, .v (slv (a).length pa.1)), (1, .v (I j)), (5, .v (I (i : Int)))], []⟩ ac w) _ ⟨0, k, _, _, _, rfl, (by first | omega | (simp; done) | (simp; omega)), (by rfl), S.cast (by kernel_rfl)⟩ ?_
  clear S
  rintro mm ac w ⟨i, j, u, N, β, rfl, hi, hr, S⟩
  refine wp_seq ?_
  refine wp_seq ?_
  refine RG.start ?_
  refine S.quiet (k := 4) (keep := [0, 1, 5, 9]) (m := 0) (σ' := ⟨[(0, .v (slv (a).length pa.1)), (1, .v (I j)), (5, .v (I (i : Int))), (9, .v (B (decide ((i : Int) < ((a).length : Int)))))], []⟩) .nil (by kernel_rfl) ?_
  clear S; intro ac w β S
  refine RG.done rfl (nx_then ?_)
  refine S.cond (e := (decide ((i : Int) < ((a).length : Int)))) (by kernel_rfl) (fun h1 => ?_) (fun h1 => ?_)
  · have g2 : (i : Int) < ((a).length : Int) := of_decide_eq_true h1
    refine wp_skip (nx_then ?_)
    refine wp_seq ?_
    refine wp_block ?_
    refine wp_seq ?_
    refine wp_seq ?_
    refine RG.start ?_
    refine S.quiet (k := 7) (keep := [0, 1, 5, 18]) (m := 0) (σ' := ⟨[(0, .v (slv (a).length pa.1)), (1, .v (I j)), (5, .v (I (i : Int))), (18, .v (B ((el a i).page != j)))], []⟩) (.cons (Q_idx (S.arg ha) (l := (a).length) (k := i) (i := (i : Int)) rfl rfl (by omega) Go.Proofs.Try.underlying42 (by kernel_rfl)) (.cons (Q_cell (S.arg ha) (t := 3) (k := i) (j := 0) (v := I ((el a i).page)) (by omega) (by kernel_rfl) (by kernel_rfl)) .nil)) (by kernel_rfl) ?_
    clear S; intro ac w β S
    refine RG.done rfl (nx_then ?_)
    refine S.cond (e := ((el a i).page != j)) (by kernel_rfl) (fun h3 => ?_) (fun h3 => ?_)
    · have g4 : ¬ ((el a i).page = j) := bne_iff_ne.1 h3
      refine wp_seq ?_
      refine RG.start ?_
      refine S.quiet (k := 1) (keep := [4]) (m := 0) (σ' := ⟨[(4, .v (I (-1)))], []⟩) .nil (by kernel_rfl) ?_
      clear S; intro ac w β S
      refine RG.done rfl (nx_then ?_)
      refine wp_ret (rt_then (rt_block (rt_then (rt_then (rt_block (rt_then ?_))))))
      refine S.ret (vs := [I (-1)]) (by kernel_rfl) ?_
      exact ⟨retI (show (-1) = hdl a k by clear S; (first | (rw [hr, hd_end (by omega)]; done) | (rw [hr, hd_step (by omega)]; simp [he_Slot, hdi, hdb, hdc, *]; done) | (rw [hr, hd_step (by omega)]; simp_all [he_Slot, hdi, hdb, hdc]; done))), S.chg⟩
    · have g5 : (el a i).page = j := ne_f h3
      refine wp_skip (nx_then ?_)
      refine wp_seq ?_
      refine RG.start ?_
      refine S.quiet (k := 3) (keep := [0, 1, 5]) (m := 0) (σ' := ⟨[(0, .v (slv (a).length pa.1)), (1, .v (I (IntKind.i64.wrap (j + 1)))), (5, .v (I (i : Int)))], []⟩) (.cons (Q_addw (x := j) (y := 1)) .nil) (by kernel_rfl) ?_
      clear S; intro ac w β S
      refine RG.done rfl (nx_then ?_)
      refine wp_seq ?_
      refine wp_seq ?_
      refine RG.start ?_
      refine S.quiet (k := 7) (keep := [0, 1, 5, 27]) (m := 0) (σ' := ⟨[(0, .v (slv (a).length pa.1)), (1, .v (I (IntKind.i64.wrap (j + 1)))), (5, .v (I (i : Int))), (27, .v (B ((el a i).rights != (IntKind.i64.wrap (j + 1)))))], []⟩) (.cons (Q_idx (S.arg ha) (l := (a).length) (k := i) (i := (i : Int)) rfl rfl (by omega) Go.Proofs.Try.underlying42 (by kernel_rfl)) (.cons (Q_cell (S.arg ha) (t := 3) (k := i) (j := 1) (v := I ((el a i).rights)) (by omega) (by kernel_rfl) (by kernel_rfl)) .nil)) (by kernel_rfl) ?_
      clear S; intro ac w β S
      refine RG.done rfl (nx_then ?_)
      refine S.cond (e := ((el a i).rights != (IntKind.i64.wrap (j + 1)))) (by kernel_rfl) (fun h6 => ?_) (fun h6 => ?_)
      · have g7 : ¬ ((el a i).rights = (IntKind.i64.wrap (j + 1))) := bne_iff_ne.1 h6
        refine wp_seq ?_
        refine RG.start ?_
        refine S.quiet (k := 1) (keep := [4]) (m := 0) (σ' := ⟨[(4, .v (I (-1)))], []⟩) .nil (by kernel_rfl) ?_
        clear S; intro ac w β S
        refine RG.done rfl (nx_then ?_)
        refine wp_ret (rt_then (rt_block (rt_then (rt_then (rt_block (rt_then ?_))))))
        refine S.ret (vs := [I (-1)]) (by kernel_rfl) ?_
        exact ⟨retI (show (-1) = hdl a k by clear S; (first | (rw [hr, hd_end (by omega)]; done) | (rw [hr, hd_step (by omega)]; simp [he_Slot, hdi, hdb, hdc, *]; done) | (rw [hr, hd_step (by omega)]; simp_all [he_Slot, hdi, hdb, hdc]; done))), S.chg⟩
      · have g8 : (el a i).rights = (IntKind.i64.wrap (j + 1)) := ne_f h6
        refine wp_skip (nx_then ?_)
        refine RG.start ?_
        refine S.quiet (k := 3) (keep := [0, 1, 5]) (m := 0) (σ' := ⟨[(0, .v (slv (a).length pa.1)), (1, .v (I (IntKind.i64.wrap ((IntKind.i64.wrap (j + 1)) + 1)))), (5, .v (I (i : Int)))], []⟩) (.cons (Q_addw (x := (IntKind.i64.wrap (j + 1))) (y := 1)) .nil) (by kernel_rfl) ?_
        clear S; intro ac w β S
        refine RG.done rfl (nx_block (nx_then ?_))
        refine RG.start ?_
        refine S.quiet (k := 3) (keep := [0, 1, 5]) (m := 0) (σ' := ⟨[(0, .v (slv (a).length pa.1)), (1, .v (I (IntKind.i64.wrap ((IntKind.i64.wrap (j + 1)) + 1)))), (5, .v (I ((i : Int) + 1)))], []⟩) (.cons (Q_add (x := (i : Int)) (y := 1) ⟨by omega, by omega⟩) .nil) (by kernel_rfl) ?_
        clear S; intro ac w β S
        refine RG.done rfl (nx_then ?_)
        replace S := S.prune (keep := [0, 1, 5]) (m := 0) (σ' := ⟨[(0, .v (slv (a).length pa.1)), (1, .v (I (IntKind.i64.wrap ((IntKind.i64.wrap (j + 1)) + 1)))), (5, .v (I ((i : Int) + 1)))], []⟩) (by kernel_rfl)
        refine ⟨a.length - (i + 1), by omega, i + 1, (IntKind.i64.wrap ((IntKind.i64.wrap (j + 1)) + 1)), _, _, _, rfl, ?_, ?_, S.cast (by kernel_rfl)⟩
        · clear S; first | omega | (simp [*]; done) | (simp [*]; omega)
        · clear S; (rw [hr, hd_step (by omega)]; simp [he_Slot, hdi, hdb, hdc, *])
  · have g9 : ¬ ((i : Int) < ((a).length : Int)) := of_decide_eq_false h1
    refine wp_exit (ex_then (ex_then (ex_hit (nx_then ?_))))
    refine wp_seq ?_
    refine RG.start ?_
    refine S.quiet (k := 2) (keep := [4]) (m := 0) (σ' := ⟨[(4, .v (I j))], []⟩) .nil (by kernel_rfl) ?_
    clear S; intro ac w β S
    refine RG.done rfl (nx_then ?_)
    refine wp_ret ?_
    refine S.ret (vs := [I j]) (by kernel_rfl) ?_
    exact ⟨retI (show j = hdl a k by clear S; (first | (rw [hr, hd_end (by omega)]; done) | (rw [hr, hd_step (by omega)]; simp [he_Slot, hdi, hdb, hdc, *]; done) | (rw [hr, hd_step (by omega)]; simp_all [he_Slot, hdi, hdb, hdc]; done))), S.chg⟩

set_option maxRecDepth 100000 in
theorem c_laws_heldGuestS (w0 : World) (a : List TGuest) (pa : LP TGuest) (ha : GT.rd KK (Lt w0.heap.size) w0 a pa) (k : Int) : Calls Go.Proofs.Try.prog 75 [slv (a).length pa.1, I k].toArray w0 (fun e w' => e = .returned (I (hdl a k)) ∧ Chg NoB w0 w') := by
  refine Calls.walk (args := [slv (a).length pa.1, I k]) NoB Go.Proofs.Try.func75 rfl rfl ?_
  intro ac β S
  have hlea : a.length ≤ 4194304 := LRd.le ha
  refine wp_seq ?_
  refine RG.start ?_
  refine S.quiet (k := 1) (keep := [0, 1]) (m := 0) (σ' := ⟨[(0, .v (slv (a).length pa.1)), (1, .v (I k))], []⟩) .nil (by kernel_rfl) ?_
  clear S; intro ac w β S
  refine RG.done rfl (nx_then ?_)
  refine wp_seq ?_
  refine wp_seq ?_
  refine RG.start ?_
  refine S.quiet (k := 1) (keep := [0, 1, 5]) (m := 0) (σ' := ⟨[(0, .v (slv (a).length pa.1)), (1, .v (I k)), (5, .v (I 0))], []⟩) .nil (by kernel_rfl) ?_
  clear S; intro ac w β S
  refine RG.done rfl (nx_then ?_)
  refine wp_block ?_
  replace S := S.prune (keep := [0, 1, 5]) (m := 0) (σ' := ⟨[(0, .v (slv (a).length pa.1)), (1, .v (I k)), (5, .v (I 0))], []⟩) (by kernel_rfl)
  refine wp_loop_down (fun mm ac w => ∃ (i : Nat) (j : Int)  (u : World) (N : Bl) (β : Nat → Nat), mm = a.length - i ∧ (i ≤ a.length) ∧ (hdl a k = hdlc (a.drop i) j id) ∧ St Go.Proofs.Try.prog Go.Proofs.Try.f75.ntmps w0 NoB u N β ⟨[(0, .v (slv (a).length pa.1)), (1, .v (I j)), (5, .v (I (i : Int)))], []⟩ ac w) _ ⟨0, k, _, _, _, rfl, (by first | omega | (simp; done) | (simp; omega)), (by rfl), S.cast (by kernel_rfl)⟩ ?_
  clear S
  rintro mm ac w ⟨i, j, u, N, β, rfl, hi, hr, S⟩
  refine wp_seq ?_
  refine wp_seq ?_
  refine RG.start ?_
  refine S.quiet (k := 4) (keep := [0, 1, 5, 9]) (m := 0) (σ' := ⟨[(0, .v (slv (a).length pa.1)), (1, .v (I j)), (5, .v (I (i : Int))), (9, .v (B (decide ((i : Int) < ((a).length : Int)))))], []⟩) .nil (by kernel_rfl) ?_
  clear S; intro ac w β S
  refine RG.done rfl (nx_then ?_)
  refine S.cond (e := (decide ((i : Int) < ((a).length : Int)))) (by kernel_rfl) (fun h1 => ?_) (fun h1 => ?_)
  · have g2 : (i : Int) < ((a).length : Int) := of_decide_eq_true h1
    refine wp_skip (nx_then ?_)
    refine wp_seq ?_
    refine wp_block ?_
    refine wp_seq ?_
    refine RG.start ?_
    refine S.quiet (k := 8) (keep := [0, 1, 5]) (m := 0) (σ' := ⟨[(0, .v (slv (a).length pa.1)), (1, .v (I (hdl ((el a i).prog) j))), (5, .v (I (i : Int)))], []⟩) (.cons (Q_idx (S.arg ha) (l := (a).length) (k := i) (i := (i : Int)) rfl rfl (by omega) Go.Proofs.Try.underlying43 (by kernel_rfl)) (.cons (Q_cell (S.arg ha) (t := 123) (k := i) (j := 0) (v := slv ((el a i).prog).length ((pa.2 i).prog).1) (by omega) (by kernel_rfl) (by kernel_rfl)) (.cons (Q_call fun w hw => c_laws_heldInsS w ((el a i).prog) ((pa.2 i).prog) (rd_of (RGuest.prog (d := (el a i)) (LRd.el (S.arg ha) i (by omega))) hw) j) .nil))) (by kernel_rfl) ?_
    clear S; intro ac w β S
    refine RG.done rfl (nx_then ?_)
    refine wp_seq ?_
    refine wp_seq ?_
    refine RG.start ?_
    refine S.quiet (k := 2) (keep := [0, 1, 5, 20]) (m := 0) (σ' := ⟨[(0, .v (slv (a).length pa.1)), (1, .v (I (hdl ((el a i).prog) j))), (5, .v (I (i : Int))), (20, .v (B (decide ((hdl ((el a i).prog) j) < 0))))], []⟩) .nil (by kernel_rfl) ?_
    clear S; intro ac w β S
    refine RG.done rfl (nx_then ?_)
    refine S.cond (e := (decide ((hdl ((el a i).prog) j) < 0))) (by kernel_rfl) (fun h3 => ?_) (fun h3 => ?_)
    · have g4 : (hdl ((el a i).prog) j) < 0 := of_decide_eq_true h3
      refine wp_seq ?_
      refine RG.start ?_
      refine S.quiet (k := 1) (keep := [4]) (m := 0) (σ' := ⟨[(4, .v (I (-1)))], []⟩) .nil (by kernel_rfl) ?_
      clear S; intro ac w β S
      refine RG.done rfl (nx_then ?_)
      refine wp_ret (rt_then (rt_block (rt_then (rt_then (rt_block (rt_then ?_))))))
      refine S.ret (vs := [I (-1)]) (by kernel_rfl) ?_
      exact ⟨retI (show (-1) = hdl a k by clear S; (first | (rw [hr, hd_end (by omega)]; done) | (rw [hr, hd_step (by omega)]; simp [he_Guest, hdi, hdb, hdc, *]; done) | (rw [hr, hd_step (by omega)]; simp_all [he_Guest, hdi, hdb, hdc]; done))), S.chg⟩
    · have g5 : ¬ ((hdl ((el a i).prog) j) < 0) := of_decide_eq_false h3
      refine wp_skip (nx_then ?_)
      refine wp_seq ?_
      refine wp_seq ?_
      refine RG.start ?_
      refine S.quiet (k := 7) (keep := [0, 1, 5, 27]) (m := 0) (σ' := ⟨[(0, .v (slv (a).length pa.1)), (1, .v (I (hdl ((el a i).prog) j))), (5, .v (I (i : Int))), (27, .v (B ((el a i).acc != (hdl ((el a i).prog) j))))], []⟩) (.cons (Q_idx (S.arg ha) (l := (a).length) (k := i) (i := (i : Int)) rfl rfl (by omega) Go.Proofs.Try.underlying43 (by kernel_rfl)) (.cons (Q_cell (S.arg ha) (t := 3) (k := i) (j := 1) (v := I ((el a i).acc)) (by omega) (by kernel_rfl) (by kernel_rfl)) .nil)) (by kernel_rfl) ?_
      clear S; intro ac w β S
      refine RG.done rfl (nx_then ?_)
      refine S.cond (e := ((el a i).acc != (hdl ((el a i).prog) j))) (by kernel_rfl) (fun h6 => ?_) (fun h6 => ?_)
      · have g7 : ¬ ((el a i).acc = (hdl ((el a i).prog) j)) := bne_iff_ne.1 h6
        refine wp_seq ?_
        refine RG.start ?_
        refine S.quiet (k := 1) (keep := [4]) (m := 0) (σ' := ⟨[(4, .v (I (-1)))], []⟩) .nil (by kernel_rfl) ?_
        clear S; intro ac w β S
        refine RG.done rfl (nx_then ?_)
        refine wp_ret (rt_then (rt_block (rt_then (rt_then (rt_block (rt_then ?_))))))
        refine S.ret (vs := [I (-1)]) (by kernel_rfl) ?_
        exact ⟨retI (show (-1) = hdl a k by clear S; (first | (rw [hr, hd_end (by omega)]; done) | (rw [hr, hd_step (by omega)]; simp [he_Guest, hdi, hdb, hdc, *]; done) | (rw [hr, hd_step (by omega)]; simp_all [he_Guest, hdi, hdb, hdc]; done))), S.chg⟩
      · have g8 : (el a i).acc = (hdl ((el a i).prog) j) := ne_f h6
        refine wp_skip (nx_then ?_)
        refine wp_seq ?_
        refine RG.start ?_
        refine S.quiet (k := 3) (keep := [0, 1, 5]) (m := 0) (σ' := ⟨[(0, .v (slv (a).length pa.1)), (1, .v (I (IntKind.i64.wrap ((hdl ((el a i).prog) j) + 1)))), (5, .v (I (i : Int)))], []⟩) (.cons (Q_addw (x := (hdl ((el a i).prog) j)) (y := 1)) .nil) (by kernel_rfl) ?_
        clear S; intro ac w β S
        refine RG.done rfl (nx_then ?_)
        refine wp_seq ?_
        refine wp_seq ?_
        refine RG.start ?_
        refine S.quiet (k := 7) (keep := [0, 1, 5, 36]) (m := 0) (σ' := ⟨[(0, .v (slv (a).length pa.1)), (1, .v (I (IntKind.i64.wrap ((hdl ((el a i).prog) j) + 1)))), (5, .v (I (i : Int))), (36, .v (B ((el a i).pc != (IntKind.i64.wrap ((hdl ((el a i).prog) j) + 1)))))], []⟩) (.cons (Q_idx (S.arg ha) (l := (a).length) (k := i) (i := (i : Int)) rfl rfl (by omega) Go.Proofs.Try.underlying43 (by kernel_rfl)) (.cons (Q_cell (S.arg ha) (t := 3) (k := i) (j := 2) (v := I ((el a i).pc)) (by omega) (by kernel_rfl) (by kernel_rfl)) .nil)) (by kernel_rfl) ?_
        clear S; intro ac w β S
        refine RG.done rfl (nx_then ?_)
        refine S.cond (e := ((el a i).pc != (IntKind.i64.wrap ((hdl ((el a i).prog) j) + 1)))) (by kernel_rfl) (fun h9 => ?_) (fun h9 => ?_)
        · have g10 : ¬ ((el a i).pc = (IntKind.i64.wrap ((hdl ((el a i).prog) j) + 1))) := bne_iff_ne.1 h9
          refine wp_seq ?_
          refine RG.start ?_
          refine S.quiet (k := 1) (keep := [4]) (m := 0) (σ' := ⟨[(4, .v (I (-1)))], []⟩) .nil (by kernel_rfl) ?_
          clear S; intro ac w β S
          refine RG.done rfl (nx_then ?_)
          refine wp_ret (rt_then (rt_block (rt_then (rt_then (rt_block (rt_then ?_))))))
          refine S.ret (vs := [I (-1)]) (by kernel_rfl) ?_
          exact ⟨retI (show (-1) = hdl a k by clear S; (first | (rw [hr, hd_end (by omega)]; done) | (rw [hr, hd_step (by omega)]; simp [he_Guest, hdi, hdb, hdc, *]; done) | (rw [hr, hd_step (by omega)]; simp_all [he_Guest, hdi, hdb, hdc]; done))), S.chg⟩
        · have g11 : (el a i).pc = (IntKind.i64.wrap ((hdl ((el a i).prog) j) + 1)) := ne_f h9
          refine wp_skip (nx_then ?_)
          refine wp_seq ?_
          refine RG.start ?_
          refine S.quiet (k := 3) (keep := [0, 1, 5]) (m := 0) (σ' := ⟨[(0, .v (slv (a).length pa.1)), (1, .v (I (IntKind.i64.wrap ((IntKind.i64.wrap ((hdl ((el a i).prog) j) + 1)) + 1)))), (5, .v (I (i : Int)))], []⟩) (.cons (Q_addw (x := (IntKind.i64.wrap ((hdl ((el a i).prog) j) + 1))) (y := 1)) .nil) (by kernel_rfl) ?_
          clear S; intro ac w β S
          refine RG.done rfl (nx_then ?_)
          refine wp_seq ?_
          refine RG.start ?_
          refine S.quiet (k := 8) (keep := [0, 1, 5]) (m := 0) (σ' := ⟨[(0, .v (slv (a).length pa.1)), (1, .v (I (hdl ((el a i).written) (IntKind.i64.wrap ((IntKind.i64.wrap ((hdl ((el a i).prog) j) + 1)) + 1))))), (5, .v (I (i : Int)))], []⟩) (.cons (Q_idx (S.arg ha) (l := (a).length) (k := i) (i := (i : Int)) rfl rfl (by omega) Go.Proofs.Try.underlying43 (by kernel_rfl)) (.cons (Q_cell (S.arg ha) (t := 42) (k := i) (j := 3) (v := slv ((el a i).written).length ((pa.2 i).written).1) (by omega) (by kernel_rfl) (by kernel_rfl)) (.cons (Q_call fun w hw => c_laws_heldSlotS w ((el a i).written) ((pa.2 i).written) (rd_of (RGuest.written (d := (el a i)) (LRd.el (S.arg ha) i (by omega))) hw) (IntKind.i64.wrap ((IntKind.i64.wrap ((hdl ((el a i).prog) j) + 1)) + 1))) .nil))) (by kernel_rfl) ?_
          clear S; intro ac w β S
          refine RG.done rfl (nx_then ?_)
          refine wp_seq ?_
          refine wp_seq ?_
          refine RG.start ?_
          refine S.quiet (k := 2) (keep := [0, 1, 5, 47]) (m := 0) (σ' := ⟨[(0, .v (slv (a).length pa.1)), (1, .v (I (hdl ((el a i).written) (IntKind.i64.wrap ((IntKind.i64.wrap ((hdl ((el a i).prog) j) + 1)) + 1))))), (5, .v (I (i : Int))), (47, .v (B (decide ((hdl ((el a i).written) (IntKind.i64.wrap ((IntKind.i64.wrap ((hdl ((el a i).prog) j) + 1)) + 1))) < 0))))], []⟩) .nil (by kernel_rfl) ?_
          clear S; intro ac w β S
          refine RG.done rfl (nx_then ?_)
          refine S.cond (e := (decide ((hdl ((el a i).written) (IntKind.i64.wrap ((IntKind.i64.wrap ((hdl ((el a i).prog) j) + 1)) + 1))) < 0))) (by kernel_rfl) (fun h12 => ?_) (fun h12 => ?_)
          · have g13 : (hdl ((el a i).written) (IntKind.i64.wrap ((IntKind.i64.wrap ((hdl ((el a i).prog) j) + 1)) + 1))) < 0 := of_decide_eq_true h12
            refine wp_seq ?_
            refine RG.start ?_
            refine S.quiet (k := 1) (keep := [4]) (m := 0) (σ' := ⟨[(4, .v (I (-1)))], []⟩) .nil (by kernel_rfl) ?_
            clear S; intro ac w β S
            refine RG.done rfl (nx_then ?_)
            refine wp_ret (rt_then (rt_block (rt_then (rt_then (rt_block (rt_then ?_))))))
            refine S.ret (vs := [I (-1)]) (by kernel_rfl) ?_
            exact ⟨retI (show (-1) = hdl a k by clear S; (first | (rw [hr, hd_end (by omega)]; done) | (rw [hr, hd_step (by omega)]; simp [he_Guest, hdi, hdb, hdc, *]; done) | (rw [hr, hd_step (by omega)]; simp_all [he_Guest, hdi, hdb, hdc]; done))), S.chg⟩
          · have g14 : ¬ ((hdl ((el a i).written) (IntKind.i64.wrap ((IntKind.i64.wrap ((hdl ((el a i).prog) j) + 1)) + 1))) < 0) := of_decide_eq_false h12
            refine wp_skip (nx_then ?_)
            refine wp_seq ?_
            refine RG.start ?_
            refine S.quiet (k := 8) (keep := [0, 1, 5]) (m := 0) (σ' := ⟨[(0, .v (slv (a).length pa.1)), (1, .v (I (hdl ((el a i).live) (hdl ((el a i).written) (IntKind.i64.wrap ((IntKind.i64.wrap ((hdl ((el a i).prog) j) + 1)) + 1)))))), (5, .v (I (i : Int)))], []⟩) (.cons (Q_idx (S.arg ha) (l := (a).length) (k := i) (i := (i : Int)) rfl rfl (by omega) Go.Proofs.Try.underlying43 (by kernel_rfl)) (.cons (Q_cell (S.arg ha) (t := 42) (k := i) (j := 4) (v := slv ((el a i).live).length ((pa.2 i).live).1) (by omega) (by kernel_rfl) (by kernel_rfl)) (.cons (Q_call fun w hw => c_laws_heldSlotS w ((el a i).live) ((pa.2 i).live) (rd_of (RGuest.live (d := (el a i)) (LRd.el (S.arg ha) i (by omega))) hw) (hdl ((el a i).written) (IntKind.i64.wrap ((IntKind.i64.wrap ((hdl ((el a i).prog) j) + 1)) + 1)))) .nil))) (by kernel_rfl) ?_
            clear S; intro ac w β S
            refine RG.done rfl (nx_then ?_)
            refine wp_seq ?_
            refine wp_seq ?_
            refine RG.start ?_
            refine S.quiet (k := 2) (keep := [0, 1, 5, 56]) (m := 0) (σ' := ⟨[(0, .v (slv (a).length pa.1)), (1, .v (I (hdl ((el a i).live) (hdl ((el a i).written) (IntKind.i64.wrap ((IntKind.i64.wrap ((hdl ((el a i).prog) j) + 1)) + 1)))))), (5, .v (I (i : Int))), (56, .v (B (decide ((hdl ((el a i).live) (hdl ((el a i).written) (IntKind.i64.wrap ((IntKind.i64.wrap ((hdl ((el a i).prog) j) + 1)) + 1)))) < 0))))], []⟩) .nil (by kernel_rfl) ?_
            clear S; intro ac w β S
            refine RG.done rfl (nx_then ?_)
            refine S.cond (e := (decide ((hdl ((el a i).live) (hdl ((el a i).written) (IntKind.i64.wrap ((IntKind.i64.wrap ((hdl ((el a i).prog) j) + 1)) + 1)))) < 0))) (by kernel_rfl) (fun h15 => ?_) (fun h15 => ?_)
            · have g16 : (hdl ((el a i).live) (hdl ((el a i).written) (IntKind.i64.wrap ((IntKind.i64.wrap ((hdl ((el a i).prog) j) + 1)) + 1)))) < 0 := of_decide_eq_true h15
              refine wp_seq ?_
              refine RG.start ?_
              refine S.quiet (k := 1) (keep := [4]) (m := 0) (σ' := ⟨[(4, .v (I (-1)))], []⟩) .nil (by kernel_rfl) ?_
              clear S; intro ac w β S
              refine RG.done rfl (nx_then ?_)
              refine wp_ret (rt_then (rt_block (rt_then (rt_then (rt_block (rt_then ?_))))))
              refine S.ret (vs := [I (-1)]) (by kernel_rfl) ?_
              exact ⟨retI (show (-1) = hdl a k by clear S; (first | (rw [hr, hd_end (by omega)]; done) | (rw [hr, hd_step (by omega)]; simp [he_Guest, hdi, hdb, hdc, *]; done) | (rw [hr, hd_step (by omega)]; simp_all [he_Guest, hdi, hdb, hdc]; done))), S.chg⟩
            · have g17 : ¬ ((hdl ((el a i).live) (hdl ((el a i).written) (IntKind.i64.wrap ((IntKind.i64.wrap ((hdl ((el a i).prog) j) + 1)) + 1)))) < 0) := of_decide_eq_false h15
              refine wp_skip (nx_then ?_)
              refine wp_seq ?_
              refine wp_seq ?_
              refine RG.start ?_
              refine S.quiet (k := 8) (keep := [0, 1, 5, 64]) (m := 0) (σ' := ⟨[(0, .v (slv (a).length pa.1)), (1, .v (I (hdl ((el a i).live) (hdl ((el a i).written) (IntKind.i64.wrap ((IntKind.i64.wrap ((hdl ((el a i).prog) j) + 1)) + 1)))))), (5, .v (I (i : Int))), (64, .v (B (((el a i).ctl).traps != (hdl ((el a i).live) (hdl ((el a i).written) (IntKind.i64.wrap ((IntKind.i64.wrap ((hdl ((el a i).prog) j) + 1)) + 1)))))))], []⟩) (.cons (Q_idx (S.arg ha) (l := (a).length) (k := i) (i := (i : Int)) rfl rfl (by omega) Go.Proofs.Try.underlying43 (by kernel_rfl)) (.cons (Q_cell (S.arg ha) (t := 3) (k := i) (j := 5) (v := I (((el a i).ctl).traps)) (by omega) (by kernel_rfl) (by kernel_rfl)) .nil)) (by kernel_rfl) ?_
              clear S; intro ac w β S
              refine RG.done rfl (nx_then ?_)
              refine S.cond (e := (((el a i).ctl).traps != (hdl ((el a i).live) (hdl ((el a i).written) (IntKind.i64.wrap ((IntKind.i64.wrap ((hdl ((el a i).prog) j) + 1)) + 1)))))) (by kernel_rfl) (fun h18 => ?_) (fun h18 => ?_)
              · have g19 : ¬ (((el a i).ctl).traps = (hdl ((el a i).live) (hdl ((el a i).written) (IntKind.i64.wrap ((IntKind.i64.wrap ((hdl ((el a i).prog) j) + 1)) + 1))))) := bne_iff_ne.1 h18
                refine wp_seq ?_
                refine RG.start ?_
                refine S.quiet (k := 1) (keep := [4]) (m := 0) (σ' := ⟨[(4, .v (I (-1)))], []⟩) .nil (by kernel_rfl) ?_
                clear S; intro ac w β S
                refine RG.done rfl (nx_then ?_)
                refine wp_ret (rt_then (rt_block (rt_then (rt_then (rt_block (rt_then ?_))))))
                refine S.ret (vs := [I (-1)]) (by kernel_rfl) ?_
                exact ⟨retI (show (-1) = hdl a k by clear S; (first | (rw [hr, hd_end (by omega)]; done) | (rw [hr, hd_step (by omega)]; simp [he_Guest, hdi, hdb, hdc, *]; done) | (rw [hr, hd_step (by omega)]; simp_all [he_Guest, hdi, hdb, hdc]; done))), S.chg⟩
              · have g20 : ((el a i).ctl).traps = (hdl ((el a i).live) (hdl ((el a i).written) (IntKind.i64.wrap ((IntKind.i64.wrap ((hdl ((el a i).prog) j) + 1)) + 1)))) := ne_f h18
                refine wp_skip (nx_then ?_)
                refine wp_seq ?_
                refine RG.start ?_
                refine S.quiet (k := 3) (keep := [0, 1, 5]) (m := 0) (σ' := ⟨[(0, .v (slv (a).length pa.1)), (1, .v (I (IntKind.i64.wrap ((hdl ((el a i).live) (hdl ((el a i).written) (IntKind.i64.wrap ((IntKind.i64.wrap ((hdl ((el a i).prog) j) + 1)) + 1)))) + 1)))), (5, .v (I (i : Int)))], []⟩) (.cons (Q_addw (x := (hdl ((el a i).live) (hdl ((el a i).written) (IntKind.i64.wrap ((IntKind.i64.wrap ((hdl ((el a i).prog) j) + 1)) + 1))))) (y := 1)) .nil) (by kernel_rfl) ?_
                clear S; intro ac w β S
                refine RG.done rfl (nx_then ?_)
                refine wp_seq ?_
                refine wp_seq ?_
                refine RG.start ?_
                refine S.quiet (k := 8) (keep := [0, 1, 5, 74]) (m := 0) (σ' := ⟨[(0, .v (slv (a).length pa.1)), (1, .v (I (IntKind.i64.wrap ((hdl ((el a i).live) (hdl ((el a i).written) (IntKind.i64.wrap ((IntKind.i64.wrap ((hdl ((el a i).prog) j) + 1)) + 1)))) + 1)))), (5, .v (I (i : Int))), (74, .v (B (((el a i).ctl).post != (IntKind.i64.wrap ((hdl ((el a i).live) (hdl ((el a i).written) (IntKind.i64.wrap ((IntKind.i64.wrap ((hdl ((el a i).prog) j) + 1)) + 1)))) + 1)))))], []⟩) (.cons (Q_idx (S.arg ha) (l := (a).length) (k := i) (i := (i : Int)) rfl rfl (by omega) Go.Proofs.Try.underlying43 (by kernel_rfl)) (.cons (Q_cell (S.arg ha) (t := 3) (k := i) (j := 6) (v := I (((el a i).ctl).post)) (by omega) (by kernel_rfl) (by kernel_rfl)) .nil)) (by kernel_rfl) ?_
                clear S; intro ac w β S
                refine RG.done rfl (nx_then ?_)
                refine S.cond (e := (((el a i).ctl).post != (IntKind.i64.wrap ((hdl ((el a i).live) (hdl ((el a i).written) (IntKind.i64.wrap ((IntKind.i64.wrap ((hdl ((el a i).prog) j) + 1)) + 1)))) + 1)))) (by kernel_rfl) (fun h21 => ?_) (fun h21 => ?_)
                · have g22 : ¬ (((el a i).ctl).post = (IntKind.i64.wrap ((hdl ((el a i).live) (hdl ((el a i).written) (IntKind.i64.wrap ((IntKind.i64.wrap ((hdl ((el a i).prog) j) + 1)) + 1)))) + 1))) := bne_iff_ne.1 h21
                  refine wp_seq ?_
                  refine RG.start ?_
                  refine S.quiet (k := 1) (keep := [4]) (m := 0) (σ' := ⟨[(4, .v (I (-1)))], []⟩) .nil (by kernel_rfl) ?_
                  clear S; intro ac w β S
                  refine RG.done rfl (nx_then ?_)
                  refine wp_ret (rt_then (rt_block (rt_then (rt_then (rt_block (rt_then ?_))))))
                  refine S.ret (vs := [I (-1)]) (by kernel_rfl) ?_
                  exact ⟨retI (show (-1) = hdl a k by clear S; (first | (rw [hr, hd_end (by omega)]; done) | (rw [hr, hd_step (by omega)]; simp [he_Guest, hdi, hdb, hdc, *]; done) | (rw [hr, hd_step (by omega)]; simp_all [he_Guest, hdi, hdb, hdc]; done))), S.chg⟩
                · have g23 : ((el a i).ctl).post = (IntKind.i64.wrap ((hdl ((el a i).live) (hdl ((el a i).written) (IntKind.i64.wrap ((IntKind.i64.wrap ((hdl ((el a i).prog) j) + 1)) + 1)))) + 1)) := ne_f h21
                  refine wp_skip (nx_then ?_)
                  refine wp_seq ?_
                  refine RG.start ?_
                  refine S.quiet (k := 3) (keep := [0, 1, 5]) (m := 0) (σ' := ⟨[(0, .v (slv (a).length pa.1)), (1, .v (I (IntKind.i64.wrap ((IntKind.i64.wrap ((hdl ((el a i).live) (hdl ((el a i).written) (IntKind.i64.wrap ((IntKind.i64.wrap ((hdl ((el a i).prog) j) + 1)) + 1)))) + 1)) + 1)))), (5, .v (I (i : Int)))], []⟩) (.cons (Q_addw (x := (IntKind.i64.wrap ((hdl ((el a i).live) (hdl ((el a i).written) (IntKind.i64.wrap ((IntKind.i64.wrap ((hdl ((el a i).prog) j) + 1)) + 1)))) + 1))) (y := 1)) .nil) (by kernel_rfl) ?_
                  clear S; intro ac w β S
                  refine RG.done rfl (nx_then ?_)
                  refine wp_seq ?_
                  refine wp_seq ?_
                  refine RG.start ?_
                  refine S.quiet (k := 10) (keep := [0, 1, 5, 86]) (m := 0) (σ' := ⟨[(0, .v (slv (a).length pa.1)), (1, .v (I (IntKind.i64.wrap ((IntKind.i64.wrap ((hdl ((el a i).live) (hdl ((el a i).written) (IntKind.i64.wrap ((IntKind.i64.wrap ((hdl ((el a i).prog) j) + 1)) + 1)))) + 1)) + 1)))), (5, .v (I (i : Int))), (86, .v (B (!(((el a i).ctl).opn == ((Int.tmod (IntKind.i64.wrap ((IntKind.i64.wrap ((hdl ((el a i).live) (hdl ((el a i).written) (IntKind.i64.wrap ((IntKind.i64.wrap ((hdl ((el a i).prog) j) + 1)) + 1)))) + 1)) + 1)) 3) == 0)))))], []⟩) (.cons (Q_idx (S.arg ha) (l := (a).length) (k := i) (i := (i : Int)) rfl rfl (by omega) Go.Proofs.Try.underlying43 (by kernel_rfl)) (.cons (Q_cell (S.arg ha) (t := 4) (k := i) (j := 7) (v := B (((el a i).ctl).opn)) (by omega) (by kernel_rfl) (by kernel_rfl)) (.cons (Q_rem (x := (IntKind.i64.wrap ((IntKind.i64.wrap ((hdl ((el a i).live) (hdl ((el a i).written) (IntKind.i64.wrap ((IntKind.i64.wrap ((hdl ((el a i).prog) j) + 1)) + 1)))) + 1)) + 1))) (y := 3) (by decide)) .nil))) (by kernel_rfl) ?_
                  clear S; intro ac w β S
                  refine RG.done rfl (nx_then ?_)
                  refine S.cond (e := (!(((el a i).ctl).opn == ((Int.tmod (IntKind.i64.wrap ((IntKind.i64.wrap ((hdl ((el a i).live) (hdl ((el a i).written) (IntKind.i64.wrap ((IntKind.i64.wrap ((hdl ((el a i).prog) j) + 1)) + 1)))) + 1)) + 1)) 3) == 0)))) (by kernel_rfl) (fun h24 => ?_) (fun h24 => ?_)
                  · have h25 : (((el a i).ctl).opn == ((Int.tmod (IntKind.i64.wrap ((IntKind.i64.wrap ((hdl ((el a i).live) (hdl ((el a i).written) (IntKind.i64.wrap ((IntKind.i64.wrap ((hdl ((el a i).prog) j) + 1)) + 1)))) + 1)) + 1)) 3) == 0)) = false := not_t h24
                    have g26 : ¬ (((el a i).ctl).opn = ((Int.tmod (IntKind.i64.wrap ((IntKind.i64.wrap ((hdl ((el a i).live) (hdl ((el a i).written) (IntKind.i64.wrap ((IntKind.i64.wrap ((hdl ((el a i).prog) j) + 1)) + 1)))) + 1)) + 1)) 3) == 0)) := ne_of_beq_false h25
                    refine wp_seq ?_
                    refine RG.start ?_
                    refine S.quiet (k := 1) (keep := [4]) (m := 0) (σ' := ⟨[(4, .v (I (-1)))], []⟩) .nil (by kernel_rfl) ?_
                    clear S; intro ac w β S
                    refine RG.done rfl (nx_then ?_)
                    refine wp_ret (rt_then (rt_block (rt_then (rt_then (rt_block (rt_then ?_))))))
                    refine S.ret (vs := [I (-1)]) (by kernel_rfl) ?_
                    exact ⟨retI (show (-1) = hdl a k by clear S; (first | (rw [hr, hd_end (by omega)]; done) | (rw [hr, hd_step (by omega)]; simp [he_Guest, hdi, hdb, hdc, *]; done) | (rw [hr, hd_step (by omega)]; simp_all [he_Guest, hdi, hdb, hdc]; done))), S.chg⟩
                  · have h27 : (((el a i).ctl).opn == ((Int.tmod (IntKind.i64.wrap ((IntKind.i64.wrap ((hdl ((el a i).live) (hdl ((el a i).written) (IntKind.i64.wrap ((IntKind.i64.wrap ((hdl ((el a i).prog) j) + 1)) + 1)))) + 1)) + 1)) 3) == 0)) = true := not_f h24
                    have g28 : ((el a i).ctl).opn = ((Int.tmod (IntKind.i64.wrap ((IntKind.i64.wrap ((hdl ((el a i).live) (hdl ((el a i).written) (IntKind.i64.wrap ((IntKind.i64.wrap ((hdl ((el a i).prog) j) + 1)) + 1)))) + 1)) + 1)) 3) == 0) := eq_of_beq h27
                    refine wp_skip (nx_then ?_)
                    refine wp_seq ?_
                    refine RG.start ?_
                    refine S.quiet (k := 3) (keep := [0, 1, 5]) (m := 0) (σ' := ⟨[(0, .v (slv (a).length pa.1)), (1, .v (I (IntKind.i64.wrap ((IntKind.i64.wrap ((IntKind.i64.wrap ((hdl ((el a i).live) (hdl ((el a i).written) (IntKind.i64.wrap ((IntKind.i64.wrap ((hdl ((el a i).prog) j) + 1)) + 1)))) + 1)) + 1)) + 1)))), (5, .v (I (i : Int)))], []⟩) (.cons (Q_addw (x := (IntKind.i64.wrap ((IntKind.i64.wrap ((hdl ((el a i).live) (hdl ((el a i).written) (IntKind.i64.wrap ((IntKind.i64.wrap ((hdl ((el a i).prog) j) + 1)) + 1)))) + 1)) + 1))) (y := 1)) .nil) (by kernel_rfl) ?_
                    clear S; intro ac w β S
                    refine RG.done rfl (nx_then ?_)
                    refine wp_seq ?_
                    refine wp_seq ?_
                    refine RG.start ?_
                    refine S.quiet (k := 7) (keep := [0, 1, 5, 95]) (m := 0) (σ' := ⟨[(0, .v (slv (a).length pa.1)), (1, .v (I (IntKind.i64.wrap ((IntKind.i64.wrap ((IntKind.i64.wrap ((hdl ((el a i).live) (hdl ((el a i).written) (IntKind.i64.wrap ((IntKind.i64.wrap ((hdl ((el a i).prog) j) + 1)) + 1)))) + 1)) + 1)) + 1)))), (5, .v (I (i : Int))), (95, .v (B ((el a i).pend != (IntKind.i64.wrap ((IntKind.i64.wrap ((IntKind.i64.wrap ((hdl ((el a i).live) (hdl ((el a i).written) (IntKind.i64.wrap ((IntKind.i64.wrap ((hdl ((el a i).prog) j) + 1)) + 1)))) + 1)) + 1)) + 1)))))], []⟩) (.cons (Q_idx (S.arg ha) (l := (a).length) (k := i) (i := (i : Int)) rfl rfl (by omega) Go.Proofs.Try.underlying43 (by kernel_rfl)) (.cons (Q_cell (S.arg ha) (t := 3) (k := i) (j := 8) (v := I ((el a i).pend)) (by omega) (by kernel_rfl) (by kernel_rfl)) .nil)) (by kernel_rfl) ?_
                    clear S; intro ac w β S
                    refine RG.done rfl (nx_then ?_)
                    refine S.cond (e := ((el a i).pend != (IntKind.i64.wrap ((IntKind.i64.wrap ((IntKind.i64.wrap ((hdl ((el a i).live) (hdl ((el a i).written) (IntKind.i64.wrap ((IntKind.i64.wrap ((hdl ((el a i).prog) j) + 1)) + 1)))) + 1)) + 1)) + 1)))) (by kernel_rfl) (fun h29 => ?_) (fun h29 => ?_)
                    · have g30 : ¬ ((el a i).pend = (IntKind.i64.wrap ((IntKind.i64.wrap ((IntKind.i64.wrap ((hdl ((el a i).live) (hdl ((el a i).written) (IntKind.i64.wrap ((IntKind.i64.wrap ((hdl ((el a i).prog) j) + 1)) + 1)))) + 1)) + 1)) + 1))) := bne_iff_ne.1 h29
                      refine wp_seq ?_
                      refine RG.start ?_
                      refine S.quiet (k := 1) (keep := [4]) (m := 0) (σ' := ⟨[(4, .v (I (-1)))], []⟩) .nil (by kernel_rfl) ?_
                      clear S; intro ac w β S
                      refine RG.done rfl (nx_then ?_)
                      refine wp_ret (rt_then (rt_block (rt_then (rt_then (rt_block (rt_then ?_))))))
                      refine S.ret (vs := [I (-1)]) (by kernel_rfl) ?_
                      exact ⟨retI (show (-1) = hdl a k by clear S; (first | (rw [hr, hd_end (by omega)]; done) | (rw [hr, hd_step (by omega)]; simp [he_Guest, hdi, hdb, hdc, *]; done) | (rw [hr, hd_step (by omega)]; simp_all [he_Guest, hdi, hdb, hdc]; done))), S.chg⟩
                    · have g31 : (el a i).pend = (IntKind.i64.wrap ((IntKind.i64.wrap ((IntKind.i64.wrap ((hdl ((el a i).live) (hdl ((el a i).written) (IntKind.i64.wrap ((IntKind.i64.wrap ((hdl ((el a i).prog) j) + 1)) + 1)))) + 1)) + 1)) + 1)) := ne_f h29
                      refine wp_skip (nx_then ?_)
                      refine wp_seq ?_
                      refine RG.start ?_
                      refine S.quiet (k := 3) (keep := [0, 1, 5]) (m := 0) (σ' := ⟨[(0, .v (slv (a).length pa.1)), (1, .v (I (IntKind.i64.wrap ((IntKind.i64.wrap ((IntKind.i64.wrap ((IntKind.i64.wrap ((hdl ((el a i).live) (hdl ((el a i).written) (IntKind.i64.wrap ((IntKind.i64.wrap ((hdl ((el a i).prog) j) + 1)) + 1)))) + 1)) + 1)) + 1)) + 1)))), (5, .v (I (i : Int)))], []⟩) (.cons (Q_addw (x := (IntKind.i64.wrap ((IntKind.i64.wrap ((IntKind.i64.wrap ((hdl ((el a i).live) (hdl ((el a i).written) (IntKind.i64.wrap ((IntKind.i64.wrap ((hdl ((el a i).prog) j) + 1)) + 1)))) + 1)) + 1)) + 1))) (y := 1)) .nil) (by kernel_rfl) ?_
                      clear S; intro ac w β S
                      refine RG.done rfl (nx_then ?_)
                      refine wp_seq ?_
                      refine wp_seq ?_
                      refine RG.start ?_
                      refine S.quiet (k := 8) (keep := [0, 1, 5, 105]) (m := 0) (σ' := ⟨[(0, .v (slv (a).length pa.1)), (1, .v (I (IntKind.i64.wrap ((IntKind.i64.wrap ((IntKind.i64.wrap ((IntKind.i64.wrap ((hdl ((el a i).live) (hdl ((el a i).written) (IntKind.i64.wrap ((IntKind.i64.wrap ((hdl ((el a i).prog) j) + 1)) + 1)))) + 1)) + 1)) + 1)) + 1)))), (5, .v (I (i : Int))), (105, .v (B (((el a i).exit).kind != (IntKind.i64.wrap ((IntKind.i64.wrap ((IntKind.i64.wrap ((IntKind.i64.wrap ((hdl ((el a i).live) (hdl ((el a i).written) (IntKind.i64.wrap ((IntKind.i64.wrap ((hdl ((el a i).prog) j) + 1)) + 1)))) + 1)) + 1)) + 1)) + 1)))))], []⟩) (.cons (Q_idx (S.arg ha) (l := (a).length) (k := i) (i := (i : Int)) rfl rfl (by omega) Go.Proofs.Try.underlying43 (by kernel_rfl)) (.cons (Q_cell (S.arg ha) (t := 3) (k := i) (j := 9) (v := I (((el a i).exit).kind)) (by omega) (by kernel_rfl) (by kernel_rfl)) .nil)) (by kernel_rfl) ?_
                      clear S; intro ac w β S
                      refine RG.done rfl (nx_then ?_)
                      refine S.cond (e := (((el a i).exit).kind != (IntKind.i64.wrap ((IntKind.i64.wrap ((IntKind.i64.wrap ((IntKind.i64.wrap ((hdl ((el a i).live) (hdl ((el a i).written) (IntKind.i64.wrap ((IntKind.i64.wrap ((hdl ((el a i).prog) j) + 1)) + 1)))) + 1)) + 1)) + 1)) + 1)))) (by kernel_rfl) (fun h32 => ?_) (fun h32 => ?_)
                      · have g33 : ¬ (((el a i).exit).kind = (IntKind.i64.wrap ((IntKind.i64.wrap ((IntKind.i64.wrap ((IntKind.i64.wrap ((hdl ((el a i).live) (hdl ((el a i).written) (IntKind.i64.wrap ((IntKind.i64.wrap ((hdl ((el a i).prog) j) + 1)) + 1)))) + 1)) + 1)) + 1)) + 1))) := bne_iff_ne.1 h32
                        refine wp_seq ?_
                        refine RG.start ?_
                        refine S.quiet (k := 1) (keep := [4]) (m := 0) (σ' := ⟨[(4, .v (I (-1)))], []⟩) .nil (by kernel_rfl) ?_
                        clear S; intro ac w β S
                        refine RG.done rfl (nx_then ?_)
                        refine wp_ret (rt_then (rt_block (rt_then (rt_then (rt_block (rt_then ?_))))))
                        refine S.ret (vs := [I (-1)]) (by kernel_rfl) ?_
                        exact ⟨retI (show (-1) = hdl a k by clear S; (first | (rw [hr, hd_end (by omega)]; done) | (rw [hr, hd_step (by omega)]; simp [he_Guest, hdi, hdb, hdc, *]; done) | (rw [hr, hd_step (by omega)]; simp_all [he_Guest, hdi, hdb, hdc]; done))), S.chg⟩
                      · have g34 : ((el a i).exit).kind = (IntKind.i64.wrap ((IntKind.i64.wrap ((IntKind.i64.wrap ((IntKind.i64.wrap ((hdl ((el a i).live) (hdl ((el a i).written) (IntKind.i64.wrap ((IntKind.i64.wrap ((hdl ((el a i).prog) j) + 1)) + 1)))) + 1)) + 1)) + 1)) + 1)) := ne_f h32
                        refine wp_skip (nx_then ?_)
                        refine wp_seq ?_
                        refine RG.start ?_
                        refine S.quiet (k := 3) (keep := [0, 1, 5]) (m := 0) (σ' := ⟨[(0, .v (slv (a).length pa.1)), (1, .v (I (IntKind.i64.wrap ((IntKind.i64.wrap ((IntKind.i64.wrap ((IntKind.i64.wrap ((IntKind.i64.wrap ((hdl ((el a i).live) (hdl ((el a i).written) (IntKind.i64.wrap ((IntKind.i64.wrap ((hdl ((el a i).prog) j) + 1)) + 1)))) + 1)) + 1)) + 1)) + 1)) + 1)))), (5, .v (I (i : Int)))], []⟩) (.cons (Q_addw (x := (IntKind.i64.wrap ((IntKind.i64.wrap ((IntKind.i64.wrap ((IntKind.i64.wrap ((hdl ((el a i).live) (hdl ((el a i).written) (IntKind.i64.wrap ((IntKind.i64.wrap ((hdl ((el a i).prog) j) + 1)) + 1)))) + 1)) + 1)) + 1)) + 1))) (y := 1)) .nil) (by kernel_rfl) ?_
                        clear S; intro ac w β S
                        refine RG.done rfl (nx_then ?_)
                        refine wp_seq ?_
                        refine wp_seq ?_
                        refine RG.start ?_
                        refine S.quiet (k := 8) (keep := [0, 1, 5, 115]) (m := 0) (σ' := ⟨[(0, .v (slv (a).length pa.1)), (1, .v (I (IntKind.i64.wrap ((IntKind.i64.wrap ((IntKind.i64.wrap ((IntKind.i64.wrap ((IntKind.i64.wrap ((hdl ((el a i).live) (hdl ((el a i).written) (IntKind.i64.wrap ((IntKind.i64.wrap ((hdl ((el a i).prog) j) + 1)) + 1)))) + 1)) + 1)) + 1)) + 1)) + 1)))), (5, .v (I (i : Int))), (115, .v (B (((el a i).exit).page != (IntKind.i64.wrap ((IntKind.i64.wrap ((IntKind.i64.wrap ((IntKind.i64.wrap ((IntKind.i64.wrap ((hdl ((el a i).live) (hdl ((el a i).written) (IntKind.i64.wrap ((IntKind.i64.wrap ((hdl ((el a i).prog) j) + 1)) + 1)))) + 1)) + 1)) + 1)) + 1)) + 1)))))], []⟩) (.cons (Q_idx (S.arg ha) (l := (a).length) (k := i) (i := (i : Int)) rfl rfl (by omega) Go.Proofs.Try.underlying43 (by kernel_rfl)) (.cons (Q_cell (S.arg ha) (t := 3) (k := i) (j := 10) (v := I (((el a i).exit).page)) (by omega) (by kernel_rfl) (by kernel_rfl)) .nil)) (by kernel_rfl) ?_
                        clear S; intro ac w β S
                        refine RG.done rfl (nx_then ?_)
                        refine S.cond (e := (((el a i).exit).page != (IntKind.i64.wrap ((IntKind.i64.wrap ((IntKind.i64.wrap ((IntKind.i64.wrap ((IntKind.i64.wrap ((hdl ((el a i).live) (hdl ((el a i).written) (IntKind.i64.wrap ((IntKind.i64.wrap ((hdl ((el a i).prog) j) + 1)) + 1)))) + 1)) + 1)) + 1)) + 1)) + 1)))) (by kernel_rfl) (fun h35 => ?_) (fun h35 => ?_)
                        · have g36 : ¬ (((el a i).exit).page = (IntKind.i64.wrap ((IntKind.i64.wrap ((IntKind.i64.wrap ((IntKind.i64.wrap ((IntKind.i64.wrap ((hdl ((el a i).live) (hdl ((el a i).written) (IntKind.i64.wrap ((IntKind.i64.wrap ((hdl ((el a i).prog) j) + 1)) + 1)))) + 1)) + 1)) + 1)) + 1)) + 1))) := bne_iff_ne.1 h35
                          refine wp_seq ?_
                          refine RG.start ?_
                          refine S.quiet (k := 1) (keep := [4]) (m := 0) (σ' := ⟨[(4, .v (I (-1)))], []⟩) .nil (by kernel_rfl) ?_
                          clear S; intro ac w β S
                          refine RG.done rfl (nx_then ?_)
                          refine wp_ret (rt_then (rt_block (rt_then (rt_then (rt_block (rt_then ?_))))))
                          refine S.ret (vs := [I (-1)]) (by kernel_rfl) ?_
                          exact ⟨retI (show (-1) = hdl a k by clear S; (first | (rw [hr, hd_end (by omega)]; done) | (rw [hr, hd_step (by omega)]; simp [he_Guest, hdi, hdb, hdc, *]; done) | (rw [hr, hd_step (by omega)]; simp_all [he_Guest, hdi, hdb, hdc]; done))), S.chg⟩
                        · have g37 : ((el a i).exit).page = (IntKind.i64.wrap ((IntKind.i64.wrap ((IntKind.i64.wrap ((IntKind.i64.wrap ((IntKind.i64.wrap ((hdl ((el a i).live) (hdl ((el a i).written) (IntKind.i64.wrap ((IntKind.i64.wrap ((hdl ((el a i).prog) j) + 1)) + 1)))) + 1)) + 1)) + 1)) + 1)) + 1)) := ne_f h35
                          refine wp_skip (nx_then ?_)
                          refine wp_seq ?_
                          refine RG.start ?_
                          refine S.quiet (k := 3) (keep := [0, 1, 5]) (m := 0) (σ' := ⟨[(0, .v (slv (a).length pa.1)), (1, .v (I (IntKind.i64.wrap ((IntKind.i64.wrap ((IntKind.i64.wrap ((IntKind.i64.wrap ((IntKind.i64.wrap ((IntKind.i64.wrap ((hdl ((el a i).live) (hdl ((el a i).written) (IntKind.i64.wrap ((IntKind.i64.wrap ((hdl ((el a i).prog) j) + 1)) + 1)))) + 1)) + 1)) + 1)) + 1)) + 1)) + 1)))), (5, .v (I (i : Int)))], []⟩) (.cons (Q_addw (x := (IntKind.i64.wrap ((IntKind.i64.wrap ((IntKind.i64.wrap ((IntKind.i64.wrap ((IntKind.i64.wrap ((hdl ((el a i).live) (hdl ((el a i).written) (IntKind.i64.wrap ((IntKind.i64.wrap ((hdl ((el a i).prog) j) + 1)) + 1)))) + 1)) + 1)) + 1)) + 1)) + 1))) (y := 1)) .nil) (by kernel_rfl) ?_
                          clear S; intro ac w β S
                          refine RG.done rfl (nx_then ?_)
                          refine wp_seq ?_
                          refine wp_seq ?_
                          refine RG.start ?_
                          refine S.quiet (k := 10) (keep := [0, 1, 5, 127]) (m := 0) (σ' := ⟨[(0, .v (slv (a).length pa.1)), (1, .v (I (IntKind.i64.wrap ((IntKind.i64.wrap ((IntKind.i64.wrap ((IntKind.i64.wrap ((IntKind.i64.wrap ((IntKind.i64.wrap ((hdl ((el a i).live) (hdl ((el a i).written) (IntKind.i64.wrap ((IntKind.i64.wrap ((hdl ((el a i).prog) j) + 1)) + 1)))) + 1)) + 1)) + 1)) + 1)) + 1)) + 1)))), (5, .v (I (i : Int))), (127, .v (B (!(((el a i).exit).wr == ((Int.tmod (IntKind.i64.wrap ((IntKind.i64.wrap ((IntKind.i64.wrap ((IntKind.i64.wrap ((IntKind.i64.wrap ((IntKind.i64.wrap ((hdl ((el a i).live) (hdl ((el a i).written) (IntKind.i64.wrap ((IntKind.i64.wrap ((hdl ((el a i).prog) j) + 1)) + 1)))) + 1)) + 1)) + 1)) + 1)) + 1)) + 1)) 3) == 0)))))], []⟩) (.cons (Q_idx (S.arg ha) (l := (a).length) (k := i) (i := (i : Int)) rfl rfl (by omega) Go.Proofs.Try.underlying43 (by kernel_rfl)) (.cons (Q_cell (S.arg ha) (t := 4) (k := i) (j := 11) (v := B (((el a i).exit).wr)) (by omega) (by kernel_rfl) (by kernel_rfl)) (.cons (Q_rem (x := (IntKind.i64.wrap ((IntKind.i64.wrap ((IntKind.i64.wrap ((IntKind.i64.wrap ((IntKind.i64.wrap ((IntKind.i64.wrap ((hdl ((el a i).live) (hdl ((el a i).written) (IntKind.i64.wrap ((IntKind.i64.wrap ((hdl ((el a i).prog) j) + 1)) + 1)))) + 1)) + 1)) + 1)) + 1)) + 1)) + 1))) (y := 3) (by decide)) .nil))) (by kernel_rfl) ?_
                          clear S; intro ac w β S
                          refine RG.done rfl (nx_then ?_)
                          refine S.cond (e := (!(((el a i).exit).wr == ((Int.tmod (IntKind.i64.wrap ((IntKind.i64.wrap ((IntKind.i64.wrap ((IntKind.i64.wrap ((IntKind.i64.wrap ((IntKind.i64.wrap ((hdl ((el a i).live) (hdl ((el a i).written) (IntKind.i64.wrap ((IntKind.i64.wrap ((hdl ((el a i).prog) j) + 1)) + 1)))) + 1)) + 1)) + 1)) + 1)) + 1)) + 1)) 3) == 0)))) (by kernel_rfl) (fun h38 => ?_) (fun h38 => ?_)
                          · have h39 : (((el a i).exit).wr == ((Int.tmod (IntKind.i64.wrap ((IntKind.i64.wrap ((IntKind.i64.wrap ((IntKind.i64.wrap ((IntKind.i64.wrap ((IntKind.i64.wrap ((hdl ((el a i).live) (hdl ((el a i).written) (IntKind.i64.wrap ((IntKind.i64.wrap ((hdl ((el a i).prog) j) + 1)) + 1)))) + 1)) + 1)) + 1)) + 1)) + 1)) + 1)) 3) == 0)) = false := not_t h38
                            have g40 : ¬ (((el a i).exit).wr = ((Int.tmod (IntKind.i64.wrap ((IntKind.i64.wrap ((IntKind.i64.wrap ((IntKind.i64.wrap ((IntKind.i64.wrap ((IntKind.i64.wrap ((hdl ((el a i).live) (hdl ((el a i).written) (IntKind.i64.wrap ((IntKind.i64.wrap ((hdl ((el a i).prog) j) + 1)) + 1)))) + 1)) + 1)) + 1)) + 1)) + 1)) + 1)) 3) == 0)) := ne_of_beq_false h39
                            refine wp_seq ?_
                            refine RG.start ?_
                            refine S.quiet (k := 1) (keep := [4]) (m := 0) (σ' := ⟨[(4, .v (I (-1)))], []⟩) .nil (by kernel_rfl) ?_
                            clear S; intro ac w β S
                            refine RG.done rfl (nx_then ?_)
                            refine wp_ret (rt_then (rt_block (rt_then (rt_then (rt_block (rt_then ?_))))))
                            refine S.ret (vs := [I (-1)]) (by kernel_rfl) ?_
                            exact ⟨retI (show (-1) = hdl a k by clear S; (first | (rw [hr, hd_end (by omega)]; done) | (rw [hr, hd_step (by omega)]; simp [he_Guest, hdi, hdb, hdc, *]; done) | (rw [hr, hd_step (by omega)]; simp_all [he_Guest, hdi, hdb, hdc]; done))), S.chg⟩
                          · have h41 : (((el a i).exit).wr == ((Int.tmod (IntKind.i64.wrap ((IntKind.i64.wrap ((IntKind.i64.wrap ((IntKind.i64.wrap ((IntKind.i64.wrap ((IntKind.i64.wrap ((hdl ((el a i).live) (hdl ((el a i).written) (IntKind.i64.wrap ((IntKind.i64.wrap ((hdl ((el a i).prog) j) + 1)) + 1)))) + 1)) + 1)) + 1)) + 1)) + 1)) + 1)) 3) == 0)) = true := not_f h38
                            have g42 : ((el a i).exit).wr = ((Int.tmod (IntKind.i64.wrap ((IntKind.i64.wrap ((IntKind.i64.wrap ((IntKind.i64.wrap ((IntKind.i64.wrap ((IntKind.i64.wrap ((hdl ((el a i).live) (hdl ((el a i).written) (IntKind.i64.wrap ((IntKind.i64.wrap ((hdl ((el a i).prog) j) + 1)) + 1)))) + 1)) + 1)) + 1)) + 1)) + 1)) + 1)) 3) == 0) := eq_of_beq h41
                            refine wp_skip (nx_then ?_)
                            refine wp_seq ?_
                            refine RG.start ?_
                            refine S.quiet (k := 3) (keep := [0, 1, 5]) (m := 0) (σ' := ⟨[(0, .v (slv (a).length pa.1)), (1, .v (I (IntKind.i64.wrap ((IntKind.i64.wrap ((IntKind.i64.wrap ((IntKind.i64.wrap ((IntKind.i64.wrap ((IntKind.i64.wrap ((IntKind.i64.wrap ((hdl ((el a i).live) (hdl ((el a i).written) (IntKind.i64.wrap ((IntKind.i64.wrap ((hdl ((el a i).prog) j) + 1)) + 1)))) + 1)) + 1)) + 1)) + 1)) + 1)) + 1)) + 1)))), (5, .v (I (i : Int)))], []⟩) (.cons (Q_addw (x := (IntKind.i64.wrap ((IntKind.i64.wrap ((IntKind.i64.wrap ((IntKind.i64.wrap ((IntKind.i64.wrap ((IntKind.i64.wrap ((hdl ((el a i).live) (hdl ((el a i).written) (IntKind.i64.wrap ((IntKind.i64.wrap ((hdl ((el a i).prog) j) + 1)) + 1)))) + 1)) + 1)) + 1)) + 1)) + 1)) + 1))) (y := 1)) .nil) (by kernel_rfl) ?_
                            clear S; intro ac w β S
                            refine RG.done rfl (nx_then ?_)
                            refine wp_seq ?_
                            refine wp_seq ?_
                            refine RG.start ?_
                            refine S.quiet (k := 8) (keep := [0, 1, 5, 137]) (m := 0) (σ' := ⟨[(0, .v (slv (a).length pa.1)), (1, .v (I (IntKind.i64.wrap ((IntKind.i64.wrap ((IntKind.i64.wrap ((IntKind.i64.wrap ((IntKind.i64.wrap ((IntKind.i64.wrap ((IntKind.i64.wrap ((hdl ((el a i).live) (hdl ((el a i).written) (IntKind.i64.wrap ((IntKind.i64.wrap ((hdl ((el a i).prog) j) + 1)) + 1)))) + 1)) + 1)) + 1)) + 1)) + 1)) + 1)) + 1)))), (5, .v (I (i : Int))), (137, .v (B (((el a i).exit).n != (IntKind.i64.wrap ((IntKind.i64.wrap ((IntKind.i64.wrap ((IntKind.i64.wrap ((IntKind.i64.wrap ((IntKind.i64.wrap ((IntKind.i64.wrap ((hdl ((el a i).live) (hdl ((el a i).written) (IntKind.i64.wrap ((IntKind.i64.wrap ((hdl ((el a i).prog) j) + 1)) + 1)))) + 1)) + 1)) + 1)) + 1)) + 1)) + 1)) + 1)))))], []⟩) (.cons (Q_idx (S.arg ha) (l := (a).length) (k := i) (i := (i : Int)) rfl rfl (by omega) Go.Proofs.Try.underlying43 (by kernel_rfl)) (.cons (Q_cell (S.arg ha) (t := 3) (k := i) (j := 12) (v := I (((el a i).exit).n)) (by omega) (by kernel_rfl) (by kernel_rfl)) .nil)) (by kernel_rfl) ?_
                            clear S; intro ac w β S
                            refine RG.done rfl (nx_then ?_)
                            refine S.cond (e := (((el a i).exit).n != (IntKind.i64.wrap ((IntKind.i64.wrap ((IntKind.i64.wrap ((IntKind.i64.wrap ((IntKind.i64.wrap ((IntKind.i64.wrap ((IntKind.i64.wrap ((hdl ((el a i).live) (hdl ((el a i).written) (IntKind.i64.wrap ((IntKind.i64.wrap ((hdl ((el a i).prog) j) + 1)) + 1)))) + 1)) + 1)) + 1)) + 1)) + 1)) + 1)) + 1)))) (by kernel_rfl) (fun h43 => ?_) (fun h43 => ?_)
                            · have g44 : ¬ (((el a i).exit).n = (IntKind.i64.wrap ((IntKind.i64.wrap ((IntKind.i64.wrap ((IntKind.i64.wrap ((IntKind.i64.wrap ((IntKind.i64.wrap ((IntKind.i64.wrap ((hdl ((el a i).live) (hdl ((el a i).written) (IntKind.i64.wrap ((IntKind.i64.wrap ((hdl ((el a i).prog) j) + 1)) + 1)))) + 1)) + 1)) + 1)) + 1)) + 1)) + 1)) + 1))) := bne_iff_ne.1 h43
                              refine wp_seq ?_
                              refine RG.start ?_
                              refine S.quiet (k := 1) (keep := [4]) (m := 0) (σ' := ⟨[(4, .v (I (-1)))], []⟩) .nil (by kernel_rfl) ?_
                              clear S; intro ac w β S
                              refine RG.done rfl (nx_then ?_)
                              refine wp_ret (rt_then (rt_block (rt_then (rt_then (rt_block (rt_then ?_))))))
                              refine S.ret (vs := [I (-1)]) (by kernel_rfl) ?_
                              exact ⟨retI (show (-1) = hdl a k by clear S; (first | (rw [hr, hd_end (by omega)]; done) | (rw [hr, hd_step (by omega)]; simp [he_Guest, hdi, hdb, hdc, *]; done) | (rw [hr, hd_step (by omega)]; simp_all [he_Guest, hdi, hdb, hdc]; done))), S.chg⟩
                            · have g45 : ((el a i).exit).n = (IntKind.i64.wrap ((IntKind.i64.wrap ((IntKind.i64.wrap ((IntKind.i64.wrap ((IntKind.i64.wrap ((IntKind.i64.wrap ((IntKind.i64.wrap ((hdl ((el a i).live) (hdl ((el a i).written) (IntKind.i64.wrap ((IntKind.i64.wrap ((hdl ((el a i).prog) j) + 1)) + 1)))) + 1)) + 1)) + 1)) + 1)) + 1)) + 1)) + 1)) := ne_f h43
                              refine wp_skip (nx_then ?_)
                              refine wp_seq ?_
                              refine RG.start ?_
                              refine S.quiet (k := 3) (keep := [0, 1, 5]) (m := 0) (σ' := ⟨[(0, .v (slv (a).length pa.1)), (1, .v (I (IntKind.i64.wrap ((IntKind.i64.wrap ((IntKind.i64.wrap ((IntKind.i64.wrap ((IntKind.i64.wrap ((IntKind.i64.wrap ((IntKind.i64.wrap ((IntKind.i64.wrap ((hdl ((el a i).live) (hdl ((el a i).written) (IntKind.i64.wrap ((IntKind.i64.wrap ((hdl ((el a i).prog) j) + 1)) + 1)))) + 1)) + 1)) + 1)) + 1)) + 1)) + 1)) + 1)) + 1)))), (5, .v (I (i : Int)))], []⟩) (.cons (Q_addw (x := (IntKind.i64.wrap ((IntKind.i64.wrap ((IntKind.i64.wrap ((IntKind.i64.wrap ((IntKind.i64.wrap ((IntKind.i64.wrap ((IntKind.i64.wrap ((hdl ((el a i).live) (hdl ((el a i).written) (IntKind.i64.wrap ((IntKind.i64.wrap ((hdl ((el a i).prog) j) + 1)) + 1)))) + 1)) + 1)) + 1)) + 1)) + 1)) + 1)) + 1))) (y := 1)) .nil) (by kernel_rfl) ?_
                              clear S; intro ac w β S
                              refine RG.done rfl (nx_then ?_)
                              refine wp_seq ?_
                              refine wp_seq ?_
                              refine RG.start ?_
                              refine S.quiet (k := 9) (keep := [0, 1, 5, 148]) (m := 0) (σ' := ⟨[(0, .v (slv (a).length pa.1)), (1, .v (I (IntKind.i64.wrap ((IntKind.i64.wrap ((IntKind.i64.wrap ((IntKind.i64.wrap ((IntKind.i64.wrap ((IntKind.i64.wrap ((IntKind.i64.wrap ((IntKind.i64.wrap ((hdl ((el a i).live) (hdl ((el a i).written) (IntKind.i64.wrap ((IntKind.i64.wrap ((hdl ((el a i).prog) j) + 1)) + 1)))) + 1)) + 1)) + 1)) + 1)) + 1)) + 1)) + 1)) + 1)))), (5, .v (I (i : Int))), (148, .v (B (!((el a i).halted == ((Int.tmod (IntKind.i64.wrap ((IntKind.i64.wrap ((IntKind.i64.wrap ((IntKind.i64.wrap ((IntKind.i64.wrap ((IntKind.i64.wrap ((IntKind.i64.wrap ((IntKind.i64.wrap ((hdl ((el a i).live) (hdl ((el a i).written) (IntKind.i64.wrap ((IntKind.i64.wrap ((hdl ((el a i).prog) j) + 1)) + 1)))) + 1)) + 1)) + 1)) + 1)) + 1)) + 1)) + 1)) + 1)) 3) == 0)))))], []⟩) (.cons (Q_idx (S.arg ha) (l := (a).length) (k := i) (i := (i : Int)) rfl rfl (by omega) Go.Proofs.Try.underlying43 (by kernel_rfl)) (.cons (Q_cell (S.arg ha) (t := 4) (k := i) (j := 13) (v := B ((el a i).halted)) (by omega) (by kernel_rfl) (by kernel_rfl)) (.cons (Q_rem (x := (IntKind.i64.wrap ((IntKind.i64.wrap ((IntKind.i64.wrap ((IntKind.i64.wrap ((IntKind.i64.wrap ((IntKind.i64.wrap ((IntKind.i64.wrap ((IntKind.i64.wrap ((hdl ((el a i).live) (hdl ((el a i).written) (IntKind.i64.wrap ((IntKind.i64.wrap ((hdl ((el a i).prog) j) + 1)) + 1)))) + 1)) + 1)) + 1)) + 1)) + 1)) + 1)) + 1)) + 1))) (y := 3) (by decide)) .nil))) (by kernel_rfl) ?_
                              clear S; intro ac w β S
                              refine RG.done rfl (nx_then ?_)
                              refine S.cond (e := (!((el a i).halted == ((Int.tmod (IntKind.i64.wrap ((IntKind.i64.wrap ((IntKind.i64.wrap ((IntKind.i64.wrap ((IntKind.i64.wrap ((IntKind.i64.wrap ((IntKind.i64.wrap ((IntKind.i64.wrap ((hdl ((el a i).live) (hdl ((el a i).written) (IntKind.i64.wrap ((IntKind.i64.wrap ((hdl ((el a i).prog) j) + 1)) + 1)))) + 1)) + 1)) + 1)) + 1)) + 1)) + 1)) + 1)) + 1)) 3) == 0)))) (by kernel_rfl) (fun h46 => ?_) (fun h46 => ?_)
                              · have h47 : ((el a i).halted == ((Int.tmod (IntKind.i64.wrap ((IntKind.i64.wrap ((IntKind.i64.wrap ((IntKind.i64.wrap ((IntKind.i64.wrap ((IntKind.i64.wrap ((IntKind.i64.wrap ((IntKind.i64.wrap ((hdl ((el a i).live) (hdl ((el a i).written) (IntKind.i64.wrap ((IntKind.i64.wrap ((hdl ((el a i).prog) j) + 1)) + 1)))) + 1)) + 1)) + 1)) + 1)) + 1)) + 1)) + 1)) + 1)) 3) == 0)) = false := not_t h46
                                have g48 : ¬ ((el a i).halted = ((Int.tmod (IntKind.i64.wrap ((IntKind.i64.wrap ((IntKind.i64.wrap ((IntKind.i64.wrap ((IntKind.i64.wrap ((IntKind.i64.wrap ((IntKind.i64.wrap ((IntKind.i64.wrap ((hdl ((el a i).live) (hdl ((el a i).written) (IntKind.i64.wrap ((IntKind.i64.wrap ((hdl ((el a i).prog) j) + 1)) + 1)))) + 1)) + 1)) + 1)) + 1)) + 1)) + 1)) + 1)) + 1)) 3) == 0)) := ne_of_beq_false h47
                                refine wp_seq ?_
                                refine RG.start ?_
                                refine S.quiet (k := 1) (keep := [4]) (m := 0) (σ' := ⟨[(4, .v (I (-1)))], []⟩) .nil (by kernel_rfl) ?_
                                clear S; intro ac w β S
                                refine RG.done rfl (nx_then ?_)
                                refine wp_ret (rt_then (rt_block (rt_then (rt_then (rt_block (rt_then ?_))))))
                                refine S.ret (vs := [I (-1)]) (by kernel_rfl) ?_
                                exact ⟨retI (show (-1) = hdl a k by clear S; (first | (rw [hr, hd_end (by omega)]; done) | (rw [hr, hd_step (by omega)]; simp [he_Guest, hdi, hdb, hdc, *]; done) | (rw [hr, hd_step (by omega)]; simp_all [he_Guest, hdi, hdb, hdc]; done))), S.chg⟩
                              · have h49 : ((el a i).halted == ((Int.tmod (IntKind.i64.wrap ((IntKind.i64.wrap ((IntKind.i64.wrap ((IntKind.i64.wrap ((IntKind.i64.wrap ((IntKind.i64.wrap ((IntKind.i64.wrap ((IntKind.i64.wrap ((hdl ((el a i).live) (hdl ((el a i).written) (IntKind.i64.wrap ((IntKind.i64.wrap ((hdl ((el a i).prog) j) + 1)) + 1)))) + 1)) + 1)) + 1)) + 1)) + 1)) + 1)) + 1)) + 1)) 3) == 0)) = true := not_f h46
                                have g50 : (el a i).halted = ((Int.tmod (IntKind.i64.wrap ((IntKind.i64.wrap ((IntKind.i64.wrap ((IntKind.i64.wrap ((IntKind.i64.wrap ((IntKind.i64.wrap ((IntKind.i64.wrap ((IntKind.i64.wrap ((hdl ((el a i).live) (hdl ((el a i).written) (IntKind.i64.wrap ((IntKind.i64.wrap ((hdl ((el a i).prog) j) + 1)) + 1)))) + 1)) + 1)) + 1)) + 1)) + 1)) + 1)) + 1)) + 1)) 3) == 0) := eq_of_beq h49
                                refine wp_skip (nx_then ?_)
                                refine wp_seq ?_
                                refine RG.start ?_
                                refine S.quiet (k := 3) (keep := [0, 1, 5]) (m := 0) (σ' := ⟨[(0, .v (slv (a).length pa.1)), (1, .v (I (IntKind.i64.wrap ((IntKind.i64.wrap ((IntKind.i64.wrap ((IntKind.i64.wrap ((IntKind.i64.wrap ((IntKind.i64.wrap ((IntKind.i64.wrap ((IntKind.i64.wrap ((IntKind.i64.wrap ((hdl ((el a i).live) (hdl ((el a i).written) (IntKind.i64.wrap ((IntKind.i64.wrap ((hdl ((el a i).prog) j) + 1)) + 1)))) + 1)) + 1)) + 1)) + 1)) + 1)) + 1)) + 1)) + 1)) + 1)))), (5, .v (I (i : Int)))], []⟩) (.cons (Q_addw (x := (IntKind.i64.wrap ((IntKind.i64.wrap ((IntKind.i64.wrap ((IntKind.i64.wrap ((IntKind.i64.wrap ((IntKind.i64.wrap ((IntKind.i64.wrap ((IntKind.i64.wrap ((hdl ((el a i).live) (hdl ((el a i).written) (IntKind.i64.wrap ((IntKind.i64.wrap ((hdl ((el a i).prog) j) + 1)) + 1)))) + 1)) + 1)) + 1)) + 1)) + 1)) + 1)) + 1)) + 1))) (y := 1)) .nil) (by kernel_rfl) ?_
                                clear S; intro ac w β S
                                refine RG.done rfl (nx_then ?_)
                                refine wp_seq ?_
                                refine RG.start ?_
                                refine S.quiet (k := 8) (keep := [0, 1, 5]) (m := 0) (σ' := ⟨[(0, .v (slv (a).length pa.1)), (1, .v (I (hdl ((el a i).seen) (IntKind.i64.wrap ((IntKind.i64.wrap ((IntKind.i64.wrap ((IntKind.i64.wrap ((IntKind.i64.wrap ((IntKind.i64.wrap ((IntKind.i64.wrap ((IntKind.i64.wrap ((IntKind.i64.wrap ((hdl ((el a i).live) (hdl ((el a i).written) (IntKind.i64.wrap ((IntKind.i64.wrap ((hdl ((el a i).prog) j) + 1)) + 1)))) + 1)) + 1)) + 1)) + 1)) + 1)) + 1)) + 1)) + 1)) + 1))))), (5, .v (I (i : Int)))], []⟩) (.cons (Q_idx (S.arg ha) (l := (a).length) (k := i) (i := (i : Int)) rfl rfl (by omega) Go.Proofs.Try.underlying43 (by kernel_rfl)) (.cons (Q_cell (S.arg ha) (t := 30) (k := i) (j := 14) (v := slv ((el a i).seen).length ((pa.2 i).seen).1) (by omega) (by kernel_rfl) (by kernel_rfl)) (.cons (Q_call fun w hw => c_laws_heldIntS w ((el a i).seen) ((pa.2 i).seen) (rd_of (RGuest.seen (d := (el a i)) (LRd.el (S.arg ha) i (by omega))) hw) (IntKind.i64.wrap ((IntKind.i64.wrap ((IntKind.i64.wrap ((IntKind.i64.wrap ((IntKind.i64.wrap ((IntKind.i64.wrap ((IntKind.i64.wrap ((IntKind.i64.wrap ((IntKind.i64.wrap ((hdl ((el a i).live) (hdl ((el a i).written) (IntKind.i64.wrap ((IntKind.i64.wrap ((hdl ((el a i).prog) j) + 1)) + 1)))) + 1)) + 1)) + 1)) + 1)) + 1)) + 1)) + 1)) + 1)) + 1))) .nil))) (by kernel_rfl) ?_
                                clear S; intro ac w β S
                                refine RG.done rfl (nx_then ?_)
                                refine wp_seq ?_
                                refine RG.start ?_
                                refine S.quiet (k := 2) (keep := [0, 1, 5, 159]) (m := 0) (σ' := ⟨[(0, .v (slv (a).length pa.1)), (1, .v (I (hdl ((el a i).seen) (IntKind.i64.wrap ((IntKind.i64.wrap ((IntKind.i64.wrap ((IntKind.i64.wrap ((IntKind.i64.wrap ((IntKind.i64.wrap ((IntKind.i64.wrap ((IntKind.i64.wrap ((IntKind.i64.wrap ((hdl ((el a i).live) (hdl ((el a i).written) (IntKind.i64.wrap ((IntKind.i64.wrap ((hdl ((el a i).prog) j) + 1)) + 1)))) + 1)) + 1)) + 1)) + 1)) + 1)) + 1)) + 1)) + 1)) + 1))))), (5, .v (I (i : Int))), (159, .v (B (decide ((hdl ((el a i).seen) (IntKind.i64.wrap ((IntKind.i64.wrap ((IntKind.i64.wrap ((IntKind.i64.wrap ((IntKind.i64.wrap ((IntKind.i64.wrap ((IntKind.i64.wrap ((IntKind.i64.wrap ((IntKind.i64.wrap ((hdl ((el a i).live) (hdl ((el a i).written) (IntKind.i64.wrap ((IntKind.i64.wrap ((hdl ((el a i).prog) j) + 1)) + 1)))) + 1)) + 1)) + 1)) + 1)) + 1)) + 1)) + 1)) + 1)) + 1))) < 0))))], []⟩) .nil (by kernel_rfl) ?_
                                clear S; intro ac w β S
                                refine RG.done rfl (nx_then ?_)
                                refine S.cond (e := (decide ((hdl ((el a i).seen) (IntKind.i64.wrap ((IntKind.i64.wrap ((IntKind.i64.wrap ((IntKind.i64.wrap ((IntKind.i64.wrap ((IntKind.i64.wrap ((IntKind.i64.wrap ((IntKind.i64.wrap ((IntKind.i64.wrap ((hdl ((el a i).live) (hdl ((el a i).written) (IntKind.i64.wrap ((IntKind.i64.wrap ((hdl ((el a i).prog) j) + 1)) + 1)))) + 1)) + 1)) + 1)) + 1)) + 1)) + 1)) + 1)) + 1)) + 1))) < 0))) (by kernel_rfl) (fun h51 => ?_) (fun h51 => ?_)
                                · have g52 : (hdl ((el a i).seen) (IntKind.i64.wrap ((IntKind.i64.wrap ((IntKind.i64.wrap ((IntKind.i64.wrap ((IntKind.i64.wrap ((IntKind.i64.wrap ((IntKind.i64.wrap ((IntKind.i64.wrap ((IntKind.i64.wrap ((hdl ((el a i).live) (hdl ((el a i).written) (IntKind.i64.wrap ((IntKind.i64.wrap ((hdl ((el a i).prog) j) + 1)) + 1)))) + 1)) + 1)) + 1)) + 1)) + 1)) + 1)) + 1)) + 1)) + 1))) < 0 := of_decide_eq_true h51
                                  refine wp_seq ?_
                                  refine RG.start ?_
                                  refine S.quiet (k := 1) (keep := [4]) (m := 0) (σ' := ⟨[(4, .v (I (-1)))], []⟩) .nil (by kernel_rfl) ?_
                                  clear S; intro ac w β S
                                  refine RG.done rfl (nx_then ?_)
                                  refine wp_ret (rt_block (rt_then (rt_then (rt_block (rt_then ?_)))))
                                  refine S.ret (vs := [I (-1)]) (by kernel_rfl) ?_
                                  exact ⟨retI (show (-1) = hdl a k by clear S; (first | (rw [hr, hd_end (by omega)]; done) | (rw [hr, hd_step (by omega)]; simp [he_Guest, hdi, hdb, hdc, *]; done) | (rw [hr, hd_step (by omega)]; simp_all [he_Guest, hdi, hdb, hdc]; done))), S.chg⟩
                                · have g53 : ¬ ((hdl ((el a i).seen) (IntKind.i64.wrap ((IntKind.i64.wrap ((IntKind.i64.wrap ((IntKind.i64.wrap ((IntKind.i64.wrap ((IntKind.i64.wrap ((IntKind.i64.wrap ((IntKind.i64.wrap ((IntKind.i64.wrap ((hdl ((el a i).live) (hdl ((el a i).written) (IntKind.i64.wrap ((IntKind.i64.wrap ((hdl ((el a i).prog) j) + 1)) + 1)))) + 1)) + 1)) + 1)) + 1)) + 1)) + 1)) + 1)) + 1)) + 1))) < 0) := of_decide_eq_false h51
                                  refine wp_skip (nx_block (nx_then ?_))
                                  refine RG.start ?_
                                  refine S.quiet (k := 3) (keep := [0, 1, 5]) (m := 0) (σ' := ⟨[(0, .v (slv (a).length pa.1)), (1, .v (I (hdl ((el a i).seen) (IntKind.i64.wrap ((IntKind.i64.wrap ((IntKind.i64.wrap ((IntKind.i64.wrap ((IntKind.i64.wrap ((IntKind.i64.wrap ((IntKind.i64.wrap ((IntKind.i64.wrap ((IntKind.i64.wrap ((hdl ((el a i).live) (hdl ((el a i).written) (IntKind.i64.wrap ((IntKind.i64.wrap ((hdl ((el a i).prog) j) + 1)) + 1)))) + 1)) + 1)) + 1)) + 1)) + 1)) + 1)) + 1)) + 1)) + 1))))), (5, .v (I ((i : Int) + 1)))], []⟩) (.cons (Q_add (x := (i : Int)) (y := 1) ⟨by omega, by omega⟩) .nil) (by kernel_rfl) ?_
                                  clear S; intro ac w β S
                                  refine RG.done rfl (nx_then ?_)
                                  replace S := S.prune (keep := [0, 1, 5]) (m := 0) (σ' := ⟨[(0, .v (slv (a).length pa.1)), (1, .v (I (hdl ((el a i).seen) (IntKind.i64.wrap ((IntKind.i64.wrap ((IntKind.i64.wrap ((IntKind.i64.wrap ((IntKind.i64.wrap ((IntKind.i64.wrap ((IntKind.i64.wrap ((IntKind.i64.wrap ((IntKind.i64.wrap ((hdl ((el a i).live) (hdl ((el a i).written) (IntKind.i64.wrap ((IntKind.i64.wrap ((hdl ((el a i).prog) j) + 1)) + 1)))) + 1)) + 1)) + 1)) + 1)) + 1)) + 1)) + 1)) + 1)) + 1))))), (5, .v (I ((i : Int) + 1)))], []⟩) (by kernel_rfl)
                                  refine ⟨a.length - (i + 1), by omega, i + 1, (hdl ((el a i).seen) (IntKind.i64.wrap ((IntKind.i64.wrap ((IntKind.i64.wrap ((IntKind.i64.wrap ((IntKind.i64.wrap ((IntKind.i64.wrap ((IntKind.i64.wrap ((IntKind.i64.wrap ((IntKind.i64.wrap ((hdl ((el a i).live) (hdl ((el a i).written) (IntKind.i64.wrap ((IntKind.i64.wrap ((hdl ((el a i).prog) j) + 1)) + 1)))) + 1)) + 1)) + 1)) + 1)) + 1)) + 1)) + 1)) + 1)) + 1))), _, _, _, rfl, ?_, ?_, S.cast (by kernel_rfl)⟩
                                  · clear S; first | omega | (simp [*]; done) | (simp [*]; omega)
                                  · clear S; (rw [hr, hd_step (by omega)]; simp [he_Guest, hdi, hdb, hdc, *])
  · have g54 : ¬ ((i : Int) < ((a).length : Int)) := of_decide_eq_false h1
    refine wp_exit (ex_then (ex_then (ex_hit (nx_then ?_))))
    refine wp_seq ?_
    refine RG.start ?_
    refine S.quiet (k := 2) (keep := [4]) (m := 0) (σ' := ⟨[(4, .v (I j))], []⟩) .nil (by kernel_rfl) ?_
    clear S; intro ac w β S
    refine RG.done rfl (nx_then ?_)
    refine wp_ret ?_
    refine S.ret (vs := [I j]) (by kernel_rfl) ?_
    exact ⟨retI (show j = hdl a k by clear S; (first | (rw [hr, hd_end (by omega)]; done) | (rw [hr, hd_step (by omega)]; simp [he_Guest, hdi, hdb, hdc, *]; done) | (rw [hr, hd_step (by omega)]; simp_all [he_Guest, hdi, hdb, hdc]; done))), S.chg⟩

set_option maxRecDepth 100000 in
theorem c_laws_heldBareS (w0 : World) (a : List TBare) (pa : LP TBare) (ha : GT.rd KK (Lt w0.heap.size) w0 a pa) (k : Int) : Calls Go.Proofs.Try.prog 27 [slv (a).length pa.1, I k].toArray w0 (fun e w' => e = .returned (I (hdl a k)) ∧ Chg NoB w0 w') := by
  refine Calls.walk (args := [slv (a).length pa.1, I k]) NoB Go.Proofs.Try.func27 rfl rfl ?_
  intro ac β S
  have hlea : a.length ≤ 4194304 := LRd.le ha
  refine wp_seq ?_
  refine RG.start ?_
  refine S.quiet (k := 1) (keep := [0, 1]) (m := 0) (σ' := ⟨[(0, .v (slv (a).length pa.1)), (1, .v (I k))], []⟩) .nil (by kernel_rfl) ?_
  clear S; intro ac w β S
  refine RG.done rfl (nx_then ?_)
  refine wp_seq ?_
  refine wp_seq ?_
  refine RG.start ?_
  refine S.quiet (k := 1) (keep := [0, 1, 5]) (m := 0) (σ' := ⟨[(0, .v (slv (a).length pa.1)), (1, .v (I k)), (5, .v (I 0))], []⟩) .nil (by kernel_rfl) ?_
  clear S; intro ac w β S
  refine RG.done rfl (nx_then ?_)
  refine wp_block ?_
  replace S := S.prune (keep := [0, 1, 5]) (m := 0) (σ' := ⟨[(0, .v (slv (a).length pa.1)), (1, .v (I k)), (5, .v (I 0))], []⟩) (by kernel_rfl)
  refine wp_loop_down (fun mm ac w => ∃ (i : Nat) (j : Int)  (u : World) (N : Bl) (β : Nat → Nat), mm = a.length - i ∧ (i ≤ a.length) ∧ (hdl a k = hdlc (a.drop i) j id) ∧ St Go.Proofs.Try.prog Go.Proofs.Try.f27.ntmps w0 NoB u N β ⟨[(0, .v (slv (a).length pa.1)), (1, .v (I j)), (5, .v (I (i : Int)))], []⟩ ac w) _ ⟨0, k, _, _, _, rfl, (by first | omega | (simp; done) | (simp; omega)), (by rfl), S.cast (by kernel_rfl)⟩ ?_
  clear S
  rintro mm ac w ⟨i, j, u, N, β, rfl, hi, hr, S⟩
  refine wp_seq ?_
  refine wp_seq ?_
  refine RG.start ?_
  refine S.quiet (k := 4) (keep := [0, 1, 5, 9]) (m := 0) (σ' := ⟨[(0, .v (slv (a).length pa.1)), (1, .v (I j)), (5, .v (I (i : Int))), (9, .v (B (decide ((i : Int) < ((a).length : Int)))))], []⟩) .nil (by kernel_rfl) ?_
  clear S; intro ac w β S
  refine RG.done rfl (nx_then ?_)
  refine S.cond (e := (decide ((i : Int) < ((a).length : Int)))) (by kernel_rfl) (fun h1 => ?_) (fun h1 => ?_)
  · have g2 : (i : Int) < ((a).length : Int) := of_decide_eq_true h1
    refine wp_skip (nx_then ?_)
    refine wp_seq ?_
    refine wp_block ?_
    refine wp_seq ?_
    refine RG.start ?_
    refine S.quiet (k := 8) (keep := [0, 1, 5]) (m := 0) (σ' := ⟨[(0, .v (slv (a).length pa.1)), (1, .v (I (hdl ((el a i).mem) j))), (5, .v (I (i : Int)))], []⟩) (.cons (Q_idx (S.arg ha) (l := (a).length) (k := i) (i := (i : Int)) rfl rfl (by omega) Go.Proofs.Try.underlying59 (by kernel_rfl)) (.cons (Q_cell (S.arg ha) (t := 22) (k := i) (j := 0) (v := slv ((el a i).mem).length ((pa.2 i).mem).1) (by omega) (by kernel_rfl) (by kernel_rfl)) (.cons (Q_call fun w hw => c_laws_heldIntSS w ((el a i).mem) ((pa.2 i).mem) (rd_of (RBare.mem (d := (el a i)) (LRd.el (S.arg ha) i (by omega))) hw) j) .nil))) (by kernel_rfl) ?_
    clear S; intro ac w β S
    refine RG.done rfl (nx_then ?_)
    refine wp_seq ?_
    refine wp_seq ?_
    refine RG.start ?_
    refine S.quiet (k := 2) (keep := [0, 1, 5, 20]) (m := 0) (σ' := ⟨[(0, .v (slv (a).length pa.1)), (1, .v (I (hdl ((el a i).mem) j))), (5, .v (I (i : Int))), (20, .v (B (decide ((hdl ((el a i).mem) j) < 0))))], []⟩) .nil (by kernel_rfl) ?_
    clear S; intro ac w β S
    refine RG.done rfl (nx_then ?_)
    refine S.cond (e := (decide ((hdl ((el a i).mem) j) < 0))) (by kernel_rfl) (fun h3 => ?_) (fun h3 => ?_)
    · have g4 : (hdl ((el a i).mem) j) < 0 := of_decide_eq_true h3
      refine wp_seq ?_
      refine RG.start ?_
      refine S.quiet (k := 1) (keep := [4]) (m := 0) (σ' := ⟨[(4, .v (I (-1)))], []⟩) .nil (by kernel_rfl) ?_
      clear S; intro ac w β S
      refine RG.done rfl (nx_then ?_)
      refine wp_ret (rt_then (rt_block (rt_then (rt_then (rt_block (rt_then ?_))))))
      refine S.ret (vs := [I (-1)]) (by kernel_rfl) ?_
      exact ⟨retI (show (-1) = hdl a k by clear S; (first | (rw [hr, hd_end (by omega)]; done) | (rw [hr, hd_step (by omega)]; simp [he_Bare, hdi, hdb, hdc, *]; done) | (rw [hr, hd_step (by omega)]; simp_all [he_Bare, hdi, hdb, hdc]; done))), S.chg⟩
    · have g5 : ¬ ((hdl ((el a i).mem) j) < 0) := of_decide_eq_false h3
      refine wp_skip (nx_then ?_)
      refine wp_seq ?_
      refine RG.start ?_
      refine S.quiet (k := 8) (keep := [0, 1, 5]) (m := 0) (σ' := ⟨[(0, .v (slv (a).length pa.1)), (1, .v (I (hdl ((el a i).guests) (hdl ((el a i).mem) j)))), (5, .v (I (i : Int)))], []⟩) (.cons (Q_idx (S.arg ha) (l := (a).length) (k := i) (i := (i : Int)) rfl rfl (by omega) Go.Proofs.Try.underlying59 (by kernel_rfl)) (.cons (Q_cell (S.arg ha) (t := 43) (k := i) (j := 1) (v := slv ((el a i).guests).length ((pa.2 i).guests).1) (by omega) (by kernel_rfl) (by kernel_rfl)) (.cons (Q_call fun w hw => c_laws_heldGuestS w ((el a i).guests) ((pa.2 i).guests) (rd_of (RBare.guests (d := (el a i)) (LRd.el (S.arg ha) i (by omega))) hw) (hdl ((el a i).mem) j)) .nil))) (by kernel_rfl) ?_
      clear S; intro ac w β S
      refine RG.done rfl (nx_then ?_)
      refine wp_seq ?_
      refine wp_seq ?_
      refine RG.start ?_
      refine S.quiet (k := 2) (keep := [0, 1, 5, 29]) (m := 0) (σ' := ⟨[(0, .v (slv (a).length pa.1)), (1, .v (I (hdl ((el a i).guests) (hdl ((el a i).mem) j)))), (5, .v (I (i : Int))), (29, .v (B (decide ((hdl ((el a i).guests) (hdl ((el a i).mem) j)) < 0))))], []⟩) .nil (by kernel_rfl) ?_
      clear S; intro ac w β S
      refine RG.done rfl (nx_then ?_)
      refine S.cond (e := (decide ((hdl ((el a i).guests) (hdl ((el a i).mem) j)) < 0))) (by kernel_rfl) (fun h6 => ?_) (fun h6 => ?_)
      · have g7 : (hdl ((el a i).guests) (hdl ((el a i).mem) j)) < 0 := of_decide_eq_true h6
        refine wp_seq ?_
        refine RG.start ?_
        refine S.quiet (k := 1) (keep := [4]) (m := 0) (σ' := ⟨[(4, .v (I (-1)))], []⟩) .nil (by kernel_rfl) ?_
        clear S; intro ac w β S
        refine RG.done rfl (nx_then ?_)
        refine wp_ret (rt_then (rt_block (rt_then (rt_then (rt_block (rt_then ?_))))))
        refine S.ret (vs := [I (-1)]) (by kernel_rfl) ?_
        exact ⟨retI (show (-1) = hdl a k by clear S; (first | (rw [hr, hd_end (by omega)]; done) | (rw [hr, hd_step (by omega)]; simp [he_Bare, hdi, hdb, hdc, *]; done) | (rw [hr, hd_step (by omega)]; simp_all [he_Bare, hdi, hdb, hdc]; done))), S.chg⟩
      · have g8 : ¬ ((hdl ((el a i).guests) (hdl ((el a i).mem) j)) < 0) := of_decide_eq_false h6
        refine wp_skip (nx_then ?_)
        refine wp_seq ?_
        refine RG.start ?_
        refine S.quiet (k := 8) (keep := [0, 1, 5]) (m := 0) (σ' := ⟨[(0, .v (slv (a).length pa.1)), (1, .v (I (hdl ((el a i).outs) (hdl ((el a i).guests) (hdl ((el a i).mem) j))))), (5, .v (I (i : Int)))], []⟩) (.cons (Q_idx (S.arg ha) (l := (a).length) (k := i) (i := (i : Int)) rfl rfl (by omega) Go.Proofs.Try.underlying59 (by kernel_rfl)) (.cons (Q_cell (S.arg ha) (t := 30) (k := i) (j := 2) (v := slv ((el a i).outs).length ((pa.2 i).outs).1) (by omega) (by kernel_rfl) (by kernel_rfl)) (.cons (Q_call fun w hw => c_laws_heldIntS w ((el a i).outs) ((pa.2 i).outs) (rd_of (RBare.outs (d := (el a i)) (LRd.el (S.arg ha) i (by omega))) hw) (hdl ((el a i).guests) (hdl ((el a i).mem) j))) .nil))) (by kernel_rfl) ?_
        clear S; intro ac w β S
        refine RG.done rfl (nx_then ?_)
        refine wp_seq ?_
        refine wp_seq ?_
        refine RG.start ?_
        refine S.quiet (k := 2) (keep := [0, 1, 5, 38]) (m := 0) (σ' := ⟨[(0, .v (slv (a).length pa.1)), (1, .v (I (hdl ((el a i).outs) (hdl ((el a i).guests) (hdl ((el a i).mem) j))))), (5, .v (I (i : Int))), (38, .v (B (decide ((hdl ((el a i).outs) (hdl ((el a i).guests) (hdl ((el a i).mem) j))) < 0))))], []⟩) .nil (by kernel_rfl) ?_
        clear S; intro ac w β S
        refine RG.done rfl (nx_then ?_)
        refine S.cond (e := (decide ((hdl ((el a i).outs) (hdl ((el a i).guests) (hdl ((el a i).mem) j))) < 0))) (by kernel_rfl) (fun h9 => ?_) (fun h9 => ?_)
        · have g10 : (hdl ((el a i).outs) (hdl ((el a i).guests) (hdl ((el a i).mem) j))) < 0 := of_decide_eq_true h9
          refine wp_seq ?_
          refine RG.start ?_
          refine S.quiet (k := 1) (keep := [4]) (m := 0) (σ' := ⟨[(4, .v (I (-1)))], []⟩) .nil (by kernel_rfl) ?_
          clear S; intro ac w β S
          refine RG.done rfl (nx_then ?_)
          refine wp_ret (rt_then (rt_block (rt_then (rt_then (rt_block (rt_then ?_))))))
          refine S.ret (vs := [I (-1)]) (by kernel_rfl) ?_
          exact ⟨retI (show (-1) = hdl a k by clear S; (first | (rw [hr, hd_end (by omega)]; done) | (rw [hr, hd_step (by omega)]; simp [he_Bare, hdi, hdb, hdc, *]; done) | (rw [hr, hd_step (by omega)]; simp_all [he_Bare, hdi, hdb, hdc]; done))), S.chg⟩
        · have g11 : ¬ ((hdl ((el a i).outs) (hdl ((el a i).guests) (hdl ((el a i).mem) j))) < 0) := of_decide_eq_false h9
          refine wp_skip (nx_then ?_)
          refine wp_seq ?_
          refine wp_seq ?_
          refine RG.start ?_
          refine S.quiet (k := 7) (keep := [0, 1, 5, 45]) (m := 0) (σ' := ⟨[(0, .v (slv (a).length pa.1)), (1, .v (I (hdl ((el a i).outs) (hdl ((el a i).guests) (hdl ((el a i).mem) j))))), (5, .v (I (i : Int))), (45, .v (B ((el a i).pend != (hdl ((el a i).outs) (hdl ((el a i).guests) (hdl ((el a i).mem) j))))))], []⟩) (.cons (Q_idx (S.arg ha) (l := (a).length) (k := i) (i := (i : Int)) rfl rfl (by omega) Go.Proofs.Try.underlying59 (by kernel_rfl)) (.cons (Q_cell (S.arg ha) (t := 3) (k := i) (j := 3) (v := I ((el a i).pend)) (by omega) (by kernel_rfl) (by kernel_rfl)) .nil)) (by kernel_rfl) ?_
          clear S; intro ac w β S
          refine RG.done rfl (nx_then ?_)
          refine S.cond (e := ((el a i).pend != (hdl ((el a i).outs) (hdl ((el a i).guests) (hdl ((el a i).mem) j))))) (by kernel_rfl) (fun h12 => ?_) (fun h12 => ?_)
          · have g13 : ¬ ((el a i).pend = (hdl ((el a i).outs) (hdl ((el a i).guests) (hdl ((el a i).mem) j)))) := bne_iff_ne.1 h12
            refine wp_seq ?_
            refine RG.start ?_
            refine S.quiet (k := 1) (keep := [4]) (m := 0) (σ' := ⟨[(4, .v (I (-1)))], []⟩) .nil (by kernel_rfl) ?_
            clear S; intro ac w β S
            refine RG.done rfl (nx_then ?_)
            refine wp_ret (rt_then (rt_block (rt_then (rt_then (rt_block (rt_then ?_))))))
            refine S.ret (vs := [I (-1)]) (by kernel_rfl) ?_
            exact ⟨retI (show (-1) = hdl a k by clear S; (first | (rw [hr, hd_end (by omega)]; done) | (rw [hr, hd_step (by omega)]; simp [he_Bare, hdi, hdb, hdc, *]; done) | (rw [hr, hd_step (by omega)]; simp_all [he_Bare, hdi, hdb, hdc]; done))), S.chg⟩
          · have g14 : (el a i).pend = (hdl ((el a i).outs) (hdl ((el a i).guests) (hdl ((el a i).mem) j))) := ne_f h12
            refine wp_skip (nx_then ?_)
            refine RG.start ?_
            refine S.quiet (k := 3) (keep := [0, 1, 5]) (m := 0) (σ' := ⟨[(0, .v (slv (a).length pa.1)), (1, .v (I (IntKind.i64.wrap ((hdl ((el a i).outs) (hdl ((el a i).guests) (hdl ((el a i).mem) j))) + 1)))), (5, .v (I (i : Int)))], []⟩) (.cons (Q_addw (x := (hdl ((el a i).outs) (hdl ((el a i).guests) (hdl ((el a i).mem) j)))) (y := 1)) .nil) (by kernel_rfl) ?_
            clear S; intro ac w β S
            refine RG.done rfl (nx_block (nx_then ?_))
            refine RG.start ?_
            refine S.quiet (k := 3) (keep := [0, 1, 5]) (m := 0) (σ' := ⟨[(0, .v (slv (a).length pa.1)), (1, .v (I (IntKind.i64.wrap ((hdl ((el a i).outs) (hdl ((el a i).guests) (hdl ((el a i).mem) j))) + 1)))), (5, .v (I ((i : Int) + 1)))], []⟩) (.cons (Q_add (x := (i : Int)) (y := 1) ⟨by omega, by omega⟩) .nil) (by kernel_rfl) ?_
            clear S; intro ac w β S
            refine RG.done rfl (nx_then ?_)
            replace S := S.prune (keep := [0, 1, 5]) (m := 0) (σ' := ⟨[(0, .v (slv (a).length pa.1)), (1, .v (I (IntKind.i64.wrap ((hdl ((el a i).outs) (hdl ((el a i).guests) (hdl ((el a i).mem) j))) + 1)))), (5, .v (I ((i : Int) + 1)))], []⟩) (by kernel_rfl)
            refine ⟨a.length - (i + 1), by omega, i + 1, (IntKind.i64.wrap ((hdl ((el a i).outs) (hdl ((el a i).guests) (hdl ((el a i).mem) j))) + 1)), _, _, _, rfl, ?_, ?_, S.cast (by kernel_rfl)⟩
            · clear S; first | omega | (simp [*]; done) | (simp [*]; omega)
            · clear S; (rw [hr, hd_step (by omega)]; simp [he_Bare, hdi, hdb, hdc, *])
  · have g15 : ¬ ((i : Int) < ((a).length : Int)) := of_decide_eq_false h1
    refine wp_exit (ex_then (ex_then (ex_hit (nx_then ?_))))
    refine wp_seq ?_
    refine RG.start ?_
    refine S.quiet (k := 2) (keep := [4]) (m := 0) (σ' := ⟨[(4, .v (I j))], []⟩) .nil (by kernel_rfl) ?_
    clear S; intro ac w β S
    refine RG.done rfl (nx_then ?_)
    refine wp_ret ?_
    refine S.ret (vs := [I j]) (by kernel_rfl) ?_
    exact ⟨retI (show j = hdl a k by clear S; (first | (rw [hr, hd_end (by omega)]; done) | (rw [hr, hd_step (by omega)]; simp [he_Bare, hdi, hdb, hdc, *]; done) | (rw [hr, hd_step (by omega)]; simp_all [he_Bare, hdi, hdb, hdc]; done))), S.chg⟩

set_option maxRecDepth 100000 in
theorem c_laws_FnExactAllSeenAs (w0 : World) (aH : THost) (paH : PHost) (haH : GT.rd KR (Lt w0.heap.size) w0 aH paH) : Calls Go.Proofs.Try.prog 5 [GT.val (α := THost) aH paH].toArray w0 (fun e w' => e = .returned (B true) ∧ Chg NoB w0 w') := by
  refine Calls.walk (args := [GT.val (α := THost) aH paH]) NoB Go.Proofs.Try.func5 rfl rfl ?_
  intro ac β S
  refine wp_seq ?_
  refine RG.start ?_
  refine S.quiet (k := 2) (keep := [1]) (m := 1) (σ' := ⟨[(1, .p 0 0)], [GT.cells (α := THost) aH paH]⟩) .nil (by kernel_rfl) ?_
  clear S; intro ac w β S
  refine RG.done rfl (nx_then ?_)
  refine wp_seq ?_
  refine RG.start ?_
  refine S.quiet (k := 1) (keep := [1, 3]) (m := 1) (σ' := ⟨[(1, .p 0 0), (3, .v (I 1048576))], [GT.cells (α := THost) aH paH]⟩) .nil (by kernel_rfl) ?_
  clear S; intro ac w β S
  refine RG.done rfl (nx_then ?_)
  refine wp_seq ?_
  refine RG.start ?_
  have b1 := f_sz_cs (SZ.sz aH) 1048576
  refine S.quiet (k := 4) (keep := [1, 3]) (m := 1) (σ' := ⟨[(1, .p 0 0), (3, .v (I (f_sz (SZ.sz aH) 1048576)))], [GT.cells (α := THost) aH paH]⟩) (.cons (Q_call fun w hw => c_laws_szHost w aH paH (rd_of (S.arg haH) hw) 1048576 (by omega) (by omega)) .nil) (by kernel_rfl) ?_
  clear S; intro ac w β S
  refine RG.done rfl (nx_then ?_)
  refine wp_seq ?_
  refine wp_seq ?_
  refine RG.start ?_
  refine S.quiet (k := 2) (keep := [1, 15]) (m := 1) (σ' := ⟨[(1, .p 0 0), (15, .v (B (decide ((f_sz (SZ.sz aH) 1048576) < 0))))], [GT.cells (α := THost) aH paH]⟩) .nil (by kernel_rfl) ?_
  clear S; intro ac w β S
  refine RG.done rfl (nx_then ?_)
  refine S.cond (e := (decide ((f_sz (SZ.sz aH) 1048576) < 0))) (by kernel_rfl) (fun h2 => ?_) (fun h2 => ?_)
  · have g3 : (f_sz (SZ.sz aH) 1048576) < 0 := of_decide_eq_true h2
    refine wp_seq ?_
    refine RG.start ?_
    refine S.quiet (k := 1) (keep := [2]) (m := 0) (σ' := ⟨[(2, .v (B true))], []⟩) .nil (by kernel_rfl) ?_
    clear S; intro ac w β S
    refine RG.done rfl (nx_then ?_)
    refine wp_ret (rt_then ?_)
    refine S.ret (vs := [B true]) (by kernel_rfl) ?_
    exact ⟨retB (show true = true by clear S; first | rfl | (exfalso; omega) | (exfalso; simp_all; done) | (exfalso; simp_all; omega)), S.chg⟩
  · have g4 : ¬ ((f_sz (SZ.sz aH) 1048576) < 0) := of_decide_eq_false h2
    have hkaH : GT.rd KK (Lt w0.heap.size) w0 aH paH := SZ.cut haH (show SZ.sz aH ≤ 4194304 by omega)
    have hcaH : SZ.sz aH ≤ 1048576 := by omega
    refine wp_skip (nx_then ?_)
    refine wp_seq ?_
    refine RG.start ?_
    refine S.quiet (k := 1) (keep := [1, 16]) (m := 1) (σ' := ⟨[(1, .p 0 0), (16, .v (GT.val (α := THost) aH paH))], [GT.cells (α := THost) aH paH]⟩) .nil (by kernel_rfl) ?_
    clear S; intro ac w β S
    refine RG.op rfl (S.call1 (r := aH) (d := 17) (c_laws_toHost w aH paH (S.rd (S.arg hkaH))) (by kernel_rfl) rfl ?_)
    clear S; intro ac w N q5 F6 S up o7 d8
    clear up d8
    obtain ⟨F9, F12, F15, F18, o10, o13, o16, o19, s11, s14, s17, s20, d21, d22, d23, d24, d25, d26⟩ := sp_Host o7
    refine RG.op rfl (S.call1 (r := f_allSeenAs aH) (d := 18) (c_spec_AllSeenAs w aH q5 (S.rd (show GT.rd KK _ _ aH q5 from ⟨o10.rn, o13.rn, o16.rn, o19.rn⟩))) (by kernel_rfl) rfl ?_)
    clear S; intro ac w N q27 F28 S up o29 d30
    have d31 : Disj F9 F28 := fun b x y => d30 b (o10.sub b x) y
    have d32 : Disj F12 F28 := fun b x y => d30 b (o13.sub b x) y
    have d33 : Disj F15 F28 := fun b x y => d30 b (o16.sub b x) y
    have d34 : Disj F18 F28 := fun b x y => d30 b (o19.sub b x) y
    replace o10 := o10.up up
    replace o13 := o13.up up
    replace o16 := o16.up up
    replace o19 := o19.up up
    clear up d30
    refine S.quiet (k := 1) (keep := [1, 4]) (m := 1) (σ' := ⟨[(1, .p 0 0), (4, .v (slv ((f_allSeenAs aH)).length q27.1))], [GT.cells (α := THost) aH paH]⟩) .nil (by kernel_rfl) ?_
    clear S; intro ac w β S
    refine RG.done rfl (nx_then ?_)
    refine wp_seq ?_
    refine RG.start ?_
    refine S.quiet (k := 1) (keep := [1, 4, 19]) (m := 1) (σ' := ⟨[(1, .p 0 0), (4, .v (slv ((f_allSeenAs aH)).length q27.1)), (19, .v (GT.val (α := THost) aH paH))], [GT.cells (α := THost) aH paH]⟩) .nil (by kernel_rfl) ?_
    clear S; intro ac w β S
    refine RG.op rfl (S.call1 (r := aH) (d := 20) (c_laws_toHost w aH paH (S.rd (S.arg hkaH))) (by kernel_rfl) rfl ?_)
    clear S; intro ac w N q35 F36 S up o37 d38
    have d39 : Disj F28 F36 := fun b x y => d38 b (o29.sub b x) y
    replace o29 := o29.up up
    clear up d38
    obtain ⟨F40, F43, F46, F49, o41, o44, o47, o50, s42, s45, s48, s51, d52, d53, d54, d55, d56, d57⟩ := sp_Host o37
    refine S.quiet (k := 2) (keep := [1, 4, 5]) (m := 2) (σ' := ⟨[(1, .p 0 0), (4, .v (slv ((f_allSeenAs aH)).length q27.1)), (5, .p 1 0)], [GT.cells (α := THost) aH paH, [slv (aH.mem).length q35.mem.1, slv (aH.mons).length q35.mons.1, slv (aH.buf).length q35.buf.1, slv (aH.iobuf).length q35.iobuf.1]]⟩) .nil (by kernel_rfl) ?_
    clear S; intro ac w β S
    refine RG.done rfl (nx_then ?_)
    refine wp_seq ?_
    refine RG.start ?_
    refine S.quiet (k := 1) (keep := [1, 4, 5, 21]) (m := 2) (σ' := ⟨[(1, .p 0 0), (4, .v (slv ((f_allSeenAs aH)).length q27.1)), (5, .p 1 0), (21, .v (GT.val (α := THost) aH q35))], [GT.cells (α := THost) aH paH, [slv (aH.mem).length q35.mem.1, slv (aH.mons).length q35.mons.1, slv (aH.buf).length q35.buf.1, slv (aH.iobuf).length q35.iobuf.1]]⟩) .nil (by kernel_rfl) ?_
    clear S; intro ac w β S
    refine RG.op rfl (S.call1 (r := f_allSeenAs aH) (d := 22) (c_impl_AllSeenAs w aH q35 (S.rd (show GT.rd KK _ _ aH q35 from ⟨o41.rn, o44.rn, o47.rn, o50.rn⟩))) (by kernel_rfl) rfl ?_)
    clear S; intro ac w N q58 F59 S up o60 d61
    have d62 : Disj F28 F59 := fun b x y => d61 b (o29.sub b x) y
    have d63 : Disj F40 F59 := fun b x y => d61 b (o41.sub b x) y
    have d64 : Disj F43 F59 := fun b x y => d61 b (o44.sub b x) y
    have d65 : Disj F46 F59 := fun b x y => d61 b (o47.sub b x) y
    have d66 : Disj F49 F59 := fun b x y => d61 b (o50.sub b x) y
    replace o29 := o29.up up
    replace o41 := o41.up up
    replace o44 := o44.up up
    replace o47 := o47.up up
    replace o50 := o50.up up
    clear up d61
    refine S.quiet (k := 1) (keep := [1, 4, 5, 6]) (m := 2) (σ' := ⟨[(1, .p 0 0), (4, .v (slv ((f_allSeenAs aH)).length q27.1)), (5, .p 1 0), (6, .v (slv ((f_allSeenAs aH)).length q58.1))], [GT.cells (α := THost) aH paH, [slv (aH.mem).length q35.mem.1, slv (aH.mons).length q35.mons.1, slv (aH.buf).length q35.buf.1, slv (aH.iobuf).length q35.iobuf.1]]⟩) .nil (by kernel_rfl) ?_
    clear S; intro ac w β S
    refine RG.done rfl (nx_then ?_)
    refine wp_seq ?_
    refine wp_seq ?_
    refine RG.start ?_
    refine S.quiet (k := 4) (keep := [1, 4, 5, 6, 26]) (m := 2) (σ' := ⟨[(1, .p 0 0), (4, .v (slv ((f_allSeenAs aH)).length q27.1)), (5, .p 1 0), (6, .v (slv ((f_allSeenAs aH)).length q58.1)), (26, .v (B (!(decide ((f_allSeenAs aH) = (f_allSeenAs aH))))))], [GT.cells (α := THost) aH paH, [slv (aH.mem).length q35.mem.1, slv (aH.mons).length q35.mons.1, slv (aH.buf).length q35.buf.1, slv (aH.iobuf).length q35.iobuf.1]]⟩) (.cons (Q_call fun w hw => c_laws_eqBareS w (f_allSeenAs aH) q58 (rd_of o60.rn hw) (f_allSeenAs aH) q27 (rd_of o29.rn hw)) .nil) (by kernel_rfl) ?_
    clear S; intro ac w β S
    refine RG.done rfl (nx_then ?_)
    refine S.cond (e := (!(decide ((f_allSeenAs aH) = (f_allSeenAs aH))))) (by kernel_rfl) (fun h67 => ?_) (fun h67 => ?_)
    · have h68 : (decide ((f_allSeenAs aH) = (f_allSeenAs aH))) = false := not_t h67
      have g69 := of_decide_eq_false h68
      refine wp_seq ?_
      refine RG.start ?_
      refine S.quiet (k := 1) (keep := [2]) (m := 0) (σ' := ⟨[(2, .v (B false))], []⟩) .nil (by kernel_rfl) ?_
      clear S; intro ac w β S
      refine RG.done rfl (nx_then ?_)
      refine wp_ret (rt_then ?_)
      refine S.ret (vs := [B false]) (by kernel_rfl) ?_
      exact ⟨retB (show false = true by clear S; first | rfl | (exfalso; omega) | (exfalso; simp_all; done) | (exfalso; simp_all; omega)), S.chg⟩
    · have h70 : (decide ((f_allSeenAs aH) = (f_allSeenAs aH))) = true := not_f h67
      have g71 := of_decide_eq_true h70
      refine wp_skip (nx_then ?_)
      refine wp_seq ?_
      refine wp_seq ?_
      refine S.draw0 (f := 5) 5 rfl rfl ?_
      clear S; intro w S
      refine S.hoist (i := 0) (path := []) (keep := [1, 4, 5, 6, 27]) (m := 2) (σ' := ⟨[(1, .p 0 0), (4, .v (slv ((f_allSeenAs aH)).length q27.1)), (5, .p 1 0), (6, .v (slv ((f_allSeenAs aH)).length q58.1)), (27, .v (GT.val (α := THost) aH q35))], [GT.cells (α := THost) aH paH, [slv (aH.mem).length q35.mem.1, slv (aH.mons).length q35.mons.1, slv (aH.buf).length q35.buf.1, slv (aH.iobuf).length q35.iobuf.1]]⟩) (by kernel_rfl) (by kernel_rfl) .nil (by kernel_rfl) ?_
      clear S; intro ac S
      refine S.hoist (i := 1) (path := []) (keep := [1, 4, 5, 6, 27, 28]) (m := 2) (σ' := ⟨[(1, .p 0 0), (4, .v (slv ((f_allSeenAs aH)).length q27.1)), (5, .p 1 0), (6, .v (slv ((f_allSeenAs aH)).length q58.1)), (27, .v (GT.val (α := THost) aH q35)), (28, .v (GT.val (α := THost) aH paH))], [GT.cells (α := THost) aH paH, [slv (aH.mem).length q35.mem.1, slv (aH.mons).length q35.mons.1, slv (aH.buf).length q35.buf.1, slv (aH.iobuf).length q35.iobuf.1]]⟩) (by kernel_rfl) (by kernel_rfl) .nil (by kernel_rfl) ?_
      clear S; intro ac S
      refine WD.one (i := 2) (by kernel_rfl) ?_
      refine id (S.call1 (r := aH) (d := 29) (c_laws_toHost w aH paH (S.rd (S.arg hkaH))) (by kernel_rfl) rfl ?_)
      clear S; intro ac w N q72 F73 S up o74 d75
      refine WD.next S up rfl ?_
      have d76 : Disj F28 F73 := fun b x y => d75 b (o29.sub b x) y
      have d77 : Disj F40 F73 := fun b x y => d75 b (o41.sub b x) y
      have d78 : Disj F43 F73 := fun b x y => d75 b (o44.sub b x) y
      have d79 : Disj F46 F73 := fun b x y => d75 b (o47.sub b x) y
      have d80 : Disj F49 F73 := fun b x y => d75 b (o50.sub b x) y
      have d81 : Disj F59 F73 := fun b x y => d75 b (o60.sub b x) y
      replace o29 := o29.up up
      replace o41 := o41.up up
      replace o44 := o44.up up
      replace o47 := o47.up up
      replace o50 := o50.up up
      replace o60 := o60.up up
      clear up d75
      obtain ⟨F82, F85, F88, F91, o83, o86, o89, o92, s84, s87, s90, s93, d94, d95, d96, d97, d98, d99⟩ := sp_Host o74
      refine WD.one (i := 3) (by kernel_rfl) ?_
      refine S.stepq (i := 3) (keep := [1, 4, 5, 6, 30]) (m := 2) (σ' := ⟨[(1, .p 0 0), (4, .v (slv ((f_allSeenAs aH)).length q27.1)), (5, .p 1 0), (6, .v (slv ((f_allSeenAs aH)).length q58.1)), (30, .v (B (decide (aH = aH))))], [GT.cells (α := THost) aH paH, [slv (aH.mem).length q35.mem.1, slv (aH.mons).length q35.mons.1, slv (aH.buf).length q35.buf.1, slv (aH.iobuf).length q35.iobuf.1]]⟩) (.cons (Q_call fun w hw => c_laws_eqHost w aH q35 (rd_of (show GT.rd KK _ _ aH q35 from ⟨o41.rn, o44.rn, o47.rn, o50.rn⟩) hw) aH q72 (rd_of (show GT.rd KK _ _ aH q72 from ⟨o83.rn, o86.rn, o89.rn, o92.rn⟩) hw)) .nil) (by kernel_rfl) ?_
      clear S; intro ac w β S hβ
      refine WD.stay S hβ (fun _ _ h => h) ?_
      clear hβ
      refine S.hoist (i := 4) (path := []) (keep := [1, 4, 5, 6, 31]) (m := 2) (σ' := ⟨[(1, .p 0 0), (4, .v (slv ((f_allSeenAs aH)).length q27.1)), (5, .p 1 0), (6, .v (slv ((f_allSeenAs aH)).length q58.1)), (31, .v (B (!(decide (aH = aH)))))], [GT.cells (α := THost) aH paH, [slv (aH.mem).length q35.mem.1, slv (aH.mons).length q35.mons.1, slv (aH.buf).length q35.buf.1, slv (aH.iobuf).length q35.iobuf.1]]⟩) (by kernel_rfl) (by kernel_rfl) .nil (by kernel_rfl) ?_
      clear S; intro ac S
      refine WD.done (by kernel_rfl) ?_ _
      replace S := S.prune (keep := [1, 4, 5, 6, 31]) (m := 2) (σ' := ⟨[(1, .p 0 0), (4, .v (slv ((f_allSeenAs aH)).length q27.1)), (5, .p 1 0), (6, .v (slv ((f_allSeenAs aH)).length q58.1)), (31, .v (B (!(decide (aH = aH)))))], [GT.cells (α := THost) aH paH, [slv (aH.mem).length q35.mem.1, slv (aH.mons).length q35.mons.1, slv (aH.buf).length q35.buf.1, slv (aH.iobuf).length q35.iobuf.1]]⟩) (by kernel_rfl)
      refine id (nx_then ?_)
      refine S.cond (e := (!(decide (aH = aH)))) (by kernel_rfl) (fun h100 => ?_) (fun h100 => ?_)
      · have h101 : (decide (aH = aH)) = false := not_t h100
        have g102 := of_decide_eq_false h101
        refine wp_seq ?_
        refine RG.start ?_
        refine S.quiet (k := 1) (keep := [2]) (m := 0) (σ' := ⟨[(2, .v (B false))], []⟩) .nil (by kernel_rfl) ?_
        clear S; intro ac w β S
        refine RG.done rfl (nx_then ?_)
        refine wp_ret (rt_then ?_)
        refine S.ret (vs := [B false]) (by kernel_rfl) ?_
        exact ⟨retB (show false = true by clear S; first | rfl | (exfalso; omega) | (exfalso; simp_all; done) | (exfalso; simp_all; omega)), S.chg⟩
      · have h103 : (decide (aH = aH)) = true := not_f h100
        have g104 := of_decide_eq_true h103
        refine wp_skip (nx_then ?_)
        refine wp_seq ?_
        refine RG.start ?_
        refine S.quiet (k := 1) (keep := [1, 4, 5, 6, 7]) (m := 2) (σ' := ⟨[(1, .p 0 0), (4, .v (slv ((f_allSeenAs aH)).length q27.1)), (5, .p 1 0), (6, .v (slv ((f_allSeenAs aH)).length q58.1)), (7, .v (I 1))], [GT.cells (α := THost) aH paH, [slv (aH.mem).length q35.mem.1, slv (aH.mons).length q35.mons.1, slv (aH.buf).length q35.buf.1, slv (aH.iobuf).length q35.iobuf.1]]⟩) .nil (by kernel_rfl) ?_
        clear S; intro ac w β S
        refine RG.done rfl (nx_then ?_)
        refine wp_seq ?_
        refine RG.start ?_
        refine S.quiet (k := 2) (keep := [1, 4, 6, 32, 33]) (m := 1) (σ' := ⟨[(1, .p 0 0), (4, .v (slv ((f_allSeenAs aH)).length q27.1)), (6, .v (slv ((f_allSeenAs aH)).length q58.1)), (32, .v (GT.val (α := THost) aH q35)), (33, .v (I 1))], [GT.cells (α := THost) aH paH]⟩) .nil (by kernel_rfl) ?_
        clear S; intro ac w β S
        have o105 := ow_Host (x := aH) (p := q35) o41 o44 o47 o50 d52 d53 d54 d55 d56 d57 
        have z114 := sz_allSeenAs hcaH
        refine RG.op rfl (S.callX (hd := hdT_Host) (d := 34) o105 (c_laws_markHost w aH q35 (uniB [F40, F43, F46, F49]) (S.ownw o105) (fun b hb => (S.sep b (o105.sub b hb)).1) 1 (by omega) (by omega)) (by kernel_rfl) rfl ?_)
        clear S; intro ac w N q106 y107 k108 S up o109 c110 x111 b112 b113
        replace o29 := o29.upF (Disj.symm (Disj.or (Disj.part (Disj.symm d39) s42) (Disj.or (Disj.part (Disj.symm d39) s45) (Disj.or (Disj.part (Disj.symm d39) s48) (Disj.or (Disj.part (Disj.symm d39) s51) Disj.nob))))) up
        replace o60 := o60.upF (Disj.symm (Disj.or d63 (Disj.or d64 (Disj.or d65 (Disj.or d66 Disj.nob))))) up
        clear up
        refine S.quiet (k := 1) (keep := [1, 4, 6, 7]) (m := 1) (σ' := ⟨[(1, .p 0 0), (4, .v (slv ((f_allSeenAs aH)).length q27.1)), (6, .v (slv ((f_allSeenAs aH)).length q58.1)), (7, .v (I k108))], [GT.cells (α := THost) aH paH]⟩) .nil (by kernel_rfl) ?_
        clear S; intro ac w β S
        refine RG.done rfl (nx_then ?_)
        refine wp_seq ?_
        refine wp_seq ?_
        refine RG.start ?_
        refine S.quiet (k := 3) (keep := [1, 4, 6, 37]) (m := 1) (σ' := ⟨[(1, .p 0 0), (4, .v (slv ((f_allSeenAs aH)).length q27.1)), (6, .v (slv ((f_allSeenAs aH)).length q58.1)), (37, .v (B (decide (k108 < 0))))], [GT.cells (α := THost) aH paH]⟩) .nil (by kernel_rfl) ?_
        clear S; intro ac w β S
        rcases Bool.eq_false_or_eq_true (decide (k108 < 0)) with h115 | h115 <;> rw [h115] at S
        · have g116 : k108 < 0 := of_decide_eq_true h115
          refine S.quiet (k := 5) (keep := [1, 4, 6, 42]) (m := 1) (σ' := ⟨[(1, .p 0 0), (4, .v (slv ((f_allSeenAs aH)).length q27.1)), (6, .v (slv ((f_allSeenAs aH)).length q58.1)), (42, .v (B true))], [GT.cells (α := THost) aH paH]⟩) .nil (by kernel_rfl) ?_
          clear S; intro ac w β S
          refine RG.done rfl (nx_then ?_)
          refine S.cond (e := true) (by kernel_rfl) (fun _ => ?_) (fun hx => by cases hx)
          refine wp_seq ?_
          refine RG.start ?_
          refine S.quiet (k := 1) (keep := [2]) (m := 0) (σ' := ⟨[(2, .v (B false))], []⟩) .nil (by kernel_rfl) ?_
          clear S; intro ac w β S
          refine RG.done rfl (nx_then ?_)
          refine wp_ret (rt_then ?_)
          refine S.ret (vs := [B false]) (by kernel_rfl) ?_
          exact ⟨retB (show false = true by clear S; first | rfl | (exfalso; omega) | (exfalso; simp_all; done) | (exfalso; simp_all; omega)), S.chg⟩
        · have g117 : ¬ (k108 < 0) := of_decide_eq_false h115
          refine S.quiet (k := 5) (keep := [1, 4, 6, 42]) (m := 1) (σ' := ⟨[(1, .p 0 0), (4, .v (slv ((f_allSeenAs aH)).length q27.1)), (6, .v (slv ((f_allSeenAs aH)).length q58.1)), (42, .v (B (!(decide ((f_allSeenAs aH) = (f_allSeenAs aH))))))], [GT.cells (α := THost) aH paH]⟩) (.cons (Q_call fun w hw => c_laws_eqBareS w (f_allSeenAs aH) q58 (rd_of o60.rn hw) (f_allSeenAs aH) q27 (rd_of o29.rn hw)) .nil) (by kernel_rfl) ?_
          clear S; intro ac w β S
          refine RG.done rfl (nx_then ?_)
          refine S.cond (e := (!(decide ((f_allSeenAs aH) = (f_allSeenAs aH))))) (by kernel_rfl) (fun h118 => ?_) (fun h118 => ?_)
          · have h119 : (decide ((f_allSeenAs aH) = (f_allSeenAs aH))) = false := not_t h118
            have g120 := of_decide_eq_false h119
            refine wp_seq ?_
            refine RG.start ?_
            refine S.quiet (k := 1) (keep := [2]) (m := 0) (σ' := ⟨[(2, .v (B false))], []⟩) .nil (by kernel_rfl) ?_
            clear S; intro ac w β S
            refine RG.done rfl (nx_then ?_)
            refine wp_ret (rt_then ?_)
            refine S.ret (vs := [B false]) (by kernel_rfl) ?_
            exact ⟨retB (show false = true by clear S; first | rfl | (exfalso; omega) | (exfalso; simp_all; done) | (exfalso; simp_all; omega)), S.chg⟩
          · have h121 : (decide ((f_allSeenAs aH) = (f_allSeenAs aH))) = true := not_f h118
            have g122 := of_decide_eq_true h121
            refine wp_skip (nx_then ?_)
            refine wp_seq ?_
            refine RG.start ?_
            refine S.quiet (k := 1) (keep := [1, 4, 6, 8]) (m := 1) (σ' := ⟨[(1, .p 0 0), (4, .v (slv ((f_allSeenAs aH)).length q27.1)), (6, .v (slv ((f_allSeenAs aH)).length q58.1)), (8, .v (I 1))], [GT.cells (α := THost) aH paH]⟩) .nil (by kernel_rfl) ?_
            clear S; intro ac w β S
            refine RG.done rfl (nx_then ?_)
            refine wp_seq ?_
            refine RG.start ?_
            refine S.quiet (k := 2) (keep := [1, 4, 6, 43, 44]) (m := 1) (σ' := ⟨[(1, .p 0 0), (4, .v (slv ((f_allSeenAs aH)).length q27.1)), (6, .v (slv ((f_allSeenAs aH)).length q58.1)), (43, .v (slv ((f_allSeenAs aH)).length q58.1)), (44, .v (I 1))], [GT.cells (α := THost) aH paH]⟩) .nil (by kernel_rfl) ?_
            clear S; intro ac w β S
            have z131 := sz_allSeenAs hcaH
            refine RG.op rfl (S.callX (hd := hdl) (d := 45) o60 (c_laws_markBareS w (f_allSeenAs aH) q58 F59 (S.ownw o60) (fun b hb => (S.sep b (o60.sub b hb)).1) 1 (by omega) (by omega)) (by kernel_rfl) rfl ?_)
            clear S; intro ac w N q123 y124 k125 S up o126 c127 x128 b129 b130
            replace o29 := o29.upF d62 up
            clear up
            replace S := S.prune (keep := [1, 4, 6, 44, 45]) (m := 1) (σ' := ⟨[(1, .p 0 0), (4, .v (slv ((f_allSeenAs aH)).length q27.1)), (6, .v (slv ((f_allSeenAs aH)).length q58.1)), (44, .v (I 1)), (45, .v (I k125))], [GT.cells (α := THost) aH paH]⟩) (by kernel_rfl)
            have hv : slv (y124).length q123.1 = slv ((f_allSeenAs aH)).length q58.1 := (List.cons.inj c127).1
            replace S := S.cast (σ' := ⟨[(1, .p 0 0), (4, .v (slv ((f_allSeenAs aH)).length q27.1)), (6, .v (slv (y124).length q123.1)), (44, .v (I 1)), (45, .v (I k125))], [GT.cells (α := THost) aH paH]⟩) (by rw [hv])
            clear hv
            refine S.quiet (k := 1) (keep := [1, 4, 6, 8]) (m := 1) (σ' := ⟨[(1, .p 0 0), (4, .v (slv ((f_allSeenAs aH)).length q27.1)), (6, .v (slv (y124).length q123.1)), (8, .v (I k125))], [GT.cells (α := THost) aH paH]⟩) .nil (by kernel_rfl) ?_
            clear S; intro ac w β S
            refine RG.done rfl (nx_then ?_)
            refine wp_seq ?_
            refine RG.start ?_
            refine S.quiet (k := 1) (keep := [1, 4, 6, 8, 9]) (m := 1) (σ' := ⟨[(1, .p 0 0), (4, .v (slv ((f_allSeenAs aH)).length q27.1)), (6, .v (slv (y124).length q123.1)), (8, .v (I k125)), (9, .v (I 1))], [GT.cells (α := THost) aH paH]⟩) .nil (by kernel_rfl) ?_
            clear S; intro ac w β S
            refine RG.done rfl (nx_then ?_)
            refine wp_seq ?_
            refine RG.start ?_
            refine S.quiet (k := 4) (keep := [1, 4, 6, 8, 9]) (m := 1) (σ' := ⟨[(1, .p 0 0), (4, .v (slv ((f_allSeenAs aH)).length q27.1)), (6, .v (slv (y124).length q123.1)), (8, .v (I k125)), (9, .v (I (hdl y124 1)))], [GT.cells (α := THost) aH paH]⟩) (.cons (Q_call fun w hw => c_laws_heldBareS w y124 q123 (rd_of o126.rn hw) 1) .nil) (by kernel_rfl) ?_
            clear S; intro ac w β S
            refine RG.done rfl (nx_then ?_)
            refine wp_seq ?_
            refine wp_seq ?_
            refine RG.start ?_
            refine S.quiet (k := 2) (keep := [1, 4, 6, 8, 9, 50]) (m := 1) (σ' := ⟨[(1, .p 0 0), (4, .v (slv ((f_allSeenAs aH)).length q27.1)), (6, .v (slv (y124).length q123.1)), (8, .v (I k125)), (9, .v (I (hdl y124 1))), (50, .v (B (decide ((hdl y124 1) < 0))))], [GT.cells (α := THost) aH paH]⟩) .nil (by kernel_rfl) ?_
            clear S; intro ac w β S
            refine RG.done rfl (nx_then ?_)
            refine S.cond (e := (decide ((hdl y124 1) < 0))) (by kernel_rfl) (fun h132 => ?_) (fun h132 => ?_)
            · have g133 : (hdl y124 1) < 0 := of_decide_eq_true h132
              refine wp_seq ?_
              refine RG.start ?_
              refine S.quiet (k := 1) (keep := [2]) (m := 0) (σ' := ⟨[(2, .v (B false))], []⟩) .nil (by kernel_rfl) ?_
              clear S; intro ac w β S
              refine RG.done rfl (nx_then ?_)
              refine wp_ret (rt_then ?_)
              refine S.ret (vs := [B false]) (by kernel_rfl) ?_
              exact ⟨retB (show false = true by clear S; first | rfl | (exfalso; omega) | (exfalso; simp_all; done) | (exfalso; simp_all; omega)), S.chg⟩
            · have g134 : ¬ ((hdl y124 1) < 0) := of_decide_eq_false h132
              refine wp_skip (nx_then ?_)
              refine wp_seq ?_
              refine wp_seq ?_
              refine RG.start ?_
              refine S.quiet (k := 3) (keep := [1, 4, 6, 8, 53]) (m := 1) (σ' := ⟨[(1, .p 0 0), (4, .v (slv ((f_allSeenAs aH)).length q27.1)), (6, .v (slv (y124).length q123.1)), (8, .v (I k125)), (53, .v (B ((hdl y124 1) != k125)))], [GT.cells (α := THost) aH paH]⟩) .nil (by kernel_rfl) ?_
              clear S; intro ac w β S
              refine RG.done rfl (nx_then ?_)
              refine S.cond (e := ((hdl y124 1) != k125)) (by kernel_rfl) (fun h135 => ?_) (fun h135 => ?_)
              · have g136 : ¬ ((hdl y124 1) = k125) := bne_iff_ne.1 h135
                refine wp_seq ?_
                refine RG.start ?_
                refine S.quiet (k := 1) (keep := [2]) (m := 0) (σ' := ⟨[(2, .v (B false))], []⟩) .nil (by kernel_rfl) ?_
                clear S; intro ac w β S
                refine RG.done rfl (nx_then ?_)
                refine wp_ret (rt_then ?_)
                refine S.ret (vs := [B false]) (by kernel_rfl) ?_
                exact ⟨retB (show false = true by clear S; first | rfl | (exfalso; omega) | (exfalso; simp_all; done) | (exfalso; simp_all; omega)), S.chg⟩
              · have g137 : (hdl y124 1) = k125 := ne_f h135
                refine wp_skip (nx_then ?_)
                refine wp_seq ?_
                refine RG.start ?_
                refine S.quiet (k := 1) (keep := [4, 6, 8, 54]) (m := 0) (σ' := ⟨[(4, .v (slv ((f_allSeenAs aH)).length q27.1)), (6, .v (slv (y124).length q123.1)), (8, .v (I k125)), (54, .v (GT.val (α := THost) aH paH))], []⟩) .nil (by kernel_rfl) ?_
                clear S; intro ac w β S
                refine RG.op rfl (S.call1 (r := aH) (d := 55) (c_laws_toHost w aH paH (S.rd (S.arg hkaH))) (by kernel_rfl) rfl ?_)
                clear S; intro ac w N q138 F139 S up o140 d141
                have d142 : Disj F28 F139 := fun b x y => d141 b (o29.sub b x) y
                have d143 : Disj F59 F139 := fun b x y => d141 b (o126.sub b x) y
                replace o29 := o29.up up
                replace o126 := o126.up up
                clear up d141
                obtain ⟨F144, F147, F150, F153, o145, o148, o151, o154, s146, s149, s152, s155, d156, d157, d158, d159, d160, d161⟩ := sp_Host o140
                refine RG.op rfl (S.call1 (r := f_allSeenAs aH) (d := 56) (c_impl_AllSeenAs w aH q138 (S.rd (show GT.rd KK _ _ aH q138 from ⟨o145.rn, o148.rn, o151.rn, o154.rn⟩))) (by kernel_rfl) rfl ?_)
                clear S; intro ac w N q162 F163 S up o164 d165
                have d166 : Disj F28 F163 := fun b x y => d165 b (o29.sub b x) y
                have d167 : Disj F59 F163 := fun b x y => d165 b (o126.sub b x) y
                have d168 : Disj F144 F163 := fun b x y => d165 b (o145.sub b x) y
                have d169 : Disj F147 F163 := fun b x y => d165 b (o148.sub b x) y
                have d170 : Disj F150 F163 := fun b x y => d165 b (o151.sub b x) y
                have d171 : Disj F153 F163 := fun b x y => d165 b (o154.sub b x) y
                replace o29 := o29.up up
                replace o126 := o126.up up
                replace o145 := o145.up up
                replace o148 := o148.up up
                replace o151 := o151.up up
                replace o154 := o154.up up
                clear up d165
                refine S.quiet (k := 1) (keep := [4, 6, 8, 10]) (m := 0) (σ' := ⟨[(4, .v (slv ((f_allSeenAs aH)).length q27.1)), (6, .v (slv (y124).length q123.1)), (8, .v (I k125)), (10, .v (slv ((f_allSeenAs aH)).length q162.1))], []⟩) .nil (by kernel_rfl) ?_
                clear S; intro ac w β S
                refine RG.done rfl (nx_then ?_)
                refine wp_seq ?_
                refine wp_seq ?_
                refine RG.start ?_
                refine S.quiet (k := 4) (keep := [6, 8, 60]) (m := 0) (σ' := ⟨[(6, .v (slv (y124).length q123.1)), (8, .v (I k125)), (60, .v (B (!(decide ((f_allSeenAs aH) = (f_allSeenAs aH))))))], []⟩) (.cons (Q_call fun w hw => c_laws_eqBareS w (f_allSeenAs aH) q162 (rd_of o164.rn hw) (f_allSeenAs aH) q27 (rd_of o29.rn hw)) .nil) (by kernel_rfl) ?_
                clear S; intro ac w β S
                refine RG.done rfl (nx_then ?_)
                refine S.cond (e := (!(decide ((f_allSeenAs aH) = (f_allSeenAs aH))))) (by kernel_rfl) (fun h172 => ?_) (fun h172 => ?_)
                · have h173 : (decide ((f_allSeenAs aH) = (f_allSeenAs aH))) = false := not_t h172
                  have g174 := of_decide_eq_false h173
                  refine wp_seq ?_
                  refine RG.start ?_
                  refine S.quiet (k := 1) (keep := [2]) (m := 0) (σ' := ⟨[(2, .v (B false))], []⟩) .nil (by kernel_rfl) ?_
                  clear S; intro ac w β S
                  refine RG.done rfl (nx_then ?_)
                  refine wp_ret (rt_then ?_)
                  refine S.ret (vs := [B false]) (by kernel_rfl) ?_
                  exact ⟨retB (show false = true by clear S; first | rfl | (exfalso; omega) | (exfalso; simp_all; done) | (exfalso; simp_all; omega)), S.chg⟩
                · have h175 : (decide ((f_allSeenAs aH) = (f_allSeenAs aH))) = true := not_f h172
                  have g176 := of_decide_eq_true h175
                  refine wp_skip (nx_then ?_)
                  refine wp_seq ?_
                  refine RG.start ?_
                  refine S.quiet (k := 1) (keep := [6, 8, 9]) (m := 0) (σ' := ⟨[(6, .v (slv (y124).length q123.1)), (8, .v (I k125)), (9, .v (I 1))], []⟩) .nil (by kernel_rfl) ?_
                  clear S; intro ac w β S
                  refine RG.done rfl (nx_then ?_)
                  refine wp_seq ?_
                  refine RG.start ?_
                  refine S.quiet (k := 4) (keep := [8, 9]) (m := 0) (σ' := ⟨[(8, .v (I k125)), (9, .v (I (hdl y124 1)))], []⟩) (.cons (Q_call fun w hw => c_laws_heldBareS w y124 q123 (rd_of o126.rn hw) 1) .nil) (by kernel_rfl) ?_
                  clear S; intro ac w β S
                  refine RG.done rfl (nx_then ?_)
                  refine wp_seq ?_
                  refine wp_seq ?_
                  refine RG.start ?_
                  refine S.quiet (k := 2) (keep := [8, 9, 65]) (m := 0) (σ' := ⟨[(8, .v (I k125)), (9, .v (I (hdl y124 1))), (65, .v (B (decide ((hdl y124 1) < 0))))], []⟩) .nil (by kernel_rfl) ?_
                  clear S; intro ac w β S
                  refine RG.done rfl (nx_then ?_)
                  refine S.cond (e := (decide ((hdl y124 1) < 0))) (by kernel_rfl) (fun h177 => ?_) (fun h177 => ?_)
                  · have g178 : (hdl y124 1) < 0 := of_decide_eq_true h177
                    refine wp_seq ?_
                    refine RG.start ?_
                    refine S.quiet (k := 1) (keep := [2]) (m := 0) (σ' := ⟨[(2, .v (B false))], []⟩) .nil (by kernel_rfl) ?_
                    clear S; intro ac w β S
                    refine RG.done rfl (nx_then ?_)
                    refine wp_ret (rt_then ?_)
                    refine S.ret (vs := [B false]) (by kernel_rfl) ?_
                    exact ⟨retB (show false = true by clear S; first | rfl | (exfalso; omega) | (exfalso; simp_all; done) | (exfalso; simp_all; omega)), S.chg⟩
                  · have g179 : ¬ ((hdl y124 1) < 0) := of_decide_eq_false h177
                    refine wp_skip (nx_then ?_)
                    refine wp_seq ?_
                    refine wp_seq ?_
                    refine RG.start ?_
                    refine S.quiet (k := 3) (keep := [68]) (m := 0) (σ' := ⟨[(68, .v (B ((hdl y124 1) != k125)))], []⟩) .nil (by kernel_rfl) ?_
                    clear S; intro ac w β S
                    refine RG.done rfl (nx_then ?_)
                    refine S.cond (e := ((hdl y124 1) != k125)) (by kernel_rfl) (fun h180 => ?_) (fun h180 => ?_)
                    · have g181 : ¬ ((hdl y124 1) = k125) := bne_iff_ne.1 h180
                      refine wp_seq ?_
                      refine RG.start ?_
                      refine S.quiet (k := 1) (keep := [2]) (m := 0) (σ' := ⟨[(2, .v (B false))], []⟩) .nil (by kernel_rfl) ?_
                      clear S; intro ac w β S
                      refine RG.done rfl (nx_then ?_)
                      refine wp_ret (rt_then ?_)
                      refine S.ret (vs := [B false]) (by kernel_rfl) ?_
                      exact ⟨retB (show false = true by clear S; first | rfl | (exfalso; omega) | (exfalso; simp_all; done) | (exfalso; simp_all; omega)), S.chg⟩
                    · have g182 : (hdl y124 1) = k125 := ne_f h180
                      refine wp_skip (nx_then ?_)
                      refine wp_seq ?_
                      refine RG.start ?_
                      refine S.quiet (k := 1) (keep := [2]) (m := 0) (σ' := ⟨[(2, .v (B true))], []⟩) .nil (by kernel_rfl) ?_
                      clear S; intro ac w β S
                      refine RG.done rfl (nx_then ?_)
                      refine wp_ret ?_
                      refine S.ret (vs := [B true]) (by kernel_rfl) ?_
                      exact ⟨retB (show true = true by clear S; first | rfl | (exfalso; omega) | (exfalso; simp_all; done) | (exfalso; simp_all; omega)), S.chg⟩

end Go.Proofs.Ytacgkoohinlhjaa
