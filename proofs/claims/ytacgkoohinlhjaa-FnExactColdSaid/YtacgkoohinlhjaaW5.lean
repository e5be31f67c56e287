/- The walks: what each function that the laws reach computes (part 5). -/
import Derived.Test.YtacgkoohinlhjaaW4
import Derived.Test.YtacgkoohinlhjaaProg
import Derived.KernelRfl
namespace Go.Proofs.Ytacgkoohinlhjaa
open Go
set_option linter.unusedVariables false
set_option linter.unusedSimpArgs false

set_option maxRecDepth 100000 in
theorem c_laws_FnExactCold (w0 : World) (aH : THost) (paH : PHost) (haH : GT.rd KR (Lt w0.heap.size) w0 aH paH) : Calls Try.prog 6 [GT.val aH paH].toArray w0 (fun e w' => e = .returned (B true) ∧ Chg NoB w0 w') := by
  refine Calls.walk (args := [GT.val aH paH]) NoB Try.func6 rfl rfl ?_
  intro ac β S
  refine wp_seq (RG.start ?_)
  refine S.q 2 [1] 1 ⟨[(1, .p 0 0)], [GT.cells aH paH]⟩ .nil ?_; clear S; intro ac w β S
  refine RG.done rfl (nx_then (wp_seq (RG.start ?_)))
  refine S.q 1 [1, 3] 1 ⟨[(1, .p 0 0), (3, .v (I 1048576))], [GT.cells aH paH]⟩ .nil ?_; clear S; intro ac w β S
  refine RG.done rfl (nx_then (wp_seq (RG.start ?_)))
  have b1 := f_sz_cs (SZ.sz aH) 1048576
  refine S.q 4 [1, 3] 1 ⟨[(1, .p 0 0), (3, .v (I (f_sz (SZ.sz aH) 1048576)))], [GT.cells aH paH]⟩ (.cons (Q_call fun w hw => c_laws_szHost w aH paH (rd_of (S.arg haH) hw) 1048576 (by omega) (by omega)) .nil) ?_; clear S; intro ac w β S
  refine RG.done rfl (nx_then (wp_seq (wp_seq (RG.start ?_))))
  refine S.q 2 [1, 15] 1 ⟨[(1, .p 0 0), (15, .v (B (decide ((f_sz (SZ.sz aH) 1048576) < 0))))], [GT.cells aH paH]⟩ .nil ?_; clear S; intro ac w β S
  refine RG.done rfl (nx_then ?_)
  refine S.c (decide ((f_sz (SZ.sz aH) 1048576) < 0)) (fun h2 => ?_) (fun h2 => ?_)
  · have g3 : (f_sz (SZ.sz aH) 1048576) < 0 := of_decide_eq_true h2
    refine wp_seq (RG.start ?_)
    refine S.q 1 [2] 0 ⟨[(2, .v (B true))], []⟩ .nil ?_; clear S; intro ac w β S
    refine RG.done rfl (nx_then (wp_ret (rt_then ?_)))
    refine S.r [B true] ?_
    exact ⟨retB (by clear S; first | rfl | (exfalso; omega) | (exfalso; simp_all; done) | (exfalso; simp_all; omega)), S.chg⟩
  · have g4 : ¬ ((f_sz (SZ.sz aH) 1048576) < 0) := of_decide_eq_false h2
    have hkaH : GT.rd KK (Lt w0.heap.size) w0 aH paH := SZ.cut haH (show SZ.sz aH ≤ 4194304 by omega)
    have hcaH : SZ.sz aH ≤ 1048576 := by omega
    refine wp_skip (nx_then (wp_seq (RG.start ?_)))
    refine S.q 1 [1, 16] 1 ⟨[(1, .p 0 0), (16, .v (GT.val aH paH))], [GT.cells aH paH]⟩ .nil ?_; clear S; intro ac w β S
    refine RG.op rfl (S.call1 (r := aH) (d := 17) (c_laws_toHost w aH paH (S.rd (S.arg hkaH))) (by kernel_rfl) rfl ?_)
    clear S; intro ac w N q5 F6 S up o7 d8
    clear up d8
    refine RG.op rfl (S.call1 (r := f_cold aH) (d := 18) (c_spec_Cold w aH q5 (S.rd o7.rn)) (by kernel_rfl) rfl ?_)
    clear S; intro ac w N q9 F10 S up o11 d12
    have d13 : Disj F6 F10 := fun b x y => d12 b (o7.sub b x) y
    replace o7 := o7.up up
    clear up d12
    refine S.q 2 [1, 4] 2 ⟨[(1, .p 0 0), (4, .p 1 0)], [GT.cells aH paH, GT.cells (f_cold aH) q9]⟩ .nil ?_; clear S; intro ac w β S
    refine RG.done rfl (nx_then (wp_seq (RG.start ?_)))
    refine S.q 1 [1, 4, 19] 2 ⟨[(1, .p 0 0), (4, .p 1 0), (19, .v (GT.val aH paH))], [GT.cells aH paH, GT.cells (f_cold aH) q9]⟩ .nil ?_; clear S; intro ac w β S
    refine RG.op rfl (S.call1 (r := aH) (d := 20) (c_laws_toHost w aH paH (S.rd (S.arg hkaH))) (by kernel_rfl) rfl ?_)
    clear S; intro ac w N q14 F15 S up o16 d17
    have d18 : Disj F10 F15 := fun b x y => d17 b (o11.sub b x) y
    replace o11 := o11.up up
    clear up d17
    refine S.q 2 [1, 4, 5] 3 ⟨[(1, .p 0 0), (4, .p 1 0), (5, .p 2 0)], [GT.cells aH paH, GT.cells (f_cold aH) q9, GT.cells aH q14]⟩ .nil ?_; clear S; intro ac w β S
    refine RG.done rfl (nx_then (wp_seq (RG.start ?_)))
    refine S.q 1 [1, 4, 5, 21] 3 ⟨[(1, .p 0 0), (4, .p 1 0), (5, .p 2 0), (21, .v (GT.val aH q14))], [GT.cells aH paH, GT.cells (f_cold aH) q9, GT.cells aH q14]⟩ .nil ?_; clear S; intro ac w β S
    refine RG.op rfl (S.call1 (r := f_cold aH) (d := 22) (c_impl_Cold w aH q14 (S.rd o16.rn)) (by kernel_rfl) rfl ?_)
    clear S; intro ac w N q19 F20 S up o21 d22
    have d23 : Disj F10 F20 := fun b x y => d22 b (o11.sub b x) y
    have d24 : Disj F15 F20 := fun b x y => d22 b (o16.sub b x) y
    replace o11 := o11.up up
    replace o16 := o16.up up
    clear up d22
    refine S.q 2 [1, 4, 5, 6] 4 ⟨[(1, .p 0 0), (4, .p 1 0), (5, .p 2 0), (6, .p 3 0)], [GT.cells aH paH, GT.cells (f_cold aH) q9, GT.cells aH q14, GT.cells (f_cold aH) q19]⟩ .nil ?_; clear S; intro ac w β S
    refine RG.done rfl (nx_then (wp_seq (wp_seq (RG.start ?_))))
    refine S.q 4 [1, 4, 5, 6, 26] 4 ⟨[(1, .p 0 0), (4, .p 1 0), (5, .p 2 0), (6, .p 3 0), (26, .v (B (!(decide ((f_cold aH) = (f_cold aH))))))], [GT.cells aH paH, GT.cells (f_cold aH) q9, GT.cells aH q14, GT.cells (f_cold aH) q19]⟩ (.cons (Q_call fun w hw => c_laws_eqHost w (f_cold aH) q19 (rd_of o21.rn hw) (f_cold aH) q9 (rd_of o11.rn hw)) .nil) ?_; clear S; intro ac w β S
    refine RG.done rfl (nx_then ?_)
    refine S.c (!(decide ((f_cold aH) = (f_cold aH)))) (fun h25 => ?_) (fun h25 => ?_)
    · have h26 : (decide ((f_cold aH) = (f_cold aH))) = false := not_t h25
      have g27 := of_decide_eq_false h26
      refine wp_seq (RG.start ?_)
      refine S.q 1 [2] 0 ⟨[(2, .v (B false))], []⟩ .nil ?_; clear S; intro ac w β S
      refine RG.done rfl (nx_then (wp_ret (rt_then ?_)))
      refine S.r [B false] ?_
      exact ⟨retB (by clear S; first | rfl | (exfalso; omega) | (exfalso; simp_all; done) | (exfalso; simp_all; omega)), S.chg⟩
    · have h28 : (decide ((f_cold aH) = (f_cold aH))) = true := not_f h25
      have g29 := of_decide_eq_true h28
      refine wp_skip (nx_then (wp_seq (wp_seq ?_)))
      refine S.draw0 (f := 5) 5 rfl rfl ?_
      clear S; intro w S
      refine S.hoist (i := 0) (path := []) (keep := [1, 4, 5, 6, 27]) (m := 4) (σ' := ⟨[(1, .p 0 0), (4, .p 1 0), (5, .p 2 0), (6, .p 3 0), (27, .v (GT.val aH q14))], [GT.cells aH paH, GT.cells (f_cold aH) q9, GT.cells aH q14, GT.cells (f_cold aH) q19]⟩) (by kernel_rfl) (by kernel_rfl) .nil (by kernel_rfl) ?_
      clear S; intro ac S
      refine S.hoist (i := 1) (path := []) (keep := [1, 4, 5, 6, 27, 28]) (m := 4) (σ' := ⟨[(1, .p 0 0), (4, .p 1 0), (5, .p 2 0), (6, .p 3 0), (27, .v (GT.val aH q14)), (28, .v (GT.val aH paH))], [GT.cells aH paH, GT.cells (f_cold aH) q9, GT.cells aH q14, GT.cells (f_cold aH) q19]⟩) (by kernel_rfl) (by kernel_rfl) .nil (by kernel_rfl) ?_
      clear S; intro ac S
      refine WD.one (i := 2) (by kernel_rfl) ?_
      refine id (S.call1 (r := aH) (d := 29) (c_laws_toHost w aH paH (S.rd (S.arg hkaH))) (by kernel_rfl) rfl ?_)
      clear S; intro ac w N q30 F31 S up o32 d33
      refine WD.next S up rfl ?_
      have d34 : Disj F10 F31 := fun b x y => d33 b (o11.sub b x) y
      have d35 : Disj F15 F31 := fun b x y => d33 b (o16.sub b x) y
      have d36 : Disj F20 F31 := fun b x y => d33 b (o21.sub b x) y
      replace o11 := o11.up up
      replace o16 := o16.up up
      replace o21 := o21.up up
      clear up d33
      refine WD.one (i := 3) (by kernel_rfl) ?_
      refine S.stepq (i := 3) (keep := [1, 4, 5, 6, 30]) (m := 4) (σ' := ⟨[(1, .p 0 0), (4, .p 1 0), (5, .p 2 0), (6, .p 3 0), (30, .v (B (decide (aH = aH))))], [GT.cells aH paH, GT.cells (f_cold aH) q9, GT.cells aH q14, GT.cells (f_cold aH) q19]⟩) (.cons (Q_call fun w hw => c_laws_eqHost w aH q14 (rd_of o16.rn hw) aH q30 (rd_of o32.rn hw)) .nil) (by kernel_rfl) ?_
      clear S; intro ac w β S hβ
      refine WD.stay S hβ (fun _ _ h => h) ?_
      clear hβ
      refine S.hoist (i := 4) (path := []) (keep := [1, 4, 5, 6, 31]) (m := 4) (σ' := ⟨[(1, .p 0 0), (4, .p 1 0), (5, .p 2 0), (6, .p 3 0), (31, .v (B (!(decide (aH = aH)))))], [GT.cells aH paH, GT.cells (f_cold aH) q9, GT.cells aH q14, GT.cells (f_cold aH) q19]⟩) (by kernel_rfl) (by kernel_rfl) .nil (by kernel_rfl) ?_
      clear S; intro ac S
      refine WD.done (by kernel_rfl) ?_ _
      replace S := S.p [1, 4, 5, 6, 31] 4 ⟨[(1, .p 0 0), (4, .p 1 0), (5, .p 2 0), (6, .p 3 0), (31, .v (B (!(decide (aH = aH)))))], [GT.cells aH paH, GT.cells (f_cold aH) q9, GT.cells aH q14, GT.cells (f_cold aH) q19]⟩
      refine id (nx_then ?_)
      refine S.c (!(decide (aH = aH))) (fun h37 => ?_) (fun h37 => ?_)
      · have h38 : (decide (aH = aH)) = false := not_t h37
        have g39 := of_decide_eq_false h38
        refine wp_seq (RG.start ?_)
        refine S.q 1 [2] 0 ⟨[(2, .v (B false))], []⟩ .nil ?_; clear S; intro ac w β S
        refine RG.done rfl (nx_then (wp_ret (rt_then ?_)))
        refine S.r [B false] ?_
        exact ⟨retB (by clear S; first | rfl | (exfalso; omega) | (exfalso; simp_all; done) | (exfalso; simp_all; omega)), S.chg⟩
      · have h40 : (decide (aH = aH)) = true := not_f h37
        have g41 := of_decide_eq_true h40
        refine wp_skip (nx_then (wp_seq (RG.start ?_)))
        refine S.q 1 [1, 4, 5, 6, 7] 4 ⟨[(1, .p 0 0), (4, .p 1 0), (5, .p 2 0), (6, .p 3 0), (7, .v (I 1))], [GT.cells aH paH, GT.cells (f_cold aH) q9, GT.cells aH q14, GT.cells (f_cold aH) q19]⟩ .nil ?_; clear S; intro ac w β S
        refine RG.done rfl (nx_then (wp_seq (RG.start ?_)))
        refine S.q 2 [1, 4, 6, 32, 33] 4 ⟨[(1, .p 0 0), (4, .p 1 0), (6, .p 3 0), (32, .v (GT.val aH q14)), (33, .v (I 1))], [GT.cells aH paH, GT.cells (f_cold aH) q9, GT.cells aH q14, GT.cells (f_cold aH) q19]⟩ .nil ?_; clear S; intro ac w β S
        have z50 := sz_cold aH
        refine RG.op rfl (S.callX (hd := hdT_Host) (d := 34) o16 (c_laws_markHost w aH q14 F15 (S.ownw o16) (fun b hb => (S.sep b (o16.sub b hb)).1) 1 (by omega) (by omega)) (by kernel_rfl) rfl ?_)
        clear S; intro ac w N q42 y43 k44 S up o45 c46 x47 b48 b49
        replace o11 := o11.upF d18 up
        replace o21 := o21.upF (Disj.symm d24) up
        clear up
        replace S := S.p [1, 4, 6, 33, 34] 4 ⟨[(1, .p 0 0), (4, .p 1 0), (6, .p 3 0), (33, .v (I 1)), (34, .v (I k44))], [GT.cells aH paH, GT.cells (f_cold aH) q9, GT.cells aH q14, GT.cells (f_cold aH) q19]⟩
        have hw0 : GT.cells y43 q42 = GT.cells aH q14 := c46
        replace S := S.cast (σ' := ⟨[(1, .p 0 0), (4, .p 1 0), (6, .p 3 0), (33, .v (I 1)), (34, .v (I k44))], [GT.cells aH paH, GT.cells (f_cold aH) q9, GT.cells y43 q42, GT.cells (f_cold aH) q19]⟩) (by rw [hw0])
        clear hw0
        refine S.q 1 [1, 4, 6, 7] 4 ⟨[(1, .p 0 0), (4, .p 1 0), (6, .p 3 0), (7, .v (I k44))], [GT.cells aH paH, GT.cells (f_cold aH) q9, GT.cells y43 q42, GT.cells (f_cold aH) q19]⟩ .nil ?_; clear S; intro ac w β S
        refine RG.done rfl (nx_then (wp_seq (wp_seq (RG.start ?_))))
        refine S.q 3 [1, 4, 6, 37] 4 ⟨[(1, .p 0 0), (4, .p 1 0), (6, .p 3 0), (37, .v (B (decide (k44 < 0))))], [GT.cells aH paH, GT.cells (f_cold aH) q9, GT.cells y43 q42, GT.cells (f_cold aH) q19]⟩ .nil ?_; clear S; intro ac w β S
        rcases Bool.eq_false_or_eq_true (decide (k44 < 0)) with h51 | h51 <;> rw [h51] at S
        · have g52 : k44 < 0 := of_decide_eq_true h51
          refine S.q 5 [1, 4, 6, 42] 4 ⟨[(1, .p 0 0), (4, .p 1 0), (6, .p 3 0), (42, .v (B true))], [GT.cells aH paH, GT.cells (f_cold aH) q9, GT.cells y43 q42, GT.cells (f_cold aH) q19]⟩ .nil ?_; clear S; intro ac w β S
          refine RG.done rfl (nx_then ?_)
          refine S.c true (fun _ => ?_) (fun hx => by cases hx)
          refine wp_seq (RG.start ?_)
          refine S.q 1 [2] 0 ⟨[(2, .v (B false))], []⟩ .nil ?_; clear S; intro ac w β S
          refine RG.done rfl (nx_then (wp_ret (rt_then ?_)))
          refine S.r [B false] ?_
          exact ⟨retB (by clear S; first | rfl | (exfalso; omega) | (exfalso; simp_all; done) | (exfalso; simp_all; omega)), S.chg⟩
        · have g53 : ¬ (k44 < 0) := of_decide_eq_false h51
          refine S.q 5 [1, 4, 6, 42] 4 ⟨[(1, .p 0 0), (4, .p 1 0), (6, .p 3 0), (42, .v (B (!(decide ((f_cold aH) = (f_cold aH))))))], [GT.cells aH paH, GT.cells (f_cold aH) q9, GT.cells y43 q42, GT.cells (f_cold aH) q19]⟩ (.cons (Q_call fun w hw => c_laws_eqHost w (f_cold aH) q19 (rd_of o21.rn hw) (f_cold aH) q9 (rd_of o11.rn hw)) .nil) ?_; clear S; intro ac w β S
          refine RG.done rfl (nx_then ?_)
          refine S.c (!(decide ((f_cold aH) = (f_cold aH)))) (fun h54 => ?_) (fun h54 => ?_)
          · have h55 : (decide ((f_cold aH) = (f_cold aH))) = false := not_t h54
            have g56 := of_decide_eq_false h55
            refine wp_seq (RG.start ?_)
            refine S.q 1 [2] 0 ⟨[(2, .v (B false))], []⟩ .nil ?_; clear S; intro ac w β S
            refine RG.done rfl (nx_then (wp_ret (rt_then ?_)))
            refine S.r [B false] ?_
            exact ⟨retB (by clear S; first | rfl | (exfalso; omega) | (exfalso; simp_all; done) | (exfalso; simp_all; omega)), S.chg⟩
          · have h57 : (decide ((f_cold aH) = (f_cold aH))) = true := not_f h54
            have g58 := of_decide_eq_true h57
            refine wp_skip (nx_then (wp_seq (RG.start ?_)))
            refine S.q 1 [1, 4, 6, 8] 4 ⟨[(1, .p 0 0), (4, .p 1 0), (6, .p 3 0), (8, .v (I 1))], [GT.cells aH paH, GT.cells (f_cold aH) q9, GT.cells y43 q42, GT.cells (f_cold aH) q19]⟩ .nil ?_; clear S; intro ac w β S
            refine RG.done rfl (nx_then (wp_seq (RG.start ?_)))
            refine S.q 2 [1, 4, 6, 43, 44] 4 ⟨[(1, .p 0 0), (4, .p 1 0), (6, .p 3 0), (43, .v (GT.val (f_cold aH) q19)), (44, .v (I 1))], [GT.cells aH paH, GT.cells (f_cold aH) q9, GT.cells y43 q42, GT.cells (f_cold aH) q19]⟩ .nil ?_; clear S; intro ac w β S
            have z67 := sz_cold aH
            refine RG.op rfl (S.callX (hd := hdT_Host) (d := 45) o21 (c_laws_markHost w (f_cold aH) q19 F20 (S.ownw o21) (fun b hb => (S.sep b (o21.sub b hb)).1) 1 (by omega) (by omega)) (by kernel_rfl) rfl ?_)
            clear S; intro ac w N q59 y60 k61 S up o62 c63 x64 b65 b66
            replace o11 := o11.upF d23 up
            replace o45 := o45.upF (Disj.symm (Disj.symm d24)) up
            clear up
            replace S := S.p [1, 4, 6, 44, 45] 4 ⟨[(1, .p 0 0), (4, .p 1 0), (6, .p 3 0), (44, .v (I 1)), (45, .v (I k61))], [GT.cells aH paH, GT.cells (f_cold aH) q9, GT.cells y43 q42, GT.cells (f_cold aH) q19]⟩
            have hw0 : GT.cells y60 q59 = GT.cells (f_cold aH) q19 := c63
            replace S := S.cast (σ' := ⟨[(1, .p 0 0), (4, .p 1 0), (6, .p 3 0), (44, .v (I 1)), (45, .v (I k61))], [GT.cells aH paH, GT.cells (f_cold aH) q9, GT.cells y43 q42, GT.cells y60 q59]⟩) (by rw [hw0])
            clear hw0
            refine S.q 1 [1, 4, 6, 8] 4 ⟨[(1, .p 0 0), (4, .p 1 0), (6, .p 3 0), (8, .v (I k61))], [GT.cells aH paH, GT.cells (f_cold aH) q9, GT.cells y43 q42, GT.cells y60 q59]⟩ .nil ?_; clear S; intro ac w β S
            refine RG.done rfl (nx_then (wp_seq (RG.start ?_)))
            refine S.q 1 [1, 4, 6, 8, 9] 4 ⟨[(1, .p 0 0), (4, .p 1 0), (6, .p 3 0), (8, .v (I k61)), (9, .v (I 1))], [GT.cells aH paH, GT.cells (f_cold aH) q9, GT.cells y43 q42, GT.cells y60 q59]⟩ .nil ?_; clear S; intro ac w β S
            refine RG.done rfl (nx_then (wp_seq (RG.start ?_)))
            refine S.q 4 [1, 4, 6, 8, 9] 4 ⟨[(1, .p 0 0), (4, .p 1 0), (6, .p 3 0), (8, .v (I k61)), (9, .v (I (hdT_Host y60 1)))], [GT.cells aH paH, GT.cells (f_cold aH) q9, GT.cells y43 q42, GT.cells y60 q59]⟩ (.cons (Q_call fun w hw => c_laws_heldHost w y60 q59 (rd_of o62.rn hw) 1) .nil) ?_; clear S; intro ac w β S
            refine RG.done rfl (nx_then (wp_seq (wp_seq (RG.start ?_))))
            refine S.q 2 [1, 4, 6, 8, 9, 50] 4 ⟨[(1, .p 0 0), (4, .p 1 0), (6, .p 3 0), (8, .v (I k61)), (9, .v (I (hdT_Host y60 1))), (50, .v (B (decide ((hdT_Host y60 1) < 0))))], [GT.cells aH paH, GT.cells (f_cold aH) q9, GT.cells y43 q42, GT.cells y60 q59]⟩ .nil ?_; clear S; intro ac w β S
            refine RG.done rfl (nx_then ?_)
            refine S.c (decide ((hdT_Host y60 1) < 0)) (fun h68 => ?_) (fun h68 => ?_)
            · have g69 : (hdT_Host y60 1) < 0 := of_decide_eq_true h68
              refine wp_seq (RG.start ?_)
              refine S.q 1 [2] 0 ⟨[(2, .v (B false))], []⟩ .nil ?_; clear S; intro ac w β S
              refine RG.done rfl (nx_then (wp_ret (rt_then ?_)))
              refine S.r [B false] ?_
              exact ⟨retB (by clear S; first | rfl | (exfalso; omega) | (exfalso; simp_all; done) | (exfalso; simp_all; omega)), S.chg⟩
            · have g70 : ¬ ((hdT_Host y60 1) < 0) := of_decide_eq_false h68
              refine wp_skip (nx_then (wp_seq (wp_seq (RG.start ?_))))
              refine S.q 3 [1, 4, 6, 8, 53] 4 ⟨[(1, .p 0 0), (4, .p 1 0), (6, .p 3 0), (8, .v (I k61)), (53, .v (B ((hdT_Host y60 1) != k61)))], [GT.cells aH paH, GT.cells (f_cold aH) q9, GT.cells y43 q42, GT.cells y60 q59]⟩ .nil ?_; clear S; intro ac w β S
              refine RG.done rfl (nx_then ?_)
              refine S.c ((hdT_Host y60 1) != k61) (fun h71 => ?_) (fun h71 => ?_)
              · have g72 : ¬ ((hdT_Host y60 1) = k61) := bne_iff_ne.1 h71
                refine wp_seq (RG.start ?_)
                refine S.q 1 [2] 0 ⟨[(2, .v (B false))], []⟩ .nil ?_; clear S; intro ac w β S
                refine RG.done rfl (nx_then (wp_ret (rt_then ?_)))
                refine S.r [B false] ?_
                exact ⟨retB (by clear S; first | rfl | (exfalso; omega) | (exfalso; simp_all; done) | (exfalso; simp_all; omega)), S.chg⟩
              · have g73 : (hdT_Host y60 1) = k61 := ne_f h71
                refine wp_skip (nx_then (wp_seq (RG.start ?_)))
                refine S.q 1 [4, 6, 8, 54] 4 ⟨[(4, .p 1 0), (6, .p 3 0), (8, .v (I k61)), (54, .v (GT.val aH paH))], [GT.cells aH paH, GT.cells (f_cold aH) q9, GT.cells y43 q42, GT.cells y60 q59]⟩ .nil ?_; clear S; intro ac w β S
                refine RG.op rfl (S.call1 (r := aH) (d := 55) (c_laws_toHost w aH paH (S.rd (S.arg hkaH))) (by kernel_rfl) rfl ?_)
                clear S; intro ac w N q74 F75 S up o76 d77
                have d78 : Disj F10 F75 := fun b x y => d77 b (o11.sub b x) y
                have d79 : Disj F15 F75 := fun b x y => d77 b (o45.sub b x) y
                have d80 : Disj F20 F75 := fun b x y => d77 b (o62.sub b x) y
                replace o11 := o11.up up
                replace o45 := o45.up up
                replace o62 := o62.up up
                clear up d77
                refine RG.op rfl (S.call1 (r := f_cold aH) (d := 56) (c_impl_Cold w aH q74 (S.rd o76.rn)) (by kernel_rfl) rfl ?_)
                clear S; intro ac w N q81 F82 S up o83 d84
                have d85 : Disj F10 F82 := fun b x y => d84 b (o11.sub b x) y
                have d86 : Disj F15 F82 := fun b x y => d84 b (o45.sub b x) y
                have d87 : Disj F20 F82 := fun b x y => d84 b (o62.sub b x) y
                have d88 : Disj F75 F82 := fun b x y => d84 b (o76.sub b x) y
                replace o11 := o11.up up
                replace o45 := o45.up up
                replace o62 := o62.up up
                replace o76 := o76.up up
                clear up d84
                refine S.q 2 [4, 6, 8, 10] 5 ⟨[(4, .p 1 0), (6, .p 3 0), (8, .v (I k61)), (10, .p 4 0)], [GT.cells aH paH, GT.cells (f_cold aH) q9, GT.cells y43 q42, GT.cells y60 q59, GT.cells (f_cold aH) q81]⟩ .nil ?_; clear S; intro ac w β S
                refine RG.done rfl (nx_then (wp_seq (wp_seq (RG.start ?_))))
                refine S.q 4 [6, 8, 60] 4 ⟨[(6, .p 3 0), (8, .v (I k61)), (60, .v (B (!(decide ((f_cold aH) = (f_cold aH))))))], [GT.cells aH paH, GT.cells (f_cold aH) q9, GT.cells y43 q42, GT.cells y60 q59]⟩ (.cons (Q_call fun w hw => c_laws_eqHost w (f_cold aH) q81 (rd_of o83.rn hw) (f_cold aH) q9 (rd_of o11.rn hw)) .nil) ?_; clear S; intro ac w β S
                refine RG.done rfl (nx_then ?_)
                refine S.c (!(decide ((f_cold aH) = (f_cold aH)))) (fun h89 => ?_) (fun h89 => ?_)
                · have h90 : (decide ((f_cold aH) = (f_cold aH))) = false := not_t h89
                  have g91 := of_decide_eq_false h90
                  refine wp_seq (RG.start ?_)
                  refine S.q 1 [2] 0 ⟨[(2, .v (B false))], []⟩ .nil ?_; clear S; intro ac w β S
                  refine RG.done rfl (nx_then (wp_ret (rt_then ?_)))
                  refine S.r [B false] ?_
                  exact ⟨retB (by clear S; first | rfl | (exfalso; omega) | (exfalso; simp_all; done) | (exfalso; simp_all; omega)), S.chg⟩
                · have h92 : (decide ((f_cold aH) = (f_cold aH))) = true := not_f h89
                  have g93 := of_decide_eq_true h92
                  refine wp_skip (nx_then (wp_seq (RG.start ?_)))
                  refine S.q 1 [6, 8, 9] 4 ⟨[(6, .p 3 0), (8, .v (I k61)), (9, .v (I 1))], [GT.cells aH paH, GT.cells (f_cold aH) q9, GT.cells y43 q42, GT.cells y60 q59]⟩ .nil ?_; clear S; intro ac w β S
                  refine RG.done rfl (nx_then (wp_seq (RG.start ?_)))
                  refine S.q 4 [8, 9] 0 ⟨[(8, .v (I k61)), (9, .v (I (hdT_Host y60 1)))], []⟩ (.cons (Q_call fun w hw => c_laws_heldHost w y60 q59 (rd_of o62.rn hw) 1) .nil) ?_; clear S; intro ac w β S
                  refine RG.done rfl (nx_then (wp_seq (wp_seq (RG.start ?_))))
                  refine S.q 2 [8, 9, 65] 0 ⟨[(8, .v (I k61)), (9, .v (I (hdT_Host y60 1))), (65, .v (B (decide ((hdT_Host y60 1) < 0))))], []⟩ .nil ?_; clear S; intro ac w β S
                  refine RG.done rfl (nx_then ?_)
                  refine S.c (decide ((hdT_Host y60 1) < 0)) (fun h94 => ?_) (fun h94 => ?_)
                  · have g95 : (hdT_Host y60 1) < 0 := of_decide_eq_true h94
                    refine wp_seq (RG.start ?_)
                    refine S.q 1 [2] 0 ⟨[(2, .v (B false))], []⟩ .nil ?_; clear S; intro ac w β S
                    refine RG.done rfl (nx_then (wp_ret (rt_then ?_)))
                    refine S.r [B false] ?_
                    exact ⟨retB (by clear S; first | rfl | (exfalso; omega) | (exfalso; simp_all; done) | (exfalso; simp_all; omega)), S.chg⟩
                  · have g96 : ¬ ((hdT_Host y60 1) < 0) := of_decide_eq_false h94
                    refine wp_skip (nx_then (wp_seq (wp_seq (RG.start ?_))))
                    refine S.q 3 [68] 0 ⟨[(68, .v (B ((hdT_Host y60 1) != k61)))], []⟩ .nil ?_; clear S; intro ac w β S
                    refine RG.done rfl (nx_then ?_)
                    refine S.c ((hdT_Host y60 1) != k61) (fun h97 => ?_) (fun h97 => ?_)
                    · have g98 : ¬ ((hdT_Host y60 1) = k61) := bne_iff_ne.1 h97
                      refine wp_seq (RG.start ?_)
                      refine S.q 1 [2] 0 ⟨[(2, .v (B false))], []⟩ .nil ?_; clear S; intro ac w β S
                      refine RG.done rfl (nx_then (wp_ret (rt_then ?_)))
                      refine S.r [B false] ?_
                      exact ⟨retB (by clear S; first | rfl | (exfalso; omega) | (exfalso; simp_all; done) | (exfalso; simp_all; omega)), S.chg⟩
                    · have g99 : (hdT_Host y60 1) = k61 := ne_f h97
                      refine wp_skip (nx_then (wp_seq (RG.start ?_)))
                      refine S.q 1 [2] 0 ⟨[(2, .v (B true))], []⟩ .nil ?_; clear S; intro ac w β S
                      refine RG.done rfl (nx_then (wp_ret ?_))
                      refine S.r [B true] ?_
                      exact ⟨retB (by clear S; first | rfl | (exfalso; omega) | (exfalso; simp_all; done) | (exfalso; simp_all; omega)), S.chg⟩

end Go.Proofs.Ytacgkoohinlhjaa
