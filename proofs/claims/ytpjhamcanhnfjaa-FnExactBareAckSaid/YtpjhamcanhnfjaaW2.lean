/- The walks: what each function that the laws reach computes (part 2). -/
import Derived.Test.YtpjhamcanhnfjaaW1
import Derived.Test.YtpjhamcanhnfjaaProg
import Derived.KernelRfl
namespace Go.Proofs.Ytpjhamcanhnfjaa
open Go
set_option linter.unusedVariables false
set_option linter.unusedSimpArgs false

set_option maxRecDepth 100000 in
theorem c_impl_copyGuests (w0 : World) (l : List TGuest) (pl : LP TGuest) (hl : GT.rd KK (Lt w0.heap.size) w0 l pl) : Calls Try.prog 123 [slv (l).length pl.1].toArray w0 (Ret1 NoB w0 (l : List TGuest)) := by
  refine Calls.walk (args := [slv (l).length pl.1]) NoB Try.func123 rfl rfl ?_
  intro ac β S
  have hlel : l.length ≤ 4194304 := LRd.le hl
  refine wp_seq (RG.start ?_)
  refine S.q 1 [0] 0 ⟨[(0, .v (slv (l).length pl.1))], []⟩ .nil ?_; clear S; intro ac w β S
  refine RG.done rfl (nx_then (wp_seq (RG.start ?_)))
  refine RG.op rfl (S.bs0 (α := TGuest) (d := 6) (by kernel_rfl) ?_)
  clear S; intro ac w N q1 F2 S up o3 d4
  clear up d4
  refine S.q 1 [0, 3] 0 ⟨[(0, .v (slv (l).length pl.1)), (3, .v (slv 0 q1.1))], []⟩ .nil ?_; clear S; intro ac w β S
  refine RG.done rfl (nx_then (wp_seq (wp_seq (RG.start ?_))))
  refine S.q 3 [3, 7, 8, 9] 0 ⟨[(3, .v (slv 0 q1.1)), (7, .v (slv (l).length pl.1)), (8, .v (I ((l).length : Int))), (9, .v (I 0))], []⟩ .nil ?_; clear S; intro ac w β S
  refine RG.done rfl (nx_then (wp_block ?_))
  replace S := S.p [3, 7, 8, 9] 0 ⟨[(3, .v (slv 0 q1.1)), (7, .v (slv (l).length pl.1)), (8, .v (I ((l).length : Int))), (9, .v (I 0))], []⟩
  refine wp_loop_down (fun mm ac w => ∃ (k : Nat) (acc : List TGuest) (q5 : GT.Ptr (List TGuest)) (F6 : Bl) (u : World) (N : Bl) (β : Nat → Nat), mm = (l).length - k ∧ (k ≤ (l).length) ∧ (acc = (l).take k) ∧ St Try.prog Try.f123.ntmps w0 NoB u N β ⟨[(3, .v (slv (acc).length q5.1)), (7, .v (slv (l).length pl.1)), (8, .v (I ((l).length : Int))), (9, .v (I (k : Int)))], []⟩ ac w ∧ Ow w0 NoB u N F6 acc q5) _ ⟨0, ([] : List TGuest), q1, F2, _, _, _, rfl, (by first | omega | (simp; done) | (simp; omega)), (by simp), S.cast (by kernel_rfl), o3⟩ ?_
  clear S o3
  rintro mm ac w ⟨k, acc, q5, F6, u, N, β, rfl, hk, hacc, S, o7⟩
  have hlacc : acc.length = k := by rw [hacc]; simp; omega
  refine wp_seq (RG.start ?_)
  refine S.q 1 [3, 7, 8, 9, 10] 0 ⟨[(3, .v (slv (acc).length q5.1)), (7, .v (slv (l).length pl.1)), (8, .v (I ((l).length : Int))), (9, .v (I (k : Int))), (10, .v (B (decide ((k : Int) < ((l).length : Int)))))], []⟩ .nil ?_; clear S; intro ac w β S
  refine RG.done rfl (nx_then (wp_seq ?_))
  refine S.c (decide ((k : Int) < ((l).length : Int))) (fun h8 => ?_) (fun h8 => ?_)
  · have g9 : (k : Int) < ((l).length : Int) := of_decide_eq_true h8
    refine wp_skip (nx_then (wp_seq (wp_block (wp_seq (RG.start ?_)))))
    refine S.q 4 [3, 5, 7, 8, 9] 1 ⟨[(3, .v (slv (acc).length q5.1)), (5, .p 0 0), (7, .v (slv (l).length pl.1)), (8, .v (I ((l).length : Int))), (9, .v (I (k : Int)))], [GT.cells (el l k) (pl.2 k)]⟩ (.cons (Q_idx (S.arg hl) (l := (l).length) (k := k) (i := (k : Int)) rfl rfl (by omega) Try.underlying39 (by kernel_rfl)) (.cons (Q_el (S.arg hl) (t := 117) (k := k) (by omega) rfl (by kernel_rfl) (by kernel_rfl)) .nil)) ?_; clear S; intro ac w β S
    refine RG.done rfl (nx_then (RG.start ?_))
    refine S.q 2 [7, 8, 9, 13, 14] 0 ⟨[(7, .v (slv (l).length pl.1)), (8, .v (I ((l).length : Int))), (9, .v (I (k : Int))), (13, .v (slv (acc).length q5.1)), (14, .v (GT.val (el l k) (pl.2 k)))], []⟩ .nil ?_; clear S; intro ac w β S
    refine RG.op rfl (S.call1 (r := (el l k)) (d := 15) (c_impl_copyGuest w (el l k) (pl.2 k) (S.rd (LRd.el (S.arg hl) k (by omega)))) (by kernel_rfl) rfl ?_)
    clear S; intro ac w N q10 F11 S up o12 d13
    have d14 : Disj F6 F11 := fun b x y => d13 b (o7.sub b x) y
    replace o7 := o7.up up
    clear up d13
    have i18 : In64 (el l k).acc := RGuest.acc (d := (el l k)) o12.rn
    have i19 : In64 (el l k).pc := RGuest.pc (d := (el l k)) o12.rn
    have i26 : RCtl (el l k).ctl := RGuest.ctl (d := (el l k)) o12.rn
    have i27 : In64 (el l k).pend := RGuest.pend (d := (el l k)) o12.rn
    have i28 : RExit (el l k).exit := RGuest.exit (d := (el l k)) o12.rn
    obtain ⟨F15, F20, F23, F29, o16, o21, o24, o30, s17, s22, s25, s31, d32, d33, d34, d35, d36, d37⟩ := sp_Guest o12
    have o42 := ow_Guest (x := (el l k)) (p := q10) o16 o21 o24 o30 d32 d33 d34 d35 d36 d37 i18 i19 i26 i27 i28
    refine RG.op rfl (S.bs1 (α := TGuest) (x := (el l k)) (p := q10) o42.own o42.sub o42.young (d := 16) (by kernel_rfl) ?_)
    clear S; intro ac w N q38 F39 S up o40 d41
    have d43 : Disj F6 F39 := d41 _ (Disj.symm (Disj.or (Disj.part (Disj.symm d14) s17) (Disj.or (Disj.part (Disj.symm d14) s22) (Disj.or (Disj.part (Disj.symm d14) s25) (Disj.or (Disj.part (Disj.symm d14) s31) Disj.nob))))) o7.sub
    replace o7 := o7.up up
    clear up d41
    refine RG.op rfl (S.appOwn (α := TGuest) o7 o40 d43 (by' := 184) (d := 17) (lx := (acc).length) (ly := 1) rfl rfl (by kernel_rfl) (show _ ≤ 4194304 by simp only [List.length_append, List.length_cons, List.length_nil]; omega) ?_)
    clear S; intro ac w N q44 F45 S up o46 d47
    clear up d47
    refine S.q 1 [3, 7, 8, 9] 0 ⟨[(3, .v (slv ((acc ++ [(el l k)])).length q44.1)), (7, .v (slv (l).length pl.1)), (8, .v (I ((l).length : Int))), (9, .v (I (k : Int)))], []⟩ .nil ?_; clear S; intro ac w β S
    refine RG.done rfl (nx_block (nx_then (RG.start ?_)))
    refine S.q 2 [3, 7, 8, 9] 0 ⟨[(3, .v (slv ((acc ++ [(el l k)])).length q44.1)), (7, .v (slv (l).length pl.1)), (8, .v (I ((l).length : Int))), (9, .v (I ((k : Int) + 1)))], []⟩ (.cons (Q_add (x := (k : Int)) (y := 1) ⟨by omega, by omega⟩) .nil) ?_; clear S; intro ac w β S
    refine RG.done rfl (nx_then ?_)
    replace S := S.p [3, 7, 8, 9] 0 ⟨[(3, .v (slv ((acc ++ [(el l k)])).length q44.1)), (7, .v (slv (l).length pl.1)), (8, .v (I ((l).length : Int))), (9, .v (I ((k : Int) + 1)))], []⟩
    refine ⟨(l).length - (k + 1), by omega, k + 1, (acc ++ [(el l k)]), q44, F45, _, _, _, rfl, ?_, ?_, S.cast (by kernel_rfl), o46⟩
    · clear S; first | omega | (simp [*]; done) | (simp [*]; omega)
    · clear S; (first | (rw [take_el (by omega), hacc]; done) | (rw [take_el (by omega), hacc]; simp; done))
  · have g48 : ¬ ((k : Int) < ((l).length : Int)) := of_decide_eq_false h8
    refine wp_exit (ex_then (ex_then (ex_hit (nx_then (wp_seq (RG.start ?_))))))
    refine S.q 2 [2] 0 ⟨[(2, .v (slv (acc).length q5.1))], []⟩ .nil ?_; clear S; intro ac w β S
    refine RG.done rfl (nx_then (wp_ret ?_))
    refine S.r [slv (acc).length q5.1] ?_
    exact ret1_of S (show l = acc by clear S; (rw [hacc, take_all (by omega)])) rfl o7

set_option maxRecDepth 100000 in
theorem c_impl_copyBare (w0 : World) (b : TBare) (pb : PBare) (hb : GT.rd KK (Lt w0.heap.size) w0 b pb) : Calls Try.prog 82 [GT.val b pb].toArray w0 (Ret1 NoB w0 (b : TBare)) := by
  refine Calls.walk (args := [GT.val b pb]) NoB Try.func82 rfl rfl ?_
  intro ac β S
  have hleb_mem : b.mem.length ≤ 4194304 := LRd.le (RBare.mem (d := b) hb)
  have hleb_guests : b.guests.length ≤ 4194304 := LRd.le (RBare.guests (d := b) hb)
  have hleb_outs : b.outs.length ≤ 4194304 := LRd.le (RBare.outs (d := b) hb)
  refine wp_seq (RG.start ?_)
  refine S.q 2 [1, 2] 2 ⟨[(1, .p 0 0), (2, .p 1 0)], [GT.cells b pb, Zc TBare]⟩ .nil ?_; clear S; intro ac w β S
  refine RG.done rfl (nx_then (wp_seq ?_))
  refine S.draw0 (f := 13) 12 rfl rfl ?_
  clear S; intro w S
  refine S.hoist (i := 0) (path := [0]) (keep := [1, 2, 3]) (m := 2) (σ' := ⟨[(1, .p 0 0), (2, .p 1 0), (3, .p 0 0)], [GT.cells b pb, Zc TBare]⟩) (by kernel_rfl) (by kernel_rfl) .nil (by kernel_rfl) ?_
  clear S; intro ac S
  refine S.hoist (i := 1) (path := [1]) (keep := [1, 2, 4]) (m := 2) (σ' := ⟨[(1, .p 0 0), (2, .p 1 0), (4, .v (slv (b.mem).length pb.mem.1))], [GT.cells b pb, Zc TBare]⟩) (by kernel_rfl) (by kernel_rfl) .nil (by kernel_rfl) ?_
  clear S; intro ac S
  refine S.hoist (i := 3) (path := [3]) (keep := [1, 2, 4, 6]) (m := 2) (σ' := ⟨[(1, .p 0 0), (2, .p 1 0), (4, .v (slv (b.mem).length pb.mem.1)), (6, .p 0 1)], [GT.cells b pb, Zc TBare]⟩) (by kernel_rfl) (by kernel_rfl) .nil (by kernel_rfl) ?_
  clear S; intro ac S
  refine S.hoist (i := 4) (path := [4]) (keep := [1, 2, 4, 7]) (m := 2) (σ' := ⟨[(1, .p 0 0), (2, .p 1 0), (4, .v (slv (b.mem).length pb.mem.1)), (7, .v (slv (b.guests).length pb.guests.1))], [GT.cells b pb, Zc TBare]⟩) (by kernel_rfl) (by kernel_rfl) .nil (by kernel_rfl) ?_
  clear S; intro ac S
  refine S.hoist (i := 6) (path := [6]) (keep := [1, 2, 4, 7, 9]) (m := 2) (σ' := ⟨[(1, .p 0 0), (2, .p 1 0), (4, .v (slv (b.mem).length pb.mem.1)), (7, .v (slv (b.guests).length pb.guests.1)), (9, .p 0 2)], [GT.cells b pb, Zc TBare]⟩) (by kernel_rfl) (by kernel_rfl) .nil (by kernel_rfl) ?_
  clear S; intro ac S
  refine S.hoist (i := 7) (path := [7]) (keep := [1, 2, 4, 7, 10]) (m := 2) (σ' := ⟨[(1, .p 0 0), (2, .p 1 0), (4, .v (slv (b.mem).length pb.mem.1)), (7, .v (slv (b.guests).length pb.guests.1)), (10, .v (slv (b.outs).length pb.outs.1))], [GT.cells b pb, Zc TBare]⟩) (by kernel_rfl) (by kernel_rfl) .nil (by kernel_rfl) ?_
  clear S; intro ac S
  refine S.hoist (i := 9) (path := [9]) (keep := [2, 4, 7, 10, 12]) (m := 2) (σ' := ⟨[(2, .p 1 0), (4, .v (slv (b.mem).length pb.mem.1)), (7, .v (slv (b.guests).length pb.guests.1)), (10, .v (slv (b.outs).length pb.outs.1)), (12, .p 0 3)], [GT.cells b pb, Zc TBare]⟩) (by kernel_rfl) (by kernel_rfl) .nil (by kernel_rfl) ?_
  clear S; intro ac S
  refine S.hoist (i := 10) (path := [10]) (keep := [2, 4, 7, 10, 13]) (m := 2) (σ' := ⟨[(2, .p 1 0), (4, .v (slv (b.mem).length pb.mem.1)), (7, .v (slv (b.guests).length pb.guests.1)), (10, .v (slv (b.outs).length pb.outs.1)), (13, .v (I b.pend))], [GT.cells b pb, Zc TBare]⟩) (by kernel_rfl) (by kernel_rfl) .nil (by kernel_rfl) ?_
  clear S; intro ac S
  refine WD.one (i := 2) (by kernel_rfl) ?_
  refine id (S.call1 (r := b.mem) (d := 5) (c_impl_copyMem w b.mem pb.mem (S.rd (RBare.mem (d := b) (S.arg hb)))) (by kernel_rfl) rfl ?_)
  clear S; intro ac w N q1 F2 S up o3 d4
  refine WD.next S up rfl ?_
  clear up d4
  refine WD.one (i := 5) (by kernel_rfl) ?_
  refine id (S.call1 (r := b.guests) (d := 8) (c_impl_copyGuests w b.guests pb.guests (S.rd (RBare.guests (d := b) (S.arg hb)))) (by kernel_rfl) rfl ?_)
  clear S; intro ac w N q5 F6 S up o7 d8
  refine WD.next S up rfl ?_
  have d9 : Disj F2 F6 := fun b x y => d8 b (o3.sub b x) y
  replace o3 := o3.up up
  clear up d8
  refine WD.one (i := 8) (by kernel_rfl) ?_
  refine id (S.call1 (r := b.outs) (d := 11) (c_impl_copyInts w b.outs pb.outs (S.rd (RBare.outs (d := b) (S.arg hb)))) (by kernel_rfl) rfl ?_)
  clear S; intro ac w N q10 F11 S up o12 d13
  refine WD.next S up rfl ?_
  have d14 : Disj F2 F11 := fun b x y => d13 b (o3.sub b x) y
  have d15 : Disj F6 F11 := fun b x y => d13 b (o7.sub b x) y
  replace o3 := o3.up up
  replace o7 := o7.up up
  clear up d13
  refine S.hoist (i := 11) (path := [11]) (keep := [2, 14]) (m := 2) (σ' := ⟨[(2, .p 1 0), (14, .v (GT.val (⟨b.mem, b.guests, b.outs, b.pend⟩ : TBare) (⟨q1, q5, q10⟩ : PBare)))], [GT.cells b pb, Zc TBare]⟩) (by kernel_rfl) (by kernel_rfl) (.cons (Q_sem (s := Instr.build 73 [(0, slv (b.mem).length q1.1), (1, slv (b.guests).length q5.1), (2, slv (b.outs).length q10.1), (3, I b.pend)].toArray) (v := .agg [slv (b.mem).length q1.1, slv (b.guests).length q5.1, slv (b.outs).length q10.1, I b.pend].toArray) (fun w => by kernel_rfl)) .nil) (by kernel_rfl) ?_
  clear S; intro ac S
  refine WD.one (i := 12) (by kernel_rfl) ?_
  refine S.stepq (i := 12) (keep := [2]) (m := 2) (σ' := ⟨[(2, .p 1 0)], [GT.cells b pb, [slv (b.mem).length q1.1, slv (b.guests).length q5.1, slv (b.outs).length q10.1, I b.pend]]⟩) .nil (by kernel_rfl) ?_
  clear S; intro ac w β S hβ
  refine WD.last (by kernel_rfl) ?_
  clear hβ
  refine WD.done (by kernel_rfl) ?_ _
  replace S := S.p [2] 2 ⟨[(2, .p 1 0)], [GT.cells b pb, [slv (b.mem).length q1.1, slv (b.guests).length q5.1, slv (b.outs).length q10.1, I b.pend]]⟩
  refine id (nx_then (wp_ret ?_))
  refine S.r [GT.val (⟨b.mem, b.guests, b.outs, b.pend⟩ : TBare) (⟨q1, q5, q10⟩ : PBare)] ?_
  have o16 := ow_Bare (x := (⟨b.mem, b.guests, b.outs, b.pend⟩ : TBare)) (p := (⟨q1, q5, q10⟩ : PBare)) o3 o7 o12 d9 d14 d15 (RBare.pend (d := b) (S.arg hb))
  exact ret1_of S (show b = (⟨b.mem, b.guests, b.outs, b.pend⟩ : TBare) by clear S; (first | rfl | simp)) rfl o16

set_option maxRecDepth 100000 in
theorem c_impl_within (w0 : World) (n : Int) (a : Int) (b : Int) : Calls Try.prog 50 [I n, I a, I b].toArray w0 (fun e w' => e = .returned (B (f_within n a b)) ∧ Chg NoB w0 w') := by
  refine Calls.walk (args := [I n, I a, I b]) NoB Try.func50 rfl rfl ?_
  intro ac β S
  refine wp_seq (RG.start ?_)
  refine S.q 1 [0, 1, 2] 0 ⟨[(0, .v (I n)), (1, .v (I a)), (2, .v (I b))], []⟩ .nil ?_; clear S; intro ac w β S
  refine RG.done rfl (nx_then (wp_seq (RG.start ?_)))
  refine S.q 4 [0, 2, 10] 0 ⟨[(0, .v (I n)), (2, .v (I b)), (10, .v (B (decide (n ≥ a))))], []⟩ .nil ?_; clear S; intro ac w β S
  rcases Bool.eq_false_or_eq_true (decide (n ≥ a)) with h1 | h1 <;> rw [h1] at S
  · have g2 : n ≥ a := of_decide_eq_true h1
    refine S.q 5 [6] 0 ⟨[(6, .v (B (decide (n ≤ b))))], []⟩ .nil ?_; clear S; intro ac w β S
    refine RG.done rfl (nx_then (wp_ret ?_))
    refine S.r [B (decide (n ≤ b))] ?_
    exact ⟨retB (by clear S; first | rfl | (simp [f_within, *]; done) | (simp [f_within, *]; omega) | (simp_all [f_within]; done) | (simp_all [f_within]; omega)), S.chg⟩
  · have g3 : ¬ (n ≥ a) := of_decide_eq_false h1
    refine S.q 5 [6] 0 ⟨[(6, .v (B false))], []⟩ .nil ?_; clear S; intro ac w β S
    refine RG.done rfl (nx_then (wp_ret ?_))
    refine S.r [B false] ?_
    exact ⟨retB (by clear S; first | rfl | (simp [f_within, *]; done) | (simp [f_within, *]; omega) | (simp_all [f_within]; done) | (simp_all [f_within]; omega)), S.chg⟩

set_option maxRecDepth 100000 in
theorem c_impl_PendOk (w0 : World) (p : Int) : Calls Try.prog 101 [I p].toArray w0 (fun e w' => e = .returned (B (f_within p 0 255)) ∧ Chg NoB w0 w') := by
  refine Calls.walk (args := [I p]) NoB Try.func101 rfl rfl ?_
  intro ac β S
  refine wp_seq (RG.start ?_)
  refine S.q 1 [0] 0 ⟨[(0, .v (I p))], []⟩ .nil ?_; clear S; intro ac w β S
  refine RG.done rfl (nx_then (wp_seq (RG.start ?_)))
  refine S.q 3 [2] 0 ⟨[(2, .v (B (f_within p 0 255)))], []⟩ (.cons (Q_call fun w hw => c_impl_within w p 0 255) .nil) ?_; clear S; intro ac w β S
  refine RG.done rfl (nx_then (wp_ret ?_))
  refine S.r [B (f_within p 0 255)] ?_
  exact ⟨retB (by clear S; first | rfl | (simp [f_within, *]; done) | (simp [f_within, *]; omega) | (simp_all [f_within]; done) | (simp_all [f_within]; omega)), S.chg⟩

set_option maxRecDepth 100000 in
theorem c_impl_TopIrq (w0 : World) (p : Int) : Calls Try.prog 132 [I p].toArray w0 (fun e w' => e = .returned (I (f_topIrq p)) ∧ Chg NoB w0 w') := by
  refine Calls.walk (args := [I p]) NoB Try.func132 rfl rfl ?_
  intro ac β S
  refine wp_seq (RG.start ?_)
  refine S.q 1 [0] 0 ⟨[(0, .v (I p))], []⟩ .nil ?_; clear S; intro ac w β S
  refine RG.done rfl (nx_then (wp_seq (wp_seq (RG.start ?_))))
  refine S.q 3 [0, 5] 0 ⟨[(0, .v (I p)), (5, .v (B (!(f_within p 0 255))))], []⟩ (.cons (Q_call fun w hw => c_impl_PendOk w p) .nil) ?_; clear S; intro ac w β S
  refine RG.done rfl (nx_then ?_)
  refine S.c (!(f_within p 0 255)) (fun h1 => ?_) (fun h1 => ?_)
  · have h2 : (f_within p 0 255) = false := not_t h1
    have g3 := within_f h2
    refine wp_seq (RG.start ?_)
    refine S.q 1 [2] 0 ⟨[(2, .v (I (-1)))], []⟩ .nil ?_; clear S; intro ac w β S
    refine RG.done rfl (nx_then (wp_ret (rt_then ?_)))
    refine S.r [I (-1)] ?_
    exact ⟨retI (by clear S; (first | (exact (topIrq_out (by assumption)).symm) | (unfold f_topIrq; rw [if_pos (by assumption)]; done))), S.chg⟩
  · have h4 : (f_within p 0 255) = true := not_f h1
    have g5 := within_t h4
    refine wp_skip (nx_then (wp_seq (RG.start ?_)))
    have b6 := bitLen_bd0 p
    refine S.q 5 [2] 0 ⟨[(2, .v (I ((f_bitLen p) - 1)))], []⟩ (.cons (Q_convu (s := 3) (d := 150) (x := p) Try.underlying3 Try.underlying150 (by omega) (by omega)) (.cons (Q_call fun w hw => c_math_bits_Len w p (by omega) (by omega)) (.cons (Q_sub (x := (f_bitLen p)) (y := 1) ⟨by omega, by omega⟩) .nil))) ?_; clear S; intro ac w β S
    refine RG.done rfl (nx_then (wp_ret ?_))
    refine S.r [I ((f_bitLen p) - 1)] ?_
    exact ⟨retI (by clear S; (first | (exact (topIrq_out (by assumption)).symm) | (unfold f_topIrq; rw [if_pos (by assumption)]; done))), S.chg⟩

set_option maxRecDepth 100000 in
theorem c_impl_TakeIrq (w0 : World) (p : Int) (hp : In64 p) : Calls Try.prog 96 [I p].toArray w0 (fun e w' => e = .returned (.tuple #[I ((f_takeIrq p).1), I ((f_takeIrq p).2.1), B ((f_takeIrq p).2.2)]) ∧ Chg NoB w0 w') := by
  refine Calls.walk (args := [I p]) NoB Try.func96 rfl rfl ?_
  intro ac β S
  have hlop := hp.lo; have hhip := hp.hi
  refine wp_seq (RG.start ?_)
  refine S.q 3 [0] 0 ⟨[(0, .v (I p))], []⟩ .nil ?_; clear S; intro ac w β S
  refine RG.done rfl (nx_then (wp_seq (RG.start ?_)))
  have b1 := topIrq_bd p
  refine S.q 3 [0, 5] 0 ⟨[(0, .v (I p)), (5, .v (I (f_topIrq p)))], []⟩ (.cons (Q_call fun w hw => c_impl_TopIrq w p) .nil) ?_; clear S; intro ac w β S
  refine RG.done rfl (nx_then (wp_seq (wp_seq (RG.start ?_))))
  refine S.q 2 [0, 5, 9] 0 ⟨[(0, .v (I p)), (5, .v (I (f_topIrq p))), (9, .v (B (decide ((f_topIrq p) < 0))))], []⟩ .nil ?_; clear S; intro ac w β S
  refine RG.done rfl (nx_then ?_)
  refine S.c (decide ((f_topIrq p) < 0)) (fun h2 => ?_) (fun h2 => ?_)
  · have g3 : (f_topIrq p) < 0 := of_decide_eq_true h2
    refine wp_seq (RG.start ?_)
    refine S.q 4 [2, 3, 4] 0 ⟨[(2, .v (I p)), (3, .v (I (-1))), (4, .v (B false))], []⟩ .nil ?_; clear S; intro ac w β S
    refine RG.done rfl (nx_then (wp_ret (rt_then ?_)))
    refine S.r [I p, I (-1), B false] ?_
    exact ⟨ret3v (eqI (show p = (f_takeIrq p).1 by clear S; (first | (unfold f_takeIrq; rw [if_pos (by assumption)]; done) | (unfold f_takeIrq; rw [if_neg (by assumption)]; done) | (unfold f_takeIrq; rw [if_neg (by assumption)]; exact take_eq (by assumption)) | (unfold f_takeIrq; rw [if_neg (by assumption)]; exact (take_eq (by assumption)).symm)))) (eqI (show (-1) = (f_takeIrq p).2.1 by clear S; (first | (unfold f_takeIrq; rw [if_pos (by assumption)]; done) | (unfold f_takeIrq; rw [if_neg (by assumption)]; done) | (unfold f_takeIrq; rw [if_neg (by assumption)]; exact take_eq (by assumption)) | (unfold f_takeIrq; rw [if_neg (by assumption)]; exact (take_eq (by assumption)).symm)))) (eqB (show false = (f_takeIrq p).2.2 by clear S; (first | (unfold f_takeIrq; rw [if_pos (by assumption)]; done) | (unfold f_takeIrq; rw [if_neg (by assumption)]; done) | (unfold f_takeIrq; rw [if_neg (by assumption)]; exact take_eq (by assumption)) | (unfold f_takeIrq; rw [if_neg (by assumption)]; exact (take_eq (by assumption)).symm)))), S.chg⟩
  · have g4 : ¬ ((f_topIrq p) < 0) := of_decide_eq_false h2
    refine wp_skip (nx_then (wp_seq (RG.start ?_)))
    refine S.q 8 [2, 3, 4] 0 ⟨[(2, .v (I (landn64 p (shl64 1 (f_topIrq p))))), (3, .v (I (f_topIrq p))), (4, .v (B true))], []⟩ (.cons (Q_shl (yk := .i64) (x := 1) (y := (f_topIrq p)) (by omega)) (.cons (Q_landn64 (x := p) (y := (shl64 1 (f_topIrq p)))) .nil)) ?_; clear S; intro ac w β S
    refine RG.done rfl (nx_then (wp_ret ?_))
    refine S.r [I (landn64 p (shl64 1 (f_topIrq p))), I (f_topIrq p), B true] ?_
    exact ⟨ret3v (eqI (show (landn64 p (shl64 1 (f_topIrq p))) = (f_takeIrq p).1 by clear S; (first | (unfold f_takeIrq; rw [if_pos (by assumption)]; done) | (unfold f_takeIrq; rw [if_neg (by assumption)]; done) | (unfold f_takeIrq; rw [if_neg (by assumption)]; exact take_eq (by assumption)) | (unfold f_takeIrq; rw [if_neg (by assumption)]; exact (take_eq (by assumption)).symm)))) (eqI (show (f_topIrq p) = (f_takeIrq p).2.1 by clear S; (first | (unfold f_takeIrq; rw [if_pos (by assumption)]; done) | (unfold f_takeIrq; rw [if_neg (by assumption)]; done) | (unfold f_takeIrq; rw [if_neg (by assumption)]; exact take_eq (by assumption)) | (unfold f_takeIrq; rw [if_neg (by assumption)]; exact (take_eq (by assumption)).symm)))) (eqB (show true = (f_takeIrq p).2.2 by clear S; (first | (unfold f_takeIrq; rw [if_pos (by assumption)]; done) | (unfold f_takeIrq; rw [if_neg (by assumption)]; done) | (unfold f_takeIrq; rw [if_neg (by assumption)]; exact take_eq (by assumption)) | (unfold f_takeIrq; rw [if_neg (by assumption)]; exact (take_eq (by assumption)).symm)))), S.chg⟩

set_option maxRecDepth 100000 in
theorem c_impl_InsOk (w0 : World) (i : TIns) : Calls Try.prog 160 [GT.val i ()].toArray w0 (fun e w' => e = .returned (B (f_insOk i)) ∧ Chg NoB w0 w') := by
  refine Calls.walk (args := [GT.val i ()]) NoB Try.func160 rfl rfl ?_
  intro ac β S
  refine wp_seq (RG.start ?_)
  refine S.q 2 [1] 1 ⟨[(1, .p 0 0)], [GT.cells i ()]⟩ .nil ?_; clear S; intro ac w β S
  refine RG.done rfl (nx_then (wp_seq (wp_seq (RG.start ?_))))
  refine S.q 2 [1, 4] 1 ⟨[(1, .p 0 0), (4, .v (I i.opc))], [GT.cells i ()]⟩ .nil ?_; clear S; intro ac w β S
  refine RG.done rfl (nx_then (wp_block (wp_seq (wp_seq (RG.start ?_)))))
  refine S.q 2 [1, 4, 5] 1 ⟨[(1, .p 0 0), (4, .v (I i.opc)), (5, .v (B (i.opc == 1)))], [GT.cells i ()]⟩ .nil ?_; clear S; intro ac w β S
  refine RG.done rfl (nx_then ?_)
  refine S.c (i.opc == 1) (fun h1 => ?_) (fun h1 => ?_)
  · rw [h1] at S
    have g2 : i.opc = 1 := eq_of_beq h1
    refine wp_skip (nx_then ?_)
    refine S.c true (fun _ => ?_) (fun hx => by cases hx)
    refine wp_seq (RG.start ?_)
    refine S.q 4 [2] 0 ⟨[(2, .v (B (f_within i.x 0 99)))], []⟩ (.cons (Q_call fun w hw => c_impl_within w i.x 0 99) .nil) ?_; clear S; intro ac w β S
    refine RG.done rfl (nx_then (wp_ret (rt_block (rt_then ?_))))
    refine S.r [B (f_within i.x 0 99)] ?_
    exact ⟨retB (by clear S; first | rfl | (simp [f_insOk, *]; done) | (simp [f_insOk, *]; omega) | (simp_all [f_insOk]; done) | (simp_all [f_insOk]; omega)), S.chg⟩
  · have g3 : ¬ (i.opc = 1) := ne_of_beq_false h1
    refine wp_seq (RG.start ?_)
    refine S.q 2 [1, 4, 5] 1 ⟨[(1, .p 0 0), (4, .v (I i.opc)), (5, .v (B (i.opc == 2)))], [GT.cells i ()]⟩ .nil ?_; clear S; intro ac w β S
    refine RG.done rfl (nx_then ?_)
    refine S.c (i.opc == 2) (fun h4 => ?_) (fun h4 => ?_)
    · rw [h4] at S
      have g5 : i.opc = 2 := eq_of_beq h4
      refine wp_skip (nx_then ?_)
      refine S.c true (fun _ => ?_) (fun hx => by cases hx)
      refine wp_seq (RG.start ?_)
      refine S.q 4 [2] 0 ⟨[(2, .v (B (f_within i.x 0 99)))], []⟩ (.cons (Q_call fun w hw => c_impl_within w i.x 0 99) .nil) ?_; clear S; intro ac w β S
      refine RG.done rfl (nx_then (wp_ret (rt_block (rt_then ?_))))
      refine S.r [B (f_within i.x 0 99)] ?_
      exact ⟨retB (by clear S; first | rfl | (simp [f_insOk, *]; done) | (simp [f_insOk, *]; omega) | (simp_all [f_insOk]; done) | (simp_all [f_insOk]; omega)), S.chg⟩
    · have g6 : ¬ (i.opc = 2) := ne_of_beq_false h4
      refine wp_seq (RG.start ?_)
      refine S.q 2 [1, 4, 5] 1 ⟨[(1, .p 0 0), (4, .v (I i.opc)), (5, .v (B (i.opc == 5)))], [GT.cells i ()]⟩ .nil ?_; clear S; intro ac w β S
      refine RG.done rfl (nx_then ?_)
      refine S.c (i.opc == 5) (fun h7 => ?_) (fun h7 => ?_)
      · rw [h7] at S
        have g8 : i.opc = 5 := eq_of_beq h7
        refine wp_skip (nx_then ?_)
        refine S.c true (fun _ => ?_) (fun hx => by cases hx)
        refine wp_seq (RG.start ?_)
        refine S.q 4 [2] 0 ⟨[(2, .v (B (f_within i.x 0 99)))], []⟩ (.cons (Q_call fun w hw => c_impl_within w i.x 0 99) .nil) ?_; clear S; intro ac w β S
        refine RG.done rfl (nx_then (wp_ret (rt_block (rt_then ?_))))
        refine S.r [B (f_within i.x 0 99)] ?_
        exact ⟨retB (by clear S; first | rfl | (simp [f_insOk, *]; done) | (simp [f_insOk, *]; omega) | (simp_all [f_insOk]; done) | (simp_all [f_insOk]; omega)), S.chg⟩
      · have g9 : ¬ (i.opc = 5) := ne_of_beq_false h7
        refine RG.start ?_
        refine S.q 2 [1, 4, 5] 1 ⟨[(1, .p 0 0), (4, .v (I i.opc)), (5, .v (B (i.opc == 6)))], [GT.cells i ()]⟩ .nil ?_; clear S; intro ac w β S
        refine RG.done rfl (nx_then ?_)
        refine S.c (i.opc == 6) (fun h10 => ?_) (fun h10 => ?_)
        · have g11 : i.opc = 6 := eq_of_beq h10
          refine wp_seq (RG.start ?_)
          refine S.q 4 [2] 0 ⟨[(2, .v (B (f_within i.x 0 99)))], []⟩ (.cons (Q_call fun w hw => c_impl_within w i.x 0 99) .nil) ?_; clear S; intro ac w β S
          refine RG.done rfl (nx_then (wp_ret (rt_block (rt_then ?_))))
          refine S.r [B (f_within i.x 0 99)] ?_
          exact ⟨retB (by clear S; first | rfl | (simp [f_insOk, *]; done) | (simp [f_insOk, *]; omega) | (simp_all [f_insOk]; done) | (simp_all [f_insOk]; omega)), S.chg⟩
        · have g12 : ¬ (i.opc = 6) := ne_of_beq_false h10
          refine wp_seq (wp_seq (RG.start ?_))
          refine S.q 2 [1, 4, 13] 1 ⟨[(1, .p 0 0), (4, .v (I i.opc)), (13, .v (B (i.opc == 3)))], [GT.cells i ()]⟩ .nil ?_; clear S; intro ac w β S
          refine RG.done rfl (nx_then ?_)
          refine S.c (i.opc == 3) (fun h13 => ?_) (fun h13 => ?_)
          · rw [h13] at S
            have g14 : i.opc = 3 := eq_of_beq h13
            refine wp_skip (nx_then ?_)
            refine S.c true (fun _ => ?_) (fun hx => by cases hx)
            refine wp_seq (RG.start ?_)
            refine S.q 4 [2] 0 ⟨[(2, .v (B (f_within i.x 0 15)))], []⟩ (.cons (Q_call fun w hw => c_impl_within w i.x 0 15) .nil) ?_; clear S; intro ac w β S
            refine RG.done rfl (nx_then (wp_ret (rt_block (rt_then ?_))))
            refine S.r [B (f_within i.x 0 15)] ?_
            exact ⟨retB (by clear S; first | rfl | (simp [f_insOk, *]; done) | (simp [f_insOk, *]; omega) | (simp_all [f_insOk]; done) | (simp_all [f_insOk]; omega)), S.chg⟩
          · have g15 : ¬ (i.opc = 3) := ne_of_beq_false h13
            refine RG.start ?_
            refine S.q 2 [1, 4, 13] 1 ⟨[(1, .p 0 0), (4, .v (I i.opc)), (13, .v (B (i.opc == 4)))], [GT.cells i ()]⟩ .nil ?_; clear S; intro ac w β S
            refine RG.done rfl (nx_then ?_)
            refine S.c (i.opc == 4) (fun h16 => ?_) (fun h16 => ?_)
            · have g17 : i.opc = 4 := eq_of_beq h16
              refine wp_seq (RG.start ?_)
              refine S.q 4 [2] 0 ⟨[(2, .v (B (f_within i.x 0 15)))], []⟩ (.cons (Q_call fun w hw => c_impl_within w i.x 0 15) .nil) ?_; clear S; intro ac w β S
              refine RG.done rfl (nx_then (wp_ret (rt_block (rt_then ?_))))
              refine S.r [B (f_within i.x 0 15)] ?_
              exact ⟨retB (by clear S; first | rfl | (simp [f_insOk, *]; done) | (simp [f_insOk, *]; omega) | (simp_all [f_insOk]; done) | (simp_all [f_insOk]; omega)), S.chg⟩
            · have g18 : ¬ (i.opc = 4) := ne_of_beq_false h16
              refine wp_seq (RG.start ?_)
              refine S.q 2 [1, 4, 19] 1 ⟨[(1, .p 0 0), (4, .v (I i.opc)), (19, .v (B (i.opc == 7)))], [GT.cells i ()]⟩ .nil ?_; clear S; intro ac w β S
              refine RG.done rfl (nx_then ?_)
              refine S.c (i.opc == 7) (fun h19 => ?_) (fun h19 => ?_)
              · have g20 : i.opc = 7 := eq_of_beq h19
                refine wp_seq (RG.start ?_)
                refine S.q 4 [2] 0 ⟨[(2, .v (B (i.x == 0)))], []⟩ .nil ?_; clear S; intro ac w β S
                refine RG.done rfl (nx_then (wp_ret (rt_block (rt_then ?_))))
                refine S.r [B (i.x == 0)] ?_
                exact ⟨retB (by clear S; first | rfl | (simp [f_insOk, *]; done) | (simp [f_insOk, *]; omega) | (simp_all [f_insOk]; done) | (simp_all [f_insOk]; omega)), S.chg⟩
              · have g21 : ¬ (i.opc = 7) := ne_of_beq_false h19
                refine wp_seq (RG.start ?_)
                refine S.q 2 [1, 24] 1 ⟨[(1, .p 0 0), (24, .v (B (i.opc == 8)))], [GT.cells i ()]⟩ .nil ?_; clear S; intro ac w β S
                refine RG.done rfl (nx_then ?_)
                refine S.c (i.opc == 8) (fun h22 => ?_) (fun h22 => ?_)
                · have g23 : i.opc = 8 := eq_of_beq h22
                  refine wp_seq (RG.start ?_)
                  refine S.q 4 [2] 0 ⟨[(2, .v (B (f_within i.x 0 11)))], []⟩ (.cons (Q_call fun w hw => c_impl_within w i.x 0 11) .nil) ?_; clear S; intro ac w β S
                  refine RG.done rfl (nx_then (wp_ret (rt_block (rt_then ?_))))
                  refine S.r [B (f_within i.x 0 11)] ?_
                  exact ⟨retB (by clear S; first | rfl | (simp [f_insOk, *]; done) | (simp [f_insOk, *]; omega) | (simp_all [f_insOk]; done) | (simp_all [f_insOk]; omega)), S.chg⟩
                · have g24 : ¬ (i.opc = 8) := ne_of_beq_false h22
                  refine wp_skip (nx_block (nx_then (wp_seq (RG.start ?_))))
                  refine S.q 1 [2] 0 ⟨[(2, .v (B false))], []⟩ .nil ?_; clear S; intro ac w β S
                  refine RG.done rfl (nx_then (wp_ret ?_))
                  refine S.r [B false] ?_
                  exact ⟨retB (by clear S; first | rfl | (simp [f_insOk, *]; done) | (simp [f_insOk, *]; omega) | (simp_all [f_insOk]; done) | (simp_all [f_insOk]; omega)), S.chg⟩

set_option maxRecDepth 100000 in
theorem c_impl_ProgOk (w0 : World) (p : List TIns) (pp : LP TIns) (hp : GT.rd KK (Lt w0.heap.size) w0 p pp) : Calls Try.prog 135 [slv (p).length pp.1].toArray w0 (fun e w' => e = .returned (B (f_progOk p)) ∧ Chg NoB w0 w') := by
  refine Calls.walk (args := [slv (p).length pp.1]) NoB Try.func135 rfl rfl ?_
  intro ac β S
  have hlep : p.length ≤ 4194304 := LRd.le hp
  refine wp_seq (RG.start ?_)
  refine S.q 1 [0] 0 ⟨[(0, .v (slv (p).length pp.1))], []⟩ .nil ?_; clear S; intro ac w β S
  refine RG.done rfl (nx_then (wp_seq (wp_seq (RG.start ?_))))
  refine S.q 3 [0, 5, 6, 7] 0 ⟨[(0, .v (slv (p).length pp.1)), (5, .v (slv (p).length pp.1)), (6, .v (I ((p).length : Int))), (7, .v (I 0))], []⟩ .nil ?_; clear S; intro ac w β S
  refine RG.done rfl (nx_then (wp_block ?_))
  replace S := S.p [0, 5, 6, 7] 0 ⟨[(0, .v (slv (p).length pp.1)), (5, .v (slv (p).length pp.1)), (6, .v (I ((p).length : Int))), (7, .v (I 0))], []⟩
  refine wp_loop_down (fun mm ac w => ∃ (k : Nat)  (u : World) (N : Bl) (β : Nat → Nat), mm = (p).length - k ∧ (k ≤ (p).length) ∧ (((p).take k).all f_insOk = true) ∧ St Try.prog Try.f135.ntmps w0 NoB u N β ⟨[(0, .v (slv (p).length pp.1)), (5, .v (slv (p).length pp.1)), (6, .v (I ((p).length : Int))), (7, .v (I (k : Int)))], []⟩ ac w) _ ⟨0, _, _, _, rfl, (by first | omega | (simp; done) | (simp; omega)), (by simp), S.cast (by kernel_rfl)⟩ ?_
  clear S
  rintro mm ac w ⟨k, u, N, β, rfl, hk, he, S⟩
  refine wp_seq (RG.start ?_)
  refine S.q 1 [0, 5, 6, 7, 8] 0 ⟨[(0, .v (slv (p).length pp.1)), (5, .v (slv (p).length pp.1)), (6, .v (I ((p).length : Int))), (7, .v (I (k : Int))), (8, .v (B (decide ((k : Int) < ((p).length : Int)))))], []⟩ .nil ?_; clear S; intro ac w β S
  refine RG.done rfl (nx_then (wp_seq ?_))
  refine S.c (decide ((k : Int) < ((p).length : Int))) (fun h1 => ?_) (fun h1 => ?_)
  · have g2 : (k : Int) < ((p).length : Int) := of_decide_eq_true h1
    refine wp_skip (nx_then (wp_seq (wp_block (wp_seq (RG.start ?_)))))
    refine S.q 4 [0, 4, 5, 6, 7] 1 ⟨[(0, .v (slv (p).length pp.1)), (4, .p 0 0), (5, .v (slv (p).length pp.1)), (6, .v (I ((p).length : Int))), (7, .v (I (k : Int)))], [GT.cells (el p k) ()]⟩ (.cons (Q_idx (S.arg hp) (l := (p).length) (k := k) (i := (k : Int)) rfl rfl (by omega) Try.underlying28 (by kernel_rfl)) (.cons (Q_el (S.arg hp) (t := 27) (k := k) (by omega) rfl (by kernel_rfl) (by kernel_rfl)) .nil)) ?_; clear S; intro ac w β S
    refine RG.done rfl (nx_then (wp_seq (RG.start ?_)))
    refine S.q 3 [0, 5, 6, 7, 13] 0 ⟨[(0, .v (slv (p).length pp.1)), (5, .v (slv (p).length pp.1)), (6, .v (I ((p).length : Int))), (7, .v (I (k : Int))), (13, .v (B (!(f_insOk (el p k)))))], []⟩ (.cons (Q_call fun w hw => c_impl_InsOk w (el p k)) .nil) ?_; clear S; intro ac w β S
    refine RG.done rfl (nx_then ?_)
    refine S.c (!(f_insOk (el p k))) (fun h3 => ?_) (fun h3 => ?_)
    · have h4 : (f_insOk (el p k)) = false := not_t h3
      refine wp_seq (RG.start ?_)
      refine S.q 1 [2] 0 ⟨[(2, .v (B false))], []⟩ .nil ?_; clear S; intro ac w β S
      refine RG.done rfl (nx_then (wp_ret (rt_block (rt_then (rt_then (rt_block (rt_then ?_)))))))
      refine S.r [B false] ?_
      exact ⟨retB (by clear S; (first | rfl | (unfold f_progOk; rw [all_end (by omega) he]; simp; done) | (unfold f_progOk; rw [all_bad (k := k) (by omega) (by first | assumption | (simp_all <;> fail))]; simp; done) | (unfold f_progOk; rw [all_end (by omega) he]; simp [*]; done) | (unfold f_progOk; rw [all_end (by omega) he]; simp; omega))), S.chg⟩
    · have h5 : (f_insOk (el p k)) = true := not_f h3
      refine wp_skip (nx_block (nx_then (RG.start ?_)))
      refine S.q 2 [0, 5, 6, 7] 0 ⟨[(0, .v (slv (p).length pp.1)), (5, .v (slv (p).length pp.1)), (6, .v (I ((p).length : Int))), (7, .v (I ((k : Int) + 1)))], []⟩ (.cons (Q_add (x := (k : Int)) (y := 1) ⟨by omega, by omega⟩) .nil) ?_; clear S; intro ac w β S
      refine RG.done rfl (nx_then ?_)
      replace S := S.p [0, 5, 6, 7] 0 ⟨[(0, .v (slv (p).length pp.1)), (5, .v (slv (p).length pp.1)), (6, .v (I ((p).length : Int))), (7, .v (I ((k : Int) + 1)))], []⟩
      refine ⟨(p).length - (k + 1), by omega, k + 1, _, _, _, rfl, ?_, ?_, S.cast (by kernel_rfl)⟩
      · clear S; first | omega | (simp [*]; done) | (simp [*]; omega)
      · clear S; exact all_step (by omega) he (by first | assumption | (simp only [f_slotOk, f_within] at *; simp_all; done) | (simp_all; done) | (simp_all; omega))
  · have g6 : ¬ ((k : Int) < ((p).length : Int)) := of_decide_eq_false h1
    refine wp_exit (ex_then (ex_then (ex_hit (nx_then (wp_seq (RG.start ?_))))))
    refine S.q 4 [2] 0 ⟨[(2, .v (B (f_within ((p).length : Int) 1 12)))], []⟩ (.cons (Q_call fun w hw => c_impl_within w ((p).length : Int) 1 12) .nil) ?_; clear S; intro ac w β S
    refine RG.done rfl (nx_then (wp_ret ?_))
    refine S.r [B (f_within ((p).length : Int) 1 12)] ?_
    exact ⟨retB (by clear S; (first | rfl | (unfold f_progOk; rw [all_end (by omega) he]; simp; done) | (unfold f_progOk; rw [all_bad (k := k) (by omega) (by first | assumption | (simp_all <;> fail))]; simp; done) | (unfold f_progOk; rw [all_end (by omega) he]; simp [*]; done) | (unfold f_progOk; rw [all_end (by omega) he]; simp; omega))), S.chg⟩

set_option maxRecDepth 100000 in
theorem c_impl_NoSlot (w0 : World)  : Calls Try.prog 62 [].toArray w0 (fun e w' => e = .returned (GT.val (⟨-1, 0⟩ : TSlot) ()) ∧ Chg NoB w0 w') := by
  refine Calls.walk (args := []) NoB Try.func62 rfl rfl ?_
  intro ac β S
  refine wp_seq (RG.start ?_)
  refine S.q 1 [0] 1 ⟨[(0, .p 0 0)], [Zc TSlot]⟩ .nil ?_; clear S; intro ac w β S
  refine RG.done rfl (nx_then (wp_seq (RG.start ?_)))
  refine S.q 2 [0] 1 ⟨[(0, .p 0 0)], [[I (-1), I 0]]⟩ (.cons (Q_sem (s := Instr.build 54 [(0, I (-1))].toArray) (v := .agg [I (-1), I 0].toArray) (fun w => by kernel_rfl)) .nil) ?_; clear S; intro ac w β S
  refine RG.done rfl (nx_then (wp_ret ?_))
  refine S.r [GT.val (⟨(-1), 0⟩ : TSlot) ()] ?_
  exact ⟨retV (p := ()) (by clear S; first | rfl | (simp [id, *]; done) | (simp [id, *]; omega) | (simp_all [id]; done) | (simp_all [id]; omega)), S.chg⟩

set_option maxRecDepth 100000 in
theorem c_impl_SlotOk (w0 : World) (s : TSlot) (pages : Int) (pre0 : 0 ≤ pages) (pre1 : pages ≤ 1000) : Calls Try.prog 134 [GT.val s (), I pages].toArray w0 (fun e w' => e = .returned (B (f_slotOk s pages)) ∧ Chg NoB w0 w') := by
  refine Calls.walk (args := [GT.val s (), I pages]) NoB Try.func134 rfl rfl ?_
  intro ac β S
  refine wp_seq (RG.start ?_)
  refine S.q 2 [1, 2] 1 ⟨[(1, .v (I pages)), (2, .p 0 0)], [GT.cells s ()]⟩ .nil ?_; clear S; intro ac w β S
  refine RG.done rfl (nx_then (wp_seq ?_))
  rcases Bool.eq_false_or_eq_true (decide (s = ((⟨-1, 0⟩ : TSlot)))) with h1 | h1
  · refine S.drawnO [(3, true)] (keep := [4]) (m := 0) (σ' := ⟨[(4, .v (B true))], []⟩) (.cons (Q_call fun w hw => c_impl_NoSlot w ) (.cons (Eq_eq_Slot (t := 54) s ((⟨-1, 0⟩ : TSlot)) (by kernel_rfl)) .nil)) rfl (by kernel_rfl) (by kernel_rfl) (.cons h1 .nil) ?_
    clear S; intro ac w S
    refine id (nx_then (wp_ret ?_))
    refine S.r [B true] ?_
    exact ⟨retB (by clear S; first | rfl | (simp [f_slotOk, *]; done) | (simp [f_slotOk, *]; omega) | (simp_all [f_slotOk]; done) | (simp_all [f_slotOk]; omega)), S.chg⟩
  · rcases Bool.eq_false_or_eq_true (decide (pages > 0)) with h2 | h2
    · have g3 : pages > 0 := of_decide_eq_true h2
      rcases Bool.eq_false_or_eq_true (f_within s.page 0 (pages - 1)) with h4 | h4
      · have g5 := within_t h4
        refine S.drawnO [(3, false), (6, true), (13, true)] (keep := [4]) (m := 0) (σ' := ⟨[(4, .v (B (f_within s.rights 1 3)))], []⟩) (.cons (Q_call fun w hw => c_impl_NoSlot w ) (.cons (Eq_eq_Slot (t := 54) s ((⟨-1, 0⟩ : TSlot)) (by kernel_rfl)) (.cons (Q_sub (x := pages) (y := 1) ⟨by omega, by omega⟩) (.cons (Q_call fun w hw => c_impl_within w s.page 0 (pages - 1)) (.cons (Q_call fun w hw => c_impl_within w s.rights 1 3) .nil))))) rfl (by kernel_rfl) (by kernel_rfl) (.cons h1 (.cons h2 (.cons h4 .nil))) ?_
        clear S; intro ac w S
        refine id (nx_then (wp_ret ?_))
        refine S.r [B (f_within s.rights 1 3)] ?_
        exact ⟨retB (by clear S; first | rfl | (simp [f_slotOk, *]; done) | (simp [f_slotOk, *]; omega) | (simp_all [f_slotOk]; done) | (simp_all [f_slotOk]; omega)), S.chg⟩
      · have g6 := within_f h4
        refine S.drawnO [(3, false), (6, true), (13, false)] (keep := [4]) (m := 0) (σ' := ⟨[(4, .v (B false))], []⟩) (.cons (Q_call fun w hw => c_impl_NoSlot w ) (.cons (Eq_eq_Slot (t := 54) s ((⟨-1, 0⟩ : TSlot)) (by kernel_rfl)) (.cons (Q_sub (x := pages) (y := 1) ⟨by omega, by omega⟩) (.cons (Q_call fun w hw => c_impl_within w s.page 0 (pages - 1)) .nil)))) rfl (by kernel_rfl) (by kernel_rfl) (.cons h1 (.cons h2 (.cons h4 .nil))) ?_
        clear S; intro ac w S
        refine id (nx_then (wp_ret ?_))
        refine S.r [B false] ?_
        exact ⟨retB (by clear S; first | rfl | (simp [f_slotOk, *]; done) | (simp [f_slotOk, *]; omega) | (simp_all [f_slotOk]; done) | (simp_all [f_slotOk]; omega)), S.chg⟩
    · have g7 : ¬ (pages > 0) := of_decide_eq_false h2
      refine S.drawnO [(3, false), (6, false)] (keep := [4]) (m := 0) (σ' := ⟨[(4, .v (B false))], []⟩) (.cons (Q_call fun w hw => c_impl_NoSlot w ) (.cons (Eq_eq_Slot (t := 54) s ((⟨-1, 0⟩ : TSlot)) (by kernel_rfl)) .nil)) rfl (by kernel_rfl) (by kernel_rfl) (.cons h1 (.cons h2 .nil)) ?_
      clear S; intro ac w S
      refine id (nx_then (wp_ret ?_))
      refine S.r [B false] ?_
      exact ⟨retB (by clear S; first | rfl | (simp [f_slotOk, *]; done) | (simp [f_slotOk, *]; omega) | (simp_all [f_slotOk]; done) | (simp_all [f_slotOk]; omega)), S.chg⟩

set_option maxRecDepth 100000 in
theorem c_impl_TableOk (w0 : World) (t : List TSlot) (pt : LP TSlot) (ht : GT.rd KK (Lt w0.heap.size) w0 t pt) (size : Int) (pages : Int) (pre0 : 0 ≤ pages) (pre1 : pages ≤ 1000) : Calls Try.prog 100 [slv (t).length pt.1, I size, I pages].toArray w0 (fun e w' => e = .returned (B (f_tableOk t size pages)) ∧ Chg NoB w0 w') := by
  refine Calls.walk (args := [slv (t).length pt.1, I size, I pages]) NoB Try.func100 rfl rfl ?_
  intro ac β S
  have hlet : t.length ≤ 4194304 := LRd.le ht
  refine wp_seq (RG.start ?_)
  refine S.q 1 [0, 1, 2] 0 ⟨[(0, .v (slv (t).length pt.1)), (1, .v (I size)), (2, .v (I pages))], []⟩ .nil ?_; clear S; intro ac w β S
  refine RG.done rfl (nx_then (wp_seq (wp_seq (RG.start ?_))))
  refine S.q 3 [0, 1, 2, 9, 10, 11] 0 ⟨[(0, .v (slv (t).length pt.1)), (1, .v (I size)), (2, .v (I pages)), (9, .v (slv (t).length pt.1)), (10, .v (I ((t).length : Int))), (11, .v (I 0))], []⟩ .nil ?_; clear S; intro ac w β S
  refine RG.done rfl (nx_then (wp_block ?_))
  replace S := S.p [0, 1, 2, 9, 10, 11] 0 ⟨[(0, .v (slv (t).length pt.1)), (1, .v (I size)), (2, .v (I pages)), (9, .v (slv (t).length pt.1)), (10, .v (I ((t).length : Int))), (11, .v (I 0))], []⟩
  refine wp_loop_down (fun mm ac w => ∃ (k : Nat)  (u : World) (N : Bl) (β : Nat → Nat), mm = (t).length - k ∧ (k ≤ (t).length) ∧ (((t).take k).all (fun s => f_slotOk s pages) = true) ∧ St Try.prog Try.f100.ntmps w0 NoB u N β ⟨[(0, .v (slv (t).length pt.1)), (1, .v (I size)), (2, .v (I pages)), (9, .v (slv (t).length pt.1)), (10, .v (I ((t).length : Int))), (11, .v (I (k : Int)))], []⟩ ac w) _ ⟨0, _, _, _, rfl, (by first | omega | (simp; done) | (simp; omega)), (by simp), S.cast (by kernel_rfl)⟩ ?_
  clear S
  rintro mm ac w ⟨k, u, N, β, rfl, hk, he, S⟩
  refine wp_seq (RG.start ?_)
  refine S.q 1 [0, 1, 2, 9, 10, 11, 12] 0 ⟨[(0, .v (slv (t).length pt.1)), (1, .v (I size)), (2, .v (I pages)), (9, .v (slv (t).length pt.1)), (10, .v (I ((t).length : Int))), (11, .v (I (k : Int))), (12, .v (B (decide ((k : Int) < ((t).length : Int)))))], []⟩ .nil ?_; clear S; intro ac w β S
  refine RG.done rfl (nx_then (wp_seq ?_))
  refine S.c (decide ((k : Int) < ((t).length : Int))) (fun h1 => ?_) (fun h1 => ?_)
  · have g2 : (k : Int) < ((t).length : Int) := of_decide_eq_true h1
    refine wp_skip (nx_then (wp_seq (wp_block (wp_seq (RG.start ?_)))))
    refine S.q 4 [0, 1, 2, 8, 9, 10, 11] 1 ⟨[(0, .v (slv (t).length pt.1)), (1, .v (I size)), (2, .v (I pages)), (8, .p 0 0), (9, .v (slv (t).length pt.1)), (10, .v (I ((t).length : Int))), (11, .v (I (k : Int)))], [GT.cells (el t k) ()]⟩ (.cons (Q_idx (S.arg ht) (l := (t).length) (k := k) (i := (k : Int)) rfl rfl (by omega) Try.underlying37 (by kernel_rfl)) (.cons (Q_el (S.arg ht) (t := 54) (k := k) (by omega) rfl (by kernel_rfl) (by kernel_rfl)) .nil)) ?_; clear S; intro ac w β S
    refine RG.done rfl (nx_then (wp_seq (RG.start ?_)))
    refine S.q 4 [0, 1, 2, 9, 10, 11, 18] 0 ⟨[(0, .v (slv (t).length pt.1)), (1, .v (I size)), (2, .v (I pages)), (9, .v (slv (t).length pt.1)), (10, .v (I ((t).length : Int))), (11, .v (I (k : Int))), (18, .v (B (!(f_slotOk (el t k) pages))))], []⟩ (.cons (Q_call fun w hw => c_impl_SlotOk w (el t k) pages (by omega) (by omega)) .nil) ?_; clear S; intro ac w β S
    refine RG.done rfl (nx_then ?_)
    refine S.c (!(f_slotOk (el t k) pages)) (fun h3 => ?_) (fun h3 => ?_)
    · have h4 : (f_slotOk (el t k) pages) = false := not_t h3
      refine wp_seq (RG.start ?_)
      refine S.q 1 [6] 0 ⟨[(6, .v (B false))], []⟩ .nil ?_; clear S; intro ac w β S
      refine RG.done rfl (nx_then (wp_ret (rt_block (rt_then (rt_then (rt_block (rt_then ?_)))))))
      refine S.r [B false] ?_
      exact ⟨retB (by clear S; (first | rfl | (unfold f_tableOk; rw [all_end (by omega) he]; simp; done) | (unfold f_tableOk; rw [all_bad (k := k) (by omega) (by first | assumption | (simp_all <;> fail))]; simp; done) | (unfold f_tableOk; rw [all_end (by omega) he]; simp [*]; done) | (unfold f_tableOk; rw [all_end (by omega) he]; simp; omega))), S.chg⟩
    · have h5 : (f_slotOk (el t k) pages) = true := not_f h3
      refine wp_skip (nx_block (nx_then (RG.start ?_)))
      refine S.q 2 [0, 1, 2, 9, 10, 11] 0 ⟨[(0, .v (slv (t).length pt.1)), (1, .v (I size)), (2, .v (I pages)), (9, .v (slv (t).length pt.1)), (10, .v (I ((t).length : Int))), (11, .v (I ((k : Int) + 1)))], []⟩ (.cons (Q_add (x := (k : Int)) (y := 1) ⟨by omega, by omega⟩) .nil) ?_; clear S; intro ac w β S
      refine RG.done rfl (nx_then ?_)
      replace S := S.p [0, 1, 2, 9, 10, 11] 0 ⟨[(0, .v (slv (t).length pt.1)), (1, .v (I size)), (2, .v (I pages)), (9, .v (slv (t).length pt.1)), (10, .v (I ((t).length : Int))), (11, .v (I ((k : Int) + 1)))], []⟩
      refine ⟨(t).length - (k + 1), by omega, k + 1, _, _, _, rfl, ?_, ?_, S.cast (by kernel_rfl)⟩
      · clear S; first | omega | (simp [*]; done) | (simp [*]; omega)
      · clear S; exact all_step (by omega) he (by first | assumption | (simp only [f_slotOk, f_within] at *; simp_all; done) | (simp_all; done) | (simp_all; omega))
  · have g6 : ¬ ((k : Int) < ((t).length : Int)) := of_decide_eq_false h1
    refine wp_exit (ex_then (ex_then (ex_hit (nx_then (wp_seq (RG.start ?_))))))
    refine S.q 5 [6] 0 ⟨[(6, .v (B (((t).length : Int) == size)))], []⟩ .nil ?_; clear S; intro ac w β S
    refine RG.done rfl (nx_then (wp_ret ?_))
    refine S.r [B (((t).length : Int) == size)] ?_
    exact ⟨retB (by clear S; (first | rfl | (unfold f_tableOk; rw [all_end (by omega) he]; simp; done) | (unfold f_tableOk; rw [all_bad (k := k) (by omega) (by first | assumption | (simp_all <;> fail))]; simp; done) | (unfold f_tableOk; rw [all_end (by omega) he]; simp [*]; done) | (unfold f_tableOk; rw [all_end (by omega) he]; simp; omega))), S.chg⟩

set_option maxRecDepth 100000 in
theorem c_impl_CtlFaults (w0 : World) (c : TCtl) : Calls Try.prog 161 [GT.val c ()].toArray w0 (Ret1 NoB w0 (f_ctlFaults c : List Int)) := by
  refine Calls.walk (args := [GT.val c ()]) NoB Try.func161 rfl rfl ?_
  intro ac β S
  refine wp_seq (RG.start ?_)
  refine S.q 2 [1] 1 ⟨[(1, .p 0 0)], [GT.cells c ()]⟩ .nil ?_; clear S; intro ac w β S
  refine RG.done rfl (nx_then (wp_seq (RG.start ?_)))
  refine RG.op rfl (S.bs0 (α := Int) (d := 4) (by kernel_rfl) ?_)
  clear S; intro ac w N q1 F2 S up o3 d4
  clear up d4
  refine S.q 1 [1, 3] 1 ⟨[(1, .p 0 0), (3, .v (slv 0 q1.1))], [GT.cells c ()]⟩ .nil ?_; clear S; intro ac w β S
  refine RG.done rfl (nx_then (wp_seq (wp_seq (RG.start ?_))))
  refine S.q 4 [1, 3, 8] 1 ⟨[(1, .p 0 0), (3, .v (slv 0 q1.1)), (8, .v (B (!(f_within c.traps 0 3))))], [GT.cells c ()]⟩ (.cons (Q_call fun w hw => c_impl_within w c.traps 0 3) .nil) ?_; clear S; intro ac w β S
  refine RG.done rfl (nx_then ?_)
  refine wp_region_cut (fun ac w => ∃ (acc1 : List Int) (q5 : GT.Ptr (List Int)) (F6 : Bl) (u : World) (N : Bl) (β : Nat → Nat), (acc1 = (if f_within c.traps 0 3 then [] else [1])) ∧ St Try.prog Try.f161.ntmps w0 NoB u N β ⟨[(1, .p 0 0), (3, .v (slv (acc1).length q5.1))], [GT.cells c ()]⟩ ac w ∧ Ow w0 NoB u N F6 acc1 q5) ?_ ?_
  · refine S.c (!(f_within c.traps 0 3)) (fun h8 => ?_) (fun h8 => ?_)
    · have h9 : (f_within c.traps 0 3) = false := not_t h8
      have g10 := within_f h9
      refine RG.start ?_
      refine S.q 1 [1, 9] 1 ⟨[(1, .p 0 0), (9, .v (slv 0 q1.1))], [GT.cells c ()]⟩ .nil ?_; clear S; intro ac w β S
      refine RG.op rfl (S.bs1 (α := Int) (x := 1) (p := ()) (F := NoB) (show In64 1 from ⟨by decide, by decide⟩) (fun b h => False.elim h) (fun b h => False.elim h) (d := 10) (by kernel_rfl) ?_)
      clear S; intro ac w N q11 F12 S up o13 d14
      have d15 : Disj F2 F12 := d14 _ (fun b _ h => False.elim h) o3.sub
      replace o3 := o3.up up
      clear up d14
      refine RG.op rfl (S.appFlat (α := Int) o3 (o13.rn) (fun _ _ h => h) (by' := 8) (d := 11) (lx := 0) (ly := 1) rfl rfl (by kernel_rfl) (show _ ≤ 4194304 by simp only [List.length_append, List.length_cons, List.length_nil]; omega) ?_)
      clear S; intro ac w N q16 F17 S up o18 d19
      have d20 : Disj F12 F17 := d19 _ (Disj.symm d15) o13.sub
      replace o13 := o13.upF (Disj.symm d15) up
      clear up d19
      refine S.q 1 [1, 3] 1 ⟨[(1, .p 0 0), (3, .v (slv ((([] : List Int) ++ [1])).length q16.1))], [GT.cells c ()]⟩ .nil ?_; clear S; intro ac w β S
      refine RG.done rfl ?_
      replace S := S.p [1, 3] 1 ⟨[(1, .p 0 0), (3, .v (slv ((([] : List Int) ++ [1])).length q16.1))], [GT.cells c ()]⟩
      exact ⟨rfl, (([] : List Int) ++ [1]), q16, F17, _, _, _, (by clear S; (first | (rw [if_pos (by assumption)]; simp [*]; done) | (rw [if_neg (by simp [*])]; simp [*]; done) | ((repeat' split) <;> first | rfl | (simp; done) | (exfalso; simp_all; done) | (simp_all; done)))), S.cast (by kernel_rfl), o18⟩
    · have h21 : (f_within c.traps 0 3) = true := not_f h8
      have g22 := within_t h21
      refine wp_skip ?_
      replace S := S.p [1, 3] 1 ⟨[(1, .p 0 0), (3, .v (slv 0 q1.1))], [GT.cells c ()]⟩
      exact ⟨rfl, ([] : List Int), q1, F2, _, _, _, (by clear S; (first | (rw [if_pos (by assumption)]; simp [*]; done) | (rw [if_neg (by simp [*])]; simp [*]; done) | ((repeat' split) <;> first | rfl | (simp; done) | (exfalso; simp_all; done) | (simp_all; done)))), S.cast (by kernel_rfl), o3⟩
  clear S o3
  rintro ac w ⟨acc1, q5, F6, u, N, β, ha1, S, o7⟩
  have hl1 : acc1.length ≤ 1 := by rw [ha1]; (repeat' split) <;> simp
  refine id (nx_then (wp_seq (wp_seq (RG.start ?_))))
  refine S.q 4 [1, 3, 15] 1 ⟨[(1, .p 0 0), (3, .v (slv (acc1).length q5.1)), (15, .v (B (!(f_within c.post 0 255))))], [GT.cells c ()]⟩ (.cons (Q_call fun w hw => c_impl_within w c.post 0 255) .nil) ?_; clear S; intro ac w β S
  refine RG.done rfl (nx_then ?_)
  refine wp_region_cut (fun ac w => ∃ (acc2 : List Int) (q23 : GT.Ptr (List Int)) (F24 : Bl) (u : World) (N : Bl) (β : Nat → Nat), (acc2 = (if f_within c.traps 0 3 then [] else [1]) ++ (if f_within c.post 0 255 then [] else [2])) ∧ St Try.prog Try.f161.ntmps w0 NoB u N β ⟨[(1, .p 0 0), (3, .v (slv (acc2).length q23.1))], [GT.cells c ()]⟩ ac w ∧ Ow w0 NoB u N F24 acc2 q23) ?_ ?_
  · refine S.c (!(f_within c.post 0 255)) (fun h26 => ?_) (fun h26 => ?_)
    · have h27 : (f_within c.post 0 255) = false := not_t h26
      have g28 := within_f h27
      refine RG.start ?_
      refine S.q 1 [1, 16] 1 ⟨[(1, .p 0 0), (16, .v (slv (acc1).length q5.1))], [GT.cells c ()]⟩ .nil ?_; clear S; intro ac w β S
      refine RG.op rfl (S.bs1 (α := Int) (x := 2) (p := ()) (F := NoB) (show In64 2 from ⟨by decide, by decide⟩) (fun b h => False.elim h) (fun b h => False.elim h) (d := 17) (by kernel_rfl) ?_)
      clear S; intro ac w N q29 F30 S up o31 d32
      have d33 : Disj F6 F30 := d32 _ (fun b _ h => False.elim h) o7.sub
      replace o7 := o7.up up
      clear up d32
      refine RG.op rfl (S.appFlat (α := Int) o7 (o31.rn) (fun _ _ h => h) (by' := 8) (d := 18) (lx := (acc1).length) (ly := 1) rfl rfl (by kernel_rfl) (show _ ≤ 4194304 by simp only [List.length_append, List.length_cons, List.length_nil]; omega) ?_)
      clear S; intro ac w N q34 F35 S up o36 d37
      have d38 : Disj F30 F35 := d37 _ (Disj.symm d33) o31.sub
      replace o31 := o31.upF (Disj.symm d33) up
      clear up d37
      refine S.q 1 [1, 3] 1 ⟨[(1, .p 0 0), (3, .v (slv ((acc1 ++ [2])).length q34.1))], [GT.cells c ()]⟩ .nil ?_; clear S; intro ac w β S
      refine RG.done rfl ?_
      replace S := S.p [1, 3] 1 ⟨[(1, .p 0 0), (3, .v (slv ((acc1 ++ [2])).length q34.1))], [GT.cells c ()]⟩
      exact ⟨rfl, (acc1 ++ [2]), q34, F35, _, _, _, (by clear S; (first | (rw [if_pos (by assumption)]; simp [*]; done) | (rw [if_neg (by simp [*])]; simp [*]; done) | (rw [ha1]; (repeat' split) <;> first | rfl | (simp; done) | (exfalso; simp_all; done) | (simp_all; done)))), S.cast (by kernel_rfl), o36⟩
    · have h39 : (f_within c.post 0 255) = true := not_f h26
      have g40 := within_t h39
      refine wp_skip ?_
      replace S := S.p [1, 3] 1 ⟨[(1, .p 0 0), (3, .v (slv (acc1).length q5.1))], [GT.cells c ()]⟩
      exact ⟨rfl, acc1, q5, F6, _, _, _, (by clear S; (first | (rw [if_pos (by assumption)]; simp [*]; done) | (rw [if_neg (by simp [*])]; simp [*]; done) | (rw [ha1]; (repeat' split) <;> first | rfl | (simp; done) | (exfalso; simp_all; done) | (simp_all; done)))), S.cast (by kernel_rfl), o7⟩
  clear S o7
  rintro ac w ⟨acc2, q23, F24, u, N, β, ha2, S, o25⟩
  have hl2 : acc2.length ≤ 2 := by rw [ha2]; (repeat' split) <;> simp
  refine id (nx_then (wp_seq (wp_seq (RG.start ?_))))
  refine S.q 4 [1, 3, 22] 1 ⟨[(1, .p 0 0), (3, .v (slv (acc2).length q23.1)), (22, .v (B (c.post != 0)))], [GT.cells c ()]⟩ .nil ?_; clear S; intro ac w β S
  rcases Bool.eq_false_or_eq_true (c.post != 0) with h41 | h41 <;> rw [h41] at S
  · have g42 : ¬ (c.post = 0) := bne_iff_ne.1 h41
    refine S.q 4 [1, 3, 26] 1 ⟨[(1, .p 0 0), (3, .v (slv (acc2).length q23.1)), (26, .v (B (!c.opn)))], [GT.cells c ()]⟩ .nil ?_; clear S; intro ac w β S
    refine RG.done rfl (nx_then ?_)
    refine wp_region_cut (fun ac w => ∃ (acc3 : List Int) (q43 : GT.Ptr (List Int)) (F44 : Bl) (u : World) (N : Bl) (β : Nat → Nat), (acc3 = (if f_within c.traps 0 3 then [] else [1]) ++ (if f_within c.post 0 255 then [] else [2]) ++ (if c.post ≠ 0 ∧ c.opn = false then [3] else [])) ∧ St Try.prog Try.f161.ntmps w0 NoB u N β ⟨[(1, .p 0 0), (3, .v (slv (acc3).length q43.1))], [GT.cells c ()]⟩ ac w ∧ Ow w0 NoB u N F44 acc3 q43) ?_ ?_
    · refine S.c (!c.opn) (fun h46 => ?_) (fun h46 => ?_)
      · have h47 : c.opn = false := not_t h46
        refine RG.start ?_
        refine S.q 1 [1, 27] 1 ⟨[(1, .p 0 0), (27, .v (slv (acc2).length q23.1))], [GT.cells c ()]⟩ .nil ?_; clear S; intro ac w β S
        refine RG.op rfl (S.bs1 (α := Int) (x := 3) (p := ()) (F := NoB) (show In64 3 from ⟨by decide, by decide⟩) (fun b h => False.elim h) (fun b h => False.elim h) (d := 28) (by kernel_rfl) ?_)
        clear S; intro ac w N q48 F49 S up o50 d51
        have d52 : Disj F24 F49 := d51 _ (fun b _ h => False.elim h) o25.sub
        replace o25 := o25.up up
        clear up d51
        refine RG.op rfl (S.appFlat (α := Int) o25 (o50.rn) (fun _ _ h => h) (by' := 8) (d := 29) (lx := (acc2).length) (ly := 1) rfl rfl (by kernel_rfl) (show _ ≤ 4194304 by simp only [List.length_append, List.length_cons, List.length_nil]; omega) ?_)
        clear S; intro ac w N q53 F54 S up o55 d56
        have d57 : Disj F49 F54 := d56 _ (Disj.symm d52) o50.sub
        replace o50 := o50.upF (Disj.symm d52) up
        clear up d56
        refine S.q 1 [1, 3] 1 ⟨[(1, .p 0 0), (3, .v (slv ((acc2 ++ [3])).length q53.1))], [GT.cells c ()]⟩ .nil ?_; clear S; intro ac w β S
        refine RG.done rfl ?_
        replace S := S.p [1, 3] 1 ⟨[(1, .p 0 0), (3, .v (slv ((acc2 ++ [3])).length q53.1))], [GT.cells c ()]⟩
        exact ⟨rfl, (acc2 ++ [3]), q53, F54, _, _, _, (by clear S; (first | (rw [if_pos (by assumption)]; simp [*]; done) | (rw [if_neg (by simp [*])]; simp [*]; done) | (rw [ha2]; (repeat' split) <;> first | rfl | (simp; done) | (exfalso; simp_all; done) | (simp_all; done)))), S.cast (by kernel_rfl), o55⟩
      · have h58 : c.opn = true := not_f h46
        refine wp_skip ?_
        replace S := S.p [1, 3] 1 ⟨[(1, .p 0 0), (3, .v (slv (acc2).length q23.1))], [GT.cells c ()]⟩
        exact ⟨rfl, acc2, q23, F24, _, _, _, (by clear S; (first | (rw [if_pos (by assumption)]; simp [*]; done) | (rw [if_neg (by simp [*])]; simp [*]; done) | (rw [ha2]; (repeat' split) <;> first | rfl | (simp; done) | (exfalso; simp_all; done) | (simp_all; done)))), S.cast (by kernel_rfl), o25⟩
    clear S o25
    rintro ac w ⟨acc3, q43, F44, u, N, β, ha3, S, o45⟩
    have hl3 : acc3.length ≤ 3 := by rw [ha3]; (repeat' split) <;> simp
    refine id (nx_then (wp_seq (wp_seq (RG.start ?_))))
    refine S.q 4 [1, 3, 33] 1 ⟨[(1, .p 0 0), (3, .v (slv (acc3).length q43.1)), (33, .v (B (c.traps == 2)))], [GT.cells c ()]⟩ .nil ?_; clear S; intro ac w β S
    rcases Bool.eq_false_or_eq_true (c.traps == 2) with h59 | h59 <;> rw [h59] at S
    · have g60 : c.traps = 2 := eq_of_beq h59
      refine S.q 4 [3, 37] 0 ⟨[(3, .v (slv (acc3).length q43.1)), (37, .v (B (c.post != 0)))], []⟩ .nil ?_; clear S; intro ac w β S
      refine RG.done rfl (nx_then ?_)
      refine wp_region_cut (fun ac w => ∃ (acc4 : List Int) (q61 : GT.Ptr (List Int)) (F62 : Bl) (u : World) (N : Bl) (β : Nat → Nat), (acc4 = (if f_within c.traps 0 3 then [] else [1]) ++ (if f_within c.post 0 255 then [] else [2]) ++ (if c.post ≠ 0 ∧ c.opn = false then [3] else []) ++ (if c.traps = 2 ∧ c.post ≠ 0 then [4] else [])) ∧ St Try.prog Try.f161.ntmps w0 NoB u N β ⟨[(3, .v (slv (acc4).length q61.1))], []⟩ ac w ∧ Ow w0 NoB u N F62 acc4 q61) ?_ ?_
      · refine S.c (c.post != 0) (fun h64 => ?_) (fun h64 => ?_)
        · have g65 : ¬ (c.post = 0) := bne_iff_ne.1 h64
          refine RG.start ?_
          refine S.q 1 [38] 0 ⟨[(38, .v (slv (acc3).length q43.1))], []⟩ .nil ?_; clear S; intro ac w β S
          refine RG.op rfl (S.bs1 (α := Int) (x := 4) (p := ()) (F := NoB) (show In64 4 from ⟨by decide, by decide⟩) (fun b h => False.elim h) (fun b h => False.elim h) (d := 39) (by kernel_rfl) ?_)
          clear S; intro ac w N q66 F67 S up o68 d69
          have d70 : Disj F44 F67 := d69 _ (fun b _ h => False.elim h) o45.sub
          replace o45 := o45.up up
          clear up d69
          refine RG.op rfl (S.appFlat (α := Int) o45 (o68.rn) (fun _ _ h => h) (by' := 8) (d := 40) (lx := (acc3).length) (ly := 1) rfl rfl (by kernel_rfl) (show _ ≤ 4194304 by simp only [List.length_append, List.length_cons, List.length_nil]; omega) ?_)
          clear S; intro ac w N q71 F72 S up o73 d74
          have d75 : Disj F67 F72 := d74 _ (Disj.symm d70) o68.sub
          replace o68 := o68.upF (Disj.symm d70) up
          clear up d74
          refine S.q 1 [3] 0 ⟨[(3, .v (slv ((acc3 ++ [4])).length q71.1))], []⟩ .nil ?_; clear S; intro ac w β S
          refine RG.done rfl ?_
          replace S := S.p [3] 0 ⟨[(3, .v (slv ((acc3 ++ [4])).length q71.1))], []⟩
          exact ⟨rfl, (acc3 ++ [4]), q71, F72, _, _, _, (by clear S; (first | (rw [if_pos (by assumption)]; simp [*]; done) | (rw [if_neg (by simp [*])]; simp [*]; done) | (rw [ha3]; (repeat' split) <;> first | rfl | (simp; done) | (exfalso; simp_all; done) | (simp_all; done)))), S.cast (by kernel_rfl), o73⟩
        · have g76 : c.post = 0 := ne_f h64
          refine wp_skip ?_
          replace S := S.p [3] 0 ⟨[(3, .v (slv (acc3).length q43.1))], []⟩
          exact ⟨rfl, acc3, q43, F44, _, _, _, (by clear S; (first | (rw [if_pos (by assumption)]; simp [*]; done) | (rw [if_neg (by simp [*])]; simp [*]; done) | (rw [ha3]; (repeat' split) <;> first | rfl | (simp; done) | (exfalso; simp_all; done) | (simp_all; done)))), S.cast (by kernel_rfl), o45⟩
      clear S o45
      rintro ac w ⟨acc4, q61, F62, u, N, β, ha4, S, o63⟩
      have hl4 : acc4.length ≤ 4 := by rw [ha4]; (repeat' split) <;> simp
      refine id (nx_then (wp_seq (RG.start ?_)))
      refine S.q 2 [2] 0 ⟨[(2, .v (slv (acc4).length q61.1))], []⟩ .nil ?_; clear S; intro ac w β S
      refine RG.done rfl (nx_then (wp_ret ?_))
      refine S.r [slv (acc4).length q61.1] ?_
      exact ret1_of S (show f_ctlFaults c = acc4 by clear S; (rw [ha4]; rfl)) rfl o63
    · have g77 : ¬ (c.traps = 2) := ne_of_beq_false h59
      refine S.q 4 [3, 37] 0 ⟨[(3, .v (slv (acc3).length q43.1)), (37, .v (B false))], []⟩ .nil ?_; clear S; intro ac w β S
      refine RG.done rfl (nx_then ?_)
      refine wp_region_cut (fun ac w => ∃ (acc4 : List Int) (q78 : GT.Ptr (List Int)) (F79 : Bl) (u : World) (N : Bl) (β : Nat → Nat), (acc4 = (if f_within c.traps 0 3 then [] else [1]) ++ (if f_within c.post 0 255 then [] else [2]) ++ (if c.post ≠ 0 ∧ c.opn = false then [3] else []) ++ (if c.traps = 2 ∧ c.post ≠ 0 then [4] else [])) ∧ St Try.prog Try.f161.ntmps w0 NoB u N β ⟨[(3, .v (slv (acc4).length q78.1))], []⟩ ac w ∧ Ow w0 NoB u N F79 acc4 q78) ?_ ?_
      · refine S.c false (fun hx => by cases hx) (fun _ => ?_)
        refine wp_skip ?_
        replace S := S.p [3] 0 ⟨[(3, .v (slv (acc3).length q43.1))], []⟩
        exact ⟨rfl, acc3, q43, F44, _, _, _, (by clear S; (first | (rw [if_pos (by assumption)]; simp [*]; done) | (rw [if_neg (by simp [*])]; simp [*]; done) | (rw [ha3]; (repeat' split) <;> first | rfl | (simp; done) | (exfalso; simp_all; done) | (simp_all; done)))), S.cast (by kernel_rfl), o45⟩
      clear S o45
      rintro ac w ⟨acc4, q78, F79, u, N, β, ha4, S, o80⟩
      have hl4 : acc4.length ≤ 4 := by rw [ha4]; (repeat' split) <;> simp
      refine id (nx_then (wp_seq (RG.start ?_)))
      refine S.q 2 [2] 0 ⟨[(2, .v (slv (acc4).length q78.1))], []⟩ .nil ?_; clear S; intro ac w β S
      refine RG.done rfl (nx_then (wp_ret ?_))
      refine S.r [slv (acc4).length q78.1] ?_
      exact ret1_of S (show f_ctlFaults c = acc4 by clear S; (rw [ha4]; rfl)) rfl o80
  · have g81 : c.post = 0 := ne_f h41
    refine S.q 4 [1, 3, 26] 1 ⟨[(1, .p 0 0), (3, .v (slv (acc2).length q23.1)), (26, .v (B false))], [GT.cells c ()]⟩ .nil ?_; clear S; intro ac w β S
    refine RG.done rfl (nx_then ?_)
    refine wp_region_cut (fun ac w => ∃ (acc3 : List Int) (q82 : GT.Ptr (List Int)) (F83 : Bl) (u : World) (N : Bl) (β : Nat → Nat), (acc3 = (if f_within c.traps 0 3 then [] else [1]) ++ (if f_within c.post 0 255 then [] else [2]) ++ (if c.post ≠ 0 ∧ c.opn = false then [3] else [])) ∧ St Try.prog Try.f161.ntmps w0 NoB u N β ⟨[(1, .p 0 0), (3, .v (slv (acc3).length q82.1))], [GT.cells c ()]⟩ ac w ∧ Ow w0 NoB u N F83 acc3 q82) ?_ ?_
    · refine S.c false (fun hx => by cases hx) (fun _ => ?_)
      refine wp_skip ?_
      replace S := S.p [1, 3] 1 ⟨[(1, .p 0 0), (3, .v (slv (acc2).length q23.1))], [GT.cells c ()]⟩
      exact ⟨rfl, acc2, q23, F24, _, _, _, (by clear S; (first | (rw [if_pos (by assumption)]; simp [*]; done) | (rw [if_neg (by simp [*])]; simp [*]; done) | (rw [ha2]; (repeat' split) <;> first | rfl | (simp; done) | (exfalso; simp_all; done) | (simp_all; done)))), S.cast (by kernel_rfl), o25⟩
    clear S o25
    rintro ac w ⟨acc3, q82, F83, u, N, β, ha3, S, o84⟩
    have hl3 : acc3.length ≤ 3 := by rw [ha3]; (repeat' split) <;> simp
    refine id (nx_then (wp_seq (wp_seq (RG.start ?_))))
    refine S.q 4 [1, 3, 33] 1 ⟨[(1, .p 0 0), (3, .v (slv (acc3).length q82.1)), (33, .v (B (c.traps == 2)))], [GT.cells c ()]⟩ .nil ?_; clear S; intro ac w β S
    rcases Bool.eq_false_or_eq_true (c.traps == 2) with h85 | h85 <;> rw [h85] at S
    · have g86 : c.traps = 2 := eq_of_beq h85
      refine S.q 4 [3, 37] 0 ⟨[(3, .v (slv (acc3).length q82.1)), (37, .v (B (c.post != 0)))], []⟩ .nil ?_; clear S; intro ac w β S
      refine RG.done rfl (nx_then ?_)
      refine wp_region_cut (fun ac w => ∃ (acc4 : List Int) (q87 : GT.Ptr (List Int)) (F88 : Bl) (u : World) (N : Bl) (β : Nat → Nat), (acc4 = (if f_within c.traps 0 3 then [] else [1]) ++ (if f_within c.post 0 255 then [] else [2]) ++ (if c.post ≠ 0 ∧ c.opn = false then [3] else []) ++ (if c.traps = 2 ∧ c.post ≠ 0 then [4] else [])) ∧ St Try.prog Try.f161.ntmps w0 NoB u N β ⟨[(3, .v (slv (acc4).length q87.1))], []⟩ ac w ∧ Ow w0 NoB u N F88 acc4 q87) ?_ ?_
      · refine S.c (c.post != 0) (fun h90 => ?_) (fun h90 => ?_)
        · have g91 : ¬ (c.post = 0) := bne_iff_ne.1 h90
          refine RG.start ?_
          refine S.q 1 [38] 0 ⟨[(38, .v (slv (acc3).length q82.1))], []⟩ .nil ?_; clear S; intro ac w β S
          refine RG.op rfl (S.bs1 (α := Int) (x := 4) (p := ()) (F := NoB) (show In64 4 from ⟨by decide, by decide⟩) (fun b h => False.elim h) (fun b h => False.elim h) (d := 39) (by kernel_rfl) ?_)
          clear S; intro ac w N q92 F93 S up o94 d95
          have d96 : Disj F83 F93 := d95 _ (fun b _ h => False.elim h) o84.sub
          replace o84 := o84.up up
          clear up d95
          refine RG.op rfl (S.appFlat (α := Int) o84 (o94.rn) (fun _ _ h => h) (by' := 8) (d := 40) (lx := (acc3).length) (ly := 1) rfl rfl (by kernel_rfl) (show _ ≤ 4194304 by simp only [List.length_append, List.length_cons, List.length_nil]; omega) ?_)
          clear S; intro ac w N q97 F98 S up o99 d100
          have d101 : Disj F93 F98 := d100 _ (Disj.symm d96) o94.sub
          replace o94 := o94.upF (Disj.symm d96) up
          clear up d100
          refine S.q 1 [3] 0 ⟨[(3, .v (slv ((acc3 ++ [4])).length q97.1))], []⟩ .nil ?_; clear S; intro ac w β S
          refine RG.done rfl ?_
          replace S := S.p [3] 0 ⟨[(3, .v (slv ((acc3 ++ [4])).length q97.1))], []⟩
          exact ⟨rfl, (acc3 ++ [4]), q97, F98, _, _, _, (by clear S; (first | (rw [if_pos (by assumption)]; simp [*]; done) | (rw [if_neg (by simp [*])]; simp [*]; done) | (rw [ha3]; (repeat' split) <;> first | rfl | (simp; done) | (exfalso; simp_all; done) | (simp_all; done)))), S.cast (by kernel_rfl), o99⟩
        · have g102 : c.post = 0 := ne_f h90
          refine wp_skip ?_
          replace S := S.p [3] 0 ⟨[(3, .v (slv (acc3).length q82.1))], []⟩
          exact ⟨rfl, acc3, q82, F83, _, _, _, (by clear S; (first | (rw [if_pos (by assumption)]; simp [*]; done) | (rw [if_neg (by simp [*])]; simp [*]; done) | (rw [ha3]; (repeat' split) <;> first | rfl | (simp; done) | (exfalso; simp_all; done) | (simp_all; done)))), S.cast (by kernel_rfl), o84⟩
      clear S o84
      rintro ac w ⟨acc4, q87, F88, u, N, β, ha4, S, o89⟩
      have hl4 : acc4.length ≤ 4 := by rw [ha4]; (repeat' split) <;> simp
      refine id (nx_then (wp_seq (RG.start ?_)))
      refine S.q 2 [2] 0 ⟨[(2, .v (slv (acc4).length q87.1))], []⟩ .nil ?_; clear S; intro ac w β S
      refine RG.done rfl (nx_then (wp_ret ?_))
      refine S.r [slv (acc4).length q87.1] ?_
      exact ret1_of S (show f_ctlFaults c = acc4 by clear S; (rw [ha4]; rfl)) rfl o89
    · have g103 : ¬ (c.traps = 2) := ne_of_beq_false h85
      refine S.q 4 [3, 37] 0 ⟨[(3, .v (slv (acc3).length q82.1)), (37, .v (B false))], []⟩ .nil ?_; clear S; intro ac w β S
      refine RG.done rfl (nx_then ?_)
      refine wp_region_cut (fun ac w => ∃ (acc4 : List Int) (q104 : GT.Ptr (List Int)) (F105 : Bl) (u : World) (N : Bl) (β : Nat → Nat), (acc4 = (if f_within c.traps 0 3 then [] else [1]) ++ (if f_within c.post 0 255 then [] else [2]) ++ (if c.post ≠ 0 ∧ c.opn = false then [3] else []) ++ (if c.traps = 2 ∧ c.post ≠ 0 then [4] else [])) ∧ St Try.prog Try.f161.ntmps w0 NoB u N β ⟨[(3, .v (slv (acc4).length q104.1))], []⟩ ac w ∧ Ow w0 NoB u N F105 acc4 q104) ?_ ?_
      · refine S.c false (fun hx => by cases hx) (fun _ => ?_)
        refine wp_skip ?_
        replace S := S.p [3] 0 ⟨[(3, .v (slv (acc3).length q82.1))], []⟩
        exact ⟨rfl, acc3, q82, F83, _, _, _, (by clear S; (first | (rw [if_pos (by assumption)]; simp [*]; done) | (rw [if_neg (by simp [*])]; simp [*]; done) | (rw [ha3]; (repeat' split) <;> first | rfl | (simp; done) | (exfalso; simp_all; done) | (simp_all; done)))), S.cast (by kernel_rfl), o84⟩
      clear S o84
      rintro ac w ⟨acc4, q104, F105, u, N, β, ha4, S, o106⟩
      have hl4 : acc4.length ≤ 4 := by rw [ha4]; (repeat' split) <;> simp
      refine id (nx_then (wp_seq (RG.start ?_)))
      refine S.q 2 [2] 0 ⟨[(2, .v (slv (acc4).length q104.1))], []⟩ .nil ?_; clear S; intro ac w β S
      refine RG.done rfl (nx_then (wp_ret ?_))
      refine S.r [slv (acc4).length q104.1] ?_
      exact ret1_of S (show f_ctlFaults c = acc4 by clear S; (rw [ha4]; rfl)) rfl o106

set_option maxRecDepth 100000 in
theorem c_impl_CtlOk (w0 : World) (c : TCtl) : Calls Try.prog 136 [GT.val c ()].toArray w0 (fun e w' => e = .returned (B (f_ctlOk c)) ∧ Chg NoB w0 w') := by
  refine Calls.walk (args := [GT.val c ()]) NoB Try.func136 rfl rfl ?_
  intro ac β S
  refine wp_seq (RG.start ?_)
  refine S.q 2 [1] 1 ⟨[(1, .p 0 0)], [GT.cells c ()]⟩ .nil ?_; clear S; intro ac w β S
  refine RG.done rfl (nx_then (wp_seq (RG.start ?_)))
  refine S.q 1 [3] 0 ⟨[(3, .v (GT.val c ()))], []⟩ .nil ?_; clear S; intro ac w β S
  refine RG.op rfl (S.call1 (r := f_ctlFaults c) (d := 4) (c_impl_CtlFaults w c) (by kernel_rfl) rfl ?_)
  clear S; intro ac w N q1 F2 S up o3 d4
  clear up d4
  refine S.q 3 [2] 0 ⟨[(2, .v (B ((((f_ctlFaults c)).length : Int) == 0)))], []⟩ .nil ?_; clear S; intro ac w β S
  refine RG.done rfl (nx_then (wp_ret ?_))
  refine S.r [B ((((f_ctlFaults c)).length : Int) == 0)] ?_
  exact ⟨retB (by clear S; first | rfl | (simp [f_ctlOk, *]; done) | (simp [f_ctlOk, *]; omega) | (simp_all [f_ctlOk]; done) | (simp_all [f_ctlOk]; omega)), S.chg⟩

set_option maxRecDepth 100000 in
theorem c_impl_ExitOk (w0 : World) (x : TExit) : Calls Try.prog 137 [GT.val x ()].toArray w0 (fun e w' => e = .returned (B (f_exitOk x)) ∧ Chg NoB w0 w') := by
  refine Calls.walk (args := [GT.val x ()]) NoB Try.func137 rfl rfl ?_
  intro ac β S
  refine wp_seq (RG.start ?_)
  refine S.q 2 [1] 1 ⟨[(1, .p 0 0)], [GT.cells x ()]⟩ .nil ?_; clear S; intro ac w β S
  refine RG.done rfl (nx_then (wp_seq (wp_seq (RG.start ?_))))
  refine S.q 2 [1, 4] 1 ⟨[(1, .p 0 0), (4, .v (I x.kind))], [GT.cells x ()]⟩ .nil ?_; clear S; intro ac w β S
  refine RG.done rfl (nx_then (wp_block (wp_seq (wp_seq (RG.start ?_)))))
  refine S.q 2 [1, 4, 5] 1 ⟨[(1, .p 0 0), (4, .v (I x.kind)), (5, .v (B (x.kind == 0)))], [GT.cells x ()]⟩ .nil ?_; clear S; intro ac w β S
  refine RG.done rfl (nx_then ?_)
  refine S.c (x.kind == 0) (fun h1 => ?_) (fun h1 => ?_)
  · rw [h1] at S
    have g2 : x.kind = 0 := eq_of_beq h1
    refine wp_skip (nx_then ?_)
    refine S.c true (fun _ => ?_) (fun hx => by cases hx)
    refine wp_seq (RG.start ?_)
    refine S.q 4 [1, 11] 1 ⟨[(1, .p 0 0), (11, .v (B (x.page == 0)))], [GT.cells x ()]⟩ .nil ?_; clear S; intro ac w β S
    rcases Bool.eq_false_or_eq_true (x.page == 0) with h3 | h3 <;> rw [h3] at S
    · have g4 : x.page = 0 := eq_of_beq h3
      refine S.q 5 [1, 16] 1 ⟨[(1, .p 0 0), (16, .v (B (!x.wr)))], [GT.cells x ()]⟩ .nil ?_; clear S; intro ac w β S
      rcases Bool.eq_false_or_eq_true (!x.wr) with h5 | h5 <;> rw [h5] at S
      · have h6 : x.wr = false := not_t h5
        refine S.q 5 [2] 0 ⟨[(2, .v (B (x.n == 0)))], []⟩ .nil ?_; clear S; intro ac w β S
        refine RG.done rfl (nx_then (wp_ret (rt_block (rt_then ?_))))
        refine S.r [B (x.n == 0)] ?_
        exact ⟨retB (by clear S; (unfold f_exitOk; (repeat' split) <;> first | rfl | (exfalso; simp_all; done) | (exfalso; omega) | (rw [Bool.eq_iff_iff]; simp [TExit.ext_iff, *]; done) | (rw [Bool.eq_iff_iff]; simp_all [TExit.ext_iff, and_assoc]; done) | (rw [Bool.eq_iff_iff]; simp_all [TExit.ext_iff, and_assoc]; omega))), S.chg⟩
      · have h7 : x.wr = true := not_f h5
        refine S.q 5 [2] 0 ⟨[(2, .v (B false))], []⟩ .nil ?_; clear S; intro ac w β S
        refine RG.done rfl (nx_then (wp_ret (rt_block (rt_then ?_))))
        refine S.r [B false] ?_
        exact ⟨retB (by clear S; (unfold f_exitOk; (repeat' split) <;> first | rfl | (exfalso; simp_all; done) | (exfalso; omega) | (rw [Bool.eq_iff_iff]; simp [TExit.ext_iff, *]; done) | (rw [Bool.eq_iff_iff]; simp_all [TExit.ext_iff, and_assoc]; done) | (rw [Bool.eq_iff_iff]; simp_all [TExit.ext_iff, and_assoc]; omega))), S.chg⟩
    · have g8 : ¬ (x.page = 0) := ne_of_beq_false h3
      refine S.q 10 [2] 0 ⟨[(2, .v (B false))], []⟩ .nil ?_; clear S; intro ac w β S
      refine RG.done rfl (nx_then (wp_ret (rt_block (rt_then ?_))))
      refine S.r [B false] ?_
      exact ⟨retB (by clear S; (unfold f_exitOk; (repeat' split) <;> first | rfl | (exfalso; simp_all; done) | (exfalso; omega) | (rw [Bool.eq_iff_iff]; simp [TExit.ext_iff, *]; done) | (rw [Bool.eq_iff_iff]; simp_all [TExit.ext_iff, and_assoc]; done) | (rw [Bool.eq_iff_iff]; simp_all [TExit.ext_iff, and_assoc]; omega))), S.chg⟩
  · have g9 : ¬ (x.kind = 0) := ne_of_beq_false h1
    refine RG.start ?_
    refine S.q 2 [1, 4, 5] 1 ⟨[(1, .p 0 0), (4, .v (I x.kind)), (5, .v (B (x.kind == 4)))], [GT.cells x ()]⟩ .nil ?_; clear S; intro ac w β S
    refine RG.done rfl (nx_then ?_)
    refine S.c (x.kind == 4) (fun h10 => ?_) (fun h10 => ?_)
    · have g11 : x.kind = 4 := eq_of_beq h10
      refine wp_seq (RG.start ?_)
      refine S.q 4 [1, 11] 1 ⟨[(1, .p 0 0), (11, .v (B (x.page == 0)))], [GT.cells x ()]⟩ .nil ?_; clear S; intro ac w β S
      rcases Bool.eq_false_or_eq_true (x.page == 0) with h12 | h12 <;> rw [h12] at S
      · have g13 : x.page = 0 := eq_of_beq h12
        refine S.q 5 [1, 16] 1 ⟨[(1, .p 0 0), (16, .v (B (!x.wr)))], [GT.cells x ()]⟩ .nil ?_; clear S; intro ac w β S
        rcases Bool.eq_false_or_eq_true (!x.wr) with h14 | h14 <;> rw [h14] at S
        · have h15 : x.wr = false := not_t h14
          refine S.q 5 [2] 0 ⟨[(2, .v (B (x.n == 0)))], []⟩ .nil ?_; clear S; intro ac w β S
          refine RG.done rfl (nx_then (wp_ret (rt_block (rt_then ?_))))
          refine S.r [B (x.n == 0)] ?_
          exact ⟨retB (by clear S; (unfold f_exitOk; (repeat' split) <;> first | rfl | (exfalso; simp_all; done) | (exfalso; omega) | (rw [Bool.eq_iff_iff]; simp [TExit.ext_iff, *]; done) | (rw [Bool.eq_iff_iff]; simp_all [TExit.ext_iff, and_assoc]; done) | (rw [Bool.eq_iff_iff]; simp_all [TExit.ext_iff, and_assoc]; omega))), S.chg⟩
        · have h16 : x.wr = true := not_f h14
          refine S.q 5 [2] 0 ⟨[(2, .v (B false))], []⟩ .nil ?_; clear S; intro ac w β S
          refine RG.done rfl (nx_then (wp_ret (rt_block (rt_then ?_))))
          refine S.r [B false] ?_
          exact ⟨retB (by clear S; (unfold f_exitOk; (repeat' split) <;> first | rfl | (exfalso; simp_all; done) | (exfalso; omega) | (rw [Bool.eq_iff_iff]; simp [TExit.ext_iff, *]; done) | (rw [Bool.eq_iff_iff]; simp_all [TExit.ext_iff, and_assoc]; done) | (rw [Bool.eq_iff_iff]; simp_all [TExit.ext_iff, and_assoc]; omega))), S.chg⟩
      · have g17 : ¬ (x.page = 0) := ne_of_beq_false h12
        refine S.q 10 [2] 0 ⟨[(2, .v (B false))], []⟩ .nil ?_; clear S; intro ac w β S
        refine RG.done rfl (nx_then (wp_ret (rt_block (rt_then ?_))))
        refine S.r [B false] ?_
        exact ⟨retB (by clear S; (unfold f_exitOk; (repeat' split) <;> first | rfl | (exfalso; simp_all; done) | (exfalso; omega) | (rw [Bool.eq_iff_iff]; simp [TExit.ext_iff, *]; done) | (rw [Bool.eq_iff_iff]; simp_all [TExit.ext_iff, and_assoc]; done) | (rw [Bool.eq_iff_iff]; simp_all [TExit.ext_iff, and_assoc]; omega))), S.chg⟩
    · have g18 : ¬ (x.kind = 4) := ne_of_beq_false h10
      refine wp_seq (RG.start ?_)
      refine S.q 2 [1, 4, 21] 1 ⟨[(1, .p 0 0), (4, .v (I x.kind)), (21, .v (B (x.kind == 1)))], [GT.cells x ()]⟩ .nil ?_; clear S; intro ac w β S
      refine RG.done rfl (nx_then ?_)
      refine S.c (x.kind == 1) (fun h19 => ?_) (fun h19 => ?_)
      · have g20 : x.kind = 1 := eq_of_beq h19
        refine wp_seq (RG.start ?_)
        refine S.q 4 [1, 26] 1 ⟨[(1, .p 0 0), (26, .v (B (f_within x.page 0 3)))], [GT.cells x ()]⟩ (.cons (Q_call fun w hw => c_impl_within w x.page 0 3) .nil) ?_; clear S; intro ac w β S
        rcases Bool.eq_false_or_eq_true (f_within x.page 0 3) with h21 | h21 <;> rw [h21] at S
        · have g22 := within_t h21
          refine S.q 5 [2] 0 ⟨[(2, .v (B (x.n == 0)))], []⟩ .nil ?_; clear S; intro ac w β S
          refine RG.done rfl (nx_then (wp_ret (rt_block (rt_then ?_))))
          refine S.r [B (x.n == 0)] ?_
          exact ⟨retB (by clear S; (unfold f_exitOk; (repeat' split) <;> first | rfl | (exfalso; simp_all; done) | (exfalso; omega) | (rw [Bool.eq_iff_iff]; simp [TExit.ext_iff, *]; done) | (rw [Bool.eq_iff_iff]; simp_all [TExit.ext_iff, and_assoc]; done) | (rw [Bool.eq_iff_iff]; simp_all [TExit.ext_iff, and_assoc]; omega))), S.chg⟩
        · have g23 := within_f h21
          refine S.q 5 [2] 0 ⟨[(2, .v (B false))], []⟩ .nil ?_; clear S; intro ac w β S
          refine RG.done rfl (nx_then (wp_ret (rt_block (rt_then ?_))))
          refine S.r [B false] ?_
          exact ⟨retB (by clear S; (unfold f_exitOk; (repeat' split) <;> first | rfl | (exfalso; simp_all; done) | (exfalso; omega) | (rw [Bool.eq_iff_iff]; simp [TExit.ext_iff, *]; done) | (rw [Bool.eq_iff_iff]; simp_all [TExit.ext_iff, and_assoc]; done) | (rw [Bool.eq_iff_iff]; simp_all [TExit.ext_iff, and_assoc]; omega))), S.chg⟩
      · have g24 : ¬ (x.kind = 1) := ne_of_beq_false h19
        refine wp_seq (wp_seq (RG.start ?_))
        refine S.q 2 [1, 4, 31] 1 ⟨[(1, .p 0 0), (4, .v (I x.kind)), (31, .v (B (x.kind == 2)))], [GT.cells x ()]⟩ .nil ?_; clear S; intro ac w β S
        refine RG.done rfl (nx_then ?_)
        refine S.c (x.kind == 2) (fun h25 => ?_) (fun h25 => ?_)
        · rw [h25] at S
          have g26 : x.kind = 2 := eq_of_beq h25
          refine wp_skip (nx_then ?_)
          refine S.c true (fun _ => ?_) (fun hx => by cases hx)
          refine wp_seq (RG.start ?_)
          refine S.q 4 [1, 37] 1 ⟨[(1, .p 0 0), (37, .v (B (f_within x.n 0 99)))], [GT.cells x ()]⟩ (.cons (Q_call fun w hw => c_impl_within w x.n 0 99) .nil) ?_; clear S; intro ac w β S
          rcases Bool.eq_false_or_eq_true (f_within x.n 0 99) with h27 | h27 <;> rw [h27] at S
          · have g28 := within_t h27
            refine S.q 5 [1, 42] 1 ⟨[(1, .p 0 0), (42, .v (B (x.page == 0)))], [GT.cells x ()]⟩ .nil ?_; clear S; intro ac w β S
            rcases Bool.eq_false_or_eq_true (x.page == 0) with h29 | h29 <;> rw [h29] at S
            · have g30 : x.page = 0 := eq_of_beq h29
              refine S.q 5 [2] 0 ⟨[(2, .v (B (!x.wr)))], []⟩ .nil ?_; clear S; intro ac w β S
              refine RG.done rfl (nx_then (wp_ret (rt_block (rt_then ?_))))
              refine S.r [B (!x.wr)] ?_
              exact ⟨retB (by clear S; (unfold f_exitOk; (repeat' split) <;> first | rfl | (exfalso; simp_all; done) | (exfalso; omega) | (rw [Bool.eq_iff_iff]; simp [TExit.ext_iff, *]; done) | (rw [Bool.eq_iff_iff]; simp_all [TExit.ext_iff, and_assoc]; done) | (rw [Bool.eq_iff_iff]; simp_all [TExit.ext_iff, and_assoc]; omega))), S.chg⟩
            · have g31 : ¬ (x.page = 0) := ne_of_beq_false h29
              refine S.q 5 [2] 0 ⟨[(2, .v (B false))], []⟩ .nil ?_; clear S; intro ac w β S
              refine RG.done rfl (nx_then (wp_ret (rt_block (rt_then ?_))))
              refine S.r [B false] ?_
              exact ⟨retB (by clear S; (unfold f_exitOk; (repeat' split) <;> first | rfl | (exfalso; simp_all; done) | (exfalso; omega) | (rw [Bool.eq_iff_iff]; simp [TExit.ext_iff, *]; done) | (rw [Bool.eq_iff_iff]; simp_all [TExit.ext_iff, and_assoc]; done) | (rw [Bool.eq_iff_iff]; simp_all [TExit.ext_iff, and_assoc]; omega))), S.chg⟩
          · have g32 := within_f h27
            refine S.q 10 [2] 0 ⟨[(2, .v (B false))], []⟩ .nil ?_; clear S; intro ac w β S
            refine RG.done rfl (nx_then (wp_ret (rt_block (rt_then ?_))))
            refine S.r [B false] ?_
            exact ⟨retB (by clear S; (unfold f_exitOk; (repeat' split) <;> first | rfl | (exfalso; simp_all; done) | (exfalso; omega) | (rw [Bool.eq_iff_iff]; simp [TExit.ext_iff, *]; done) | (rw [Bool.eq_iff_iff]; simp_all [TExit.ext_iff, and_assoc]; done) | (rw [Bool.eq_iff_iff]; simp_all [TExit.ext_iff, and_assoc]; omega))), S.chg⟩
        · have g33 : ¬ (x.kind = 2) := ne_of_beq_false h25
          refine RG.start ?_
          refine S.q 2 [1, 31] 1 ⟨[(1, .p 0 0), (31, .v (B (x.kind == 3)))], [GT.cells x ()]⟩ .nil ?_; clear S; intro ac w β S
          refine RG.done rfl (nx_then ?_)
          refine S.c (x.kind == 3) (fun h34 => ?_) (fun h34 => ?_)
          · have g35 : x.kind = 3 := eq_of_beq h34
            refine wp_seq (RG.start ?_)
            refine S.q 4 [1, 37] 1 ⟨[(1, .p 0 0), (37, .v (B (f_within x.n 0 99)))], [GT.cells x ()]⟩ (.cons (Q_call fun w hw => c_impl_within w x.n 0 99) .nil) ?_; clear S; intro ac w β S
            rcases Bool.eq_false_or_eq_true (f_within x.n 0 99) with h36 | h36 <;> rw [h36] at S
            · have g37 := within_t h36
              refine S.q 5 [1, 42] 1 ⟨[(1, .p 0 0), (42, .v (B (x.page == 0)))], [GT.cells x ()]⟩ .nil ?_; clear S; intro ac w β S
              rcases Bool.eq_false_or_eq_true (x.page == 0) with h38 | h38 <;> rw [h38] at S
              · have g39 : x.page = 0 := eq_of_beq h38
                refine S.q 5 [2] 0 ⟨[(2, .v (B (!x.wr)))], []⟩ .nil ?_; clear S; intro ac w β S
                refine RG.done rfl (nx_then (wp_ret (rt_block (rt_then ?_))))
                refine S.r [B (!x.wr)] ?_
                exact ⟨retB (by clear S; (unfold f_exitOk; (repeat' split) <;> first | rfl | (exfalso; simp_all; done) | (exfalso; omega) | (rw [Bool.eq_iff_iff]; simp [TExit.ext_iff, *]; done) | (rw [Bool.eq_iff_iff]; simp_all [TExit.ext_iff, and_assoc]; done) | (rw [Bool.eq_iff_iff]; simp_all [TExit.ext_iff, and_assoc]; omega))), S.chg⟩
              · have g40 : ¬ (x.page = 0) := ne_of_beq_false h38
                refine S.q 5 [2] 0 ⟨[(2, .v (B false))], []⟩ .nil ?_; clear S; intro ac w β S
                refine RG.done rfl (nx_then (wp_ret (rt_block (rt_then ?_))))
                refine S.r [B false] ?_
                exact ⟨retB (by clear S; (unfold f_exitOk; (repeat' split) <;> first | rfl | (exfalso; simp_all; done) | (exfalso; omega) | (rw [Bool.eq_iff_iff]; simp [TExit.ext_iff, *]; done) | (rw [Bool.eq_iff_iff]; simp_all [TExit.ext_iff, and_assoc]; done) | (rw [Bool.eq_iff_iff]; simp_all [TExit.ext_iff, and_assoc]; omega))), S.chg⟩
            · have g41 := within_f h36
              refine S.q 10 [2] 0 ⟨[(2, .v (B false))], []⟩ .nil ?_; clear S; intro ac w β S
              refine RG.done rfl (nx_then (wp_ret (rt_block (rt_then ?_))))
              refine S.r [B false] ?_
              exact ⟨retB (by clear S; (unfold f_exitOk; (repeat' split) <;> first | rfl | (exfalso; simp_all; done) | (exfalso; omega) | (rw [Bool.eq_iff_iff]; simp [TExit.ext_iff, *]; done) | (rw [Bool.eq_iff_iff]; simp_all [TExit.ext_iff, and_assoc]; done) | (rw [Bool.eq_iff_iff]; simp_all [TExit.ext_iff, and_assoc]; omega))), S.chg⟩
          · have g42 : ¬ (x.kind = 3) := ne_of_beq_false h34
            refine wp_skip (nx_block (nx_then (wp_seq (RG.start ?_))))
            refine S.q 1 [2] 0 ⟨[(2, .v (B false))], []⟩ .nil ?_; clear S; intro ac w β S
            refine RG.done rfl (nx_then (wp_ret ?_))
            refine S.r [B false] ?_
            exact ⟨retB (by clear S; (unfold f_exitOk; (repeat' split) <;> first | rfl | (exfalso; simp_all; done) | (exfalso; omega) | (rw [Bool.eq_iff_iff]; simp [TExit.ext_iff, *]; done) | (rw [Bool.eq_iff_iff]; simp_all [TExit.ext_iff, and_assoc]; done) | (rw [Bool.eq_iff_iff]; simp_all [TExit.ext_iff, and_assoc]; omega))), S.chg⟩

set_option maxRecDepth 100000 in
theorem c_impl_GuestOk (w0 : World) (g : TGuest) (pg : PGuest) (hg : GT.rd KK (Lt w0.heap.size) w0 g pg) : Calls Try.prog 102 [GT.val g pg].toArray w0 (fun e w' => e = .returned (B (f_guestOk g)) ∧ Chg NoB w0 w') := by
  refine Calls.walk (args := [GT.val g pg]) NoB Try.func102 rfl rfl ?_
  intro ac β S
  have hleg_prog : g.prog.length ≤ 4194304 := LRd.le (RGuest.prog (d := g) hg)
  have hleg_written : g.written.length ≤ 4194304 := LRd.le (RGuest.written (d := g) hg)
  have hleg_live : g.live.length ≤ 4194304 := LRd.le (RGuest.live (d := g) hg)
  have hleg_seen : g.seen.length ≤ 4194304 := LRd.le (RGuest.seen (d := g) hg)
  refine wp_seq (RG.start ?_)
  refine S.q 2 [1] 1 ⟨[(1, .p 0 0)], [GT.cells g pg]⟩ .nil ?_; clear S; intro ac w β S
  refine RG.done rfl (nx_then (wp_seq (RG.start ?_)))
  refine S.q 4 [1, 6] 1 ⟨[(1, .p 0 0), (6, .v (B (f_progOk g.prog)))], [GT.cells g pg]⟩ (.cons (Q_call fun w hw => c_impl_ProgOk w g.prog pg.prog (rd_of (RGuest.prog (d := g) (S.arg hg)) hw)) .nil) ?_; clear S; intro ac w β S
  rcases Bool.eq_false_or_eq_true (f_progOk g.prog) with h1 | h1 <;> rw [h1] at S
  · refine S.q 5 [1, 11] 1 ⟨[(1, .p 0 0), (11, .v (B (f_within g.acc 0 99)))], [GT.cells g pg]⟩ (.cons (Q_call fun w hw => c_impl_within w g.acc 0 99) .nil) ?_; clear S; intro ac w β S
    rcases Bool.eq_false_or_eq_true (f_within g.acc 0 99) with h2 | h2 <;> rw [h2] at S
    · have g3 := within_t h2
      refine S.q 5 [1, 16] 1 ⟨[(1, .p 0 0), (16, .v (B (f_within g.pc 0 12)))], [GT.cells g pg]⟩ (.cons (Q_call fun w hw => c_impl_within w g.pc 0 12) .nil) ?_; clear S; intro ac w β S
      rcases Bool.eq_false_or_eq_true (f_within g.pc 0 12) with h4 | h4 <;> rw [h4] at S
      · have g5 := within_t h4
        refine S.q 5 [1, 21] 1 ⟨[(1, .p 0 0), (21, .v (B (f_tableOk g.written 4 8)))], [GT.cells g pg]⟩ (.cons (Q_call fun w hw => c_impl_TableOk w g.written pg.written (rd_of (RGuest.written (d := g) (S.arg hg)) hw) 4 8 (by omega) (by omega)) .nil) ?_; clear S; intro ac w β S
        rcases Bool.eq_false_or_eq_true (f_tableOk g.written 4 8) with h6 | h6 <;> rw [h6] at S
        · have g7 := tableOk_t h6
          refine S.q 5 [1, 26] 1 ⟨[(1, .p 0 0), (26, .v (B (f_tableOk g.live 4 8)))], [GT.cells g pg]⟩ (.cons (Q_call fun w hw => c_impl_TableOk w g.live pg.live (rd_of (RGuest.live (d := g) (S.arg hg)) hw) 4 8 (by omega) (by omega)) .nil) ?_; clear S; intro ac w β S
          rcases Bool.eq_false_or_eq_true (f_tableOk g.live 4 8) with h8 | h8 <;> rw [h8] at S
          · have g9 := tableOk_t h8
            refine S.q 5 [1, 31] 1 ⟨[(1, .p 0 0), (31, .v (B (f_ctlOk g.ctl)))], [GT.cells g pg]⟩ (.cons (Q_call fun w hw => c_impl_CtlOk w g.ctl) .nil) ?_; clear S; intro ac w β S
            rcases Bool.eq_false_or_eq_true (f_ctlOk g.ctl) with h10 | h10 <;> rw [h10] at S
            · refine S.q 5 [1, 36] 1 ⟨[(1, .p 0 0), (36, .v (B (f_within g.pend 0 255)))], [GT.cells g pg]⟩ (.cons (Q_call fun w hw => c_impl_PendOk w g.pend) .nil) ?_; clear S; intro ac w β S
              rcases Bool.eq_false_or_eq_true (f_within g.pend 0 255) with h11 | h11 <;> rw [h11] at S
              · have g12 := within_t h11
                refine S.q 5 [1, 41] 1 ⟨[(1, .p 0 0), (41, .v (B (f_exitOk g.exit)))], [GT.cells g pg]⟩ (.cons (Q_call fun w hw => c_impl_ExitOk w g.exit) .nil) ?_; clear S; intro ac w β S
                rcases Bool.eq_false_or_eq_true (f_exitOk g.exit) with h13 | h13 <;> rw [h13] at S
                · refine S.q 6 [2] 0 ⟨[(2, .v (B (decide (((g.seen).length : Int) ≤ 40))))], []⟩ .nil ?_; clear S; intro ac w β S
                  refine RG.done rfl (nx_then (wp_ret ?_))
                  refine S.r [B (decide (((g.seen).length : Int) ≤ 40))] ?_
                  exact ⟨retB (by clear S; first | rfl | (simp [f_guestOk, *]; done) | (simp [f_guestOk, *]; omega) | (simp_all [f_guestOk]; done) | (simp_all [f_guestOk]; omega)), S.chg⟩
                · refine S.q 6 [2] 0 ⟨[(2, .v (B false))], []⟩ .nil ?_; clear S; intro ac w β S
                  refine RG.done rfl (nx_then (wp_ret ?_))
                  refine S.r [B false] ?_
                  exact ⟨retB (by clear S; first | rfl | (simp [f_guestOk, *]; done) | (simp [f_guestOk, *]; omega) | (simp_all [f_guestOk]; done) | (simp_all [f_guestOk]; omega)), S.chg⟩
              · have g14 := within_f h11
                refine S.q 11 [2] 0 ⟨[(2, .v (B false))], []⟩ .nil ?_; clear S; intro ac w β S
                refine RG.done rfl (nx_then (wp_ret ?_))
                refine S.r [B false] ?_
                exact ⟨retB (by clear S; first | rfl | (simp [f_guestOk, *]; done) | (simp [f_guestOk, *]; omega) | (simp_all [f_guestOk]; done) | (simp_all [f_guestOk]; omega)), S.chg⟩
            · refine S.q 16 [2] 0 ⟨[(2, .v (B false))], []⟩ .nil ?_; clear S; intro ac w β S
              refine RG.done rfl (nx_then (wp_ret ?_))
              refine S.r [B false] ?_
              exact ⟨retB (by clear S; first | rfl | (simp [f_guestOk, *]; done) | (simp [f_guestOk, *]; omega) | (simp_all [f_guestOk]; done) | (simp_all [f_guestOk]; omega)), S.chg⟩
          · refine S.q 21 [2] 0 ⟨[(2, .v (B false))], []⟩ .nil ?_; clear S; intro ac w β S
            refine RG.done rfl (nx_then (wp_ret ?_))
            refine S.r [B false] ?_
            exact ⟨retB (by clear S; first | rfl | (simp [f_guestOk, *]; done) | (simp [f_guestOk, *]; omega) | (simp_all [f_guestOk]; done) | (simp_all [f_guestOk]; omega)), S.chg⟩
        · refine S.q 26 [2] 0 ⟨[(2, .v (B false))], []⟩ .nil ?_; clear S; intro ac w β S
          refine RG.done rfl (nx_then (wp_ret ?_))
          refine S.r [B false] ?_
          exact ⟨retB (by clear S; first | rfl | (simp [f_guestOk, *]; done) | (simp [f_guestOk, *]; omega) | (simp_all [f_guestOk]; done) | (simp_all [f_guestOk]; omega)), S.chg⟩
      · have g15 := within_f h4
        refine S.q 31 [2] 0 ⟨[(2, .v (B false))], []⟩ .nil ?_; clear S; intro ac w β S
        refine RG.done rfl (nx_then (wp_ret ?_))
        refine S.r [B false] ?_
        exact ⟨retB (by clear S; first | rfl | (simp [f_guestOk, *]; done) | (simp [f_guestOk, *]; omega) | (simp_all [f_guestOk]; done) | (simp_all [f_guestOk]; omega)), S.chg⟩
    · have g16 := within_f h2
      refine S.q 36 [2] 0 ⟨[(2, .v (B false))], []⟩ .nil ?_; clear S; intro ac w β S
      refine RG.done rfl (nx_then (wp_ret ?_))
      refine S.r [B false] ?_
      exact ⟨retB (by clear S; first | rfl | (simp [f_guestOk, *]; done) | (simp [f_guestOk, *]; omega) | (simp_all [f_guestOk]; done) | (simp_all [f_guestOk]; omega)), S.chg⟩
  · refine S.q 41 [2] 0 ⟨[(2, .v (B false))], []⟩ .nil ?_; clear S; intro ac w β S
    refine RG.done rfl (nx_then (wp_ret ?_))
    refine S.r [B false] ?_
    exact ⟨retB (by clear S; first | rfl | (simp [f_guestOk, *]; done) | (simp [f_guestOk, *]; omega) | (simp_all [f_guestOk]; done) | (simp_all [f_guestOk]; omega)), S.chg⟩

set_option maxRecDepth 100000 in
theorem c_impl_PageOk (w0 : World) (cells : List Int) (pcells : LP Int) (hcells : GT.rd KK (Lt w0.heap.size) w0 cells pcells) : Calls Try.prog 99 [slv (cells).length pcells.1].toArray w0 (fun e w' => e = .returned (B (f_pageOk cells)) ∧ Chg NoB w0 w') := by
  refine Calls.walk (args := [slv (cells).length pcells.1]) NoB Try.func99 rfl rfl ?_
  intro ac β S
  have hlecells : cells.length ≤ 4194304 := LRd.le hcells
  refine wp_seq (RG.start ?_)
  refine S.q 1 [0] 0 ⟨[(0, .v (slv (cells).length pcells.1))], []⟩ .nil ?_; clear S; intro ac w β S
  refine RG.done rfl (nx_then (wp_seq (wp_seq (RG.start ?_))))
  refine S.q 3 [0, 5, 6, 7] 0 ⟨[(0, .v (slv (cells).length pcells.1)), (5, .v (slv (cells).length pcells.1)), (6, .v (I ((cells).length : Int))), (7, .v (I 0))], []⟩ .nil ?_; clear S; intro ac w β S
  refine RG.done rfl (nx_then (wp_block ?_))
  replace S := S.p [0, 5, 6, 7] 0 ⟨[(0, .v (slv (cells).length pcells.1)), (5, .v (slv (cells).length pcells.1)), (6, .v (I ((cells).length : Int))), (7, .v (I 0))], []⟩
  refine wp_loop_down (fun mm ac w => ∃ (k : Nat)  (u : World) (N : Bl) (β : Nat → Nat), mm = (cells).length - k ∧ (k ≤ (cells).length) ∧ (((cells).take k).all (fun v => f_within v 0 99) = true) ∧ St Try.prog Try.f99.ntmps w0 NoB u N β ⟨[(0, .v (slv (cells).length pcells.1)), (5, .v (slv (cells).length pcells.1)), (6, .v (I ((cells).length : Int))), (7, .v (I (k : Int)))], []⟩ ac w) _ ⟨0, _, _, _, rfl, (by first | omega | (simp; done) | (simp; omega)), (by simp), S.cast (by kernel_rfl)⟩ ?_
  clear S
  rintro mm ac w ⟨k, u, N, β, rfl, hk, he, S⟩
  refine wp_seq (RG.start ?_)
  refine S.q 1 [0, 5, 6, 7, 8] 0 ⟨[(0, .v (slv (cells).length pcells.1)), (5, .v (slv (cells).length pcells.1)), (6, .v (I ((cells).length : Int))), (7, .v (I (k : Int))), (8, .v (B (decide ((k : Int) < ((cells).length : Int)))))], []⟩ .nil ?_; clear S; intro ac w β S
  refine RG.done rfl (nx_then (wp_seq ?_))
  refine S.c (decide ((k : Int) < ((cells).length : Int))) (fun h1 => ?_) (fun h1 => ?_)
  · have g2 : (k : Int) < ((cells).length : Int) := of_decide_eq_true h1
    refine wp_skip (nx_then (wp_seq (wp_block (wp_seq (RG.start ?_)))))
    refine S.q 3 [0, 4, 5, 6, 7] 0 ⟨[(0, .v (slv (cells).length pcells.1)), (4, .v (I (el cells k))), (5, .v (slv (cells).length pcells.1)), (6, .v (I ((cells).length : Int))), (7, .v (I (k : Int)))], []⟩ (.cons (Q_idx (S.arg hcells) (l := (cells).length) (k := k) (i := (k : Int)) rfl rfl (by omega) Try.underlying24 (by kernel_rfl)) (.cons (Q_el1 (S.arg hcells) (t := 3) (k := k) (by omega) rfl (by kernel_rfl)) .nil)) ?_; clear S; intro ac w β S
    refine RG.done rfl (nx_then (wp_seq (RG.start ?_)))
    refine S.q 3 [0, 5, 6, 7, 13] 0 ⟨[(0, .v (slv (cells).length pcells.1)), (5, .v (slv (cells).length pcells.1)), (6, .v (I ((cells).length : Int))), (7, .v (I (k : Int))), (13, .v (B (!(f_within (el cells k) 0 99))))], []⟩ (.cons (Q_call fun w hw => c_impl_within w (el cells k) 0 99) .nil) ?_; clear S; intro ac w β S
    refine RG.done rfl (nx_then ?_)
    refine S.c (!(f_within (el cells k) 0 99)) (fun h3 => ?_) (fun h3 => ?_)
    · have h4 : (f_within (el cells k) 0 99) = false := not_t h3
      have g5 := within_f h4
      refine wp_seq (RG.start ?_)
      refine S.q 1 [2] 0 ⟨[(2, .v (B false))], []⟩ .nil ?_; clear S; intro ac w β S
      refine RG.done rfl (nx_then (wp_ret (rt_block (rt_then (rt_then (rt_block (rt_then ?_)))))))
      refine S.r [B false] ?_
      exact ⟨retB (by clear S; (first | rfl | (unfold f_pageOk; rw [all_end (by omega) he]; simp; done) | (unfold f_pageOk; rw [all_bad (k := k) (by omega) (by first | assumption | (simp_all <;> fail))]; simp; done) | (unfold f_pageOk; rw [all_end (by omega) he]; simp [*]; done) | (unfold f_pageOk; rw [all_end (by omega) he]; simp; omega))), S.chg⟩
    · have h6 : (f_within (el cells k) 0 99) = true := not_f h3
      have g7 := within_t h6
      refine wp_skip (nx_block (nx_then (RG.start ?_)))
      refine S.q 2 [0, 5, 6, 7] 0 ⟨[(0, .v (slv (cells).length pcells.1)), (5, .v (slv (cells).length pcells.1)), (6, .v (I ((cells).length : Int))), (7, .v (I ((k : Int) + 1)))], []⟩ (.cons (Q_add (x := (k : Int)) (y := 1) ⟨by omega, by omega⟩) .nil) ?_; clear S; intro ac w β S
      refine RG.done rfl (nx_then ?_)
      replace S := S.p [0, 5, 6, 7] 0 ⟨[(0, .v (slv (cells).length pcells.1)), (5, .v (slv (cells).length pcells.1)), (6, .v (I ((cells).length : Int))), (7, .v (I ((k : Int) + 1)))], []⟩
      refine ⟨(cells).length - (k + 1), by omega, k + 1, _, _, _, rfl, ?_, ?_, S.cast (by kernel_rfl)⟩
      · clear S; first | omega | (simp [*]; done) | (simp [*]; omega)
      · clear S; exact all_step (by omega) he (by first | assumption | (simp only [f_slotOk, f_within] at *; simp_all; done) | (simp_all; done) | (simp_all; omega))
  · have g8 : ¬ ((k : Int) < ((cells).length : Int)) := of_decide_eq_false h1
    refine wp_exit (ex_then (ex_then (ex_hit (nx_then (wp_seq (RG.start ?_))))))
    refine S.q 4 [2] 0 ⟨[(2, .v (B (((cells).length : Int) == 4)))], []⟩ .nil ?_; clear S; intro ac w β S
    refine RG.done rfl (nx_then (wp_ret ?_))
    refine S.r [B (((cells).length : Int) == 4)] ?_
    exact ⟨retB (by clear S; (first | rfl | (unfold f_pageOk; rw [all_end (by omega) he]; simp; done) | (unfold f_pageOk; rw [all_bad (k := k) (by omega) (by first | assumption | (simp_all <;> fail))]; simp; done) | (unfold f_pageOk; rw [all_end (by omega) he]; simp [*]; done) | (unfold f_pageOk; rw [all_end (by omega) he]; simp; omega))), S.chg⟩

set_option maxRecDepth 100000 in
theorem c_impl_MemOk (w0 : World) (m : List (List Int)) (pm : LP (List Int)) (hm : GT.rd KK (Lt w0.heap.size) w0 m pm) (pages : Int) : Calls Try.prog 49 [slv (m).length pm.1, I pages].toArray w0 (fun e w' => e = .returned (B (f_memOk m pages)) ∧ Chg NoB w0 w') := by
  refine Calls.walk (args := [slv (m).length pm.1, I pages]) NoB Try.func49 rfl rfl ?_
  intro ac β S
  have hlem : m.length ≤ 4194304 := LRd.le hm
  refine wp_seq (RG.start ?_)
  refine S.q 1 [0, 1] 0 ⟨[(0, .v (slv (m).length pm.1)), (1, .v (I pages))], []⟩ .nil ?_; clear S; intro ac w β S
  refine RG.done rfl (nx_then (wp_seq (wp_seq (RG.start ?_))))
  refine S.q 3 [0, 1, 7, 8, 9] 0 ⟨[(0, .v (slv (m).length pm.1)), (1, .v (I pages)), (7, .v (slv (m).length pm.1)), (8, .v (I ((m).length : Int))), (9, .v (I 0))], []⟩ .nil ?_; clear S; intro ac w β S
  refine RG.done rfl (nx_then (wp_block ?_))
  replace S := S.p [0, 1, 7, 8, 9] 0 ⟨[(0, .v (slv (m).length pm.1)), (1, .v (I pages)), (7, .v (slv (m).length pm.1)), (8, .v (I ((m).length : Int))), (9, .v (I 0))], []⟩
  refine wp_loop_down (fun mm ac w => ∃ (k : Nat)  (u : World) (N : Bl) (β : Nat → Nat), mm = (m).length - k ∧ (k ≤ (m).length) ∧ (((m).take k).all f_pageOk = true) ∧ St Try.prog Try.f49.ntmps w0 NoB u N β ⟨[(0, .v (slv (m).length pm.1)), (1, .v (I pages)), (7, .v (slv (m).length pm.1)), (8, .v (I ((m).length : Int))), (9, .v (I (k : Int)))], []⟩ ac w) _ ⟨0, _, _, _, rfl, (by first | omega | (simp; done) | (simp; omega)), (by simp), S.cast (by kernel_rfl)⟩ ?_
  clear S
  rintro mm ac w ⟨k, u, N, β, rfl, hk, he, S⟩
  refine wp_seq (RG.start ?_)
  refine S.q 1 [0, 1, 7, 8, 9, 10] 0 ⟨[(0, .v (slv (m).length pm.1)), (1, .v (I pages)), (7, .v (slv (m).length pm.1)), (8, .v (I ((m).length : Int))), (9, .v (I (k : Int))), (10, .v (B (decide ((k : Int) < ((m).length : Int)))))], []⟩ .nil ?_; clear S; intro ac w β S
  refine RG.done rfl (nx_then (wp_seq ?_))
  refine S.c (decide ((k : Int) < ((m).length : Int))) (fun h1 => ?_) (fun h1 => ?_)
  · have g2 : (k : Int) < ((m).length : Int) := of_decide_eq_true h1
    refine wp_skip (nx_then (wp_seq (wp_block (wp_seq (RG.start ?_)))))
    refine S.q 3 [0, 1, 6, 7, 8, 9] 0 ⟨[(0, .v (slv (m).length pm.1)), (1, .v (I pages)), (6, .v (slv ((el m k)).length (pm.2 k).1)), (7, .v (slv (m).length pm.1)), (8, .v (I ((m).length : Int))), (9, .v (I (k : Int)))], []⟩ (.cons (Q_idx (S.arg hm) (l := (m).length) (k := k) (i := (k : Int)) rfl rfl (by omega) Try.underlying31 (by kernel_rfl)) (.cons (Q_el1 (S.arg hm) (t := 24) (k := k) (by omega) rfl (by kernel_rfl)) .nil)) ?_; clear S; intro ac w β S
    refine RG.done rfl (nx_then (wp_seq (RG.start ?_)))
    refine S.q 3 [0, 1, 7, 8, 9, 15] 0 ⟨[(0, .v (slv (m).length pm.1)), (1, .v (I pages)), (7, .v (slv (m).length pm.1)), (8, .v (I ((m).length : Int))), (9, .v (I (k : Int))), (15, .v (B (!(f_pageOk (el m k)))))], []⟩ (.cons (Q_call fun w hw => c_impl_PageOk w (el m k) (pm.2 k) (rd_of (LRd.el (S.arg hm) k (by omega)) hw)) .nil) ?_; clear S; intro ac w β S
    refine RG.done rfl (nx_then ?_)
    refine S.c (!(f_pageOk (el m k))) (fun h3 => ?_) (fun h3 => ?_)
    · have h4 : (f_pageOk (el m k)) = false := not_t h3
      refine wp_seq (RG.start ?_)
      refine S.q 1 [4] 0 ⟨[(4, .v (B false))], []⟩ .nil ?_; clear S; intro ac w β S
      refine RG.done rfl (nx_then (wp_ret (rt_block (rt_then (rt_then (rt_block (rt_then ?_)))))))
      refine S.r [B false] ?_
      exact ⟨retB (by clear S; (first | rfl | (unfold f_memOk; rw [all_end (by omega) he]; simp; done) | (unfold f_memOk; rw [all_bad (k := k) (by omega) (by first | assumption | (simp_all <;> fail))]; simp; done) | (unfold f_memOk; rw [all_end (by omega) he]; simp [*]; done) | (unfold f_memOk; rw [all_end (by omega) he]; simp; omega))), S.chg⟩
    · have h5 : (f_pageOk (el m k)) = true := not_f h3
      refine wp_skip (nx_block (nx_then (RG.start ?_)))
      refine S.q 2 [0, 1, 7, 8, 9] 0 ⟨[(0, .v (slv (m).length pm.1)), (1, .v (I pages)), (7, .v (slv (m).length pm.1)), (8, .v (I ((m).length : Int))), (9, .v (I ((k : Int) + 1)))], []⟩ (.cons (Q_add (x := (k : Int)) (y := 1) ⟨by omega, by omega⟩) .nil) ?_; clear S; intro ac w β S
      refine RG.done rfl (nx_then ?_)
      replace S := S.p [0, 1, 7, 8, 9] 0 ⟨[(0, .v (slv (m).length pm.1)), (1, .v (I pages)), (7, .v (slv (m).length pm.1)), (8, .v (I ((m).length : Int))), (9, .v (I ((k : Int) + 1)))], []⟩
      refine ⟨(m).length - (k + 1), by omega, k + 1, _, _, _, rfl, ?_, ?_, S.cast (by kernel_rfl)⟩
      · clear S; first | omega | (simp [*]; done) | (simp [*]; omega)
      · clear S; exact all_step (by omega) he (by first | assumption | (simp only [f_slotOk, f_within] at *; simp_all; done) | (simp_all; done) | (simp_all; omega))
  · have g6 : ¬ ((k : Int) < ((m).length : Int)) := of_decide_eq_false h1
    refine wp_exit (ex_then (ex_then (ex_hit (nx_then (wp_seq (RG.start ?_))))))
    refine S.q 5 [4] 0 ⟨[(4, .v (B (((m).length : Int) == pages)))], []⟩ .nil ?_; clear S; intro ac w β S
    refine RG.done rfl (nx_then (wp_ret ?_))
    refine S.r [B (((m).length : Int) == pages)] ?_
    exact ⟨retB (by clear S; (first | rfl | (unfold f_memOk; rw [all_end (by omega) he]; simp; done) | (unfold f_memOk; rw [all_bad (k := k) (by omega) (by first | assumption | (simp_all <;> fail))]; simp; done) | (unfold f_memOk; rw [all_end (by omega) he]; simp [*]; done) | (unfold f_memOk; rw [all_end (by omega) he]; simp; omega))), S.chg⟩

set_option maxRecDepth 100000 in
theorem c_impl_BareOk (w0 : World) (b : TBare) (pb : PBare) (hb : GT.rd KK (Lt w0.heap.size) w0 b pb) : Calls Try.prog 83 [GT.val b pb].toArray w0 (fun e w' => e = .returned (B (f_bareOk b)) ∧ Chg NoB w0 w') := by
  refine Calls.walk (args := [GT.val b pb]) NoB Try.func83 rfl rfl ?_
  intro ac β S
  have hleb_mem : b.mem.length ≤ 4194304 := LRd.le (RBare.mem (d := b) hb)
  have hleb_guests : b.guests.length ≤ 4194304 := LRd.le (RBare.guests (d := b) hb)
  have hleb_outs : b.outs.length ≤ 4194304 := LRd.le (RBare.outs (d := b) hb)
  refine wp_seq (RG.start ?_)
  refine S.q 2 [1] 1 ⟨[(1, .p 0 0)], [GT.cells b pb]⟩ .nil ?_; clear S; intro ac w β S
  refine RG.done rfl (nx_then (wp_seq (wp_seq (RG.start ?_))))
  refine S.q 4 [1, 6, 7, 8] 1 ⟨[(1, .p 0 0), (6, .v (slv (b.guests).length pb.guests.1)), (7, .v (I ((b.guests).length : Int))), (8, .v (I 0))], [GT.cells b pb]⟩ .nil ?_; clear S; intro ac w β S
  refine RG.done rfl (nx_then (wp_block ?_))
  replace S := S.p [1, 6, 7, 8] 1 ⟨[(1, .p 0 0), (6, .v (slv (b.guests).length pb.guests.1)), (7, .v (I ((b.guests).length : Int))), (8, .v (I 0))], [GT.cells b pb]⟩
  refine wp_loop_down (fun mm ac w => ∃ (k : Nat)  (u : World) (N : Bl) (β : Nat → Nat), mm = b.guests.length - k ∧ (k ≤ b.guests.length) ∧ ((b.guests.take k).all f_guestOk = true) ∧ St Try.prog Try.f83.ntmps w0 NoB u N β ⟨[(1, .p 0 0), (6, .v (slv (b.guests).length pb.guests.1)), (7, .v (I ((b.guests).length : Int))), (8, .v (I (k : Int)))], [GT.cells b pb]⟩ ac w) _ ⟨0, _, _, _, rfl, (by first | omega | (simp; done) | (simp; omega)), (by simp), S.cast (by kernel_rfl)⟩ ?_
  clear S
  rintro mm ac w ⟨k, u, N, β, rfl, hk, he, S⟩
  refine wp_seq (RG.start ?_)
  refine S.q 1 [1, 6, 7, 8, 9] 1 ⟨[(1, .p 0 0), (6, .v (slv (b.guests).length pb.guests.1)), (7, .v (I ((b.guests).length : Int))), (8, .v (I (k : Int))), (9, .v (B (decide ((k : Int) < ((b.guests).length : Int)))))], [GT.cells b pb]⟩ .nil ?_; clear S; intro ac w β S
  refine RG.done rfl (nx_then (wp_seq ?_))
  refine S.c (decide ((k : Int) < ((b.guests).length : Int))) (fun h1 => ?_) (fun h1 => ?_)
  · have g2 : (k : Int) < ((b.guests).length : Int) := of_decide_eq_true h1
    refine wp_skip (nx_then (wp_seq (wp_block (wp_seq (RG.start ?_)))))
    refine S.q 4 [1, 4, 6, 7, 8] 2 ⟨[(1, .p 0 0), (4, .p 1 0), (6, .v (slv (b.guests).length pb.guests.1)), (7, .v (I ((b.guests).length : Int))), (8, .v (I (k : Int)))], [GT.cells b pb, GT.cells (el b.guests k) (pb.guests.2 k)]⟩ (.cons (Q_idx (RBare.guests (d := b) (S.arg hb)) (l := (b.guests).length) (k := k) (i := (k : Int)) rfl rfl (by omega) Try.underlying39 (by kernel_rfl)) (.cons (Q_el (RBare.guests (d := b) (S.arg hb)) (t := 117) (k := k) (by omega) rfl (by kernel_rfl) (by kernel_rfl)) .nil)) ?_; clear S; intro ac w β S
    refine RG.done rfl (nx_then (wp_seq (RG.start ?_)))
    refine S.q 3 [1, 6, 7, 8, 14] 1 ⟨[(1, .p 0 0), (6, .v (slv (b.guests).length pb.guests.1)), (7, .v (I ((b.guests).length : Int))), (8, .v (I (k : Int))), (14, .v (B (!(f_guestOk (el b.guests k)))))], [GT.cells b pb]⟩ (.cons (Q_call fun w hw => c_impl_GuestOk w (el b.guests k) (pb.guests.2 k) (rd_of (LRd.el (RBare.guests (d := b) (S.arg hb)) k (by omega)) hw)) .nil) ?_; clear S; intro ac w β S
    refine RG.done rfl (nx_then ?_)
    refine S.c (!(f_guestOk (el b.guests k))) (fun h3 => ?_) (fun h3 => ?_)
    · have h4 : (f_guestOk (el b.guests k)) = false := not_t h3
      refine wp_seq (RG.start ?_)
      refine S.q 1 [2] 0 ⟨[(2, .v (B false))], []⟩ .nil ?_; clear S; intro ac w β S
      refine RG.done rfl (nx_then (wp_ret (rt_block (rt_then (rt_then (rt_block (rt_then ?_)))))))
      refine S.r [B false] ?_
      exact ⟨retB (by clear S; (symm; rw [← Bool.not_eq_true]; intro hc; simp only [f_bareOk, Bool.and_eq_true, decide_eq_true_eq, beq_iff_eq] at hc; first | omega | (simp_all; done) | (simp_all; omega) | (have hx := all_el (k := k) hc.1.1.1.1 (by omega); simp_all; done))), S.chg⟩
    · have h5 : (f_guestOk (el b.guests k)) = true := not_f h3
      refine wp_skip (nx_block (nx_then (RG.start ?_)))
      refine S.q 2 [1, 6, 7, 8] 1 ⟨[(1, .p 0 0), (6, .v (slv (b.guests).length pb.guests.1)), (7, .v (I ((b.guests).length : Int))), (8, .v (I ((k : Int) + 1)))], [GT.cells b pb]⟩ (.cons (Q_add (x := (k : Int)) (y := 1) ⟨by omega, by omega⟩) .nil) ?_; clear S; intro ac w β S
      refine RG.done rfl (nx_then ?_)
      replace S := S.p [1, 6, 7, 8] 1 ⟨[(1, .p 0 0), (6, .v (slv (b.guests).length pb.guests.1)), (7, .v (I ((b.guests).length : Int))), (8, .v (I ((k : Int) + 1)))], [GT.cells b pb]⟩
      refine ⟨b.guests.length - (k + 1), by omega, k + 1, _, _, _, rfl, ?_, ?_, S.cast (by kernel_rfl)⟩
      · clear S; first | omega | (simp [*]; done) | (simp [*]; omega)
      · clear S; exact all_step (by omega) he (by first | assumption | simp_all)
  · have g6 : ¬ ((k : Int) < ((b.guests).length : Int)) := of_decide_eq_false h1
    refine wp_exit (ex_then (ex_then (ex_hit (nx_then (wp_seq (RG.start ?_))))))
    refine S.q 4 [1, 19] 1 ⟨[(1, .p 0 0), (19, .v (B (f_memOk b.mem 8)))], [GT.cells b pb]⟩ (.cons (Q_call fun w hw => c_impl_MemOk w b.mem pb.mem (rd_of (RBare.mem (d := b) (S.arg hb)) hw) 8) .nil) ?_; clear S; intro ac w β S
    rcases Bool.eq_false_or_eq_true (f_memOk b.mem 8) with h7 | h7 <;> rw [h7] at S
    · refine S.q 6 [1, 25] 1 ⟨[(1, .p 0 0), (25, .v (B (f_within ((b.guests).length : Int) 1 2)))], [GT.cells b pb]⟩ (.cons (Q_call fun w hw => c_impl_within w ((b.guests).length : Int) 1 2) .nil) ?_; clear S; intro ac w β S
      rcases Bool.eq_false_or_eq_true (f_within ((b.guests).length : Int) 1 2) with h8 | h8 <;> rw [h8] at S
      · have g9 := within_t h8
        refine S.q 6 [1, 31] 1 ⟨[(1, .p 0 0), (31, .v (B (decide (((b.outs).length : Int) ≤ 40))))], [GT.cells b pb]⟩ .nil ?_; clear S; intro ac w β S
        rcases Bool.eq_false_or_eq_true (decide (((b.outs).length : Int) ≤ 40)) with h10 | h10 <;> rw [h10] at S
        · have g11 : ((b.outs).length : Int) ≤ 40 := of_decide_eq_true h10
          refine S.q 5 [2] 0 ⟨[(2, .v (B (f_within b.pend 0 255)))], []⟩ (.cons (Q_call fun w hw => c_impl_PendOk w b.pend) .nil) ?_; clear S; intro ac w β S
          refine RG.done rfl (nx_then (wp_ret ?_))
          refine S.r [B (f_within b.pend 0 255)] ?_
          exact ⟨retB (by clear S; (first | rfl | (symm; rw [← Bool.not_eq_true]; intro hc; simp only [f_bareOk, Bool.and_eq_true, decide_eq_true_eq, beq_iff_eq] at hc; first | omega | (simp_all; done) | (simp_all; omega) | (have hx := all_el (k := k) hc.1.1.1.1 (by omega); simp_all; done)) | (symm; simp only [f_bareOk, Bool.and_eq_true, decide_eq_true_eq, beq_iff_eq]; (repeat' apply And.intro); all_goals first | assumption | omega | (simp_all; done) | (simp_all; omega) | (exact all_end (by omega) he)) | (rw [Bool.eq_iff_iff]; simp only [f_bareOk, Bool.and_eq_true, decide_eq_true_eq, beq_iff_eq]; refine ⟨fun hr => ?_, fun hc => ?_⟩ <;> ((repeat' apply And.intro); all_goals first | assumption | omega | (simp_all; done) | (simp_all; omega) | (exact all_end (by omega) he))))), S.chg⟩
        · have g12 : ¬ (((b.outs).length : Int) ≤ 40) := of_decide_eq_false h10
          refine S.q 5 [2] 0 ⟨[(2, .v (B false))], []⟩ .nil ?_; clear S; intro ac w β S
          refine RG.done rfl (nx_then (wp_ret ?_))
          refine S.r [B false] ?_
          exact ⟨retB (by clear S; (symm; rw [← Bool.not_eq_true]; intro hc; simp only [f_bareOk, Bool.and_eq_true, decide_eq_true_eq, beq_iff_eq] at hc; first | omega | (simp_all; done) | (simp_all; omega) | (have hx := all_el (k := k) hc.1.1.1.1 (by omega); simp_all; done))), S.chg⟩
      · have g13 := within_f h8
        refine S.q 11 [2] 0 ⟨[(2, .v (B false))], []⟩ .nil ?_; clear S; intro ac w β S
        refine RG.done rfl (nx_then (wp_ret ?_))
        refine S.r [B false] ?_
        exact ⟨retB (by clear S; (symm; rw [← Bool.not_eq_true]; intro hc; simp only [f_bareOk, Bool.and_eq_true, decide_eq_true_eq, beq_iff_eq] at hc; first | omega | (simp_all; done) | (simp_all; omega) | (have hx := all_el (k := k) hc.1.1.1.1 (by omega); simp_all; done))), S.chg⟩
    · refine S.q 17 [2] 0 ⟨[(2, .v (B false))], []⟩ .nil ?_; clear S; intro ac w β S
      refine RG.done rfl (nx_then (wp_ret ?_))
      refine S.r [B false] ?_
      exact ⟨retB (by clear S; (symm; rw [← Bool.not_eq_true]; intro hc; simp only [f_bareOk, Bool.and_eq_true, decide_eq_true_eq, beq_iff_eq] at hc; first | omega | (simp_all; done) | (simp_all; omega) | (have hx := all_el (k := k) hc.1.1.1.1 (by omega); simp_all; done))), S.chg⟩

set_option maxRecDepth 100000 in
theorem c_impl_BareAck (w0 : World) (b : TBare) (pb : PBare) (hb : GT.rd KK (Lt w0.heap.size) w0 b pb) : Calls Try.prog 44 [GT.val b pb].toArray w0 (Ret3 NoB w0 ((f_bareAck b).1 : TBare) ((f_bareAck b).2.1 : Int) ((f_bareAck b).2.2 : Bool)) := by
  refine Calls.walk (args := [GT.val b pb]) NoB Try.func44 rfl rfl ?_
  intro ac β S
  have hleb_mem : b.mem.length ≤ 4194304 := LRd.le (RBare.mem (d := b) hb)
  have hleb_guests : b.guests.length ≤ 4194304 := LRd.le (RBare.guests (d := b) hb)
  have hleb_outs : b.outs.length ≤ 4194304 := LRd.le (RBare.outs (d := b) hb)
  refine wp_seq (RG.start ?_)
  refine S.q 4 [1, 2] 2 ⟨[(1, .p 0 0), (2, .p 1 0)], [GT.cells b pb, Zc TBare]⟩ .nil ?_; clear S; intro ac w β S
  refine RG.done rfl (nx_then (wp_seq (RG.start ?_)))
  refine S.q 1 [1, 2, 9] 2 ⟨[(1, .p 0 0), (2, .p 1 0), (9, .v (GT.val b pb))], [GT.cells b pb, Zc TBare]⟩ .nil ?_; clear S; intro ac w β S
  refine RG.op rfl (S.call1 (r := b) (d := 10) (c_impl_copyBare w b pb (S.rd (S.arg hb))) (by kernel_rfl) rfl ?_)
  clear S; intro ac w N q1 F2 S up o3 d4
  clear up d4
  have i14 : In64 b.pend := RBare.pend (d := b) o3.rn
  obtain ⟨F5, F8, F11, o6, o9, o12, s7, s10, s13, d15, d16, d17⟩ := sp_Bare o3
  refine S.q 2 [1, 2, 5] 3 ⟨[(1, .p 0 0), (2, .p 1 0), (5, .p 2 0)], [GT.cells b pb, Zc TBare, [slv (b.mem).length q1.mem.1, slv (b.guests).length q1.guests.1, slv (b.outs).length q1.outs.1, I b.pend]]⟩ .nil ?_; clear S; intro ac w β S
  refine RG.done rfl (nx_then (wp_seq (RG.start ?_)))
  refine S.q 10 [1, 2, 5, 6, 7, 8] 3 ⟨[(1, .p 0 0), (2, .p 1 0), (5, .p 2 0), (6, .v (I ((f_takeIrq b.pend).1))), (7, .v (I ((f_takeIrq b.pend).2.1))), (8, .v (B ((f_takeIrq b.pend).2.2)))], [GT.cells b pb, Zc TBare, [slv (b.mem).length q1.mem.1, slv (b.guests).length q1.guests.1, slv (b.outs).length q1.outs.1, I b.pend]]⟩ (.cons (Q_call fun w hw => c_impl_TakeIrq w b.pend (RBare.pend (d := b) (S.arg hb))) .nil) ?_; clear S; intro ac w β S
  refine RG.done rfl (nx_then (wp_seq (wp_seq (RG.start ?_))))
  refine S.q 4 [2, 5, 6, 7, 8, 21] 3 ⟨[(2, .p 1 0), (5, .p 2 0), (6, .v (I ((f_takeIrq b.pend).1))), (7, .v (I ((f_takeIrq b.pend).2.1))), (8, .v (B ((f_takeIrq b.pend).2.2))), (21, .v (B (!(f_bareOk b))))], [GT.cells b pb, Zc TBare, [slv (b.mem).length q1.mem.1, slv (b.guests).length q1.guests.1, slv (b.outs).length q1.outs.1, I b.pend]]⟩ (.cons (Q_call fun w hw => c_impl_BareOk w b pb (rd_of (S.arg hb) hw)) .nil) ?_; clear S; intro ac w β S
  rcases Bool.eq_false_or_eq_true (!(f_bareOk b)) with h18 | h18 <;> rw [h18] at S
  · have h19 : (f_bareOk b) = false := not_t h18
    refine S.q 3 [2, 5, 6, 7, 24] 3 ⟨[(2, .p 1 0), (5, .p 2 0), (6, .v (I ((f_takeIrq b.pend).1))), (7, .v (I ((f_takeIrq b.pend).2.1))), (24, .v (B true))], [GT.cells b pb, Zc TBare, [slv (b.mem).length q1.mem.1, slv (b.guests).length q1.guests.1, slv (b.outs).length q1.outs.1, I b.pend]]⟩ .nil ?_; clear S; intro ac w β S
    refine RG.done rfl (nx_then ?_)
    refine S.c true (fun _ => ?_) (fun hx => by cases hx)
    refine wp_seq (RG.start ?_)
    refine S.q 4 [2, 3, 4] 2 ⟨[(2, .p 1 0), (3, .v (I (-1))), (4, .v (B false))], [GT.cells b pb, [slv (b.mem).length q1.mem.1, slv (b.guests).length q1.guests.1, slv (b.outs).length q1.outs.1, I b.pend]]⟩ .nil ?_; clear S; intro ac w β S
    refine RG.done rfl (nx_then (wp_ret (rt_then ?_)))
    refine S.r [GT.val b q1, I (-1), B false] ?_
    have o20 := ow_Bare (x := b) (p := q1) o6 o9 o12 d15 d16 d17 i14
    exact ret3_of (p' := ()) (p'' := ()) S (show (f_bareAck b).1 = b by clear S; (first | (rw [bareAck_ok (by assumption)]; done) | (unfold f_bareAck; (repeat' split) <;> first | rfl | (exfalso; omega) | (exfalso; simp_all; done) | (exfalso; simp_all; omega) | (simp_all; done)))) (show (f_bareAck b).2.1 = (-1) by clear S; (first | (rw [bareAck_ok (by assumption)]; done) | (unfold f_bareAck; (repeat' split) <;> first | rfl | (exfalso; omega) | (exfalso; simp_all; done) | (exfalso; simp_all; omega) | (simp_all; done)))) (show (f_bareAck b).2.2 = false by clear S; (first | (rw [bareAck_ok (by assumption)]; done) | (unfold f_bareAck; (repeat' split) <;> first | rfl | (exfalso; omega) | (exfalso; simp_all; done) | (exfalso; simp_all; omega) | (simp_all; done)))) rfl rfl rfl o20 (show In64 (-1) from ⟨by decide, by decide⟩) trivial
  · have h21 : (f_bareOk b) = true := not_f h18
    have g22 := bareOk_t h21
    refine S.q 3 [2, 5, 6, 7, 24] 3 ⟨[(2, .p 1 0), (5, .p 2 0), (6, .v (I ((f_takeIrq b.pend).1))), (7, .v (I ((f_takeIrq b.pend).2.1))), (24, .v (B (!((f_takeIrq b.pend).2.2))))], [GT.cells b pb, Zc TBare, [slv (b.mem).length q1.mem.1, slv (b.guests).length q1.guests.1, slv (b.outs).length q1.outs.1, I b.pend]]⟩ .nil ?_; clear S; intro ac w β S
    refine RG.done rfl (nx_then ?_)
    refine S.c (!((f_takeIrq b.pend).2.2)) (fun h23 => ?_) (fun h23 => ?_)
    · have h24 : ((f_takeIrq b.pend).2.2) = false := not_t h23
      refine wp_seq (RG.start ?_)
      refine S.q 4 [2, 3, 4] 2 ⟨[(2, .p 1 0), (3, .v (I (-1))), (4, .v (B false))], [GT.cells b pb, [slv (b.mem).length q1.mem.1, slv (b.guests).length q1.guests.1, slv (b.outs).length q1.outs.1, I b.pend]]⟩ .nil ?_; clear S; intro ac w β S
      refine RG.done rfl (nx_then (wp_ret (rt_then ?_)))
      refine S.r [GT.val b q1, I (-1), B false] ?_
      have o25 := ow_Bare (x := b) (p := q1) o6 o9 o12 d15 d16 d17 i14
      exact ret3_of (p' := ()) (p'' := ()) S (show (f_bareAck b).1 = b by clear S; (first | (rw [bareAck_ok (by assumption)]; done) | (unfold f_bareAck; (repeat' split) <;> first | rfl | (exfalso; omega) | (exfalso; simp_all; done) | (exfalso; simp_all; omega) | (simp_all; done)))) (show (f_bareAck b).2.1 = (-1) by clear S; (first | (rw [bareAck_ok (by assumption)]; done) | (unfold f_bareAck; (repeat' split) <;> first | rfl | (exfalso; omega) | (exfalso; simp_all; done) | (exfalso; simp_all; omega) | (simp_all; done)))) (show (f_bareAck b).2.2 = false by clear S; (first | (rw [bareAck_ok (by assumption)]; done) | (unfold f_bareAck; (repeat' split) <;> first | rfl | (exfalso; omega) | (exfalso; simp_all; done) | (exfalso; simp_all; omega) | (simp_all; done)))) rfl rfl rfl o25 (show In64 (-1) from ⟨by decide, by decide⟩) trivial
    · have h26 : ((f_takeIrq b.pend).2.2) = true := not_f h23
      refine wp_skip (nx_then (wp_seq (RG.start ?_)))
      refine S.q 3 [2, 5, 7] 3 ⟨[(2, .p 1 0), (5, .p 2 0), (7, .v (I ((f_takeIrq b.pend).2.1)))], [GT.cells b pb, Zc TBare, [slv (b.mem).length q1.mem.1, slv (b.guests).length q1.guests.1, slv (b.outs).length q1.outs.1, I ((f_takeIrq b.pend).1)]]⟩ .nil ?_; clear S; intro ac w β S
      refine RG.done rfl (nx_then (wp_seq (RG.start ?_)))
      refine S.q 5 [2, 3, 4] 2 ⟨[(2, .p 1 0), (3, .v (I ((f_takeIrq b.pend).2.1))), (4, .v (B true))], [GT.cells b pb, [slv (b.mem).length q1.mem.1, slv (b.guests).length q1.guests.1, slv (b.outs).length q1.outs.1, I ((f_takeIrq b.pend).1)]]⟩ .nil ?_; clear S; intro ac w β S
      refine RG.done rfl (nx_then (wp_ret ?_))
      refine S.r [GT.val (⟨b.mem, b.guests, b.outs, ((f_takeIrq b.pend).1)⟩ : TBare) (⟨q1.mem, q1.guests, q1.outs⟩ : PBare), I ((f_takeIrq b.pend).2.1), B true] ?_
      have o27 := ow_Bare (x := (⟨b.mem, b.guests, b.outs, ((f_takeIrq b.pend).1)⟩ : TBare)) (p := (⟨q1.mem, q1.guests, q1.outs⟩ : PBare)) o6 o9 o12 d15 d16 d17 (takeIrq_in64 (RBare.pend (d := b) (S.arg hb)))
      exact ret3_of (p' := ()) (p'' := ()) S (show (f_bareAck b).1 = (⟨b.mem, b.guests, b.outs, ((f_takeIrq b.pend).1)⟩ : TBare) by clear S; (first | (rw [bareAck_ok (by assumption)]; done) | (unfold f_bareAck; (repeat' split) <;> first | rfl | (exfalso; omega) | (exfalso; simp_all; done) | (exfalso; simp_all; omega) | (simp_all; done)))) (show (f_bareAck b).2.1 = ((f_takeIrq b.pend).2.1) by clear S; (first | (rw [bareAck_ok (by assumption)]; done) | (unfold f_bareAck; (repeat' split) <;> first | rfl | (exfalso; omega) | (exfalso; simp_all; done) | (exfalso; simp_all; omega) | (simp_all; done)))) (show (f_bareAck b).2.2 = true by clear S; (first | (rw [bareAck_ok (by assumption)]; done) | (unfold f_bareAck; (repeat' split) <;> first | rfl | (exfalso; omega) | (exfalso; simp_all; done) | (exfalso; simp_all; omega) | (simp_all; done)))) rfl rfl rfl o27 (takeIrq_in64b) trivial

set_option maxRecDepth 100000 in
theorem c_laws_eqIntS (w0 : World) (a : List Int) (pa : LP Int) (ha : GT.rd KK (Lt w0.heap.size) w0 a pa) (b : List Int) (pb : LP Int) (hb : GT.rd KK (Lt w0.heap.size) w0 b pb) : Calls Try.prog 88 [slv (a).length pa.1, slv (b).length pb.1].toArray w0 (fun e w' => e = .returned (B (decide (a = b))) ∧ Chg NoB w0 w') := by
  refine Calls.walk (args := [slv (a).length pa.1, slv (b).length pb.1]) NoB Try.func88 rfl rfl ?_
  intro ac β S
  have hlea : a.length ≤ 4194304 := LRd.le ha
  have hleb : b.length ≤ 4194304 := LRd.le hb
  refine wp_seq (RG.start ?_)
  refine S.q 1 [0, 1] 0 ⟨[(0, .v (slv (a).length pa.1)), (1, .v (slv (b).length pb.1))], []⟩ .nil ?_; clear S; intro ac w β S
  refine RG.done rfl (nx_then (wp_seq (wp_seq (RG.start ?_))))
  refine S.q 5 [0, 1, 10] 0 ⟨[(0, .v (slv (a).length pa.1)), (1, .v (slv (b).length pb.1)), (10, .v (B (((a).length : Int) != ((b).length : Int))))], []⟩ .nil ?_; clear S; intro ac w β S
  refine RG.done rfl (nx_then ?_)
  refine S.c (((a).length : Int) != ((b).length : Int)) (fun h1 => ?_) (fun h1 => ?_)
  · have g2 : ¬ (((a).length : Int) = ((b).length : Int)) := bne_iff_ne.1 h1
    refine wp_seq (RG.start ?_)
    refine S.q 1 [4] 0 ⟨[(4, .v (B false))], []⟩ .nil ?_; clear S; intro ac w β S
    refine RG.done rfl (nx_then (wp_ret (rt_then ?_)))
    refine S.r [B false] ?_
    exact ⟨retB (by clear S; first | (simp; intro e; subst e; simp_all; done) | (simp; rw [take_all (by omega), take_all (by omega)] at he; exact he) | (simp; exact take_ne (by simp_all))), S.chg⟩
  · have g3 : ((a).length : Int) = ((b).length : Int) := ne_f h1
    refine wp_skip (nx_then (wp_seq (wp_seq (RG.start ?_))))
    refine S.q 1 [0, 1, 5] 0 ⟨[(0, .v (slv (a).length pa.1)), (1, .v (slv (b).length pb.1)), (5, .v (I 0))], []⟩ .nil ?_; clear S; intro ac w β S
    refine RG.done rfl (nx_then (wp_block ?_))
    replace S := S.p [0, 1, 5] 0 ⟨[(0, .v (slv (a).length pa.1)), (1, .v (slv (b).length pb.1)), (5, .v (I 0))], []⟩
    refine wp_loop_down (fun mm ac w => ∃ (k : Nat)  (u : World) (N : Bl) (β : Nat → Nat), mm = a.length - k ∧ (k ≤ a.length) ∧ (a.length = b.length) ∧ (a.take k = b.take k) ∧ St Try.prog Try.f88.ntmps w0 NoB u N β ⟨[(0, .v (slv (a).length pa.1)), (1, .v (slv (b).length pb.1)), (5, .v (I (k : Int)))], []⟩ ac w) _ ⟨0, _, _, _, rfl, (by first | omega | (simp; done) | (simp; omega)), (by first | omega | (simp; done) | (simp; omega)), (by simp), S.cast (by kernel_rfl)⟩ ?_
    clear S
    rintro mm ac w ⟨k, u, N, β, rfl, hk, hab, he, S⟩
    refine wp_seq (wp_seq (RG.start ?_))
    refine S.q 4 [0, 1, 5, 14] 0 ⟨[(0, .v (slv (a).length pa.1)), (1, .v (slv (b).length pb.1)), (5, .v (I (k : Int))), (14, .v (B (decide ((k : Int) < ((a).length : Int)))))], []⟩ .nil ?_; clear S; intro ac w β S
    refine RG.done rfl (nx_then ?_)
    refine S.c (decide ((k : Int) < ((a).length : Int))) (fun h4 => ?_) (fun h4 => ?_)
    · have g5 : (k : Int) < ((a).length : Int) := of_decide_eq_true h4
      refine wp_skip (nx_then (wp_seq (wp_block (wp_seq ?_))))
      refine S.drawn (keep := [0, 1, 5, 25]) (m := 0) (σ' := ⟨[(0, .v (slv (a).length pa.1)), (1, .v (slv (b).length pb.1)), (5, .v (I (k : Int))), (25, .v (B ((el a k) != (el b k))))], []⟩) (.cons (Q_idx (S.arg ha) (l := (a).length) (k := k) (i := (k : Int)) rfl rfl (by omega) Try.underlying24 (by kernel_rfl)) (.cons (Q_el1 (S.arg ha) (t := 3) (k := k) (by omega) rfl (by kernel_rfl)) (.cons (Q_idx (S.arg hb) (l := (b).length) (k := k) (i := (k : Int)) rfl rfl (by omega) Try.underlying24 (by kernel_rfl)) (.cons (Q_el1 (S.arg hb) (t := 3) (k := k) (by omega) rfl (by kernel_rfl)) .nil)))) rfl (by kernel_rfl) (by kernel_rfl) ?_
      clear S; intro ac w S
      refine id (nx_then ?_)
      refine S.c ((el a k) != (el b k)) (fun h6 => ?_) (fun h6 => ?_)
      · have g7 : ¬ ((el a k) = (el b k)) := bne_iff_ne.1 h6
        refine wp_seq (RG.start ?_)
        refine S.q 1 [4] 0 ⟨[(4, .v (B false))], []⟩ .nil ?_; clear S; intro ac w β S
        refine RG.done rfl (nx_then (wp_ret (rt_block (rt_then (rt_then (rt_block (rt_then ?_)))))))
        refine S.r [B false] ?_
        exact ⟨retB (by clear S; first | (simp; intro e; subst e; simp_all; done) | (simp; rw [take_all (by omega), take_all (by omega)] at he; exact he) | (simp; exact take_ne (by simp_all))), S.chg⟩
      · have g8 : (el a k) = (el b k) := ne_f h6
        refine wp_skip (nx_block (nx_then (RG.start ?_)))
        refine S.q 3 [0, 1, 5] 0 ⟨[(0, .v (slv (a).length pa.1)), (1, .v (slv (b).length pb.1)), (5, .v (I ((k : Int) + 1)))], []⟩ (.cons (Q_add (x := (k : Int)) (y := 1) ⟨by omega, by omega⟩) .nil) ?_; clear S; intro ac w β S
        refine RG.done rfl (nx_then ?_)
        replace S := S.p [0, 1, 5] 0 ⟨[(0, .v (slv (a).length pa.1)), (1, .v (slv (b).length pb.1)), (5, .v (I ((k : Int) + 1)))], []⟩
        refine ⟨a.length - (k + 1), by omega, k + 1, _, _, _, rfl, ?_, ?_, ?_, S.cast (by kernel_rfl)⟩
        · clear S; first | omega | (simp [*]; done) | (simp [*]; omega)
        · clear S; first | omega | (simp [*]; done) | (simp [*]; omega)
        · clear S; exact take_eq_step (by omega) (by omega) he (by simp_all)
    · have g9 : ¬ ((k : Int) < ((a).length : Int)) := of_decide_eq_false h4
      refine wp_exit (ex_then (ex_then (ex_hit (nx_then (wp_seq (RG.start ?_))))))
      refine S.q 1 [4] 0 ⟨[(4, .v (B true))], []⟩ .nil ?_; clear S; intro ac w β S
      refine RG.done rfl (nx_then (wp_ret ?_))
      refine S.r [B true] ?_
      exact ⟨retB (by clear S; first | (simp; intro e; subst e; simp_all; done) | (simp; rw [take_all (by omega), take_all (by omega)] at he; exact he) | (simp; exact take_ne (by simp_all))), S.chg⟩

set_option maxRecDepth 100000 in
theorem c_laws_eqIntSS (w0 : World) (a : List (List Int)) (pa : LP (List Int)) (ha : GT.rd KK (Lt w0.heap.size) w0 a pa) (b : List (List Int)) (pb : LP (List Int)) (hb : GT.rd KK (Lt w0.heap.size) w0 b pb) : Calls Try.prog 86 [slv (a).length pa.1, slv (b).length pb.1].toArray w0 (fun e w' => e = .returned (B (decide (a = b))) ∧ Chg NoB w0 w') := by
  refine Calls.walk (args := [slv (a).length pa.1, slv (b).length pb.1]) NoB Try.func86 rfl rfl ?_
  intro ac β S
  have hlea : a.length ≤ 4194304 := LRd.le ha
  have hleb : b.length ≤ 4194304 := LRd.le hb
  refine wp_seq (RG.start ?_)
  refine S.q 1 [0, 1] 0 ⟨[(0, .v (slv (a).length pa.1)), (1, .v (slv (b).length pb.1))], []⟩ .nil ?_; clear S; intro ac w β S
  refine RG.done rfl (nx_then (wp_seq (wp_seq (RG.start ?_))))
  refine S.q 5 [0, 1, 10] 0 ⟨[(0, .v (slv (a).length pa.1)), (1, .v (slv (b).length pb.1)), (10, .v (B (((a).length : Int) != ((b).length : Int))))], []⟩ .nil ?_; clear S; intro ac w β S
  refine RG.done rfl (nx_then ?_)
  refine S.c (((a).length : Int) != ((b).length : Int)) (fun h1 => ?_) (fun h1 => ?_)
  · have g2 : ¬ (((a).length : Int) = ((b).length : Int)) := bne_iff_ne.1 h1
    refine wp_seq (RG.start ?_)
    refine S.q 1 [4] 0 ⟨[(4, .v (B false))], []⟩ .nil ?_; clear S; intro ac w β S
    refine RG.done rfl (nx_then (wp_ret (rt_then ?_)))
    refine S.r [B false] ?_
    exact ⟨retB (by clear S; first | (simp; intro e; subst e; simp_all; done) | (simp; rw [take_all (by omega), take_all (by omega)] at he; exact he) | (simp; exact take_ne (by simp_all))), S.chg⟩
  · have g3 : ((a).length : Int) = ((b).length : Int) := ne_f h1
    refine wp_skip (nx_then (wp_seq (wp_seq (RG.start ?_))))
    refine S.q 1 [0, 1, 5] 0 ⟨[(0, .v (slv (a).length pa.1)), (1, .v (slv (b).length pb.1)), (5, .v (I 0))], []⟩ .nil ?_; clear S; intro ac w β S
    refine RG.done rfl (nx_then (wp_block ?_))
    replace S := S.p [0, 1, 5] 0 ⟨[(0, .v (slv (a).length pa.1)), (1, .v (slv (b).length pb.1)), (5, .v (I 0))], []⟩
    refine wp_loop_down (fun mm ac w => ∃ (k : Nat)  (u : World) (N : Bl) (β : Nat → Nat), mm = a.length - k ∧ (k ≤ a.length) ∧ (a.length = b.length) ∧ (a.take k = b.take k) ∧ St Try.prog Try.f86.ntmps w0 NoB u N β ⟨[(0, .v (slv (a).length pa.1)), (1, .v (slv (b).length pb.1)), (5, .v (I (k : Int)))], []⟩ ac w) _ ⟨0, _, _, _, rfl, (by first | omega | (simp; done) | (simp; omega)), (by first | omega | (simp; done) | (simp; omega)), (by simp), S.cast (by kernel_rfl)⟩ ?_
    clear S
    rintro mm ac w ⟨k, u, N, β, rfl, hk, hab, he, S⟩
    refine wp_seq (wp_seq (RG.start ?_))
    refine S.q 4 [0, 1, 5, 14] 0 ⟨[(0, .v (slv (a).length pa.1)), (1, .v (slv (b).length pb.1)), (5, .v (I (k : Int))), (14, .v (B (decide ((k : Int) < ((a).length : Int)))))], []⟩ .nil ?_; clear S; intro ac w β S
    refine RG.done rfl (nx_then ?_)
    refine S.c (decide ((k : Int) < ((a).length : Int))) (fun h4 => ?_) (fun h4 => ?_)
    · have g5 : (k : Int) < ((a).length : Int) := of_decide_eq_true h4
      refine wp_skip (nx_then (wp_seq (wp_block (wp_seq ?_))))
      refine S.drawn (keep := [0, 1, 5, 26]) (m := 0) (σ' := ⟨[(0, .v (slv (a).length pa.1)), (1, .v (slv (b).length pb.1)), (5, .v (I (k : Int))), (26, .v (B (!(decide ((el a k) = (el b k))))))], []⟩) (.cons (Q_idx (S.arg ha) (l := (a).length) (k := k) (i := (k : Int)) rfl rfl (by omega) Try.underlying31 (by kernel_rfl)) (.cons (Q_el1 (S.arg ha) (t := 24) (k := k) (by omega) rfl (by kernel_rfl)) (.cons (Q_idx (S.arg hb) (l := (b).length) (k := k) (i := (k : Int)) rfl rfl (by omega) Try.underlying31 (by kernel_rfl)) (.cons (Q_el1 (S.arg hb) (t := 24) (k := k) (by omega) rfl (by kernel_rfl)) (.cons (Q_call fun w hw => c_laws_eqIntS w (el a k) (pa.2 k) (rd_of (LRd.el (S.arg ha) k (by omega)) hw) (el b k) (pb.2 k) (rd_of (LRd.el (S.arg hb) k (by omega)) hw)) .nil))))) rfl (by kernel_rfl) (by kernel_rfl) ?_
      clear S; intro ac w S
      refine id (nx_then ?_)
      refine S.c (!(decide ((el a k) = (el b k)))) (fun h6 => ?_) (fun h6 => ?_)
      · have h7 : (decide ((el a k) = (el b k))) = false := not_t h6
        have g8 := of_decide_eq_false h7
        refine wp_seq (RG.start ?_)
        refine S.q 1 [4] 0 ⟨[(4, .v (B false))], []⟩ .nil ?_; clear S; intro ac w β S
        refine RG.done rfl (nx_then (wp_ret (rt_block (rt_then (rt_then (rt_block (rt_then ?_)))))))
        refine S.r [B false] ?_
        exact ⟨retB (by clear S; first | (simp; intro e; subst e; simp_all; done) | (simp; rw [take_all (by omega), take_all (by omega)] at he; exact he) | (simp; exact take_ne (by simp_all))), S.chg⟩
      · have h9 : (decide ((el a k) = (el b k))) = true := not_f h6
        have g10 := of_decide_eq_true h9
        refine wp_skip (nx_block (nx_then (RG.start ?_)))
        refine S.q 3 [0, 1, 5] 0 ⟨[(0, .v (slv (a).length pa.1)), (1, .v (slv (b).length pb.1)), (5, .v (I ((k : Int) + 1)))], []⟩ (.cons (Q_add (x := (k : Int)) (y := 1) ⟨by omega, by omega⟩) .nil) ?_; clear S; intro ac w β S
        refine RG.done rfl (nx_then ?_)
        replace S := S.p [0, 1, 5] 0 ⟨[(0, .v (slv (a).length pa.1)), (1, .v (slv (b).length pb.1)), (5, .v (I ((k : Int) + 1)))], []⟩
        refine ⟨a.length - (k + 1), by omega, k + 1, _, _, _, rfl, ?_, ?_, ?_, S.cast (by kernel_rfl)⟩
        · clear S; first | omega | (simp [*]; done) | (simp [*]; omega)
        · clear S; first | omega | (simp [*]; done) | (simp [*]; omega)
        · clear S; exact take_eq_step (by omega) (by omega) he (by simp_all)
    · have g11 : ¬ ((k : Int) < ((a).length : Int)) := of_decide_eq_false h4
      refine wp_exit (ex_then (ex_then (ex_hit (nx_then (wp_seq (RG.start ?_))))))
      refine S.q 1 [4] 0 ⟨[(4, .v (B true))], []⟩ .nil ?_; clear S; intro ac w β S
      refine RG.done rfl (nx_then (wp_ret ?_))
      refine S.r [B true] ?_
      exact ⟨retB (by clear S; first | (simp; intro e; subst e; simp_all; done) | (simp; rw [take_all (by omega), take_all (by omega)] at he; exact he) | (simp; exact take_ne (by simp_all))), S.chg⟩

set_option maxRecDepth 100000 in
theorem c_laws_eqIns (w0 : World) (a : TIns) (b : TIns) : Calls Try.prog 170 [GT.val a (), GT.val b ()].toArray w0 (fun e w' => e = .returned (B (decide (a = b))) ∧ Chg NoB w0 w') := by
  refine Calls.walk (args := [GT.val a (), GT.val b ()]) NoB Try.func170 rfl rfl ?_
  intro ac β S
  refine wp_seq (RG.start ?_)
  refine S.q 3 [2, 3] 2 ⟨[(2, .p 0 0), (3, .p 1 0)], [GT.cells a (), GT.cells b ()]⟩ .nil ?_; clear S; intro ac w β S
  refine RG.done rfl (nx_then (wp_seq (wp_seq (RG.start ?_))))
  refine S.q 5 [2, 3, 9] 2 ⟨[(2, .p 0 0), (3, .p 1 0), (9, .v (B (a.opc != b.opc)))], [GT.cells a (), GT.cells b ()]⟩ .nil ?_; clear S; intro ac w β S
  refine RG.done rfl (nx_then ?_)
  refine S.c (a.opc != b.opc) (fun h1 => ?_) (fun h1 => ?_)
  · have g2 : ¬ (a.opc = b.opc) := bne_iff_ne.1 h1
    refine wp_seq (RG.start ?_)
    refine S.q 1 [4] 0 ⟨[(4, .v (B false))], []⟩ .nil ?_; clear S; intro ac w β S
    refine RG.done rfl (nx_then (wp_ret (rt_then ?_)))
    refine S.r [B false] ?_
    exact ⟨retB (by clear S; first | (simp [TIns.ext_iff, *]; done) | (simp_all [TIns.ext_iff]; done)), S.chg⟩
  · have g3 : a.opc = b.opc := ne_f h1
    refine wp_skip (nx_then (wp_seq (wp_seq (RG.start ?_))))
    refine S.q 5 [14] 0 ⟨[(14, .v (B (a.x != b.x)))], []⟩ .nil ?_; clear S; intro ac w β S
    refine RG.done rfl (nx_then ?_)
    refine S.c (a.x != b.x) (fun h4 => ?_) (fun h4 => ?_)
    · have g5 : ¬ (a.x = b.x) := bne_iff_ne.1 h4
      refine wp_seq (RG.start ?_)
      refine S.q 1 [4] 0 ⟨[(4, .v (B false))], []⟩ .nil ?_; clear S; intro ac w β S
      refine RG.done rfl (nx_then (wp_ret (rt_then ?_)))
      refine S.r [B false] ?_
      exact ⟨retB (by clear S; first | (simp [TIns.ext_iff, *]; done) | (simp_all [TIns.ext_iff]; done)), S.chg⟩
    · have g6 : a.x = b.x := ne_f h4
      refine wp_skip (nx_then (wp_seq (RG.start ?_)))
      refine S.q 1 [4] 0 ⟨[(4, .v (B true))], []⟩ .nil ?_; clear S; intro ac w β S
      refine RG.done rfl (nx_then (wp_ret ?_))
      refine S.r [B true] ?_
      exact ⟨retB (by clear S; first | (simp [TIns.ext_iff, *]; done) | (simp_all [TIns.ext_iff]; done)), S.chg⟩

set_option maxRecDepth 100000 in
theorem c_laws_eqInsS (w0 : World) (a : List TIns) (pa : LP TIns) (ha : GT.rd KK (Lt w0.heap.size) w0 a pa) (b : List TIns) (pb : LP TIns) (hb : GT.rd KK (Lt w0.heap.size) w0 b pb) : Calls Try.prog 155 [slv (a).length pa.1, slv (b).length pb.1].toArray w0 (fun e w' => e = .returned (B (decide (a = b))) ∧ Chg NoB w0 w') := by
  refine Calls.walk (args := [slv (a).length pa.1, slv (b).length pb.1]) NoB Try.func155 rfl rfl ?_
  intro ac β S
  have hlea : a.length ≤ 4194304 := LRd.le ha
  have hleb : b.length ≤ 4194304 := LRd.le hb
  refine wp_seq (RG.start ?_)
  refine S.q 1 [0, 1] 0 ⟨[(0, .v (slv (a).length pa.1)), (1, .v (slv (b).length pb.1))], []⟩ .nil ?_; clear S; intro ac w β S
  refine RG.done rfl (nx_then (wp_seq (wp_seq (RG.start ?_))))
  refine S.q 5 [0, 1, 10] 0 ⟨[(0, .v (slv (a).length pa.1)), (1, .v (slv (b).length pb.1)), (10, .v (B (((a).length : Int) != ((b).length : Int))))], []⟩ .nil ?_; clear S; intro ac w β S
  refine RG.done rfl (nx_then ?_)
  refine S.c (((a).length : Int) != ((b).length : Int)) (fun h1 => ?_) (fun h1 => ?_)
  · have g2 : ¬ (((a).length : Int) = ((b).length : Int)) := bne_iff_ne.1 h1
    refine wp_seq (RG.start ?_)
    refine S.q 1 [4] 0 ⟨[(4, .v (B false))], []⟩ .nil ?_; clear S; intro ac w β S
    refine RG.done rfl (nx_then (wp_ret (rt_then ?_)))
    refine S.r [B false] ?_
    exact ⟨retB (by clear S; first | (simp; intro e; subst e; simp_all; done) | (simp; rw [take_all (by omega), take_all (by omega)] at he; exact he) | (simp; exact take_ne (by simp_all))), S.chg⟩
  · have g3 : ((a).length : Int) = ((b).length : Int) := ne_f h1
    refine wp_skip (nx_then (wp_seq (wp_seq (RG.start ?_))))
    refine S.q 1 [0, 1, 5] 0 ⟨[(0, .v (slv (a).length pa.1)), (1, .v (slv (b).length pb.1)), (5, .v (I 0))], []⟩ .nil ?_; clear S; intro ac w β S
    refine RG.done rfl (nx_then (wp_block ?_))
    replace S := S.p [0, 1, 5] 0 ⟨[(0, .v (slv (a).length pa.1)), (1, .v (slv (b).length pb.1)), (5, .v (I 0))], []⟩
    refine wp_loop_down (fun mm ac w => ∃ (k : Nat)  (u : World) (N : Bl) (β : Nat → Nat), mm = a.length - k ∧ (k ≤ a.length) ∧ (a.length = b.length) ∧ (a.take k = b.take k) ∧ St Try.prog Try.f155.ntmps w0 NoB u N β ⟨[(0, .v (slv (a).length pa.1)), (1, .v (slv (b).length pb.1)), (5, .v (I (k : Int)))], []⟩ ac w) _ ⟨0, _, _, _, rfl, (by first | omega | (simp; done) | (simp; omega)), (by first | omega | (simp; done) | (simp; omega)), (by simp), S.cast (by kernel_rfl)⟩ ?_
    clear S
    rintro mm ac w ⟨k, u, N, β, rfl, hk, hab, he, S⟩
    refine wp_seq (wp_seq (RG.start ?_))
    refine S.q 4 [0, 1, 5, 14] 0 ⟨[(0, .v (slv (a).length pa.1)), (1, .v (slv (b).length pb.1)), (5, .v (I (k : Int))), (14, .v (B (decide ((k : Int) < ((a).length : Int)))))], []⟩ .nil ?_; clear S; intro ac w β S
    refine RG.done rfl (nx_then ?_)
    refine S.c (decide ((k : Int) < ((a).length : Int))) (fun h4 => ?_) (fun h4 => ?_)
    · have g5 : (k : Int) < ((a).length : Int) := of_decide_eq_true h4
      refine wp_skip (nx_then (wp_seq (wp_block (wp_seq ?_))))
      refine S.drawn (keep := [0, 1, 5, 26]) (m := 0) (σ' := ⟨[(0, .v (slv (a).length pa.1)), (1, .v (slv (b).length pb.1)), (5, .v (I (k : Int))), (26, .v (B (!(decide ((el a k) = (el b k))))))], []⟩) (.cons (Q_idx (S.arg ha) (l := (a).length) (k := k) (i := (k : Int)) rfl rfl (by omega) Try.underlying28 (by kernel_rfl)) (.cons (Q_el (S.arg ha) (t := 27) (k := k) (by omega) rfl (by kernel_rfl) (by kernel_rfl)) (.cons (Q_idx (S.arg hb) (l := (b).length) (k := k) (i := (k : Int)) rfl rfl (by omega) Try.underlying28 (by kernel_rfl)) (.cons (Q_el (S.arg hb) (t := 27) (k := k) (by omega) rfl (by kernel_rfl) (by kernel_rfl)) (.cons (Q_call fun w hw => c_laws_eqIns w (el a k) (el b k)) .nil))))) rfl (by kernel_rfl) (by kernel_rfl) ?_
      clear S; intro ac w S
      refine id (nx_then ?_)
      refine S.c (!(decide ((el a k) = (el b k)))) (fun h6 => ?_) (fun h6 => ?_)
      · have h7 : (decide ((el a k) = (el b k))) = false := not_t h6
        have g8 := of_decide_eq_false h7
        refine wp_seq (RG.start ?_)
        refine S.q 1 [4] 0 ⟨[(4, .v (B false))], []⟩ .nil ?_; clear S; intro ac w β S
        refine RG.done rfl (nx_then (wp_ret (rt_block (rt_then (rt_then (rt_block (rt_then ?_)))))))
        refine S.r [B false] ?_
        exact ⟨retB (by clear S; first | (simp; intro e; subst e; simp_all; done) | (simp; rw [take_all (by omega), take_all (by omega)] at he; exact he) | (simp; exact take_ne (by simp_all))), S.chg⟩
      · have h9 : (decide ((el a k) = (el b k))) = true := not_f h6
        have g10 := of_decide_eq_true h9
        refine wp_skip (nx_block (nx_then (RG.start ?_)))
        refine S.q 3 [0, 1, 5] 0 ⟨[(0, .v (slv (a).length pa.1)), (1, .v (slv (b).length pb.1)), (5, .v (I ((k : Int) + 1)))], []⟩ (.cons (Q_add (x := (k : Int)) (y := 1) ⟨by omega, by omega⟩) .nil) ?_; clear S; intro ac w β S
        refine RG.done rfl (nx_then ?_)
        replace S := S.p [0, 1, 5] 0 ⟨[(0, .v (slv (a).length pa.1)), (1, .v (slv (b).length pb.1)), (5, .v (I ((k : Int) + 1)))], []⟩
        refine ⟨a.length - (k + 1), by omega, k + 1, _, _, _, rfl, ?_, ?_, ?_, S.cast (by kernel_rfl)⟩
        · clear S; first | omega | (simp [*]; done) | (simp [*]; omega)
        · clear S; first | omega | (simp [*]; done) | (simp [*]; omega)
        · clear S; exact take_eq_step (by omega) (by omega) he (by simp_all)
    · have g11 : ¬ ((k : Int) < ((a).length : Int)) := of_decide_eq_false h4
      refine wp_exit (ex_then (ex_then (ex_hit (nx_then (wp_seq (RG.start ?_))))))
      refine S.q 1 [4] 0 ⟨[(4, .v (B true))], []⟩ .nil ?_; clear S; intro ac w β S
      refine RG.done rfl (nx_then (wp_ret ?_))
      refine S.r [B true] ?_
      exact ⟨retB (by clear S; first | (simp; intro e; subst e; simp_all; done) | (simp; rw [take_all (by omega), take_all (by omega)] at he; exact he) | (simp; exact take_ne (by simp_all))), S.chg⟩

set_option maxRecDepth 100000 in
theorem c_laws_eqSlot (w0 : World) (a : TSlot) (b : TSlot) : Calls Try.prog 171 [GT.val a (), GT.val b ()].toArray w0 (fun e w' => e = .returned (B (decide (a = b))) ∧ Chg NoB w0 w') := by
  refine Calls.walk (args := [GT.val a (), GT.val b ()]) NoB Try.func171 rfl rfl ?_
  intro ac β S
  refine wp_seq (RG.start ?_)
  refine S.q 3 [2, 3] 2 ⟨[(2, .p 0 0), (3, .p 1 0)], [GT.cells a (), GT.cells b ()]⟩ .nil ?_; clear S; intro ac w β S
  refine RG.done rfl (nx_then (wp_seq (wp_seq (RG.start ?_))))
  refine S.q 5 [2, 3, 9] 2 ⟨[(2, .p 0 0), (3, .p 1 0), (9, .v (B (a.page != b.page)))], [GT.cells a (), GT.cells b ()]⟩ .nil ?_; clear S; intro ac w β S
  refine RG.done rfl (nx_then ?_)
  refine S.c (a.page != b.page) (fun h1 => ?_) (fun h1 => ?_)
  · have g2 : ¬ (a.page = b.page) := bne_iff_ne.1 h1
    refine wp_seq (RG.start ?_)
    refine S.q 1 [4] 0 ⟨[(4, .v (B false))], []⟩ .nil ?_; clear S; intro ac w β S
    refine RG.done rfl (nx_then (wp_ret (rt_then ?_)))
    refine S.r [B false] ?_
    exact ⟨retB (by clear S; first | (simp [TSlot.ext_iff, *]; done) | (simp_all [TSlot.ext_iff]; done)), S.chg⟩
  · have g3 : a.page = b.page := ne_f h1
    refine wp_skip (nx_then (wp_seq (wp_seq (RG.start ?_))))
    refine S.q 5 [14] 0 ⟨[(14, .v (B (a.rights != b.rights)))], []⟩ .nil ?_; clear S; intro ac w β S
    refine RG.done rfl (nx_then ?_)
    refine S.c (a.rights != b.rights) (fun h4 => ?_) (fun h4 => ?_)
    · have g5 : ¬ (a.rights = b.rights) := bne_iff_ne.1 h4
      refine wp_seq (RG.start ?_)
      refine S.q 1 [4] 0 ⟨[(4, .v (B false))], []⟩ .nil ?_; clear S; intro ac w β S
      refine RG.done rfl (nx_then (wp_ret (rt_then ?_)))
      refine S.r [B false] ?_
      exact ⟨retB (by clear S; first | (simp [TSlot.ext_iff, *]; done) | (simp_all [TSlot.ext_iff]; done)), S.chg⟩
    · have g6 : a.rights = b.rights := ne_f h4
      refine wp_skip (nx_then (wp_seq (RG.start ?_)))
      refine S.q 1 [4] 0 ⟨[(4, .v (B true))], []⟩ .nil ?_; clear S; intro ac w β S
      refine RG.done rfl (nx_then (wp_ret ?_))
      refine S.r [B true] ?_
      exact ⟨retB (by clear S; first | (simp [TSlot.ext_iff, *]; done) | (simp_all [TSlot.ext_iff]; done)), S.chg⟩

set_option maxRecDepth 100000 in
theorem c_laws_eqSlotS (w0 : World) (a : List TSlot) (pa : LP TSlot) (ha : GT.rd KK (Lt w0.heap.size) w0 a pa) (b : List TSlot) (pb : LP TSlot) (hb : GT.rd KK (Lt w0.heap.size) w0 b pb) : Calls Try.prog 156 [slv (a).length pa.1, slv (b).length pb.1].toArray w0 (fun e w' => e = .returned (B (decide (a = b))) ∧ Chg NoB w0 w') := by
  refine Calls.walk (args := [slv (a).length pa.1, slv (b).length pb.1]) NoB Try.func156 rfl rfl ?_
  intro ac β S
  have hlea : a.length ≤ 4194304 := LRd.le ha
  have hleb : b.length ≤ 4194304 := LRd.le hb
  refine wp_seq (RG.start ?_)
  refine S.q 1 [0, 1] 0 ⟨[(0, .v (slv (a).length pa.1)), (1, .v (slv (b).length pb.1))], []⟩ .nil ?_; clear S; intro ac w β S
  refine RG.done rfl (nx_then (wp_seq (wp_seq (RG.start ?_))))
  refine S.q 5 [0, 1, 10] 0 ⟨[(0, .v (slv (a).length pa.1)), (1, .v (slv (b).length pb.1)), (10, .v (B (((a).length : Int) != ((b).length : Int))))], []⟩ .nil ?_; clear S; intro ac w β S
  refine RG.done rfl (nx_then ?_)
  refine S.c (((a).length : Int) != ((b).length : Int)) (fun h1 => ?_) (fun h1 => ?_)
  · have g2 : ¬ (((a).length : Int) = ((b).length : Int)) := bne_iff_ne.1 h1
    refine wp_seq (RG.start ?_)
    refine S.q 1 [4] 0 ⟨[(4, .v (B false))], []⟩ .nil ?_; clear S; intro ac w β S
    refine RG.done rfl (nx_then (wp_ret (rt_then ?_)))
    refine S.r [B false] ?_
    exact ⟨retB (by clear S; first | (simp; intro e; subst e; simp_all; done) | (simp; rw [take_all (by omega), take_all (by omega)] at he; exact he) | (simp; exact take_ne (by simp_all))), S.chg⟩
  · have g3 : ((a).length : Int) = ((b).length : Int) := ne_f h1
    refine wp_skip (nx_then (wp_seq (wp_seq (RG.start ?_))))
    refine S.q 1 [0, 1, 5] 0 ⟨[(0, .v (slv (a).length pa.1)), (1, .v (slv (b).length pb.1)), (5, .v (I 0))], []⟩ .nil ?_; clear S; intro ac w β S
    refine RG.done rfl (nx_then (wp_block ?_))
    replace S := S.p [0, 1, 5] 0 ⟨[(0, .v (slv (a).length pa.1)), (1, .v (slv (b).length pb.1)), (5, .v (I 0))], []⟩
    refine wp_loop_down (fun mm ac w => ∃ (k : Nat)  (u : World) (N : Bl) (β : Nat → Nat), mm = a.length - k ∧ (k ≤ a.length) ∧ (a.length = b.length) ∧ (a.take k = b.take k) ∧ St Try.prog Try.f156.ntmps w0 NoB u N β ⟨[(0, .v (slv (a).length pa.1)), (1, .v (slv (b).length pb.1)), (5, .v (I (k : Int)))], []⟩ ac w) _ ⟨0, _, _, _, rfl, (by first | omega | (simp; done) | (simp; omega)), (by first | omega | (simp; done) | (simp; omega)), (by simp), S.cast (by kernel_rfl)⟩ ?_
    clear S
    rintro mm ac w ⟨k, u, N, β, rfl, hk, hab, he, S⟩
    refine wp_seq (wp_seq (RG.start ?_))
    refine S.q 4 [0, 1, 5, 14] 0 ⟨[(0, .v (slv (a).length pa.1)), (1, .v (slv (b).length pb.1)), (5, .v (I (k : Int))), (14, .v (B (decide ((k : Int) < ((a).length : Int)))))], []⟩ .nil ?_; clear S; intro ac w β S
    refine RG.done rfl (nx_then ?_)
    refine S.c (decide ((k : Int) < ((a).length : Int))) (fun h4 => ?_) (fun h4 => ?_)
    · have g5 : (k : Int) < ((a).length : Int) := of_decide_eq_true h4
      refine wp_skip (nx_then (wp_seq (wp_block (wp_seq ?_))))
      refine S.drawn (keep := [0, 1, 5, 26]) (m := 0) (σ' := ⟨[(0, .v (slv (a).length pa.1)), (1, .v (slv (b).length pb.1)), (5, .v (I (k : Int))), (26, .v (B (!(decide ((el a k) = (el b k))))))], []⟩) (.cons (Q_idx (S.arg ha) (l := (a).length) (k := k) (i := (k : Int)) rfl rfl (by omega) Try.underlying37 (by kernel_rfl)) (.cons (Q_el (S.arg ha) (t := 54) (k := k) (by omega) rfl (by kernel_rfl) (by kernel_rfl)) (.cons (Q_idx (S.arg hb) (l := (b).length) (k := k) (i := (k : Int)) rfl rfl (by omega) Try.underlying37 (by kernel_rfl)) (.cons (Q_el (S.arg hb) (t := 54) (k := k) (by omega) rfl (by kernel_rfl) (by kernel_rfl)) (.cons (Q_call fun w hw => c_laws_eqSlot w (el a k) (el b k)) .nil))))) rfl (by kernel_rfl) (by kernel_rfl) ?_
      clear S; intro ac w S
      refine id (nx_then ?_)
      refine S.c (!(decide ((el a k) = (el b k)))) (fun h6 => ?_) (fun h6 => ?_)
      · have h7 : (decide ((el a k) = (el b k))) = false := not_t h6
        have g8 := of_decide_eq_false h7
        refine wp_seq (RG.start ?_)
        refine S.q 1 [4] 0 ⟨[(4, .v (B false))], []⟩ .nil ?_; clear S; intro ac w β S
        refine RG.done rfl (nx_then (wp_ret (rt_block (rt_then (rt_then (rt_block (rt_then ?_)))))))
        refine S.r [B false] ?_
        exact ⟨retB (by clear S; first | (simp; intro e; subst e; simp_all; done) | (simp; rw [take_all (by omega), take_all (by omega)] at he; exact he) | (simp; exact take_ne (by simp_all))), S.chg⟩
      · have h9 : (decide ((el a k) = (el b k))) = true := not_f h6
        have g10 := of_decide_eq_true h9
        refine wp_skip (nx_block (nx_then (RG.start ?_)))
        refine S.q 3 [0, 1, 5] 0 ⟨[(0, .v (slv (a).length pa.1)), (1, .v (slv (b).length pb.1)), (5, .v (I ((k : Int) + 1)))], []⟩ (.cons (Q_add (x := (k : Int)) (y := 1) ⟨by omega, by omega⟩) .nil) ?_; clear S; intro ac w β S
        refine RG.done rfl (nx_then ?_)
        replace S := S.p [0, 1, 5] 0 ⟨[(0, .v (slv (a).length pa.1)), (1, .v (slv (b).length pb.1)), (5, .v (I ((k : Int) + 1)))], []⟩
        refine ⟨a.length - (k + 1), by omega, k + 1, _, _, _, rfl, ?_, ?_, ?_, S.cast (by kernel_rfl)⟩
        · clear S; first | omega | (simp [*]; done) | (simp [*]; omega)
        · clear S; first | omega | (simp [*]; done) | (simp [*]; omega)
        · clear S; exact take_eq_step (by omega) (by omega) he (by simp_all)
    · have g11 : ¬ ((k : Int) < ((a).length : Int)) := of_decide_eq_false h4
      refine wp_exit (ex_then (ex_then (ex_hit (nx_then (wp_seq (RG.start ?_))))))
      refine S.q 1 [4] 0 ⟨[(4, .v (B true))], []⟩ .nil ?_; clear S; intro ac w β S
      refine RG.done rfl (nx_then (wp_ret ?_))
      refine S.r [B true] ?_
      exact ⟨retB (by clear S; first | (simp; intro e; subst e; simp_all; done) | (simp; rw [take_all (by omega), take_all (by omega)] at he; exact he) | (simp; exact take_ne (by simp_all))), S.chg⟩

set_option maxRecDepth 100000 in
theorem c_laws_eqCtl (w0 : World) (a : TCtl) (b : TCtl) : Calls Try.prog 157 [GT.val a (), GT.val b ()].toArray w0 (fun e w' => e = .returned (B (decide (a = b))) ∧ Chg NoB w0 w') := by
  refine Calls.walk (args := [GT.val a (), GT.val b ()]) NoB Try.func157 rfl rfl ?_
  intro ac β S
  refine wp_seq (RG.start ?_)
  refine S.q 3 [2, 3] 2 ⟨[(2, .p 0 0), (3, .p 1 0)], [GT.cells a (), GT.cells b ()]⟩ .nil ?_; clear S; intro ac w β S
  refine RG.done rfl (nx_then (wp_seq (wp_seq (RG.start ?_))))
  refine S.q 5 [2, 3, 9] 2 ⟨[(2, .p 0 0), (3, .p 1 0), (9, .v (B (a.traps != b.traps)))], [GT.cells a (), GT.cells b ()]⟩ .nil ?_; clear S; intro ac w β S
  refine RG.done rfl (nx_then ?_)
  refine S.c (a.traps != b.traps) (fun h1 => ?_) (fun h1 => ?_)
  · have g2 : ¬ (a.traps = b.traps) := bne_iff_ne.1 h1
    refine wp_seq (RG.start ?_)
    refine S.q 1 [4] 0 ⟨[(4, .v (B false))], []⟩ .nil ?_; clear S; intro ac w β S
    refine RG.done rfl (nx_then (wp_ret (rt_then ?_)))
    refine S.r [B false] ?_
    exact ⟨retB (by clear S; first | (simp [TCtl.ext_iff, *]; done) | (simp_all [TCtl.ext_iff]; done)), S.chg⟩
  · have g3 : a.traps = b.traps := ne_f h1
    refine wp_skip (nx_then (wp_seq (wp_seq (RG.start ?_))))
    refine S.q 5 [2, 3, 14] 2 ⟨[(2, .p 0 0), (3, .p 1 0), (14, .v (B (a.post != b.post)))], [GT.cells a (), GT.cells b ()]⟩ .nil ?_; clear S; intro ac w β S
    refine RG.done rfl (nx_then ?_)
    refine S.c (a.post != b.post) (fun h4 => ?_) (fun h4 => ?_)
    · have g5 : ¬ (a.post = b.post) := bne_iff_ne.1 h4
      refine wp_seq (RG.start ?_)
      refine S.q 1 [4] 0 ⟨[(4, .v (B false))], []⟩ .nil ?_; clear S; intro ac w β S
      refine RG.done rfl (nx_then (wp_ret (rt_then ?_)))
      refine S.r [B false] ?_
      exact ⟨retB (by clear S; first | (simp [TCtl.ext_iff, *]; done) | (simp_all [TCtl.ext_iff]; done)), S.chg⟩
    · have g6 : a.post = b.post := ne_f h4
      refine wp_skip (nx_then (wp_seq (wp_seq (RG.start ?_))))
      refine S.q 5 [19] 0 ⟨[(19, .v (B (!(a.opn == b.opn))))], []⟩ .nil ?_; clear S; intro ac w β S
      refine RG.done rfl (nx_then ?_)
      refine S.c (!(a.opn == b.opn)) (fun h7 => ?_) (fun h7 => ?_)
      · have h8 : (a.opn == b.opn) = false := not_t h7
        have g9 : ¬ (a.opn = b.opn) := ne_of_beq_false h8
        refine wp_seq (RG.start ?_)
        refine S.q 1 [4] 0 ⟨[(4, .v (B false))], []⟩ .nil ?_; clear S; intro ac w β S
        refine RG.done rfl (nx_then (wp_ret (rt_then ?_)))
        refine S.r [B false] ?_
        exact ⟨retB (by clear S; first | (simp [TCtl.ext_iff, *]; done) | (simp_all [TCtl.ext_iff]; done)), S.chg⟩
      · have h10 : (a.opn == b.opn) = true := not_f h7
        have g11 : a.opn = b.opn := eq_of_beq h10
        refine wp_skip (nx_then (wp_seq (RG.start ?_)))
        refine S.q 1 [4] 0 ⟨[(4, .v (B true))], []⟩ .nil ?_; clear S; intro ac w β S
        refine RG.done rfl (nx_then (wp_ret ?_))
        refine S.r [B true] ?_
        exact ⟨retB (by clear S; first | (simp [TCtl.ext_iff, *]; done) | (simp_all [TCtl.ext_iff]; done)), S.chg⟩

set_option maxRecDepth 100000 in
theorem c_laws_eqExit (w0 : World) (a : TExit) (b : TExit) : Calls Try.prog 158 [GT.val a (), GT.val b ()].toArray w0 (fun e w' => e = .returned (B (decide (a = b))) ∧ Chg NoB w0 w') := by
  refine Calls.walk (args := [GT.val a (), GT.val b ()]) NoB Try.func158 rfl rfl ?_
  intro ac β S
  refine wp_seq (RG.start ?_)
  refine S.q 3 [2, 3] 2 ⟨[(2, .p 0 0), (3, .p 1 0)], [GT.cells a (), GT.cells b ()]⟩ .nil ?_; clear S; intro ac w β S
  refine RG.done rfl (nx_then (wp_seq (wp_seq (RG.start ?_))))
  refine S.q 5 [2, 3, 9] 2 ⟨[(2, .p 0 0), (3, .p 1 0), (9, .v (B (a.kind != b.kind)))], [GT.cells a (), GT.cells b ()]⟩ .nil ?_; clear S; intro ac w β S
  refine RG.done rfl (nx_then ?_)
  refine S.c (a.kind != b.kind) (fun h1 => ?_) (fun h1 => ?_)
  · have g2 : ¬ (a.kind = b.kind) := bne_iff_ne.1 h1
    refine wp_seq (RG.start ?_)
    refine S.q 1 [4] 0 ⟨[(4, .v (B false))], []⟩ .nil ?_; clear S; intro ac w β S
    refine RG.done rfl (nx_then (wp_ret (rt_then ?_)))
    refine S.r [B false] ?_
    exact ⟨retB (by clear S; first | (simp [TExit.ext_iff, *]; done) | (simp_all [TExit.ext_iff]; done)), S.chg⟩
  · have g3 : a.kind = b.kind := ne_f h1
    refine wp_skip (nx_then (wp_seq (wp_seq (RG.start ?_))))
    refine S.q 5 [2, 3, 14] 2 ⟨[(2, .p 0 0), (3, .p 1 0), (14, .v (B (a.page != b.page)))], [GT.cells a (), GT.cells b ()]⟩ .nil ?_; clear S; intro ac w β S
    refine RG.done rfl (nx_then ?_)
    refine S.c (a.page != b.page) (fun h4 => ?_) (fun h4 => ?_)
    · have g5 : ¬ (a.page = b.page) := bne_iff_ne.1 h4
      refine wp_seq (RG.start ?_)
      refine S.q 1 [4] 0 ⟨[(4, .v (B false))], []⟩ .nil ?_; clear S; intro ac w β S
      refine RG.done rfl (nx_then (wp_ret (rt_then ?_)))
      refine S.r [B false] ?_
      exact ⟨retB (by clear S; first | (simp [TExit.ext_iff, *]; done) | (simp_all [TExit.ext_iff]; done)), S.chg⟩
    · have g6 : a.page = b.page := ne_f h4
      refine wp_skip (nx_then (wp_seq (wp_seq (RG.start ?_))))
      refine S.q 5 [2, 3, 19] 2 ⟨[(2, .p 0 0), (3, .p 1 0), (19, .v (B (!(a.wr == b.wr))))], [GT.cells a (), GT.cells b ()]⟩ .nil ?_; clear S; intro ac w β S
      refine RG.done rfl (nx_then ?_)
      refine S.c (!(a.wr == b.wr)) (fun h7 => ?_) (fun h7 => ?_)
      · have h8 : (a.wr == b.wr) = false := not_t h7
        have g9 : ¬ (a.wr = b.wr) := ne_of_beq_false h8
        refine wp_seq (RG.start ?_)
        refine S.q 1 [4] 0 ⟨[(4, .v (B false))], []⟩ .nil ?_; clear S; intro ac w β S
        refine RG.done rfl (nx_then (wp_ret (rt_then ?_)))
        refine S.r [B false] ?_
        exact ⟨retB (by clear S; first | (simp [TExit.ext_iff, *]; done) | (simp_all [TExit.ext_iff]; done)), S.chg⟩
      · have h10 : (a.wr == b.wr) = true := not_f h7
        have g11 : a.wr = b.wr := eq_of_beq h10
        refine wp_skip (nx_then (wp_seq (wp_seq (RG.start ?_))))
        refine S.q 5 [24] 0 ⟨[(24, .v (B (a.n != b.n)))], []⟩ .nil ?_; clear S; intro ac w β S
        refine RG.done rfl (nx_then ?_)
        refine S.c (a.n != b.n) (fun h12 => ?_) (fun h12 => ?_)
        · have g13 : ¬ (a.n = b.n) := bne_iff_ne.1 h12
          refine wp_seq (RG.start ?_)
          refine S.q 1 [4] 0 ⟨[(4, .v (B false))], []⟩ .nil ?_; clear S; intro ac w β S
          refine RG.done rfl (nx_then (wp_ret (rt_then ?_)))
          refine S.r [B false] ?_
          exact ⟨retB (by clear S; first | (simp [TExit.ext_iff, *]; done) | (simp_all [TExit.ext_iff]; done)), S.chg⟩
        · have g14 : a.n = b.n := ne_f h12
          refine wp_skip (nx_then (wp_seq (RG.start ?_)))
          refine S.q 1 [4] 0 ⟨[(4, .v (B true))], []⟩ .nil ?_; clear S; intro ac w β S
          refine RG.done rfl (nx_then (wp_ret ?_))
          refine S.r [B true] ?_
          exact ⟨retB (by clear S; first | (simp [TExit.ext_iff, *]; done) | (simp_all [TExit.ext_iff]; done)), S.chg⟩

set_option maxRecDepth 100000 in
theorem c_laws_eqGuest (w0 : World) (a : TGuest) (pa : PGuest) (ha : GT.rd KK (Lt w0.heap.size) w0 a pa) (b : TGuest) (pb : PGuest) (hb : GT.rd KK (Lt w0.heap.size) w0 b pb) : Calls Try.prog 126 [GT.val a pa, GT.val b pb].toArray w0 (fun e w' => e = .returned (B (decide (a = b))) ∧ Chg NoB w0 w') := by
  refine Calls.walk (args := [GT.val a pa, GT.val b pb]) NoB Try.func126 rfl rfl ?_
  intro ac β S
  have hlea_prog : a.prog.length ≤ 4194304 := LRd.le (RGuest.prog (d := a) ha)
  have hlea_written : a.written.length ≤ 4194304 := LRd.le (RGuest.written (d := a) ha)
  have hlea_live : a.live.length ≤ 4194304 := LRd.le (RGuest.live (d := a) ha)
  have hlea_seen : a.seen.length ≤ 4194304 := LRd.le (RGuest.seen (d := a) ha)
  have hleb_prog : b.prog.length ≤ 4194304 := LRd.le (RGuest.prog (d := b) hb)
  have hleb_written : b.written.length ≤ 4194304 := LRd.le (RGuest.written (d := b) hb)
  have hleb_live : b.live.length ≤ 4194304 := LRd.le (RGuest.live (d := b) hb)
  have hleb_seen : b.seen.length ≤ 4194304 := LRd.le (RGuest.seen (d := b) hb)
  refine wp_seq (RG.start ?_)
  refine S.q 3 [2, 3] 2 ⟨[(2, .p 0 0), (3, .p 1 0)], [GT.cells a pa, GT.cells b pb]⟩ .nil ?_; clear S; intro ac w β S
  refine RG.done rfl (nx_then (wp_seq (wp_seq (RG.start ?_))))
  refine S.q 6 [2, 3, 10] 2 ⟨[(2, .p 0 0), (3, .p 1 0), (10, .v (B (!(decide (a.prog = b.prog)))))], [GT.cells a pa, GT.cells b pb]⟩ (.cons (Q_call fun w hw => c_laws_eqInsS w a.prog pa.prog (rd_of (RGuest.prog (d := a) (S.arg ha)) hw) b.prog pb.prog (rd_of (RGuest.prog (d := b) (S.arg hb)) hw)) .nil) ?_; clear S; intro ac w β S
  refine RG.done rfl (nx_then ?_)
  refine S.c (!(decide (a.prog = b.prog))) (fun h1 => ?_) (fun h1 => ?_)
  · have h2 : (decide (a.prog = b.prog)) = false := not_t h1
    have g3 := of_decide_eq_false h2
    refine wp_seq (RG.start ?_)
    refine S.q 1 [4] 0 ⟨[(4, .v (B false))], []⟩ .nil ?_; clear S; intro ac w β S
    refine RG.done rfl (nx_then (wp_ret (rt_then ?_)))
    refine S.r [B false] ?_
    exact ⟨retB (by clear S; first | (simp [TGuest.ext_iff, *]; done) | (simp_all [TGuest.ext_iff]; done)), S.chg⟩
  · have h4 : (decide (a.prog = b.prog)) = true := not_f h1
    have g5 := of_decide_eq_true h4
    refine wp_skip (nx_then (wp_seq (wp_seq (RG.start ?_))))
    refine S.q 5 [2, 3, 15] 2 ⟨[(2, .p 0 0), (3, .p 1 0), (15, .v (B (a.acc != b.acc)))], [GT.cells a pa, GT.cells b pb]⟩ .nil ?_; clear S; intro ac w β S
    refine RG.done rfl (nx_then ?_)
    refine S.c (a.acc != b.acc) (fun h6 => ?_) (fun h6 => ?_)
    · have g7 : ¬ (a.acc = b.acc) := bne_iff_ne.1 h6
      refine wp_seq (RG.start ?_)
      refine S.q 1 [4] 0 ⟨[(4, .v (B false))], []⟩ .nil ?_; clear S; intro ac w β S
      refine RG.done rfl (nx_then (wp_ret (rt_then ?_)))
      refine S.r [B false] ?_
      exact ⟨retB (by clear S; first | (simp [TGuest.ext_iff, *]; done) | (simp_all [TGuest.ext_iff]; done)), S.chg⟩
    · have g8 : a.acc = b.acc := ne_f h6
      refine wp_skip (nx_then (wp_seq (wp_seq (RG.start ?_))))
      refine S.q 5 [2, 3, 20] 2 ⟨[(2, .p 0 0), (3, .p 1 0), (20, .v (B (a.pc != b.pc)))], [GT.cells a pa, GT.cells b pb]⟩ .nil ?_; clear S; intro ac w β S
      refine RG.done rfl (nx_then ?_)
      refine S.c (a.pc != b.pc) (fun h9 => ?_) (fun h9 => ?_)
      · have g10 : ¬ (a.pc = b.pc) := bne_iff_ne.1 h9
        refine wp_seq (RG.start ?_)
        refine S.q 1 [4] 0 ⟨[(4, .v (B false))], []⟩ .nil ?_; clear S; intro ac w β S
        refine RG.done rfl (nx_then (wp_ret (rt_then ?_)))
        refine S.r [B false] ?_
        exact ⟨retB (by clear S; first | (simp [TGuest.ext_iff, *]; done) | (simp_all [TGuest.ext_iff]; done)), S.chg⟩
      · have g11 : a.pc = b.pc := ne_f h9
        refine wp_skip (nx_then (wp_seq (wp_seq (RG.start ?_))))
        refine S.q 6 [2, 3, 26] 2 ⟨[(2, .p 0 0), (3, .p 1 0), (26, .v (B (!(decide (a.written = b.written)))))], [GT.cells a pa, GT.cells b pb]⟩ (.cons (Q_call fun w hw => c_laws_eqSlotS w a.written pa.written (rd_of (RGuest.written (d := a) (S.arg ha)) hw) b.written pb.written (rd_of (RGuest.written (d := b) (S.arg hb)) hw)) .nil) ?_; clear S; intro ac w β S
        refine RG.done rfl (nx_then ?_)
        refine S.c (!(decide (a.written = b.written))) (fun h12 => ?_) (fun h12 => ?_)
        · have h13 : (decide (a.written = b.written)) = false := not_t h12
          have g14 := of_decide_eq_false h13
          refine wp_seq (RG.start ?_)
          refine S.q 1 [4] 0 ⟨[(4, .v (B false))], []⟩ .nil ?_; clear S; intro ac w β S
          refine RG.done rfl (nx_then (wp_ret (rt_then ?_)))
          refine S.r [B false] ?_
          exact ⟨retB (by clear S; first | (simp [TGuest.ext_iff, *]; done) | (simp_all [TGuest.ext_iff]; done)), S.chg⟩
        · have h15 : (decide (a.written = b.written)) = true := not_f h12
          have g16 := of_decide_eq_true h15
          refine wp_skip (nx_then (wp_seq (wp_seq (RG.start ?_))))
          refine S.q 6 [2, 3, 32] 2 ⟨[(2, .p 0 0), (3, .p 1 0), (32, .v (B (!(decide (a.live = b.live)))))], [GT.cells a pa, GT.cells b pb]⟩ (.cons (Q_call fun w hw => c_laws_eqSlotS w a.live pa.live (rd_of (RGuest.live (d := a) (S.arg ha)) hw) b.live pb.live (rd_of (RGuest.live (d := b) (S.arg hb)) hw)) .nil) ?_; clear S; intro ac w β S
          refine RG.done rfl (nx_then ?_)
          refine S.c (!(decide (a.live = b.live))) (fun h17 => ?_) (fun h17 => ?_)
          · have h18 : (decide (a.live = b.live)) = false := not_t h17
            have g19 := of_decide_eq_false h18
            refine wp_seq (RG.start ?_)
            refine S.q 1 [4] 0 ⟨[(4, .v (B false))], []⟩ .nil ?_; clear S; intro ac w β S
            refine RG.done rfl (nx_then (wp_ret (rt_then ?_)))
            refine S.r [B false] ?_
            exact ⟨retB (by clear S; first | (simp [TGuest.ext_iff, *]; done) | (simp_all [TGuest.ext_iff]; done)), S.chg⟩
          · have h20 : (decide (a.live = b.live)) = true := not_f h17
            have g21 := of_decide_eq_true h20
            refine wp_skip (nx_then (wp_seq (wp_seq (RG.start ?_))))
            refine S.q 6 [2, 3, 38] 2 ⟨[(2, .p 0 0), (3, .p 1 0), (38, .v (B (!(decide (a.ctl = b.ctl)))))], [GT.cells a pa, GT.cells b pb]⟩ (.cons (Q_call fun w hw => c_laws_eqCtl w a.ctl b.ctl) .nil) ?_; clear S; intro ac w β S
            refine RG.done rfl (nx_then ?_)
            refine S.c (!(decide (a.ctl = b.ctl))) (fun h22 => ?_) (fun h22 => ?_)
            · have h23 : (decide (a.ctl = b.ctl)) = false := not_t h22
              have g24 := of_decide_eq_false h23
              refine wp_seq (RG.start ?_)
              refine S.q 1 [4] 0 ⟨[(4, .v (B false))], []⟩ .nil ?_; clear S; intro ac w β S
              refine RG.done rfl (nx_then (wp_ret (rt_then ?_)))
              refine S.r [B false] ?_
              exact ⟨retB (by clear S; first | (simp [TGuest.ext_iff, *]; done) | (simp_all [TGuest.ext_iff]; done)), S.chg⟩
            · have h25 : (decide (a.ctl = b.ctl)) = true := not_f h22
              have g26 := of_decide_eq_true h25
              refine wp_skip (nx_then (wp_seq (wp_seq (RG.start ?_))))
              refine S.q 5 [2, 3, 43] 2 ⟨[(2, .p 0 0), (3, .p 1 0), (43, .v (B (a.pend != b.pend)))], [GT.cells a pa, GT.cells b pb]⟩ .nil ?_; clear S; intro ac w β S
              refine RG.done rfl (nx_then ?_)
              refine S.c (a.pend != b.pend) (fun h27 => ?_) (fun h27 => ?_)
              · have g28 : ¬ (a.pend = b.pend) := bne_iff_ne.1 h27
                refine wp_seq (RG.start ?_)
                refine S.q 1 [4] 0 ⟨[(4, .v (B false))], []⟩ .nil ?_; clear S; intro ac w β S
                refine RG.done rfl (nx_then (wp_ret (rt_then ?_)))
                refine S.r [B false] ?_
                exact ⟨retB (by clear S; first | (simp [TGuest.ext_iff, *]; done) | (simp_all [TGuest.ext_iff]; done)), S.chg⟩
              · have g29 : a.pend = b.pend := ne_f h27
                refine wp_skip (nx_then (wp_seq (wp_seq (RG.start ?_))))
                refine S.q 6 [2, 3, 49] 2 ⟨[(2, .p 0 0), (3, .p 1 0), (49, .v (B (!(decide (a.exit = b.exit)))))], [GT.cells a pa, GT.cells b pb]⟩ (.cons (Q_call fun w hw => c_laws_eqExit w a.exit b.exit) .nil) ?_; clear S; intro ac w β S
                refine RG.done rfl (nx_then ?_)
                refine S.c (!(decide (a.exit = b.exit))) (fun h30 => ?_) (fun h30 => ?_)
                · have h31 : (decide (a.exit = b.exit)) = false := not_t h30
                  have g32 := of_decide_eq_false h31
                  refine wp_seq (RG.start ?_)
                  refine S.q 1 [4] 0 ⟨[(4, .v (B false))], []⟩ .nil ?_; clear S; intro ac w β S
                  refine RG.done rfl (nx_then (wp_ret (rt_then ?_)))
                  refine S.r [B false] ?_
                  exact ⟨retB (by clear S; first | (simp [TGuest.ext_iff, *]; done) | (simp_all [TGuest.ext_iff]; done)), S.chg⟩
                · have h33 : (decide (a.exit = b.exit)) = true := not_f h30
                  have g34 := of_decide_eq_true h33
                  refine wp_skip (nx_then (wp_seq (wp_seq (RG.start ?_))))
                  refine S.q 5 [2, 3, 54] 2 ⟨[(2, .p 0 0), (3, .p 1 0), (54, .v (B (!(a.halted == b.halted))))], [GT.cells a pa, GT.cells b pb]⟩ .nil ?_; clear S; intro ac w β S
                  refine RG.done rfl (nx_then ?_)
                  refine S.c (!(a.halted == b.halted)) (fun h35 => ?_) (fun h35 => ?_)
                  · have h36 : (a.halted == b.halted) = false := not_t h35
                    have g37 : ¬ (a.halted = b.halted) := ne_of_beq_false h36
                    refine wp_seq (RG.start ?_)
                    refine S.q 1 [4] 0 ⟨[(4, .v (B false))], []⟩ .nil ?_; clear S; intro ac w β S
                    refine RG.done rfl (nx_then (wp_ret (rt_then ?_)))
                    refine S.r [B false] ?_
                    exact ⟨retB (by clear S; first | (simp [TGuest.ext_iff, *]; done) | (simp_all [TGuest.ext_iff]; done)), S.chg⟩
                  · have h38 : (a.halted == b.halted) = true := not_f h35
                    have g39 : a.halted = b.halted := eq_of_beq h38
                    refine wp_skip (nx_then (wp_seq (wp_seq (RG.start ?_))))
                    refine S.q 6 [60] 0 ⟨[(60, .v (B (!(decide (a.seen = b.seen)))))], []⟩ (.cons (Q_call fun w hw => c_laws_eqIntS w a.seen pa.seen (rd_of (RGuest.seen (d := a) (S.arg ha)) hw) b.seen pb.seen (rd_of (RGuest.seen (d := b) (S.arg hb)) hw)) .nil) ?_; clear S; intro ac w β S
                    refine RG.done rfl (nx_then ?_)
                    refine S.c (!(decide (a.seen = b.seen))) (fun h40 => ?_) (fun h40 => ?_)
                    · have h41 : (decide (a.seen = b.seen)) = false := not_t h40
                      have g42 := of_decide_eq_false h41
                      refine wp_seq (RG.start ?_)
                      refine S.q 1 [4] 0 ⟨[(4, .v (B false))], []⟩ .nil ?_; clear S; intro ac w β S
                      refine RG.done rfl (nx_then (wp_ret (rt_then ?_)))
                      refine S.r [B false] ?_
                      exact ⟨retB (by clear S; first | (simp [TGuest.ext_iff, *]; done) | (simp_all [TGuest.ext_iff]; done)), S.chg⟩
                    · have h43 : (decide (a.seen = b.seen)) = true := not_f h40
                      have g44 := of_decide_eq_true h43
                      refine wp_skip (nx_then (wp_seq (RG.start ?_)))
                      refine S.q 1 [4] 0 ⟨[(4, .v (B true))], []⟩ .nil ?_; clear S; intro ac w β S
                      refine RG.done rfl (nx_then (wp_ret ?_))
                      refine S.r [B true] ?_
                      exact ⟨retB (by clear S; first | (simp [TGuest.ext_iff, *]; done) | (simp_all [TGuest.ext_iff]; done)), S.chg⟩

set_option maxRecDepth 100000 in
theorem c_laws_eqGuestS (w0 : World) (a : List TGuest) (pa : LP TGuest) (ha : GT.rd KK (Lt w0.heap.size) w0 a pa) (b : List TGuest) (pb : LP TGuest) (hb : GT.rd KK (Lt w0.heap.size) w0 b pb) : Calls Try.prog 87 [slv (a).length pa.1, slv (b).length pb.1].toArray w0 (fun e w' => e = .returned (B (decide (a = b))) ∧ Chg NoB w0 w') := by
  refine Calls.walk (args := [slv (a).length pa.1, slv (b).length pb.1]) NoB Try.func87 rfl rfl ?_
  intro ac β S
  have hlea : a.length ≤ 4194304 := LRd.le ha
  have hleb : b.length ≤ 4194304 := LRd.le hb
  refine wp_seq (RG.start ?_)
  refine S.q 1 [0, 1] 0 ⟨[(0, .v (slv (a).length pa.1)), (1, .v (slv (b).length pb.1))], []⟩ .nil ?_; clear S; intro ac w β S
  refine RG.done rfl (nx_then (wp_seq (wp_seq (RG.start ?_))))
  refine S.q 5 [0, 1, 10] 0 ⟨[(0, .v (slv (a).length pa.1)), (1, .v (slv (b).length pb.1)), (10, .v (B (((a).length : Int) != ((b).length : Int))))], []⟩ .nil ?_; clear S; intro ac w β S
  refine RG.done rfl (nx_then ?_)
  refine S.c (((a).length : Int) != ((b).length : Int)) (fun h1 => ?_) (fun h1 => ?_)
  · have g2 : ¬ (((a).length : Int) = ((b).length : Int)) := bne_iff_ne.1 h1
    refine wp_seq (RG.start ?_)
    refine S.q 1 [4] 0 ⟨[(4, .v (B false))], []⟩ .nil ?_; clear S; intro ac w β S
    refine RG.done rfl (nx_then (wp_ret (rt_then ?_)))
    refine S.r [B false] ?_
    exact ⟨retB (by clear S; first | (simp; intro e; subst e; simp_all; done) | (simp; rw [take_all (by omega), take_all (by omega)] at he; exact he) | (simp; exact take_ne (by simp_all))), S.chg⟩
  · have g3 : ((a).length : Int) = ((b).length : Int) := ne_f h1
    refine wp_skip (nx_then (wp_seq (wp_seq (RG.start ?_))))
    refine S.q 1 [0, 1, 5] 0 ⟨[(0, .v (slv (a).length pa.1)), (1, .v (slv (b).length pb.1)), (5, .v (I 0))], []⟩ .nil ?_; clear S; intro ac w β S
    refine RG.done rfl (nx_then (wp_block ?_))
    replace S := S.p [0, 1, 5] 0 ⟨[(0, .v (slv (a).length pa.1)), (1, .v (slv (b).length pb.1)), (5, .v (I 0))], []⟩
    refine wp_loop_down (fun mm ac w => ∃ (k : Nat)  (u : World) (N : Bl) (β : Nat → Nat), mm = a.length - k ∧ (k ≤ a.length) ∧ (a.length = b.length) ∧ (a.take k = b.take k) ∧ St Try.prog Try.f87.ntmps w0 NoB u N β ⟨[(0, .v (slv (a).length pa.1)), (1, .v (slv (b).length pb.1)), (5, .v (I (k : Int)))], []⟩ ac w) _ ⟨0, _, _, _, rfl, (by first | omega | (simp; done) | (simp; omega)), (by first | omega | (simp; done) | (simp; omega)), (by simp), S.cast (by kernel_rfl)⟩ ?_
    clear S
    rintro mm ac w ⟨k, u, N, β, rfl, hk, hab, he, S⟩
    refine wp_seq (wp_seq (RG.start ?_))
    refine S.q 4 [0, 1, 5, 14] 0 ⟨[(0, .v (slv (a).length pa.1)), (1, .v (slv (b).length pb.1)), (5, .v (I (k : Int))), (14, .v (B (decide ((k : Int) < ((a).length : Int)))))], []⟩ .nil ?_; clear S; intro ac w β S
    refine RG.done rfl (nx_then ?_)
    refine S.c (decide ((k : Int) < ((a).length : Int))) (fun h4 => ?_) (fun h4 => ?_)
    · have g5 : (k : Int) < ((a).length : Int) := of_decide_eq_true h4
      refine wp_skip (nx_then (wp_seq (wp_block (wp_seq ?_))))
      refine S.drawn (keep := [0, 1, 5, 26]) (m := 0) (σ' := ⟨[(0, .v (slv (a).length pa.1)), (1, .v (slv (b).length pb.1)), (5, .v (I (k : Int))), (26, .v (B (!(decide ((el a k) = (el b k))))))], []⟩) (.cons (Q_idx (S.arg ha) (l := (a).length) (k := k) (i := (k : Int)) rfl rfl (by omega) Try.underlying39 (by kernel_rfl)) (.cons (Q_el (S.arg ha) (t := 117) (k := k) (by omega) rfl (by kernel_rfl) (by kernel_rfl)) (.cons (Q_idx (S.arg hb) (l := (b).length) (k := k) (i := (k : Int)) rfl rfl (by omega) Try.underlying39 (by kernel_rfl)) (.cons (Q_el (S.arg hb) (t := 117) (k := k) (by omega) rfl (by kernel_rfl) (by kernel_rfl)) (.cons (Q_call fun w hw => c_laws_eqGuest w (el a k) (pa.2 k) (rd_of (LRd.el (S.arg ha) k (by omega)) hw) (el b k) (pb.2 k) (rd_of (LRd.el (S.arg hb) k (by omega)) hw)) .nil))))) rfl (by kernel_rfl) (by kernel_rfl) ?_
      clear S; intro ac w S
      refine id (nx_then ?_)
      refine S.c (!(decide ((el a k) = (el b k)))) (fun h6 => ?_) (fun h6 => ?_)
      · have h7 : (decide ((el a k) = (el b k))) = false := not_t h6
        have g8 := of_decide_eq_false h7
        refine wp_seq (RG.start ?_)
        refine S.q 1 [4] 0 ⟨[(4, .v (B false))], []⟩ .nil ?_; clear S; intro ac w β S
        refine RG.done rfl (nx_then (wp_ret (rt_block (rt_then (rt_then (rt_block (rt_then ?_)))))))
        refine S.r [B false] ?_
        exact ⟨retB (by clear S; first | (simp; intro e; subst e; simp_all; done) | (simp; rw [take_all (by omega), take_all (by omega)] at he; exact he) | (simp; exact take_ne (by simp_all))), S.chg⟩
      · have h9 : (decide ((el a k) = (el b k))) = true := not_f h6
        have g10 := of_decide_eq_true h9
        refine wp_skip (nx_block (nx_then (RG.start ?_)))
        refine S.q 3 [0, 1, 5] 0 ⟨[(0, .v (slv (a).length pa.1)), (1, .v (slv (b).length pb.1)), (5, .v (I ((k : Int) + 1)))], []⟩ (.cons (Q_add (x := (k : Int)) (y := 1) ⟨by omega, by omega⟩) .nil) ?_; clear S; intro ac w β S
        refine RG.done rfl (nx_then ?_)
        replace S := S.p [0, 1, 5] 0 ⟨[(0, .v (slv (a).length pa.1)), (1, .v (slv (b).length pb.1)), (5, .v (I ((k : Int) + 1)))], []⟩
        refine ⟨a.length - (k + 1), by omega, k + 1, _, _, _, rfl, ?_, ?_, ?_, S.cast (by kernel_rfl)⟩
        · clear S; first | omega | (simp [*]; done) | (simp [*]; omega)
        · clear S; first | omega | (simp [*]; done) | (simp [*]; omega)
        · clear S; exact take_eq_step (by omega) (by omega) he (by simp_all)
    · have g11 : ¬ ((k : Int) < ((a).length : Int)) := of_decide_eq_false h4
      refine wp_exit (ex_then (ex_then (ex_hit (nx_then (wp_seq (RG.start ?_))))))
      refine S.q 1 [4] 0 ⟨[(4, .v (B true))], []⟩ .nil ?_; clear S; intro ac w β S
      refine RG.done rfl (nx_then (wp_ret ?_))
      refine S.r [B true] ?_
      exact ⟨retB (by clear S; first | (simp; intro e; subst e; simp_all; done) | (simp; rw [take_all (by omega), take_all (by omega)] at he; exact he) | (simp; exact take_ne (by simp_all))), S.chg⟩

set_option maxRecDepth 100000 in
theorem c_laws_eqBare (w0 : World) (a : TBare) (pa : PBare) (ha : GT.rd KK (Lt w0.heap.size) w0 a pa) (b : TBare) (pb : PBare) (hb : GT.rd KK (Lt w0.heap.size) w0 b pb) : Calls Try.prog 40 [GT.val a pa, GT.val b pb].toArray w0 (fun e w' => e = .returned (B (decide (a = b))) ∧ Chg NoB w0 w') := by
  refine Calls.walk (args := [GT.val a pa, GT.val b pb]) NoB Try.func40 rfl rfl ?_
  intro ac β S
  have hlea_mem : a.mem.length ≤ 4194304 := LRd.le (RBare.mem (d := a) ha)
  have hlea_guests : a.guests.length ≤ 4194304 := LRd.le (RBare.guests (d := a) ha)
  have hlea_outs : a.outs.length ≤ 4194304 := LRd.le (RBare.outs (d := a) ha)
  have hleb_mem : b.mem.length ≤ 4194304 := LRd.le (RBare.mem (d := b) hb)
  have hleb_guests : b.guests.length ≤ 4194304 := LRd.le (RBare.guests (d := b) hb)
  have hleb_outs : b.outs.length ≤ 4194304 := LRd.le (RBare.outs (d := b) hb)
  refine wp_seq (RG.start ?_)
  refine S.q 3 [2, 3] 2 ⟨[(2, .p 0 0), (3, .p 1 0)], [GT.cells a pa, GT.cells b pb]⟩ .nil ?_; clear S; intro ac w β S
  refine RG.done rfl (nx_then (wp_seq (wp_seq (RG.start ?_))))
  refine S.q 6 [2, 3, 10] 2 ⟨[(2, .p 0 0), (3, .p 1 0), (10, .v (B (!(decide (a.mem = b.mem)))))], [GT.cells a pa, GT.cells b pb]⟩ (.cons (Q_call fun w hw => c_laws_eqIntSS w a.mem pa.mem (rd_of (RBare.mem (d := a) (S.arg ha)) hw) b.mem pb.mem (rd_of (RBare.mem (d := b) (S.arg hb)) hw)) .nil) ?_; clear S; intro ac w β S
  refine RG.done rfl (nx_then ?_)
  refine S.c (!(decide (a.mem = b.mem))) (fun h1 => ?_) (fun h1 => ?_)
  · have h2 : (decide (a.mem = b.mem)) = false := not_t h1
    have g3 := of_decide_eq_false h2
    refine wp_seq (RG.start ?_)
    refine S.q 1 [4] 0 ⟨[(4, .v (B false))], []⟩ .nil ?_; clear S; intro ac w β S
    refine RG.done rfl (nx_then (wp_ret (rt_then ?_)))
    refine S.r [B false] ?_
    exact ⟨retB (by clear S; first | (simp [TBare.ext_iff, *]; done) | (simp_all [TBare.ext_iff]; done)), S.chg⟩
  · have h4 : (decide (a.mem = b.mem)) = true := not_f h1
    have g5 := of_decide_eq_true h4
    refine wp_skip (nx_then (wp_seq (wp_seq (RG.start ?_))))
    refine S.q 6 [2, 3, 16] 2 ⟨[(2, .p 0 0), (3, .p 1 0), (16, .v (B (!(decide (a.guests = b.guests)))))], [GT.cells a pa, GT.cells b pb]⟩ (.cons (Q_call fun w hw => c_laws_eqGuestS w a.guests pa.guests (rd_of (RBare.guests (d := a) (S.arg ha)) hw) b.guests pb.guests (rd_of (RBare.guests (d := b) (S.arg hb)) hw)) .nil) ?_; clear S; intro ac w β S
    refine RG.done rfl (nx_then ?_)
    refine S.c (!(decide (a.guests = b.guests))) (fun h6 => ?_) (fun h6 => ?_)
    · have h7 : (decide (a.guests = b.guests)) = false := not_t h6
      have g8 := of_decide_eq_false h7
      refine wp_seq (RG.start ?_)
      refine S.q 1 [4] 0 ⟨[(4, .v (B false))], []⟩ .nil ?_; clear S; intro ac w β S
      refine RG.done rfl (nx_then (wp_ret (rt_then ?_)))
      refine S.r [B false] ?_
      exact ⟨retB (by clear S; first | (simp [TBare.ext_iff, *]; done) | (simp_all [TBare.ext_iff]; done)), S.chg⟩
    · have h9 : (decide (a.guests = b.guests)) = true := not_f h6
      have g10 := of_decide_eq_true h9
      refine wp_skip (nx_then (wp_seq (wp_seq (RG.start ?_))))
      refine S.q 6 [2, 3, 22] 2 ⟨[(2, .p 0 0), (3, .p 1 0), (22, .v (B (!(decide (a.outs = b.outs)))))], [GT.cells a pa, GT.cells b pb]⟩ (.cons (Q_call fun w hw => c_laws_eqIntS w a.outs pa.outs (rd_of (RBare.outs (d := a) (S.arg ha)) hw) b.outs pb.outs (rd_of (RBare.outs (d := b) (S.arg hb)) hw)) .nil) ?_; clear S; intro ac w β S
      refine RG.done rfl (nx_then ?_)
      refine S.c (!(decide (a.outs = b.outs))) (fun h11 => ?_) (fun h11 => ?_)
      · have h12 : (decide (a.outs = b.outs)) = false := not_t h11
        have g13 := of_decide_eq_false h12
        refine wp_seq (RG.start ?_)
        refine S.q 1 [4] 0 ⟨[(4, .v (B false))], []⟩ .nil ?_; clear S; intro ac w β S
        refine RG.done rfl (nx_then (wp_ret (rt_then ?_)))
        refine S.r [B false] ?_
        exact ⟨retB (by clear S; first | (simp [TBare.ext_iff, *]; done) | (simp_all [TBare.ext_iff]; done)), S.chg⟩
      · have h14 : (decide (a.outs = b.outs)) = true := not_f h11
        have g15 := of_decide_eq_true h14
        refine wp_skip (nx_then (wp_seq (wp_seq (RG.start ?_))))
        refine S.q 5 [27] 0 ⟨[(27, .v (B (a.pend != b.pend)))], []⟩ .nil ?_; clear S; intro ac w β S
        refine RG.done rfl (nx_then ?_)
        refine S.c (a.pend != b.pend) (fun h16 => ?_) (fun h16 => ?_)
        · have g17 : ¬ (a.pend = b.pend) := bne_iff_ne.1 h16
          refine wp_seq (RG.start ?_)
          refine S.q 1 [4] 0 ⟨[(4, .v (B false))], []⟩ .nil ?_; clear S; intro ac w β S
          refine RG.done rfl (nx_then (wp_ret (rt_then ?_)))
          refine S.r [B false] ?_
          exact ⟨retB (by clear S; first | (simp [TBare.ext_iff, *]; done) | (simp_all [TBare.ext_iff]; done)), S.chg⟩
        · have g18 : a.pend = b.pend := ne_f h16
          refine wp_skip (nx_then (wp_seq (RG.start ?_)))
          refine S.q 1 [4] 0 ⟨[(4, .v (B true))], []⟩ .nil ?_; clear S; intro ac w β S
          refine RG.done rfl (nx_then (wp_ret ?_))
          refine S.r [B true] ?_
          exact ⟨retB (by clear S; first | (simp [TBare.ext_iff, *]; done) | (simp_all [TBare.ext_iff]; done)), S.chg⟩

set_option maxRecDepth 100000 in
theorem c_laws_markIntS (w0 : World) (a : List Int) (pa : LP Int) (F : Bl) (ha : GT.own KK F w0 a pa) (hF : ∀ b, F b → b < w0.heap.size) (k : Int) (pre0 : 0 ≤ k) (pre1 : k + 16 * (SZ.sz a : Int) ≤ 4611686018427387904) : Calls Try.prog 91 [slv (a).length pa.1, I k].toArray w0 (RetX hdl F w0 pa a k) := by
  refine Calls.walk (args := [slv (a).length pa.1, I k]) F Try.func91 rfl rfl ?_
  intro ac β S
  have oa : Ow w0 F w0 (Lt w0.heap.size) F a pa := ⟨ha, hF, fun b hb => .inr hb⟩
  have hz := szl_Int a
  have hlea : a.length ≤ 4194304 := LOwn.le ha
  refine wp_seq (RG.start ?_)
  refine S.q 1 [0, 1] 0 ⟨[(0, .v (slv (a).length pa.1)), (1, .v (I k))], []⟩ .nil ?_; clear S; intro ac w β S
  refine RG.done rfl (nx_then (wp_seq (wp_seq (RG.start ?_))))
  refine S.q 1 [0, 1, 5] 0 ⟨[(0, .v (slv (a).length pa.1)), (1, .v (I k)), (5, .v (I 0))], []⟩ .nil ?_; clear S; intro ac w β S
  refine RG.done rfl (nx_then (wp_block ?_))
  replace S := S.p [0, 1, 5] 0 ⟨[(0, .v (slv (a).length pa.1)), (1, .v (I k)), (5, .v (I 0))], []⟩
  refine wp_loop_down (fun mm ac w => ∃ (i : Nat) (acc : List Int) (j : Int) (q1 : GT.Ptr (List Int)) (F2 : Bl) (u : World) (N : Bl) (β : Nat → Nat), mm = a.length - i ∧ (i ≤ a.length) ∧ (acc = f_marksInt i k ++ a.drop i) ∧ (j = k + 1 * (i : Int)) ∧ St Try.prog Try.f91.ntmps w0 F u N β ⟨[(0, .v (slv a.length q1.1)), (1, .v (I j)), (5, .v (I (i : Int)))], []⟩ ac w ∧ Ow w0 F u N F2 acc q1 ∧ q1.1 = pa.1 ∧ (∀ b, F2 b → F b)) _ ⟨0, a, k, pa, F, _, _, _, rfl, (by first | omega | (simp; done) | (simp; omega)), (by simp [f_marksInt]), (by simp), S.cast (by kernel_rfl), oa, rfl, (fun _ h => h)⟩ ?_
  clear S oa
  rintro mm ac w ⟨i, acc, j, q1, F2, u, N, β, rfl, hi, hacc, hj, S, o3, hq, hs⟩
  have hlacc : acc.length = a.length := by rw [hacc]; simp [f_marksInt]; omega
  refine wp_seq (wp_seq (RG.start ?_))
  refine S.q 4 [0, 1, 5, 9] 0 ⟨[(0, .v (slv a.length q1.1)), (1, .v (I j)), (5, .v (I (i : Int))), (9, .v (B (decide ((i : Int) < (a.length : Int)))))], []⟩ .nil ?_; clear S; intro ac w β S
  refine RG.done rfl (nx_then ?_)
  refine S.c (decide ((i : Int) < (a.length : Int))) (fun h4 => ?_) (fun h4 => ?_)
  · have g5 : (i : Int) < (a.length : Int) := of_decide_eq_true h4
    refine wp_skip (nx_then (wp_seq (wp_block (wp_seq (RG.start ?_)))))
    refine S.q 4 [0, 1, 5, 14, 15] 0 ⟨[(0, .v (slv a.length q1.1)), (1, .v (I j)), (5, .v (I (i : Int))), (14, .v (I j)), (15, .v (pt q1.1.b (q1.1.off + i * 1)))], []⟩ (.cons (Q_idx o3.rn (l := a.length) (k := i) (i := (i : Int)) (by rw [hacc]; simp [f_marksInt]; omega) rfl (by omega) Try.underlying24 (by kernel_rfl)) .nil) ?_; clear S; intro ac w β S
    refine RG.op rfl (S.setEl (α := Int) o3 (t := 3) (v := I j) (k := i) (j := 0) (off := q1.1.off + i * 1) (y := j) (q := ()) (Fy := NoB) (by kernel_rfl) (by kernel_rfl) (by omega) (by kernel_rfl) (by kernel_rfl) (Nat.le_of_ble_eq_true (by kernel_rfl)) (by kernel_rfl) (fun _ _ _ => ⟨NoB, ⟨by omega, by omega⟩, fun _ h => False.elim h⟩) (fun b _ h => False.elim h) (fun b h => False.elim h) (fun b h => False.elim h) ?_)
    clear S; intro w N F7 q8 S up o6 d9 s10 n11
    have s12 : ∀ b, F7 b → F b := fun b h => (s10 b h).elim (hs b) (fun h => False.elim h)
    clear up d9 o3 n11
    have l13 : (acc.set i j).length = (acc).length := List.length_set
    replace S := S.p [0, 1, 5] 0 ⟨[(0, .v (slv a.length q1.1)), (1, .v (I j)), (5, .v (I (i : Int)))], []⟩
    refine RG.done rfl (nx_then (RG.start ?_))
    refine S.q 3 [0, 1, 5] 0 ⟨[(0, .v (slv a.length q1.1)), (1, .v (I (j + 1))), (5, .v (I (i : Int)))], []⟩ (.cons (Q_add (x := j) (y := 1) ⟨by omega, by omega⟩) .nil) ?_; clear S; intro ac w β S
    refine RG.done rfl (nx_block (nx_then (RG.start ?_)))
    refine S.q 3 [0, 1, 5] 0 ⟨[(0, .v (slv a.length q1.1)), (1, .v (I (j + 1))), (5, .v (I ((i : Int) + 1)))], []⟩ (.cons (Q_add (x := (i : Int)) (y := 1) ⟨by omega, by omega⟩) .nil) ?_; clear S; intro ac w β S
    refine RG.done rfl (nx_then ?_)
    replace S := S.p [0, 1, 5] 0 ⟨[(0, .v (slv a.length q1.1)), (1, .v (I (j + 1))), (5, .v (I ((i : Int) + 1)))], []⟩
    refine ⟨a.length - (i + 1), by omega, i + 1, (acc.set i j), (j + 1), (q1.1, q8), F7, _, _, _, rfl, ?_, ?_, ?_, S.cast (by kernel_rfl), o6, hq, s12⟩
    · clear S; first | omega | (simp [*]; done) | (simp [*]; omega)
    · clear S; (have hlt : i < acc.length := (by omega)); rw [hacc, ← marksInt_step (by omega) hj]; (first | rfl | (simp [g_markInt, Int.add_assoc]; done))
    · clear S; omega
  · have g14 : ¬ ((i : Int) < (a.length : Int)) := of_decide_eq_false h4
    refine wp_exit (ex_then (ex_then (ex_hit (nx_then (wp_seq (RG.start ?_))))))
    refine S.q 2 [4] 0 ⟨[(4, .v (I j))], []⟩ .nil ?_; clear S; intro ac w β S
    refine RG.done rfl (nx_then (wp_ret ?_))
    refine S.r [I j] ?_
    have hyd : hdl acc k = j := by clear S; (have e : i = a.length := (by omega)); subst e; rw [hacc, List.drop_length, List.append_nil, hj]; exact hd_marksInt k (by omega) _ (by omega) id
    have hyb : k ≤ j ∧ j ≤ k + 16 * ((SZ.sz a : Nat) : Int) := by clear S; skip; constructor <;> omega
    exact retX_of S hyd hyb.1 hyb.2 (by show [slv _ _] = [slv _ _]; rw [hlacc, hq]) o3 hs

set_option maxRecDepth 100000 in
theorem c_laws_markIntSS (w0 : World) (a : List (List Int)) (pa : LP (List Int)) (F : Bl) (ha : GT.own KK F w0 a pa) (hF : ∀ b, F b → b < w0.heap.size) (k : Int) (pre0 : 0 ≤ k) (pre1 : k + 16 * (SZ.sz a : Int) ≤ 4611686018427387904) : Calls Try.prog 89 [slv (a).length pa.1, I k].toArray w0 (RetX hdl F w0 pa a k) := by
  refine Calls.walk (args := [slv (a).length pa.1, I k]) F Try.func89 rfl rfl ?_
  intro ac β S
  have oa : Ow w0 F w0 (Lt w0.heap.size) F a pa := ⟨ha, hF, fun b hb => .inr hb⟩
  have hz := sz_list a
  have hlea : a.length ≤ 4194304 := LOwn.le ha
  refine wp_seq (RG.start ?_)
  refine S.q 1 [0, 1] 0 ⟨[(0, .v (slv (a).length pa.1)), (1, .v (I k))], []⟩ .nil ?_; clear S; intro ac w β S
  refine RG.done rfl (nx_then (wp_seq (wp_seq (RG.start ?_))))
  refine S.q 1 [0, 1, 5] 0 ⟨[(0, .v (slv (a).length pa.1)), (1, .v (I k)), (5, .v (I 0))], []⟩ .nil ?_; clear S; intro ac w β S
  refine RG.done rfl (nx_then (wp_block ?_))
  replace S := S.p [0, 1, 5] 0 ⟨[(0, .v (slv (a).length pa.1)), (1, .v (I k)), (5, .v (I 0))], []⟩
  refine wp_loop_down (fun mm ac w => ∃ (i : Nat) (acc : List (List Int)) (j : Int) (q1 : GT.Ptr (List (List Int))) (F2 : Bl) (u : World) (N : Bl) (β : Nat → Nat), mm = a.length - i ∧ (i ≤ a.length) ∧ (acc.length = a.length) ∧ (∀ f, hdlc (acc.take i) k f = f j) ∧ (acc.drop i = a.drop i) ∧ (k ≤ j) ∧ (j ≤ k + 16 * ((i : Int) + (szsum (a.take i) : Nat))) ∧ St Try.prog Try.f89.ntmps w0 F u N β ⟨[(0, .v (slv a.length q1.1)), (1, .v (I j)), (5, .v (I (i : Int)))], []⟩ ac w ∧ Ow w0 F u N F2 acc q1 ∧ q1.1 = pa.1 ∧ (∀ b, F2 b → F b)) _ ⟨0, a, k, pa, F, _, _, _, rfl, (by first | omega | (simp; done) | (simp; omega)), (by rfl), (by intro f; rfl), (by rfl), (by first | omega | (simp; done) | (simp; omega)), (by simp [szsum_nil]), S.cast (by kernel_rfl), oa, rfl, (fun _ h => h)⟩ ?_
  clear S oa
  rintro mm ac w ⟨i, acc, j, q1, F2, u, N, β, rfl, hi, hl, hM, hD, hj0, hj1, S, o3, hq, hs⟩
  have hel := el_of_drop hD
  have hsl := szsum_take_le a i
  refine wp_seq (wp_seq (RG.start ?_))
  refine S.q 4 [0, 1, 5, 9] 0 ⟨[(0, .v (slv a.length q1.1)), (1, .v (I j)), (5, .v (I (i : Int))), (9, .v (B (decide ((i : Int) < (a.length : Int)))))], []⟩ .nil ?_; clear S; intro ac w β S
  refine RG.done rfl (nx_then ?_)
  refine S.c (decide ((i : Int) < (a.length : Int))) (fun h4 => ?_) (fun h4 => ?_)
  · have g5 : (i : Int) < (a.length : Int) := of_decide_eq_true h4
    refine wp_skip (nx_then (wp_seq (wp_block (RG.start ?_))))
    refine S.q 5 [0, 5, 15, 16] 0 ⟨[(0, .v (slv a.length q1.1)), (5, .v (I (i : Int))), (15, .v (slv ((el acc i)).length (q1.2 i).1)), (16, .v (I j))], []⟩ (.cons (Q_idx o3.rn (l := a.length) (k := i) (i := (i : Int)) (by omega) rfl (by omega) Try.underlying31 (by kernel_rfl)) (.cons (Q_el1 o3.rn (t := 24) (k := i) (by omega) rfl (by kernel_rfl)) .nil)) ?_; clear S; intro ac w β S
    obtain ⟨F6, o7, s8, b9⟩ := foc_id o3 (k := i) (show i < (acc).length by omega)
    have z10 := szsum_take (xs := a) (k := i) (by omega)
    have z11 := szsum_take_le a (i + 1)
    have e12 : (el acc i) = el a i := by simp only [hel]
    refine RG.op rfl (S.callX (hd := hdl) (d := 17) o7 (c_laws_markIntS w (el acc i) (q1.2 i) F6 (S.ownw o7) (fun b hb => (S.sep b (o7.sub b hb)).1) j (by omega) (by rw [e12]; omega)) (by kernel_rfl) rfl ?_)
    clear S; intro ac w N q13 y14 k15 S up o16 c17 x18 b19 b20
    rw [e12] at b20
    obtain ⟨p21, o22⟩ := b9 _ _ _ _ up o16 c17
    clear up o3 o7 s8 b9 o16 c17
    obtain ⟨a23, e24⟩ : ∃ z, z = (acc).set i (y14) := ⟨_, rfl⟩
    rw [← e24] at o22
    have l25 : a23.length = (acc).length := by rw [e24]; exact List.length_set
    have e26 : el a23 i = y14 := by rw [e24]; exact el_set_self (show i < (acc).length by omega)
    have t27 : a23.take i = (acc).take i := by rw [e24]; exact take_set_self
    have d28 : a23.drop (i + 1) = (acc).drop (i + 1) := by rw [e24]; exact drop_set_self
    clear e24
    refine S.q 1 [0, 1, 5] 0 ⟨[(0, .v (slv a.length q1.1)), (1, .v (I k15)), (5, .v (I (i : Int)))], []⟩ .nil ?_; clear S; intro ac w β S
    refine RG.done rfl (nx_block (nx_then (RG.start ?_)))
    refine S.q 3 [0, 1, 5] 0 ⟨[(0, .v (slv a.length q1.1)), (1, .v (I k15)), (5, .v (I ((i : Int) + 1)))], []⟩ (.cons (Q_add (x := (i : Int)) (y := 1) ⟨by omega, by omega⟩) .nil) ?_; clear S; intro ac w β S
    refine RG.done rfl (nx_then ?_)
    replace S := S.p [0, 1, 5] 0 ⟨[(0, .v (slv a.length q1.1)), (1, .v (I k15)), (5, .v (I ((i : Int) + 1)))], []⟩
    refine ⟨a.length - (i + 1), by omega, i + 1, a23, k15, (q1.1, p21), F2, _, _, _, rfl, ?_, ?_, ?_, ?_, ?_, ?_, S.cast (by kernel_rfl), o22, hq, hs⟩
    · clear S; first | omega | (simp [*]; done) | (simp [*]; omega)
    · clear S; omega
    · clear S; refine mk_step (acc := a23) (by omega) (by intro f; rw [t27]; exact hM f) ?_; intro f; simp (disch := first | omega | rfl) only [he_list, he_list, e26, x18, hdc_pos, hdi_eq, hdb_eq]
    · clear S; rw [d28]; exact drop_more hD
    · clear S; omega
    · clear S; omega
  · have g29 : ¬ ((i : Int) < (a.length : Int)) := of_decide_eq_false h4
    refine wp_exit (ex_then (ex_then (ex_hit (nx_then (wp_seq (RG.start ?_))))))
    refine S.q 2 [4] 0 ⟨[(4, .v (I j))], []⟩ .nil ?_; clear S; intro ac w β S
    refine RG.done rfl (nx_then (wp_ret ?_))
    refine S.r [I j] ?_
    have hyd : hdl acc k = j := by clear S; exact mk_end (by omega) hM
    have hyb : k ≤ j ∧ j ≤ k + 16 * ((SZ.sz a : Nat) : Int) := by clear S; have hs2 := szsum_take_le a i; constructor <;> omega
    exact retX_of S hyd hyb.1 hyb.2 (by show [slv _ _] = [slv _ _]; rw [hl, hq]) o3 hs

set_option maxRecDepth 100000 in
theorem c_laws_markInsS (w0 : World) (a : List TIns) (pa : LP TIns) (F : Bl) (ha : GT.own KK F w0 a pa) (hF : ∀ b, F b → b < w0.heap.size) (k : Int) (pre0 : 0 ≤ k) (pre1 : k + 16 * (SZ.sz a : Int) ≤ 4611686018427387904) : Calls Try.prog 127 [slv (a).length pa.1, I k].toArray w0 (RetX hdl F w0 pa a k) := by
  refine Calls.walk (args := [slv (a).length pa.1, I k]) F Try.func127 rfl rfl ?_
  intro ac β S
  have oa : Ow w0 F w0 (Lt w0.heap.size) F a pa := ⟨ha, hF, fun b hb => .inr hb⟩
  have hz := szl_TIns a
  have hlea : a.length ≤ 4194304 := LOwn.le ha
  refine wp_seq (RG.start ?_)
  refine S.q 1 [0, 1] 0 ⟨[(0, .v (slv (a).length pa.1)), (1, .v (I k))], []⟩ .nil ?_; clear S; intro ac w β S
  refine RG.done rfl (nx_then (wp_seq (wp_seq (RG.start ?_))))
  refine S.q 1 [0, 1, 5] 0 ⟨[(0, .v (slv (a).length pa.1)), (1, .v (I k)), (5, .v (I 0))], []⟩ .nil ?_; clear S; intro ac w β S
  refine RG.done rfl (nx_then (wp_block ?_))
  replace S := S.p [0, 1, 5] 0 ⟨[(0, .v (slv (a).length pa.1)), (1, .v (I k)), (5, .v (I 0))], []⟩
  refine wp_loop_down (fun mm ac w => ∃ (i : Nat) (acc : List TIns) (j : Int) (q1 : GT.Ptr (List TIns)) (F2 : Bl) (u : World) (N : Bl) (β : Nat → Nat), mm = a.length - i ∧ (i ≤ a.length) ∧ (acc = f_marksIns i k ++ a.drop i) ∧ (j = k + 2 * (i : Int)) ∧ St Try.prog Try.f127.ntmps w0 F u N β ⟨[(0, .v (slv a.length q1.1)), (1, .v (I j)), (5, .v (I (i : Int)))], []⟩ ac w ∧ Ow w0 F u N F2 acc q1 ∧ q1.1 = pa.1 ∧ (∀ b, F2 b → F b)) _ ⟨0, a, k, pa, F, _, _, _, rfl, (by first | omega | (simp; done) | (simp; omega)), (by simp [f_marksIns]), (by simp), S.cast (by kernel_rfl), oa, rfl, (fun _ h => h)⟩ ?_
  clear S oa
  rintro mm ac w ⟨i, acc, j, q1, F2, u, N, β, rfl, hi, hacc, hj, S, o3, hq, hs⟩
  have hlacc : acc.length = a.length := by rw [hacc]; simp [f_marksIns]; omega
  refine wp_seq (wp_seq (RG.start ?_))
  refine S.q 4 [0, 1, 5, 9] 0 ⟨[(0, .v (slv a.length q1.1)), (1, .v (I j)), (5, .v (I (i : Int))), (9, .v (B (decide ((i : Int) < (a.length : Int)))))], []⟩ .nil ?_; clear S; intro ac w β S
  refine RG.done rfl (nx_then ?_)
  refine S.c (decide ((i : Int) < (a.length : Int))) (fun h4 => ?_) (fun h4 => ?_)
  · have g5 : (i : Int) < (a.length : Int) := of_decide_eq_true h4
    refine wp_skip (nx_then (wp_seq (wp_block (wp_seq (RG.start ?_)))))
    refine S.q 5 [0, 1, 5, 14, 16] 0 ⟨[(0, .v (slv a.length q1.1)), (1, .v (I j)), (5, .v (I (i : Int))), (14, .v (I j)), (16, .v (pt q1.1.b (q1.1.off + i * 2)))], []⟩ (.cons (Q_idx o3.rn (l := a.length) (k := i) (i := (i : Int)) (by rw [hacc]; simp [f_marksIns]; omega) rfl (by omega) Try.underlying28 (by kernel_rfl)) .nil) ?_; clear S; intro ac w β S
    have e6 : RIns (el acc i) := (LRd.el o3.rn i (by omega))
    refine RG.op rfl (S.setEl (α := TIns) o3 (t := 3) (v := I j) (k := i) (j := 0) (off := q1.1.off + i * 2) (y := (⟨j, (el acc i).x⟩ : TIns)) (q := ()) (Fy := NoB) (by kernel_rfl) (by kernel_rfl) (by omega) (by kernel_rfl) (by kernel_rfl) (Nat.le_of_ble_eq_true (by kernel_rfl)) (by kernel_rfl) (fun _ _ _ => ⟨NoB, (show RIns (⟨j, (el acc i).x⟩ : TIns) from ⟨(show In64 j from ⟨by omega, by omega⟩), (RIns.x (d := (el acc i)) e6)⟩), fun _ h => False.elim h⟩) (fun b _ h => False.elim h) (fun b h => False.elim h) (fun b h => False.elim h) ?_)
    clear S; intro w N F8 q9 S up o7 d10 s11 n12
    have s13 : ∀ b, F8 b → F b := fun b h => (s11 b h).elim (hs b) (fun h => False.elim h)
    clear up d10 o3 n12
    have l14 : (acc.set i (⟨j, (el acc i).x⟩ : TIns)).length = (acc).length := List.length_set
    replace S := S.p [0, 1, 5] 0 ⟨[(0, .v (slv a.length q1.1)), (1, .v (I j)), (5, .v (I (i : Int)))], []⟩
    refine RG.done rfl (nx_then (wp_seq (RG.start ?_)))
    refine S.q 3 [0, 1, 5] 0 ⟨[(0, .v (slv a.length q1.1)), (1, .v (I (j + 1))), (5, .v (I (i : Int)))], []⟩ (.cons (Q_add (x := j) (y := 1) ⟨by omega, by omega⟩) .nil) ?_; clear S; intro ac w β S
    refine RG.done rfl (nx_then (wp_seq (RG.start ?_)))
    refine S.q 5 [0, 1, 5, 21, 23] 0 ⟨[(0, .v (slv a.length q1.1)), (1, .v (I (j + 1))), (5, .v (I (i : Int))), (21, .v (I (j + 1))), (23, .v (pt q1.1.b (q1.1.off + i * 2 + 1)))], []⟩ (.cons (Q_idx o7.rn (l := a.length) (k := i) (i := (i : Int)) (by rw [List.length_set]; exact (by rw [hacc]; simp [f_marksIns]; omega)) rfl (by omega) Try.underlying28 (by kernel_rfl)) .nil) ?_; clear S; intro ac w β S
    refine RG.op rfl (S.setEl (α := TIns) o7 (t := 3) (v := I (j + 1)) (k := i) (j := 1) (off := q1.1.off + i * 2 + 1) (y := (⟨j, (j + 1)⟩ : TIns)) (q := ()) (Fy := NoB) (by kernel_rfl) (by kernel_rfl) (by omega) (by kernel_rfl) (by kernel_rfl) (Nat.le_of_ble_eq_true (by kernel_rfl)) (by rw [el_set_self (show i < (acc).length by omega)]; kernel_rfl) (fun _ _ _ => ⟨NoB, (show RIns (⟨j, (j + 1)⟩ : TIns) from ⟨(show In64 j from ⟨by omega, by omega⟩), (show In64 (j + 1) from ⟨by omega, by omega⟩)⟩), fun _ h => False.elim h⟩) (fun b _ h => False.elim h) (fun b h => False.elim h) (fun b h => False.elim h) ?_)
    clear S; intro w N F16 q17 S up o15 d18 s19 n20
    have s21 : ∀ b, F16 b → F b := fun b h => (s19 b h).elim (s13 b) (fun h => False.elim h)
    clear up d18 o7 n20
    rw [List.set_set] at o15
    have l22 : (acc.set i (⟨j, (j + 1)⟩ : TIns)).length = (acc).length := List.length_set
    replace S := S.p [0, 1, 5] 0 ⟨[(0, .v (slv a.length q1.1)), (1, .v (I (j + 1))), (5, .v (I (i : Int)))], []⟩
    refine RG.done rfl (nx_then (RG.start ?_))
    refine S.q 3 [0, 1, 5] 0 ⟨[(0, .v (slv a.length q1.1)), (1, .v (I ((j + 1) + 1))), (5, .v (I (i : Int)))], []⟩ (.cons (Q_add (x := (j + 1)) (y := 1) ⟨by omega, by omega⟩) .nil) ?_; clear S; intro ac w β S
    refine RG.done rfl (nx_block (nx_then (RG.start ?_)))
    refine S.q 3 [0, 1, 5] 0 ⟨[(0, .v (slv a.length q1.1)), (1, .v (I ((j + 1) + 1))), (5, .v (I ((i : Int) + 1)))], []⟩ (.cons (Q_add (x := (i : Int)) (y := 1) ⟨by omega, by omega⟩) .nil) ?_; clear S; intro ac w β S
    refine RG.done rfl (nx_then ?_)
    replace S := S.p [0, 1, 5] 0 ⟨[(0, .v (slv a.length q1.1)), (1, .v (I ((j + 1) + 1))), (5, .v (I ((i : Int) + 1)))], []⟩
    refine ⟨a.length - (i + 1), by omega, i + 1, (acc.set i (⟨j, (j + 1)⟩ : TIns)), ((j + 1) + 1), (q1.1, q17), F16, _, _, _, rfl, ?_, ?_, ?_, S.cast (by kernel_rfl), o15, hq, s21⟩
    · clear S; first | omega | (simp [*]; done) | (simp [*]; omega)
    · clear S; (have hlt : i < acc.length := (by omega)); rw [hacc, ← marksIns_step (by omega) hj]; (first | rfl | (simp [g_markIns, Int.add_assoc]; done))
    · clear S; omega
  · have g23 : ¬ ((i : Int) < (a.length : Int)) := of_decide_eq_false h4
    refine wp_exit (ex_then (ex_then (ex_hit (nx_then (wp_seq (RG.start ?_))))))
    refine S.q 2 [4] 0 ⟨[(4, .v (I j))], []⟩ .nil ?_; clear S; intro ac w β S
    refine RG.done rfl (nx_then (wp_ret ?_))
    refine S.r [I j] ?_
    have hyd : hdl acc k = j := by clear S; (have e : i = a.length := (by omega)); subst e; rw [hacc, List.drop_length, List.append_nil, hj]; exact hd_marksIns k (by omega) _ (by omega) id
    have hyb : k ≤ j ∧ j ≤ k + 16 * ((SZ.sz a : Nat) : Int) := by clear S; skip; constructor <;> omega
    exact retX_of S hyd hyb.1 hyb.2 (by show [slv _ _] = [slv _ _]; rw [hlacc, hq]) o3 hs

set_option maxRecDepth 100000 in
theorem c_laws_markSlotS (w0 : World) (a : List TSlot) (pa : LP TSlot) (F : Bl) (ha : GT.own KK F w0 a pa) (hF : ∀ b, F b → b < w0.heap.size) (k : Int) (pre0 : 0 ≤ k) (pre1 : k + 16 * (SZ.sz a : Int) ≤ 4611686018427387904) : Calls Try.prog 128 [slv (a).length pa.1, I k].toArray w0 (RetX hdl F w0 pa a k) := by
  refine Calls.walk (args := [slv (a).length pa.1, I k]) F Try.func128 rfl rfl ?_
  intro ac β S
  have oa : Ow w0 F w0 (Lt w0.heap.size) F a pa := ⟨ha, hF, fun b hb => .inr hb⟩
  have hz := szl_TSlot a
  have hlea : a.length ≤ 4194304 := LOwn.le ha
  refine wp_seq (RG.start ?_)
  refine S.q 1 [0, 1] 0 ⟨[(0, .v (slv (a).length pa.1)), (1, .v (I k))], []⟩ .nil ?_; clear S; intro ac w β S
  refine RG.done rfl (nx_then (wp_seq (wp_seq (RG.start ?_))))
  refine S.q 1 [0, 1, 5] 0 ⟨[(0, .v (slv (a).length pa.1)), (1, .v (I k)), (5, .v (I 0))], []⟩ .nil ?_; clear S; intro ac w β S
  refine RG.done rfl (nx_then (wp_block ?_))
  replace S := S.p [0, 1, 5] 0 ⟨[(0, .v (slv (a).length pa.1)), (1, .v (I k)), (5, .v (I 0))], []⟩
  refine wp_loop_down (fun mm ac w => ∃ (i : Nat) (acc : List TSlot) (j : Int) (q1 : GT.Ptr (List TSlot)) (F2 : Bl) (u : World) (N : Bl) (β : Nat → Nat), mm = a.length - i ∧ (i ≤ a.length) ∧ (acc = f_marksSlot i k ++ a.drop i) ∧ (j = k + 2 * (i : Int)) ∧ St Try.prog Try.f128.ntmps w0 F u N β ⟨[(0, .v (slv a.length q1.1)), (1, .v (I j)), (5, .v (I (i : Int)))], []⟩ ac w ∧ Ow w0 F u N F2 acc q1 ∧ q1.1 = pa.1 ∧ (∀ b, F2 b → F b)) _ ⟨0, a, k, pa, F, _, _, _, rfl, (by first | omega | (simp; done) | (simp; omega)), (by simp [f_marksSlot]), (by simp), S.cast (by kernel_rfl), oa, rfl, (fun _ h => h)⟩ ?_
  clear S oa
  rintro mm ac w ⟨i, acc, j, q1, F2, u, N, β, rfl, hi, hacc, hj, S, o3, hq, hs⟩
  have hlacc : acc.length = a.length := by rw [hacc]; simp [f_marksSlot]; omega
  refine wp_seq (wp_seq (RG.start ?_))
  refine S.q 4 [0, 1, 5, 9] 0 ⟨[(0, .v (slv a.length q1.1)), (1, .v (I j)), (5, .v (I (i : Int))), (9, .v (B (decide ((i : Int) < (a.length : Int)))))], []⟩ .nil ?_; clear S; intro ac w β S
  refine RG.done rfl (nx_then ?_)
  refine S.c (decide ((i : Int) < (a.length : Int))) (fun h4 => ?_) (fun h4 => ?_)
  · have g5 : (i : Int) < (a.length : Int) := of_decide_eq_true h4
    refine wp_skip (nx_then (wp_seq (wp_block (wp_seq (RG.start ?_)))))
    refine S.q 5 [0, 1, 5, 14, 16] 0 ⟨[(0, .v (slv a.length q1.1)), (1, .v (I j)), (5, .v (I (i : Int))), (14, .v (I j)), (16, .v (pt q1.1.b (q1.1.off + i * 2)))], []⟩ (.cons (Q_idx o3.rn (l := a.length) (k := i) (i := (i : Int)) (by rw [hacc]; simp [f_marksSlot]; omega) rfl (by omega) Try.underlying37 (by kernel_rfl)) .nil) ?_; clear S; intro ac w β S
    have e6 : RSlot (el acc i) := (LRd.el o3.rn i (by omega))
    refine RG.op rfl (S.setEl (α := TSlot) o3 (t := 3) (v := I j) (k := i) (j := 0) (off := q1.1.off + i * 2) (y := (⟨j, (el acc i).rights⟩ : TSlot)) (q := ()) (Fy := NoB) (by kernel_rfl) (by kernel_rfl) (by omega) (by kernel_rfl) (by kernel_rfl) (Nat.le_of_ble_eq_true (by kernel_rfl)) (by kernel_rfl) (fun _ _ _ => ⟨NoB, (show RSlot (⟨j, (el acc i).rights⟩ : TSlot) from ⟨(show In64 j from ⟨by omega, by omega⟩), (RSlot.rights (d := (el acc i)) e6)⟩), fun _ h => False.elim h⟩) (fun b _ h => False.elim h) (fun b h => False.elim h) (fun b h => False.elim h) ?_)
    clear S; intro w N F8 q9 S up o7 d10 s11 n12
    have s13 : ∀ b, F8 b → F b := fun b h => (s11 b h).elim (hs b) (fun h => False.elim h)
    clear up d10 o3 n12
    have l14 : (acc.set i (⟨j, (el acc i).rights⟩ : TSlot)).length = (acc).length := List.length_set
    replace S := S.p [0, 1, 5] 0 ⟨[(0, .v (slv a.length q1.1)), (1, .v (I j)), (5, .v (I (i : Int)))], []⟩
    refine RG.done rfl (nx_then (wp_seq (RG.start ?_)))
    refine S.q 3 [0, 1, 5] 0 ⟨[(0, .v (slv a.length q1.1)), (1, .v (I (j + 1))), (5, .v (I (i : Int)))], []⟩ (.cons (Q_add (x := j) (y := 1) ⟨by omega, by omega⟩) .nil) ?_; clear S; intro ac w β S
    refine RG.done rfl (nx_then (wp_seq (RG.start ?_)))
    refine S.q 5 [0, 1, 5, 21, 23] 0 ⟨[(0, .v (slv a.length q1.1)), (1, .v (I (j + 1))), (5, .v (I (i : Int))), (21, .v (I (j + 1))), (23, .v (pt q1.1.b (q1.1.off + i * 2 + 1)))], []⟩ (.cons (Q_idx o7.rn (l := a.length) (k := i) (i := (i : Int)) (by rw [List.length_set]; exact (by rw [hacc]; simp [f_marksSlot]; omega)) rfl (by omega) Try.underlying37 (by kernel_rfl)) .nil) ?_; clear S; intro ac w β S
    refine RG.op rfl (S.setEl (α := TSlot) o7 (t := 3) (v := I (j + 1)) (k := i) (j := 1) (off := q1.1.off + i * 2 + 1) (y := (⟨j, (j + 1)⟩ : TSlot)) (q := ()) (Fy := NoB) (by kernel_rfl) (by kernel_rfl) (by omega) (by kernel_rfl) (by kernel_rfl) (Nat.le_of_ble_eq_true (by kernel_rfl)) (by rw [el_set_self (show i < (acc).length by omega)]; kernel_rfl) (fun _ _ _ => ⟨NoB, (show RSlot (⟨j, (j + 1)⟩ : TSlot) from ⟨(show In64 j from ⟨by omega, by omega⟩), (show In64 (j + 1) from ⟨by omega, by omega⟩)⟩), fun _ h => False.elim h⟩) (fun b _ h => False.elim h) (fun b h => False.elim h) (fun b h => False.elim h) ?_)
    clear S; intro w N F16 q17 S up o15 d18 s19 n20
    have s21 : ∀ b, F16 b → F b := fun b h => (s19 b h).elim (s13 b) (fun h => False.elim h)
    clear up d18 o7 n20
    rw [List.set_set] at o15
    have l22 : (acc.set i (⟨j, (j + 1)⟩ : TSlot)).length = (acc).length := List.length_set
    replace S := S.p [0, 1, 5] 0 ⟨[(0, .v (slv a.length q1.1)), (1, .v (I (j + 1))), (5, .v (I (i : Int)))], []⟩
    refine RG.done rfl (nx_then (RG.start ?_))
    refine S.q 3 [0, 1, 5] 0 ⟨[(0, .v (slv a.length q1.1)), (1, .v (I ((j + 1) + 1))), (5, .v (I (i : Int)))], []⟩ (.cons (Q_add (x := (j + 1)) (y := 1) ⟨by omega, by omega⟩) .nil) ?_; clear S; intro ac w β S
    refine RG.done rfl (nx_block (nx_then (RG.start ?_)))
    refine S.q 3 [0, 1, 5] 0 ⟨[(0, .v (slv a.length q1.1)), (1, .v (I ((j + 1) + 1))), (5, .v (I ((i : Int) + 1)))], []⟩ (.cons (Q_add (x := (i : Int)) (y := 1) ⟨by omega, by omega⟩) .nil) ?_; clear S; intro ac w β S
    refine RG.done rfl (nx_then ?_)
    replace S := S.p [0, 1, 5] 0 ⟨[(0, .v (slv a.length q1.1)), (1, .v (I ((j + 1) + 1))), (5, .v (I ((i : Int) + 1)))], []⟩
    refine ⟨a.length - (i + 1), by omega, i + 1, (acc.set i (⟨j, (j + 1)⟩ : TSlot)), ((j + 1) + 1), (q1.1, q17), F16, _, _, _, rfl, ?_, ?_, ?_, S.cast (by kernel_rfl), o15, hq, s21⟩
    · clear S; first | omega | (simp [*]; done) | (simp [*]; omega)
    · clear S; (have hlt : i < acc.length := (by omega)); rw [hacc, ← marksSlot_step (by omega) hj]; (first | rfl | (simp [g_markSlot, Int.add_assoc]; done))
    · clear S; omega
  · have g23 : ¬ ((i : Int) < (a.length : Int)) := of_decide_eq_false h4
    refine wp_exit (ex_then (ex_then (ex_hit (nx_then (wp_seq (RG.start ?_))))))
    refine S.q 2 [4] 0 ⟨[(4, .v (I j))], []⟩ .nil ?_; clear S; intro ac w β S
    refine RG.done rfl (nx_then (wp_ret ?_))
    refine S.r [I j] ?_
    have hyd : hdl acc k = j := by clear S; (have e : i = a.length := (by omega)); subst e; rw [hacc, List.drop_length, List.append_nil, hj]; exact hd_marksSlot k (by omega) _ (by omega) id
    have hyb : k ≤ j ∧ j ≤ k + 16 * ((SZ.sz a : Nat) : Int) := by clear S; skip; constructor <;> omega
    exact retX_of S hyd hyb.1 hyb.2 (by show [slv _ _] = [slv _ _]; rw [hlacc, hq]) o3 hs

end Go.Proofs.Ytpjhamcanhnfjaa
