/- The walks: what each function that the laws reach computes (part 2). -/
import Derived.Test.YtngpcoihomipfaaGreatW1
import Derived.Test.YtngpcoihomipfaaGreatProg
import Derived.KernelRfl
namespace Go.Proofs.YtngpcoihomipfaaGreat
open Go
set_option linter.unusedVariables false
set_option linter.unusedSimpArgs false

set_option maxRecDepth 100000 in
theorem c_spec_BareDma (w0 : World) (b : TBare) (pb : PBare) (hb : GT.rd KK (Lt w0.heap.size) w0 b pb) (g : Int) (addr : Int) (haddr : In64 addr) (v : Int) (hv : In64 v) : Calls Tryz.prog 5 [GT.val b pb, I g, I addr, I v].toArray w0 (Ret2 NoB w0 ((f_bareDma b g addr v).1 : TBare) ((f_bareDma b g addr v).2 : Bool)) := by
  refine Calls.walk (args := [GT.val b pb, I g, I addr, I v]) NoB Tryz.func5 rfl rfl ?_
  intro ac β S
  have hleb_mem : b.mem.length ≤ 4194304 := LRd.le (RBare.mem (d := b) hb)
  have hleb_guests : b.guests.length ≤ 4194304 := LRd.le (RBare.guests (d := b) hb)
  have hleb_outs : b.outs.length ≤ 4194304 := LRd.le (RBare.outs (d := b) hb)
  have hloaddr := haddr.lo; have hhiaddr := haddr.hi
  have hlov := hv.lo; have hhiv := hv.hi
  refine wp_seq (RG.start ?_)
  refine S.q 3 [1, 2, 3, 4, 8] 2 ⟨[(1, .v (I g)), (2, .v (I addr)), (3, .v (I v)), (4, .p 0 0), (8, .p 1 0)], [GT.cells b pb, Zc TBare]⟩ .nil ?_; clear S; intro ac w β S
  refine RG.done rfl (nx_then (wp_seq (RG.start ?_)))
  refine S.q 1 [1, 2, 3, 4, 8, 12] 2 ⟨[(1, .v (I g)), (2, .v (I addr)), (3, .v (I v)), (4, .p 0 0), (8, .p 1 0), (12, .v (GT.val b pb))], [GT.cells b pb, Zc TBare]⟩ .nil ?_; clear S; intro ac w β S
  refine RG.op rfl (S.call1 (r := b) (d := 13) (c_spec_l17Copy w b pb (S.rd (S.arg hb))) (by kernel_rfl) rfl ?_)
  clear S; intro ac w N q1 F2 S up o3 d4
  clear up d4
  have i14 : In64 b.pend := RBare.pend (d := b) o3.rn
  obtain ⟨F5, F8, F11, o6, o9, o12, s7, s10, s13, d15, d16, d17⟩ := sp_Bare o3
  refine S.q 1 [1, 2, 3, 4, 8] 2 ⟨[(1, .v (I g)), (2, .v (I addr)), (3, .v (I v)), (4, .p 0 0), (8, .p 1 0)], [[slv (b.mem).length q1.mem.1, slv (b.guests).length q1.guests.1, slv (b.outs).length q1.outs.1, I b.pend], Zc TBare]⟩ .nil ?_; clear S; intro ac w β S
  refine RG.done rfl (nx_then (wp_seq (RG.start ?_)))
  refine S.q 9 [2, 3, 4, 8, 10, 11] 2 ⟨[(2, .v (I addr)), (3, .v (I v)), (4, .p 0 0), (8, .p 1 0), (10, .v (I ((f_at b g addr 2).1))), (11, .v (B ((f_at b g addr 2).2)))], [[slv (b.mem).length q1.mem.1, slv (b.guests).length q1.guests.1, slv (b.outs).length q1.outs.1, I b.pend], Zc TBare]⟩ (.cons (Q_call fun w hw => c_spec_l20At w b q1 (rd_of (show GT.rd KK _ _ b q1 from ⟨o6.rn, o9.rn, o12.rn, i14⟩) hw) g addr haddr 2) .nil) ?_; clear S; intro ac w β S
  refine RG.done rfl (nx_then (wp_seq (wp_seq (RG.start ?_))))
  refine S.q 3 [2, 3, 4, 8, 10, 23] 2 ⟨[(2, .v (I addr)), (3, .v (I v)), (4, .p 0 0), (8, .p 1 0), (10, .v (I ((f_at b g addr 2).1))), (23, .v (B (!((f_at b g addr 2).2))))], [[slv (b.mem).length q1.mem.1, slv (b.guests).length q1.guests.1, slv (b.outs).length q1.outs.1, I b.pend], Zc TBare]⟩ .nil ?_; clear S; intro ac w β S
  rcases Bool.eq_false_or_eq_true (!((f_at b g addr 2).2)) with h18 | h18 <;> rw [h18] at S
  · have h19 : ((f_at b g addr 2).2) = false := not_t h18
    refine S.q 4 [2, 3, 4, 8, 10, 27] 2 ⟨[(2, .v (I addr)), (3, .v (I v)), (4, .p 0 0), (8, .p 1 0), (10, .v (I ((f_at b g addr 2).1))), (27, .v (B true))], [[slv (b.mem).length q1.mem.1, slv (b.guests).length q1.guests.1, slv (b.outs).length q1.outs.1, I b.pend], Zc TBare]⟩ .nil ?_; clear S; intro ac w β S
    refine RG.done rfl (nx_then ?_)
    refine S.c true (fun _ => ?_) (fun hx => by cases hx)
    refine wp_seq (RG.start ?_)
    refine S.q 3 [8, 9] 2 ⟨[(8, .p 1 0), (9, .v (B false))], [[slv (b.mem).length q1.mem.1, slv (b.guests).length q1.guests.1, slv (b.outs).length q1.outs.1, I b.pend], [slv (b.mem).length q1.mem.1, slv (b.guests).length q1.guests.1, slv (b.outs).length q1.outs.1, I b.pend]]⟩ .nil ?_; clear S; intro ac w β S
    refine RG.done rfl (nx_then (wp_ret (rt_then ?_)))
    refine S.r [GT.val b q1, B false] ?_
    have o20 := ow_Bare (x := b) (p := q1) o6 o9 o12 d15 d16 d17 i14
    exact ret2_of (p' := ()) S (show (f_bareDma b g addr v).1 = b by clear S; (unfold f_bareDma; (repeat' split) <;> first | rfl | (exfalso; omega) | (exfalso; simp_all; done) | (exfalso; simp_all; omega) | (simp_all; done))) (show (f_bareDma b g addr v).2 = false by clear S; (unfold f_bareDma; (repeat' split) <;> first | rfl | (exfalso; omega) | (exfalso; simp_all; done) | (exfalso; simp_all; omega) | (simp_all; done))) rfl rfl o20 trivial
  · have h21 : ((f_at b g addr 2).2) = true := not_f h18
    refine S.q 4 [2, 3, 4, 8, 10, 27] 2 ⟨[(2, .v (I addr)), (3, .v (I v)), (4, .p 0 0), (8, .p 1 0), (10, .v (I ((f_at b g addr 2).1))), (27, .v (B (!(f_within v 0 99))))], [[slv (b.mem).length q1.mem.1, slv (b.guests).length q1.guests.1, slv (b.outs).length q1.outs.1, I b.pend], Zc TBare]⟩ (.cons (Q_call fun w hw => c_spec_l01In w v 0 99) .nil) ?_; clear S; intro ac w β S
    refine RG.done rfl (nx_then ?_)
    refine S.c (!(f_within v 0 99)) (fun h22 => ?_) (fun h22 => ?_)
    · have h23 : (f_within v 0 99) = false := not_t h22
      have g24 := within_f h23
      refine wp_seq (RG.start ?_)
      refine S.q 3 [8, 9] 2 ⟨[(8, .p 1 0), (9, .v (B false))], [[slv (b.mem).length q1.mem.1, slv (b.guests).length q1.guests.1, slv (b.outs).length q1.outs.1, I b.pend], [slv (b.mem).length q1.mem.1, slv (b.guests).length q1.guests.1, slv (b.outs).length q1.outs.1, I b.pend]]⟩ .nil ?_; clear S; intro ac w β S
      refine RG.done rfl (nx_then (wp_ret (rt_then ?_)))
      refine S.r [GT.val b q1, B false] ?_
      have o25 := ow_Bare (x := b) (p := q1) o6 o9 o12 d15 d16 d17 i14
      exact ret2_of (p' := ()) S (show (f_bareDma b g addr v).1 = b by clear S; (unfold f_bareDma; (repeat' split) <;> first | rfl | (exfalso; omega) | (exfalso; simp_all; done) | (exfalso; simp_all; omega) | (simp_all; done))) (show (f_bareDma b g addr v).2 = false by clear S; (unfold f_bareDma; (repeat' split) <;> first | rfl | (exfalso; omega) | (exfalso; simp_all; done) | (exfalso; simp_all; omega) | (simp_all; done))) rfl rfl o25 trivial
    · have h26 : (f_within v 0 99) = true := not_f h22
      have g27 := within_t h26
      refine wp_skip (nx_then (wp_seq ?_))
      refine S.draw0 (f := 9) 8 rfl rfl ?_
      clear S; intro w S
      refine S.hoist (i := 0) (path := [0]) (keep := [2, 3, 4, 8, 10, 29]) (m := 2) (σ' := ⟨[(2, .v (I addr)), (3, .v (I v)), (4, .p 0 0), (8, .p 1 0), (10, .v (I ((f_at b g addr 2).1))), (29, .p 0 0)], [[slv (b.mem).length q1.mem.1, slv (b.guests).length q1.guests.1, slv (b.outs).length q1.outs.1, I b.pend], Zc TBare]⟩) (by kernel_rfl) (by kernel_rfl) .nil (by kernel_rfl) ?_
      clear S; intro ac S
      refine S.hoist (i := 1) (path := [1]) (keep := [2, 3, 4, 8, 10, 30]) (m := 2) (σ' := ⟨[(2, .v (I addr)), (3, .v (I v)), (4, .p 0 0), (8, .p 1 0), (10, .v (I ((f_at b g addr 2).1))), (30, .v (slv (b.mem).length q1.mem.1))], [[slv (b.mem).length q1.mem.1, slv (b.guests).length q1.guests.1, slv (b.outs).length q1.outs.1, I b.pend], Zc TBare]⟩) (by kernel_rfl) (by kernel_rfl) .nil (by kernel_rfl) ?_
      clear S; intro ac S
      refine S.hoist (i := 2) (path := [2]) (keep := [2, 3, 4, 8, 30, 31]) (m := 2) (σ' := ⟨[(2, .v (I addr)), (3, .v (I v)), (4, .p 0 0), (8, .p 1 0), (30, .v (slv (b.mem).length q1.mem.1)), (31, .v (I ((f_at b g addr 2).1)))], [[slv (b.mem).length q1.mem.1, slv (b.guests).length q1.guests.1, slv (b.outs).length q1.outs.1, I b.pend], Zc TBare]⟩) (by kernel_rfl) (by kernel_rfl) .nil (by kernel_rfl) ?_
      clear S; intro ac S
      refine S.hoist (i := 3) (path := [3]) (keep := [3, 4, 8, 30, 31, 32]) (m := 2) (σ' := ⟨[(3, .v (I v)), (4, .p 0 0), (8, .p 1 0), (30, .v (slv (b.mem).length q1.mem.1)), (31, .v (I ((f_at b g addr 2).1))), (32, .v (I addr))], [[slv (b.mem).length q1.mem.1, slv (b.guests).length q1.guests.1, slv (b.outs).length q1.outs.1, I b.pend], Zc TBare]⟩) (by kernel_rfl) (by kernel_rfl) .nil (by kernel_rfl) ?_
      clear S; intro ac S
      refine S.hoist (i := 5) (path := [5]) (keep := [4, 8, 30, 31, 32, 34]) (m := 2) (σ' := ⟨[(4, .p 0 0), (8, .p 1 0), (30, .v (slv (b.mem).length q1.mem.1)), (31, .v (I ((f_at b g addr 2).1))), (32, .v (I addr)), (34, .v (I v))], [[slv (b.mem).length q1.mem.1, slv (b.guests).length q1.guests.1, slv (b.outs).length q1.outs.1, I b.pend], Zc TBare]⟩) (by kernel_rfl) (by kernel_rfl) .nil (by kernel_rfl) ?_
      clear S; intro ac S
      refine WD.one (i := 4) (by kernel_rfl) ?_
      refine S.stepq (i := 4) (keep := [4, 8, 30, 31, 33, 34]) (m := 2) (σ' := ⟨[(4, .p 0 0), (8, .p 1 0), (30, .v (slv (b.mem).length q1.mem.1)), (31, .v (I ((f_at b g addr 2).1))), (33, .v (I (f_addrCell addr))), (34, .v (I v))], [[slv (b.mem).length q1.mem.1, slv (b.guests).length q1.guests.1, slv (b.outs).length q1.outs.1, I b.pend], Zc TBare]⟩) (.cons (Q_call fun w hw => c_spec_AddrCell w addr haddr) .nil) (by kernel_rfl) ?_
      clear S; intro ac w β S hβ
      refine WD.stay S hβ (fun _ _ h => h) ?_
      clear hβ
      refine WD.one (i := 6) (by kernel_rfl) ?_
      refine id (S.call1 (r := f_withCell b.mem ((f_at b g addr 2).1) (f_addrCell addr) v) (d := 35) (c_spec_WithCell w b.mem q1.mem (S.rd o6.rn) ((f_at b g addr 2).1) (f_addrCell addr) v hv) (by kernel_rfl) rfl ?_)
      clear S; intro ac w N q28 F29 S up o30 d31
      refine WD.next S up rfl ?_
      have d32 : Disj F5 F29 := fun b x y => d31 b (o6.sub b x) y
      have d33 : Disj F8 F29 := fun b x y => d31 b (o9.sub b x) y
      have d34 : Disj F11 F29 := fun b x y => d31 b (o12.sub b x) y
      replace o6 := o6.up up
      replace o9 := o9.up up
      replace o12 := o12.up up
      clear up d31
      refine S.hoist (i := 7) (path := [7]) (keep := [4, 8, 35, 36]) (m := 2) (σ' := ⟨[(4, .p 0 0), (8, .p 1 0), (35, .v (slv ((f_withCell b.mem ((f_at b g addr 2).1) (f_addrCell addr) v)).length q28.1)), (36, .p 0 0)], [[slv (b.mem).length q1.mem.1, slv (b.guests).length q1.guests.1, slv (b.outs).length q1.outs.1, I b.pend], Zc TBare]⟩) (by kernel_rfl) (by kernel_rfl) .nil (by kernel_rfl) ?_
      clear S; intro ac S
      refine WD.one (i := 8) (by kernel_rfl) ?_
      refine S.stepq (i := 8) (keep := [4, 8]) (m := 2) (σ' := ⟨[(4, .p 0 0), (8, .p 1 0)], [[slv ((f_withCell b.mem ((f_at b g addr 2).1) (f_addrCell addr) v)).length q28.1, slv (b.guests).length q1.guests.1, slv (b.outs).length q1.outs.1, I b.pend], Zc TBare]⟩) .nil (by kernel_rfl) ?_
      clear S; intro ac w β S hβ
      refine WD.last (by kernel_rfl) ?_
      clear hβ
      refine WD.done (by kernel_rfl) ?_ _
      replace S := S.p [4, 8] 2 ⟨[(4, .p 0 0), (8, .p 1 0)], [[slv ((f_withCell b.mem ((f_at b g addr 2).1) (f_addrCell addr) v)).length q28.1, slv (b.guests).length q1.guests.1, slv (b.outs).length q1.outs.1, I b.pend], Zc TBare]⟩
      refine id (nx_then (wp_seq (RG.start ?_)))
      refine S.q 3 [8, 9] 2 ⟨[(8, .p 1 0), (9, .v (B true))], [[slv ((f_withCell b.mem ((f_at b g addr 2).1) (f_addrCell addr) v)).length q28.1, slv (b.guests).length q1.guests.1, slv (b.outs).length q1.outs.1, I b.pend], [slv ((f_withCell b.mem ((f_at b g addr 2).1) (f_addrCell addr) v)).length q28.1, slv (b.guests).length q1.guests.1, slv (b.outs).length q1.outs.1, I b.pend]]⟩ .nil ?_; clear S; intro ac w β S
      refine RG.done rfl (nx_then (wp_ret ?_))
      refine S.r [GT.val (⟨(f_withCell b.mem ((f_at b g addr 2).1) (f_addrCell addr) v), b.guests, b.outs, b.pend⟩ : TBare) (⟨q28, q1.guests, q1.outs⟩ : PBare), B true] ?_
      have o35 := ow_Bare (x := (⟨(f_withCell b.mem ((f_at b g addr 2).1) (f_addrCell addr) v), b.guests, b.outs, b.pend⟩ : TBare)) (p := (⟨q28, q1.guests, q1.outs⟩ : PBare)) o30 o9 o12 (Disj.symm d33) (Disj.symm d34) d17 i14
      exact ret2_of (p' := ()) S (show (f_bareDma b g addr v).1 = (⟨(f_withCell b.mem ((f_at b g addr 2).1) (f_addrCell addr) v), b.guests, b.outs, b.pend⟩ : TBare) by clear S; (unfold f_bareDma; (repeat' split) <;> first | rfl | (exfalso; omega) | (exfalso; simp_all; done) | (exfalso; simp_all; omega) | (simp_all; done))) (show (f_bareDma b g addr v).2 = true by clear S; (unfold f_bareDma; (repeat' split) <;> first | rfl | (exfalso; omega) | (exfalso; simp_all; done) | (exfalso; simp_all; omega) | (simp_all; done))) rfl rfl o35 trivial

set_option maxRecDepth 100000 in
theorem c_impl_copyInts (w0 : World) (l : List Int) (pl : LP Int) (hl : GT.rd KK (Lt w0.heap.size) w0 l pl) : Calls Tryz.prog 45 [slv (l).length pl.1].toArray w0 (Ret1 NoB w0 (l : List Int)) := by
  refine Calls.walk (args := [slv (l).length pl.1]) NoB Tryz.func45 rfl rfl ?_
  intro ac β S
  have hlel : l.length ≤ 4194304 := LRd.le hl
  refine wp_seq (RG.start ?_)
  refine S.q 1 [0] 0 ⟨[(0, .v (slv (l).length pl.1))], []⟩ .nil ?_; clear S; intro ac w β S
  refine RG.done rfl (nx_then (wp_seq (RG.start ?_)))
  refine RG.op rfl (S.bs0 (α := Int) (d := 3) (by kernel_rfl) ?_)
  clear S; intro ac w N q1 F2 S up o3 d4
  clear up d4
  refine S.q 1 [3, 4] 0 ⟨[(3, .v (slv 0 q1.1)), (4, .v (slv (l).length pl.1))], []⟩ .nil ?_; clear S; intro ac w β S
  have b9 : (l).length ≤ 4194304 := LRd.le (S.arg hl)
  refine RG.op rfl (S.appFlat (α := Int) o3 ((S.arg hl)) (fun _ _ h => h) (by' := 8) (d := 5) (lx := 0) (ly := (l).length) rfl rfl (by kernel_rfl) (show _ ≤ 4194304 by simp only [List.length_append, List.length_cons, List.length_nil]; omega) ?_)
  clear S; intro ac w N q5 F6 S up o7 d8
  clear up d8
  refine S.q 1 [2] 0 ⟨[(2, .v (slv ((([] : List Int) ++ l)).length q5.1))], []⟩ .nil ?_; clear S; intro ac w β S
  refine RG.done rfl (nx_then (wp_ret ?_))
  refine S.r [slv ((([] : List Int) ++ l)).length q5.1] ?_
  exact ret1_of S (show l = (([] : List Int) ++ l) by clear S; simp) rfl o7

set_option maxRecDepth 100000 in
theorem c_impl_copyMem (w0 : World) (l : List (List Int)) (pl : LP (List Int)) (hl : GT.rd KK (Lt w0.heap.size) w0 l pl) : Calls Tryz.prog 43 [slv (l).length pl.1].toArray w0 (Ret1 NoB w0 (l : List (List Int))) := by
  refine Calls.walk (args := [slv (l).length pl.1]) NoB Tryz.func43 rfl rfl ?_
  intro ac β S
  have hlel : l.length ≤ 4194304 := LRd.le hl
  refine wp_seq (RG.start ?_)
  refine S.q 1 [0] 0 ⟨[(0, .v (slv (l).length pl.1))], []⟩ .nil ?_; clear S; intro ac w β S
  refine RG.done rfl (nx_then (wp_seq (RG.start ?_)))
  refine RG.op rfl (S.bs0 (α := List Int) (d := 6) (by kernel_rfl) ?_)
  clear S; intro ac w N q1 F2 S up o3 d4
  clear up d4
  refine S.q 1 [0, 3] 0 ⟨[(0, .v (slv (l).length pl.1)), (3, .v (slv 0 q1.1))], []⟩ .nil ?_; clear S; intro ac w β S
  refine RG.done rfl (nx_then (wp_seq (wp_seq (RG.start ?_))))
  refine S.q 3 [3, 7, 8, 9] 0 ⟨[(3, .v (slv 0 q1.1)), (7, .v (slv (l).length pl.1)), (8, .v (I ((l).length : Int))), (9, .v (I 0))], []⟩ .nil ?_; clear S; intro ac w β S
  refine RG.done rfl (nx_then (wp_block ?_))
  replace S := S.p [3, 7, 8, 9] 0 ⟨[(3, .v (slv 0 q1.1)), (7, .v (slv (l).length pl.1)), (8, .v (I ((l).length : Int))), (9, .v (I 0))], []⟩
  refine wp_loop_down (fun mm ac w => ∃ (k : Nat) (acc : List (List Int)) (q5 : GT.Ptr (List (List Int))) (F6 : Bl) (u : World) (N : Bl) (β : Nat → Nat), mm = (l).length - k ∧ (k ≤ (l).length) ∧ (acc = (l).take k) ∧ St Tryz.prog Tryz.f43.ntmps w0 NoB u N β ⟨[(3, .v (slv (acc).length q5.1)), (7, .v (slv (l).length pl.1)), (8, .v (I ((l).length : Int))), (9, .v (I (k : Int)))], []⟩ ac w ∧ Ow w0 NoB u N F6 acc q5) _ ⟨0, ([] : List (List Int)), q1, F2, _, _, _, rfl, (by first | omega | (simp; done) | (simp; omega)), (by simp), S.cast (by kernel_rfl), o3⟩ ?_
  clear S o3
  rintro mm ac w ⟨k, acc, q5, F6, u, N, β, rfl, hk, hacc, S, o7⟩
  have hlacc : acc.length = k := by rw [hacc]; simp; omega
  refine wp_seq (RG.start ?_)
  refine S.q 1 [3, 7, 8, 9, 10] 0 ⟨[(3, .v (slv (acc).length q5.1)), (7, .v (slv (l).length pl.1)), (8, .v (I ((l).length : Int))), (9, .v (I (k : Int))), (10, .v (B (decide ((k : Int) < ((l).length : Int)))))], []⟩ .nil ?_; clear S; intro ac w β S
  refine RG.done rfl (nx_then (wp_seq ?_))
  refine S.c (decide ((k : Int) < ((l).length : Int))) (fun h8 => ?_) (fun h8 => ?_)
  · have g9 : (k : Int) < ((l).length : Int) := of_decide_eq_true h8
    refine wp_skip (nx_then (wp_seq (wp_block (wp_seq (RG.start ?_)))))
    refine S.q 3 [3, 5, 7, 8, 9] 0 ⟨[(3, .v (slv (acc).length q5.1)), (5, .v (slv ((el l k)).length (pl.2 k).1)), (7, .v (slv (l).length pl.1)), (8, .v (I ((l).length : Int))), (9, .v (I (k : Int)))], []⟩ (.cons (Q_idx (S.arg hl) (l := (l).length) (k := k) (i := (k : Int)) rfl rfl (by omega) Tryz.underlying22 (by kernel_rfl)) (.cons (Q_el1 (S.arg hl) (t := 24) (k := k) (by omega) rfl (by kernel_rfl)) .nil)) ?_; clear S; intro ac w β S
    refine RG.done rfl (nx_then (RG.start ?_))
    refine S.q 2 [7, 8, 9, 13, 14] 0 ⟨[(7, .v (slv (l).length pl.1)), (8, .v (I ((l).length : Int))), (9, .v (I (k : Int))), (13, .v (slv (acc).length q5.1)), (14, .v (slv ((el l k)).length (pl.2 k).1))], []⟩ .nil ?_; clear S; intro ac w β S
    refine RG.op rfl (S.call1 (r := (el l k)) (d := 15) (c_impl_copyInts w (el l k) (pl.2 k) (S.rd (LRd.el (S.arg hl) k (by omega)))) (by kernel_rfl) rfl ?_)
    clear S; intro ac w N q10 F11 S up o12 d13
    have d14 : Disj F6 F11 := fun b x y => d13 b (o7.sub b x) y
    replace o7 := o7.up up
    clear up d13
    refine RG.op rfl (S.bs1 (α := List Int) (x := (el l k)) (p := q10) o12.own o12.sub o12.young (d := 16) (by kernel_rfl) ?_)
    clear S; intro ac w N q15 F16 S up o17 d18
    have d19 : Disj F6 F16 := d18 _ d14 o7.sub
    replace o7 := o7.up up
    clear up d18
    refine RG.op rfl (S.appOwn (α := List Int) o7 o17 d19 (by' := 24) (d := 17) (lx := (acc).length) (ly := 1) rfl rfl (by kernel_rfl) (show _ ≤ 4194304 by simp only [List.length_append, List.length_cons, List.length_nil]; omega) ?_)
    clear S; intro ac w N q20 F21 S up o22 d23
    clear up d23
    refine S.q 1 [3, 7, 8, 9] 0 ⟨[(3, .v (slv ((acc ++ [(el l k)])).length q20.1)), (7, .v (slv (l).length pl.1)), (8, .v (I ((l).length : Int))), (9, .v (I (k : Int)))], []⟩ .nil ?_; clear S; intro ac w β S
    refine RG.done rfl (nx_block (nx_then (RG.start ?_)))
    refine S.q 2 [3, 7, 8, 9] 0 ⟨[(3, .v (slv ((acc ++ [(el l k)])).length q20.1)), (7, .v (slv (l).length pl.1)), (8, .v (I ((l).length : Int))), (9, .v (I ((k : Int) + 1)))], []⟩ (.cons (Q_add (x := (k : Int)) (y := 1) ⟨by omega, by omega⟩) .nil) ?_; clear S; intro ac w β S
    refine RG.done rfl (nx_then ?_)
    replace S := S.p [3, 7, 8, 9] 0 ⟨[(3, .v (slv ((acc ++ [(el l k)])).length q20.1)), (7, .v (slv (l).length pl.1)), (8, .v (I ((l).length : Int))), (9, .v (I ((k : Int) + 1)))], []⟩
    refine ⟨(l).length - (k + 1), by omega, k + 1, (acc ++ [(el l k)]), q20, F21, _, _, _, rfl, ?_, ?_, S.cast (by kernel_rfl), o22⟩
    · clear S; first | omega | (simp [*]; done) | (simp [*]; omega)
    · clear S; (first | (rw [take_el (by omega), hacc]; done) | (rw [take_el (by omega), hacc]; simp; done))
  · have g24 : ¬ ((k : Int) < ((l).length : Int)) := of_decide_eq_false h8
    refine wp_exit (ex_then (ex_then (ex_hit (nx_then (wp_seq (RG.start ?_))))))
    refine S.q 2 [2] 0 ⟨[(2, .v (slv (acc).length q5.1))], []⟩ .nil ?_; clear S; intro ac w β S
    refine RG.done rfl (nx_then (wp_ret ?_))
    refine S.r [slv (acc).length q5.1] ?_
    exact ret1_of S (show l = acc by clear S; (rw [hacc, take_all (by omega)])) rfl o7

set_option maxRecDepth 100000 in
theorem c_impl_copyProg (w0 : World) (l : List TIns) (pl : LP TIns) (hl : GT.rd KK (Lt w0.heap.size) w0 l pl) : Calls Tryz.prog 84 [slv (l).length pl.1].toArray w0 (Ret1 NoB w0 (l : List TIns)) := by
  refine Calls.walk (args := [slv (l).length pl.1]) NoB Tryz.func84 rfl rfl ?_
  intro ac β S
  have hlel : l.length ≤ 4194304 := LRd.le hl
  refine wp_seq (RG.start ?_)
  refine S.q 1 [0] 0 ⟨[(0, .v (slv (l).length pl.1))], []⟩ .nil ?_; clear S; intro ac w β S
  refine RG.done rfl (nx_then (wp_seq (RG.start ?_)))
  refine RG.op rfl (S.bs0 (α := TIns) (d := 3) (by kernel_rfl) ?_)
  clear S; intro ac w N q1 F2 S up o3 d4
  clear up d4
  refine S.q 1 [3, 4] 0 ⟨[(3, .v (slv 0 q1.1)), (4, .v (slv (l).length pl.1))], []⟩ .nil ?_; clear S; intro ac w β S
  have b9 : (l).length ≤ 4194304 := LRd.le (S.arg hl)
  refine RG.op rfl (S.appFlat (α := TIns) o3 ((S.arg hl)) (fun _ _ h => h) (by' := 16) (d := 5) (lx := 0) (ly := (l).length) rfl rfl (by kernel_rfl) (show _ ≤ 4194304 by simp only [List.length_append, List.length_cons, List.length_nil]; omega) ?_)
  clear S; intro ac w N q5 F6 S up o7 d8
  clear up d8
  refine S.q 1 [2] 0 ⟨[(2, .v (slv ((([] : List TIns) ++ l)).length q5.1))], []⟩ .nil ?_; clear S; intro ac w β S
  refine RG.done rfl (nx_then (wp_ret ?_))
  refine S.r [slv ((([] : List TIns) ++ l)).length q5.1] ?_
  exact ret1_of S (show l = (([] : List TIns) ++ l) by clear S; simp) rfl o7

set_option maxRecDepth 100000 in
theorem c_impl_copyTable (w0 : World) (l : List TSlot) (pl : LP TSlot) (hl : GT.rd KK (Lt w0.heap.size) w0 l pl) : Calls Tryz.prog 85 [slv (l).length pl.1].toArray w0 (Ret1 NoB w0 (l : List TSlot)) := by
  refine Calls.walk (args := [slv (l).length pl.1]) NoB Tryz.func85 rfl rfl ?_
  intro ac β S
  have hlel : l.length ≤ 4194304 := LRd.le hl
  refine wp_seq (RG.start ?_)
  refine S.q 1 [0] 0 ⟨[(0, .v (slv (l).length pl.1))], []⟩ .nil ?_; clear S; intro ac w β S
  refine RG.done rfl (nx_then (wp_seq (RG.start ?_)))
  refine RG.op rfl (S.bs0 (α := TSlot) (d := 3) (by kernel_rfl) ?_)
  clear S; intro ac w N q1 F2 S up o3 d4
  clear up d4
  refine S.q 1 [3, 4] 0 ⟨[(3, .v (slv 0 q1.1)), (4, .v (slv (l).length pl.1))], []⟩ .nil ?_; clear S; intro ac w β S
  have b9 : (l).length ≤ 4194304 := LRd.le (S.arg hl)
  refine RG.op rfl (S.appFlat (α := TSlot) o3 ((S.arg hl)) (fun _ _ h => h) (by' := 16) (d := 5) (lx := 0) (ly := (l).length) rfl rfl (by kernel_rfl) (show _ ≤ 4194304 by simp only [List.length_append, List.length_cons, List.length_nil]; omega) ?_)
  clear S; intro ac w N q5 F6 S up o7 d8
  clear up d8
  refine S.q 1 [2] 0 ⟨[(2, .v (slv ((([] : List TSlot) ++ l)).length q5.1))], []⟩ .nil ?_; clear S; intro ac w β S
  refine RG.done rfl (nx_then (wp_ret ?_))
  refine S.r [slv ((([] : List TSlot) ++ l)).length q5.1] ?_
  exact ret1_of S (show l = (([] : List TSlot) ++ l) by clear S; simp) rfl o7

set_option maxRecDepth 100000 in
theorem c_impl_copyGuest (w0 : World) (g : TGuest) (pg : PGuest) (hg : GT.rd KK (Lt w0.heap.size) w0 g pg) : Calls Tryz.prog 67 [GT.val g pg].toArray w0 (Ret1 NoB w0 (g : TGuest)) := by
  refine Calls.walk (args := [GT.val g pg]) NoB Tryz.func67 rfl rfl ?_
  intro ac β S
  have hleg_prog : g.prog.length ≤ 4194304 := LRd.le (RGuest.prog (d := g) hg)
  have hleg_written : g.written.length ≤ 4194304 := LRd.le (RGuest.written (d := g) hg)
  have hleg_live : g.live.length ≤ 4194304 := LRd.le (RGuest.live (d := g) hg)
  have hleg_seen : g.seen.length ≤ 4194304 := LRd.le (RGuest.seen (d := g) hg)
  refine wp_seq (RG.start ?_)
  refine S.q 2 [1, 2] 2 ⟨[(1, .p 0 0), (2, .p 1 0)], [GT.cells g pg, Zc TGuest]⟩ .nil ?_; clear S; intro ac w β S
  refine RG.done rfl (nx_then (wp_seq (RG.start ?_)))
  refine S.q 2 [1, 2, 4] 2 ⟨[(1, .p 0 0), (2, .p 1 0), (4, .v (slv (g.prog).length pg.prog.1))], [GT.cells g pg, Zc TGuest]⟩ .nil ?_; clear S; intro ac w β S
  refine RG.op rfl (S.call1 (r := g.prog) (d := 5) (c_impl_copyProg w g.prog pg.prog (S.rd (RGuest.prog (d := g) (S.arg hg)))) (by kernel_rfl) rfl ?_)
  clear S; intro ac w N q1 F2 S up o3 d4
  clear up d4
  refine S.q 2 [1, 2] 2 ⟨[(1, .p 0 0), (2, .p 1 0)], [[slv (g.prog).length q1.1, I g.acc, I g.pc, slv (g.written).length pg.written.1, slv (g.live).length pg.live.1, I g.ctl.traps, I g.ctl.post, B g.ctl.opn, I g.pend, I g.exit.kind, I g.exit.page, B g.exit.wr, I g.exit.n, B g.halted, slv (g.seen).length pg.seen.1], Zc TGuest]⟩ .nil ?_; clear S; intro ac w β S
  refine RG.done rfl (nx_then (wp_seq (RG.start ?_)))
  refine S.q 2 [1, 2, 8] 2 ⟨[(1, .p 0 0), (2, .p 1 0), (8, .v (slv (g.written).length pg.written.1))], [[slv (g.prog).length q1.1, I g.acc, I g.pc, slv (g.written).length pg.written.1, slv (g.live).length pg.live.1, I g.ctl.traps, I g.ctl.post, B g.ctl.opn, I g.pend, I g.exit.kind, I g.exit.page, B g.exit.wr, I g.exit.n, B g.halted, slv (g.seen).length pg.seen.1], Zc TGuest]⟩ .nil ?_; clear S; intro ac w β S
  refine RG.op rfl (S.call1 (r := g.written) (d := 9) (c_impl_copyTable w g.written pg.written (S.rd (RGuest.written (d := g) (S.arg hg)))) (by kernel_rfl) rfl ?_)
  clear S; intro ac w N q5 F6 S up o7 d8
  have d9 : Disj F2 F6 := fun b x y => d8 b (o3.sub b x) y
  replace o3 := o3.up up
  clear up d8
  refine S.q 2 [1, 2] 2 ⟨[(1, .p 0 0), (2, .p 1 0)], [[slv (g.prog).length q1.1, I g.acc, I g.pc, slv (g.written).length q5.1, slv (g.live).length pg.live.1, I g.ctl.traps, I g.ctl.post, B g.ctl.opn, I g.pend, I g.exit.kind, I g.exit.page, B g.exit.wr, I g.exit.n, B g.halted, slv (g.seen).length pg.seen.1], Zc TGuest]⟩ .nil ?_; clear S; intro ac w β S
  refine RG.done rfl (nx_then (wp_seq (RG.start ?_)))
  refine S.q 2 [1, 2, 12] 2 ⟨[(1, .p 0 0), (2, .p 1 0), (12, .v (slv (g.live).length pg.live.1))], [[slv (g.prog).length q1.1, I g.acc, I g.pc, slv (g.written).length q5.1, slv (g.live).length pg.live.1, I g.ctl.traps, I g.ctl.post, B g.ctl.opn, I g.pend, I g.exit.kind, I g.exit.page, B g.exit.wr, I g.exit.n, B g.halted, slv (g.seen).length pg.seen.1], Zc TGuest]⟩ .nil ?_; clear S; intro ac w β S
  refine RG.op rfl (S.call1 (r := g.live) (d := 13) (c_impl_copyTable w g.live pg.live (S.rd (RGuest.live (d := g) (S.arg hg)))) (by kernel_rfl) rfl ?_)
  clear S; intro ac w N q10 F11 S up o12 d13
  have d14 : Disj F2 F11 := fun b x y => d13 b (o3.sub b x) y
  have d15 : Disj F6 F11 := fun b x y => d13 b (o7.sub b x) y
  replace o3 := o3.up up
  replace o7 := o7.up up
  clear up d13
  refine S.q 2 [1, 2] 2 ⟨[(1, .p 0 0), (2, .p 1 0)], [[slv (g.prog).length q1.1, I g.acc, I g.pc, slv (g.written).length q5.1, slv (g.live).length q10.1, I g.ctl.traps, I g.ctl.post, B g.ctl.opn, I g.pend, I g.exit.kind, I g.exit.page, B g.exit.wr, I g.exit.n, B g.halted, slv (g.seen).length pg.seen.1], Zc TGuest]⟩ .nil ?_; clear S; intro ac w β S
  refine RG.done rfl (nx_then (wp_seq (RG.start ?_)))
  refine S.q 2 [1, 2, 16] 2 ⟨[(1, .p 0 0), (2, .p 1 0), (16, .v (slv (g.seen).length pg.seen.1))], [[slv (g.prog).length q1.1, I g.acc, I g.pc, slv (g.written).length q5.1, slv (g.live).length q10.1, I g.ctl.traps, I g.ctl.post, B g.ctl.opn, I g.pend, I g.exit.kind, I g.exit.page, B g.exit.wr, I g.exit.n, B g.halted, slv (g.seen).length pg.seen.1], Zc TGuest]⟩ .nil ?_; clear S; intro ac w β S
  refine RG.op rfl (S.call1 (r := g.seen) (d := 17) (c_impl_copyInts w g.seen pg.seen (S.rd (RGuest.seen (d := g) (S.arg hg)))) (by kernel_rfl) rfl ?_)
  clear S; intro ac w N q16 F17 S up o18 d19
  have d20 : Disj F2 F17 := fun b x y => d19 b (o3.sub b x) y
  have d21 : Disj F6 F17 := fun b x y => d19 b (o7.sub b x) y
  have d22 : Disj F11 F17 := fun b x y => d19 b (o12.sub b x) y
  replace o3 := o3.up up
  replace o7 := o7.up up
  replace o12 := o12.up up
  clear up d19
  refine S.q 2 [1, 2] 2 ⟨[(1, .p 0 0), (2, .p 1 0)], [[slv (g.prog).length q1.1, I g.acc, I g.pc, slv (g.written).length q5.1, slv (g.live).length q10.1, I g.ctl.traps, I g.ctl.post, B g.ctl.opn, I g.pend, I g.exit.kind, I g.exit.page, B g.exit.wr, I g.exit.n, B g.halted, slv (g.seen).length q16.1], Zc TGuest]⟩ .nil ?_; clear S; intro ac w β S
  refine RG.done rfl (nx_then (wp_seq (RG.start ?_)))
  refine S.q 2 [2] 2 ⟨[(2, .p 1 0)], [[slv (g.prog).length q1.1, I g.acc, I g.pc, slv (g.written).length q5.1, slv (g.live).length q10.1, I g.ctl.traps, I g.ctl.post, B g.ctl.opn, I g.pend, I g.exit.kind, I g.exit.page, B g.exit.wr, I g.exit.n, B g.halted, slv (g.seen).length q16.1], [slv (g.prog).length q1.1, I g.acc, I g.pc, slv (g.written).length q5.1, slv (g.live).length q10.1, I g.ctl.traps, I g.ctl.post, B g.ctl.opn, I g.pend, I g.exit.kind, I g.exit.page, B g.exit.wr, I g.exit.n, B g.halted, slv (g.seen).length q16.1]]⟩ .nil ?_; clear S; intro ac w β S
  refine RG.done rfl (nx_then (wp_ret ?_))
  refine S.r [GT.val (⟨g.prog, g.acc, g.pc, g.written, g.live, g.ctl, g.pend, g.exit, g.halted, g.seen⟩ : TGuest) (⟨q1, q5, q10, q16⟩ : PGuest)] ?_
  have o23 := ow_Guest (x := (⟨g.prog, g.acc, g.pc, g.written, g.live, g.ctl, g.pend, g.exit, g.halted, g.seen⟩ : TGuest)) (p := (⟨q1, q5, q10, q16⟩ : PGuest)) o3 o7 o12 o18 d9 d14 d20 d15 d21 d22 (RGuest.acc (d := g) (S.arg hg)) (RGuest.pc (d := g) (S.arg hg)) (RGuest.ctl (d := g) (S.arg hg)) (RGuest.pend (d := g) (S.arg hg)) (RGuest.exit (d := g) (S.arg hg))
  exact ret1_of S (show g = (⟨g.prog, g.acc, g.pc, g.written, g.live, g.ctl, g.pend, g.exit, g.halted, g.seen⟩ : TGuest) by clear S; (first | rfl | simp)) rfl o23

set_option maxRecDepth 100000 in
theorem c_impl_copyGuests (w0 : World) (l : List TGuest) (pl : LP TGuest) (hl : GT.rd KK (Lt w0.heap.size) w0 l pl) : Calls Tryz.prog 44 [slv (l).length pl.1].toArray w0 (Ret1 NoB w0 (l : List TGuest)) := by
  refine Calls.walk (args := [slv (l).length pl.1]) NoB Tryz.func44 rfl rfl ?_
  intro ac β S
  have hlel : l.length ≤ 4194304 := LRd.le hl
  refine wp_seq (RG.start ?_)
  refine S.q 1 [0] 0 ⟨[(0, .v (slv (l).length pl.1))], []⟩ .nil ?_; clear S; intro ac w β S
  refine RG.done rfl (nx_then (wp_seq (RG.start ?_)))
  refine RG.op rfl (S.bs0 (α := TGuest) (d := 6) (by kernel_rfl) ?_)
  clear S; intro ac w N q1 F2 S up o3 d4
  clear up d4
  refine S.q 1 [0, 3] 0 ⟨[(0, .v (slv (l).length pl.1)), (3, .v (slv 0 q1.1))], []⟩ .nil ?_; clear S; intro ac w β S
  refine RG.done rfl (nx_then (wp_seq (wp_seq (RG.start ?_))))
  refine S.q 3 [3, 7, 8, 9] 0 ⟨[(3, .v (slv 0 q1.1)), (7, .v (slv (l).length pl.1)), (8, .v (I ((l).length : Int))), (9, .v (I 0))], []⟩ .nil ?_; clear S; intro ac w β S
  refine RG.done rfl (nx_then (wp_block ?_))
  replace S := S.p [3, 7, 8, 9] 0 ⟨[(3, .v (slv 0 q1.1)), (7, .v (slv (l).length pl.1)), (8, .v (I ((l).length : Int))), (9, .v (I 0))], []⟩
  refine wp_loop_down (fun mm ac w => ∃ (k : Nat) (acc : List TGuest) (q5 : GT.Ptr (List TGuest)) (F6 : Bl) (u : World) (N : Bl) (β : Nat → Nat), mm = (l).length - k ∧ (k ≤ (l).length) ∧ (acc = (l).take k) ∧ St Tryz.prog Tryz.f44.ntmps w0 NoB u N β ⟨[(3, .v (slv (acc).length q5.1)), (7, .v (slv (l).length pl.1)), (8, .v (I ((l).length : Int))), (9, .v (I (k : Int)))], []⟩ ac w ∧ Ow w0 NoB u N F6 acc q5) _ ⟨0, ([] : List TGuest), q1, F2, _, _, _, rfl, (by first | omega | (simp; done) | (simp; omega)), (by simp), S.cast (by kernel_rfl), o3⟩ ?_
  clear S o3
  rintro mm ac w ⟨k, acc, q5, F6, u, N, β, rfl, hk, hacc, S, o7⟩
  have hlacc : acc.length = k := by rw [hacc]; simp; omega
  refine wp_seq (RG.start ?_)
  refine S.q 1 [3, 7, 8, 9, 10] 0 ⟨[(3, .v (slv (acc).length q5.1)), (7, .v (slv (l).length pl.1)), (8, .v (I ((l).length : Int))), (9, .v (I (k : Int))), (10, .v (B (decide ((k : Int) < ((l).length : Int)))))], []⟩ .nil ?_; clear S; intro ac w β S
  refine RG.done rfl (nx_then (wp_seq ?_))
  refine S.c (decide ((k : Int) < ((l).length : Int))) (fun h8 => ?_) (fun h8 => ?_)
  · have g9 : (k : Int) < ((l).length : Int) := of_decide_eq_true h8
    refine wp_skip (nx_then (wp_seq (wp_block (wp_seq (RG.start ?_)))))
    refine S.q 4 [3, 5, 7, 8, 9] 1 ⟨[(3, .v (slv (acc).length q5.1)), (5, .p 0 0), (7, .v (slv (l).length pl.1)), (8, .v (I ((l).length : Int))), (9, .v (I (k : Int)))], [GT.cells (el l k) (pl.2 k)]⟩ (.cons (Q_idx (S.arg hl) (l := (l).length) (k := k) (i := (k : Int)) rfl rfl (by omega) Tryz.underlying28 (by kernel_rfl)) (.cons (Q_el (S.arg hl) (t := 72) (k := k) (by omega) rfl (by kernel_rfl) (by kernel_rfl)) .nil)) ?_; clear S; intro ac w β S
    refine RG.done rfl (nx_then (RG.start ?_))
    refine S.q 2 [7, 8, 9, 13, 14] 0 ⟨[(7, .v (slv (l).length pl.1)), (8, .v (I ((l).length : Int))), (9, .v (I (k : Int))), (13, .v (slv (acc).length q5.1)), (14, .v (GT.val (el l k) (pl.2 k)))], []⟩ .nil ?_; clear S; intro ac w β S
    refine RG.op rfl (S.call1 (r := (el l k)) (d := 15) (c_impl_copyGuest w (el l k) (pl.2 k) (S.rd (LRd.el (S.arg hl) k (by omega)))) (by kernel_rfl) rfl ?_)
    clear S; intro ac w N q10 F11 S up o12 d13
    have d14 : Disj F6 F11 := fun b x y => d13 b (o7.sub b x) y
    replace o7 := o7.up up
    clear up d13
    have i18 : In64 (el l k).acc := RGuest.acc (d := (el l k)) o12.rn
    have i19 : In64 (el l k).pc := RGuest.pc (d := (el l k)) o12.rn
    have i26 : RCtl (el l k).ctl := RGuest.ctl (d := (el l k)) o12.rn
    have i27 : In64 (el l k).pend := RGuest.pend (d := (el l k)) o12.rn
    have i28 : RExit (el l k).exit := RGuest.exit (d := (el l k)) o12.rn
    obtain ⟨F15, F20, F23, F29, o16, o21, o24, o30, s17, s22, s25, s31, d32, d33, d34, d35, d36, d37⟩ := sp_Guest o12
    have o42 := ow_Guest (x := (el l k)) (p := q10) o16 o21 o24 o30 d32 d33 d34 d35 d36 d37 i18 i19 i26 i27 i28
    refine RG.op rfl (S.bs1 (α := TGuest) (x := (el l k)) (p := q10) o42.own o42.sub o42.young (d := 16) (by kernel_rfl) ?_)
    clear S; intro ac w N q38 F39 S up o40 d41
    have d43 : Disj F6 F39 := d41 _ (Disj.symm (Disj.or (Disj.part (Disj.symm d14) s17) (Disj.or (Disj.part (Disj.symm d14) s22) (Disj.or (Disj.part (Disj.symm d14) s25) (Disj.or (Disj.part (Disj.symm d14) s31) Disj.nob))))) o7.sub
    replace o7 := o7.up up
    clear up d41
    refine RG.op rfl (S.appOwn (α := TGuest) o7 o40 d43 (by' := 184) (d := 17) (lx := (acc).length) (ly := 1) rfl rfl (by kernel_rfl) (show _ ≤ 4194304 by simp only [List.length_append, List.length_cons, List.length_nil]; omega) ?_)
    clear S; intro ac w N q44 F45 S up o46 d47
    clear up d47
    refine S.q 1 [3, 7, 8, 9] 0 ⟨[(3, .v (slv ((acc ++ [(el l k)])).length q44.1)), (7, .v (slv (l).length pl.1)), (8, .v (I ((l).length : Int))), (9, .v (I (k : Int)))], []⟩ .nil ?_; clear S; intro ac w β S
    refine RG.done rfl (nx_block (nx_then (RG.start ?_)))
    refine S.q 2 [3, 7, 8, 9] 0 ⟨[(3, .v (slv ((acc ++ [(el l k)])).length q44.1)), (7, .v (slv (l).length pl.1)), (8, .v (I ((l).length : Int))), (9, .v (I ((k : Int) + 1)))], []⟩ (.cons (Q_add (x := (k : Int)) (y := 1) ⟨by omega, by omega⟩) .nil) ?_; clear S; intro ac w β S
    refine RG.done rfl (nx_then ?_)
    replace S := S.p [3, 7, 8, 9] 0 ⟨[(3, .v (slv ((acc ++ [(el l k)])).length q44.1)), (7, .v (slv (l).length pl.1)), (8, .v (I ((l).length : Int))), (9, .v (I ((k : Int) + 1)))], []⟩
    refine ⟨(l).length - (k + 1), by omega, k + 1, (acc ++ [(el l k)]), q44, F45, _, _, _, rfl, ?_, ?_, S.cast (by kernel_rfl), o46⟩
    · clear S; first | omega | (simp [*]; done) | (simp [*]; omega)
    · clear S; (first | (rw [take_el (by omega), hacc]; done) | (rw [take_el (by omega), hacc]; simp; done))
  · have g48 : ¬ ((k : Int) < ((l).length : Int)) := of_decide_eq_false h8
    refine wp_exit (ex_then (ex_then (ex_hit (nx_then (wp_seq (RG.start ?_))))))
    refine S.q 2 [2] 0 ⟨[(2, .v (slv (acc).length q5.1))], []⟩ .nil ?_; clear S; intro ac w β S
    refine RG.done rfl (nx_then (wp_ret ?_))
    refine S.r [slv (acc).length q5.1] ?_
    exact ret1_of S (show l = acc by clear S; (rw [hacc, take_all (by omega)])) rfl o7

set_option maxRecDepth 100000 in
theorem c_impl_copyBare (w0 : World) (b : TBare) (pb : PBare) (hb : GT.rd KK (Lt w0.heap.size) w0 b pb) : Calls Tryz.prog 22 [GT.val b pb].toArray w0 (Ret1 NoB w0 (b : TBare)) := by
  refine Calls.walk (args := [GT.val b pb]) NoB Tryz.func22 rfl rfl ?_
  intro ac β S
  have hleb_mem : b.mem.length ≤ 4194304 := LRd.le (RBare.mem (d := b) hb)
  have hleb_guests : b.guests.length ≤ 4194304 := LRd.le (RBare.guests (d := b) hb)
  have hleb_outs : b.outs.length ≤ 4194304 := LRd.le (RBare.outs (d := b) hb)
  refine wp_seq (RG.start ?_)
  refine S.q 2 [1, 2] 2 ⟨[(1, .p 0 0), (2, .p 1 0)], [GT.cells b pb, Zc TBare]⟩ .nil ?_; clear S; intro ac w β S
  refine RG.done rfl (nx_then (wp_seq ?_))
  refine S.draw0 (f := 13) 12 rfl rfl ?_
  clear S; intro w S
  refine S.hoist (i := 0) (path := [0]) (keep := [1, 2, 3]) (m := 2) (σ' := ⟨[(1, .p 0 0), (2, .p 1 0), (3, .p 0 0)], [GT.cells b pb, Zc TBare]⟩) (by kernel_rfl) (by kernel_rfl) .nil (by kernel_rfl) ?_
  clear S; intro ac S
  refine S.hoist (i := 1) (path := [1]) (keep := [1, 2, 4]) (m := 2) (σ' := ⟨[(1, .p 0 0), (2, .p 1 0), (4, .v (slv (b.mem).length pb.mem.1))], [GT.cells b pb, Zc TBare]⟩) (by kernel_rfl) (by kernel_rfl) .nil (by kernel_rfl) ?_
  clear S; intro ac S
  refine S.hoist (i := 3) (path := [3]) (keep := [1, 2, 4, 6]) (m := 2) (σ' := ⟨[(1, .p 0 0), (2, .p 1 0), (4, .v (slv (b.mem).length pb.mem.1)), (6, .p 0 1)], [GT.cells b pb, Zc TBare]⟩) (by kernel_rfl) (by kernel_rfl) .nil (by kernel_rfl) ?_
  clear S; intro ac S
  refine S.hoist (i := 4) (path := [4]) (keep := [1, 2, 4, 7]) (m := 2) (σ' := ⟨[(1, .p 0 0), (2, .p 1 0), (4, .v (slv (b.mem).length pb.mem.1)), (7, .v (slv (b.guests).length pb.guests.1))], [GT.cells b pb, Zc TBare]⟩) (by kernel_rfl) (by kernel_rfl) .nil (by kernel_rfl) ?_
  clear S; intro ac S
  refine S.hoist (i := 6) (path := [6]) (keep := [1, 2, 4, 7, 9]) (m := 2) (σ' := ⟨[(1, .p 0 0), (2, .p 1 0), (4, .v (slv (b.mem).length pb.mem.1)), (7, .v (slv (b.guests).length pb.guests.1)), (9, .p 0 2)], [GT.cells b pb, Zc TBare]⟩) (by kernel_rfl) (by kernel_rfl) .nil (by kernel_rfl) ?_
  clear S; intro ac S
  refine S.hoist (i := 7) (path := [7]) (keep := [1, 2, 4, 7, 10]) (m := 2) (σ' := ⟨[(1, .p 0 0), (2, .p 1 0), (4, .v (slv (b.mem).length pb.mem.1)), (7, .v (slv (b.guests).length pb.guests.1)), (10, .v (slv (b.outs).length pb.outs.1))], [GT.cells b pb, Zc TBare]⟩) (by kernel_rfl) (by kernel_rfl) .nil (by kernel_rfl) ?_
  clear S; intro ac S
  refine S.hoist (i := 9) (path := [9]) (keep := [2, 4, 7, 10, 12]) (m := 2) (σ' := ⟨[(2, .p 1 0), (4, .v (slv (b.mem).length pb.mem.1)), (7, .v (slv (b.guests).length pb.guests.1)), (10, .v (slv (b.outs).length pb.outs.1)), (12, .p 0 3)], [GT.cells b pb, Zc TBare]⟩) (by kernel_rfl) (by kernel_rfl) .nil (by kernel_rfl) ?_
  clear S; intro ac S
  refine S.hoist (i := 10) (path := [10]) (keep := [2, 4, 7, 10, 13]) (m := 2) (σ' := ⟨[(2, .p 1 0), (4, .v (slv (b.mem).length pb.mem.1)), (7, .v (slv (b.guests).length pb.guests.1)), (10, .v (slv (b.outs).length pb.outs.1)), (13, .v (I b.pend))], [GT.cells b pb, Zc TBare]⟩) (by kernel_rfl) (by kernel_rfl) .nil (by kernel_rfl) ?_
  clear S; intro ac S
  refine WD.one (i := 2) (by kernel_rfl) ?_
  refine id (S.call1 (r := b.mem) (d := 5) (c_impl_copyMem w b.mem pb.mem (S.rd (RBare.mem (d := b) (S.arg hb)))) (by kernel_rfl) rfl ?_)
  clear S; intro ac w N q1 F2 S up o3 d4
  refine WD.next S up rfl ?_
  clear up d4
  refine WD.one (i := 5) (by kernel_rfl) ?_
  refine id (S.call1 (r := b.guests) (d := 8) (c_impl_copyGuests w b.guests pb.guests (S.rd (RBare.guests (d := b) (S.arg hb)))) (by kernel_rfl) rfl ?_)
  clear S; intro ac w N q5 F6 S up o7 d8
  refine WD.next S up rfl ?_
  have d9 : Disj F2 F6 := fun b x y => d8 b (o3.sub b x) y
  replace o3 := o3.up up
  clear up d8
  refine WD.one (i := 8) (by kernel_rfl) ?_
  refine id (S.call1 (r := b.outs) (d := 11) (c_impl_copyInts w b.outs pb.outs (S.rd (RBare.outs (d := b) (S.arg hb)))) (by kernel_rfl) rfl ?_)
  clear S; intro ac w N q10 F11 S up o12 d13
  refine WD.next S up rfl ?_
  have d14 : Disj F2 F11 := fun b x y => d13 b (o3.sub b x) y
  have d15 : Disj F6 F11 := fun b x y => d13 b (o7.sub b x) y
  replace o3 := o3.up up
  replace o7 := o7.up up
  clear up d13
  refine S.hoist (i := 11) (path := [11]) (keep := [2, 14]) (m := 2) (σ' := ⟨[(2, .p 1 0), (14, .v (GT.val (⟨b.mem, b.guests, b.outs, b.pend⟩ : TBare) (⟨q1, q5, q10⟩ : PBare)))], [GT.cells b pb, Zc TBare]⟩) (by kernel_rfl) (by kernel_rfl) (.cons (Q_sem (s := Instr.build 30 [(0, slv (b.mem).length q1.1), (1, slv (b.guests).length q5.1), (2, slv (b.outs).length q10.1), (3, I b.pend)].toArray) (v := .agg [slv (b.mem).length q1.1, slv (b.guests).length q5.1, slv (b.outs).length q10.1, I b.pend].toArray) (fun w => by kernel_rfl)) .nil) (by kernel_rfl) ?_
  clear S; intro ac S
  refine WD.one (i := 12) (by kernel_rfl) ?_
  refine S.stepq (i := 12) (keep := [2]) (m := 2) (σ' := ⟨[(2, .p 1 0)], [GT.cells b pb, [slv (b.mem).length q1.1, slv (b.guests).length q5.1, slv (b.outs).length q10.1, I b.pend]]⟩) .nil (by kernel_rfl) ?_
  clear S; intro ac w β S hβ
  refine WD.last (by kernel_rfl) ?_
  clear hβ
  refine WD.done (by kernel_rfl) ?_ _
  replace S := S.p [2] 2 ⟨[(2, .p 1 0)], [GT.cells b pb, [slv (b.mem).length q1.1, slv (b.guests).length q5.1, slv (b.outs).length q10.1, I b.pend]]⟩
  refine id (nx_then (wp_ret ?_))
  refine S.r [GT.val (⟨b.mem, b.guests, b.outs, b.pend⟩ : TBare) (⟨q1, q5, q10⟩ : PBare)] ?_
  have o16 := ow_Bare (x := (⟨b.mem, b.guests, b.outs, b.pend⟩ : TBare)) (p := (⟨q1, q5, q10⟩ : PBare)) o3 o7 o12 d9 d14 d15 (RBare.pend (d := b) (S.arg hb))
  exact ret1_of S (show b = (⟨b.mem, b.guests, b.outs, b.pend⟩ : TBare) by clear S; (first | rfl | simp)) rfl o16

set_option maxRecDepth 100000 in
theorem c_impl_has (w0 : World) (k : Int) (length : Int) (pre0 : -9223372036854775808 < length) : Calls Tryz.prog 51 [I k, I length].toArray w0 (fun e w' => e = .returned (B (f_within k 0 (length - 1))) ∧ Chg NoB w0 w') := by
  refine Calls.walk (args := [I k, I length]) NoB Tryz.func51 rfl rfl ?_
  intro ac β S
  refine wp_seq (RG.start ?_)
  refine S.q 1 [0, 1] 0 ⟨[(0, .v (I k)), (1, .v (I length))], []⟩ .nil ?_; clear S; intro ac w β S
  refine RG.done rfl (nx_then (wp_seq (RG.start ?_)))
  refine S.q 3 [0, 1, 7] 0 ⟨[(0, .v (I k)), (1, .v (I length)), (7, .v (B (decide (k ≥ 0))))], []⟩ .nil ?_; clear S; intro ac w β S
  rcases Bool.eq_false_or_eq_true (decide (k ≥ 0)) with h1 | h1 <;> rw [h1] at S
  · have g2 : k ≥ 0 := of_decide_eq_true h1
    refine S.q 5 [4] 0 ⟨[(4, .v (B (decide (k < length))))], []⟩ .nil ?_; clear S; intro ac w β S
    refine RG.done rfl (nx_then (wp_ret ?_))
    refine S.r [B (decide (k < length))] ?_
    exact ⟨retB (by clear S; (rw [Bool.eq_iff_iff]; simp [f_within]; omega)), S.chg⟩
  · have g3 : ¬ (k ≥ 0) := of_decide_eq_false h1
    refine S.q 5 [4] 0 ⟨[(4, .v (B false))], []⟩ .nil ?_; clear S; intro ac w β S
    refine RG.done rfl (nx_then (wp_ret ?_))
    refine S.r [B false] ?_
    exact ⟨retB (by clear S; (rw [Bool.eq_iff_iff]; simp [f_within]; omega)), S.chg⟩

set_option maxRecDepth 100000 in
theorem c_impl_GuestAt (w0 : World) (b : TBare) (pb : PBare) (hb : GT.rd KK (Lt w0.heap.size) w0 b pb) (g : Int) : Calls Tryz.prog 46 [GT.val b pb, I g].toArray w0 (Ret2 NoB w0 ((f_guestAt b g).1 : TGuest) ((f_guestAt b g).2 : Bool)) := by
  refine Calls.walk (args := [GT.val b pb, I g]) NoB Tryz.func46 rfl rfl ?_
  intro ac β S
  have hleb_mem : b.mem.length ≤ 4194304 := LRd.le (RBare.mem (d := b) hb)
  have hleb_guests : b.guests.length ≤ 4194304 := LRd.le (RBare.guests (d := b) hb)
  have hleb_outs : b.outs.length ≤ 4194304 := LRd.le (RBare.outs (d := b) hb)
  refine wp_seq (RG.start ?_)
  refine S.q 3 [1, 2, 4] 2 ⟨[(1, .v (I g)), (2, .p 0 0), (4, .p 1 0)], [GT.cells b pb, Zc TGuest]⟩ .nil ?_; clear S; intro ac w β S
  refine RG.done rfl (nx_then (wp_seq (wp_seq (RG.start ?_))))
  refine S.q 6 [1, 2, 4, 11] 2 ⟨[(1, .v (I g)), (2, .p 0 0), (4, .p 1 0), (11, .v (B (!(f_within g 0 (((b.guests).length : Int) - 1)))))], [GT.cells b pb, Zc TGuest]⟩ (.cons (Q_call fun w hw => c_impl_has w g ((b.guests).length : Int) (by omega)) .nil) ?_; clear S; intro ac w β S
  refine RG.done rfl (nx_then ?_)
  refine S.c (!(f_within g 0 (((b.guests).length : Int) - 1))) (fun h1 => ?_) (fun h1 => ?_)
  · have h2 : (f_within g 0 (((b.guests).length : Int) - 1)) = false := not_t h1
    have g3 := within_f h2
    refine wp_seq (RG.start ?_)
    refine S.q 3 [4, 5] 2 ⟨[(4, .p 1 0), (5, .v (B false))], [GT.cells b pb, [slv (([] : List TIns)).length (GT.pdflt (α := List TIns)).1, I 0, I 0, slv (([] : List TSlot)).length (GT.pdflt (α := List TSlot)).1, slv (([] : List TSlot)).length (GT.pdflt (α := List TSlot)).1, I 0, I 0, B false, I 0, I 0, I 0, B false, I 0, B false, slv (([] : List Int)).length (GT.pdflt (α := List Int)).1]]⟩ (.cons (Q_sem (s := Instr.build 72 [].toArray) (v := .agg [slv (([] : List TIns)).length (GT.pdflt (α := List TIns)).1, I 0, I 0, slv (([] : List TSlot)).length (GT.pdflt (α := List TSlot)).1, slv (([] : List TSlot)).length (GT.pdflt (α := List TSlot)).1, I 0, I 0, B false, I 0, I 0, I 0, B false, I 0, B false, slv (([] : List Int)).length (GT.pdflt (α := List Int)).1].toArray) (fun w => by kernel_rfl)) .nil) ?_; clear S; intro ac w β S
    refine RG.done rfl (nx_then (wp_ret (rt_then ?_)))
    refine S.r [GT.val (⟨([] : List TIns), 0, 0, ([] : List TSlot), ([] : List TSlot), (⟨0, 0, false⟩ : TCtl), 0, (⟨0, 0, false, 0⟩ : TExit), false, ([] : List Int)⟩ : TGuest) (⟨(GT.pdflt (α := List TIns)), (GT.pdflt (α := List TSlot)), (GT.pdflt (α := List TSlot)), (GT.pdflt (α := List Int))⟩ : PGuest), B false] ?_
    have o4 := S.nilOw (α := TIns)
    have o5 := S.nilOw (α := TSlot)
    have o6 := S.nilOw (α := TSlot)
    have o7 := S.nilOw (α := Int)
    have o8 := ow_Guest (x := (⟨([] : List TIns), 0, 0, ([] : List TSlot), ([] : List TSlot), (⟨0, 0, false⟩ : TCtl), 0, (⟨0, 0, false, 0⟩ : TExit), false, ([] : List Int)⟩ : TGuest)) (p := (⟨(GT.pdflt (α := List TIns)), (GT.pdflt (α := List TSlot)), (GT.pdflt (α := List TSlot)), (GT.pdflt (α := List Int))⟩ : PGuest)) o4 o5 o6 o7 (fun b _ h => False.elim h) (fun b _ h => False.elim h) (fun b _ h => False.elim h) (fun b _ h => False.elim h) (fun b _ h => False.elim h) (fun b _ h => False.elim h) (show In64 0 from ⟨by decide, by decide⟩) (show In64 0 from ⟨by decide, by decide⟩) (show RCtl (⟨0, 0, false⟩ : TCtl) from ⟨(show In64 0 from ⟨by decide, by decide⟩), (show In64 0 from ⟨by decide, by decide⟩)⟩) (show In64 0 from ⟨by decide, by decide⟩) (show RExit (⟨0, 0, false, 0⟩ : TExit) from ⟨(show In64 0 from ⟨by decide, by decide⟩), (show In64 0 from ⟨by decide, by decide⟩), (show In64 0 from ⟨by decide, by decide⟩)⟩)
    exact ret2_of (p' := ()) S (show (f_guestAt b g).1 = (⟨([] : List TIns), 0, 0, ([] : List TSlot), ([] : List TSlot), (⟨0, 0, false⟩ : TCtl), 0, (⟨0, 0, false, 0⟩ : TExit), false, ([] : List Int)⟩ : TGuest) by clear S; (first | (unfold f_guestAt; rw [if_pos (by omega)]; done) | (unfold f_guestAt; rw [if_pos (by omega)]; first | rfl | (simp; done)) | (unfold f_guestAt; rw [if_neg (by omega)]; done) | (unfold f_guestAt; rw [if_neg (by omega)]; first | rfl | (simp; done)))) (show (f_guestAt b g).2 = false by clear S; (first | (unfold f_guestAt; rw [if_pos (by omega)]; done) | (unfold f_guestAt; rw [if_pos (by omega)]; first | rfl | (simp; done)) | (unfold f_guestAt; rw [if_neg (by omega)]; done) | (unfold f_guestAt; rw [if_neg (by omega)]; first | rfl | (simp; done)))) rfl rfl o8 trivial
  · have h9 : (f_within g 0 (((b.guests).length : Int) - 1)) = true := not_f h1
    have g10 := within_t h9
    refine wp_skip (nx_then (wp_seq (RG.start ?_)))
    refine S.q 5 [4, 17] 2 ⟨[(4, .p 1 0), (17, .v (GT.val (el b.guests ((g).toNat)) (pb.guests.2 ((g).toNat))))], [GT.cells b pb, Zc TGuest]⟩ (.cons (Q_idx (RBare.guests (d := b) (S.arg hb)) (l := (b.guests).length) (k := (g).toNat) (i := g) rfl (by omega) (by omega) Tryz.underlying28 (by kernel_rfl)) (.cons (Q_el (RBare.guests (d := b) (S.arg hb)) (t := 72) (k := (g).toNat) (by omega) rfl (by kernel_rfl) (by kernel_rfl)) .nil)) ?_; clear S; intro ac w β S
    refine RG.op rfl (S.call1 (r := (el b.guests ((g).toNat))) (d := 18) (c_impl_copyGuest w (el b.guests ((g).toNat)) (pb.guests.2 ((g).toNat)) (S.rd (LRd.el (RBare.guests (d := b) (S.arg hb)) ((g).toNat) (by omega)))) (by kernel_rfl) rfl ?_)
    clear S; intro ac w N q11 F12 S up o13 d14
    clear up d14
    have i18 : In64 (el b.guests ((g).toNat)).acc := RGuest.acc (d := (el b.guests ((g).toNat))) o13.rn
    have i19 : In64 (el b.guests ((g).toNat)).pc := RGuest.pc (d := (el b.guests ((g).toNat))) o13.rn
    have i26 : RCtl (el b.guests ((g).toNat)).ctl := RGuest.ctl (d := (el b.guests ((g).toNat))) o13.rn
    have i27 : In64 (el b.guests ((g).toNat)).pend := RGuest.pend (d := (el b.guests ((g).toNat))) o13.rn
    have i28 : RExit (el b.guests ((g).toNat)).exit := RGuest.exit (d := (el b.guests ((g).toNat))) o13.rn
    obtain ⟨F15, F20, F23, F29, o16, o21, o24, o30, s17, s22, s25, s31, d32, d33, d34, d35, d36, d37⟩ := sp_Guest o13
    refine S.q 2 [4, 5] 2 ⟨[(4, .p 1 0), (5, .v (B true))], [GT.cells b pb, [slv ((el b.guests ((g).toNat)).prog).length q11.prog.1, I ((el b.guests ((g).toNat)).acc), I ((el b.guests ((g).toNat)).pc), slv ((el b.guests ((g).toNat)).written).length q11.written.1, slv ((el b.guests ((g).toNat)).live).length q11.live.1, I (((el b.guests ((g).toNat)).ctl).traps), I (((el b.guests ((g).toNat)).ctl).post), B (((el b.guests ((g).toNat)).ctl).opn), I ((el b.guests ((g).toNat)).pend), I (((el b.guests ((g).toNat)).exit).kind), I (((el b.guests ((g).toNat)).exit).page), B (((el b.guests ((g).toNat)).exit).wr), I (((el b.guests ((g).toNat)).exit).n), B ((el b.guests ((g).toNat)).halted), slv ((el b.guests ((g).toNat)).seen).length q11.seen.1]]⟩ .nil ?_; clear S; intro ac w β S
    refine RG.done rfl (nx_then (wp_ret ?_))
    refine S.r [GT.val (el b.guests ((g).toNat)) q11, B true] ?_
    have o38 := ow_Guest (x := (el b.guests ((g).toNat))) (p := q11) o16 o21 o24 o30 d32 d33 d34 d35 d36 d37 i18 i19 i26 i27 i28
    exact ret2_of (p' := ()) S (show (f_guestAt b g).1 = (el b.guests ((g).toNat)) by clear S; (first | (unfold f_guestAt; rw [if_pos (by omega)]; done) | (unfold f_guestAt; rw [if_pos (by omega)]; first | rfl | (simp; done)) | (unfold f_guestAt; rw [if_neg (by omega)]; done) | (unfold f_guestAt; rw [if_neg (by omega)]; first | rfl | (simp; done)))) (show (f_guestAt b g).2 = true by clear S; (first | (unfold f_guestAt; rw [if_pos (by omega)]; done) | (unfold f_guestAt; rw [if_pos (by omega)]; first | rfl | (simp; done)) | (unfold f_guestAt; rw [if_neg (by omega)]; done) | (unfold f_guestAt; rw [if_neg (by omega)]; first | rfl | (simp; done)))) rfl rfl o38 trivial

set_option maxRecDepth 100000 in
theorem c_impl_within (w0 : World) (n : Int) (a : Int) (b : Int) : Calls Tryz.prog 24 [I n, I a, I b].toArray w0 (fun e w' => e = .returned (B (f_within n a b)) ∧ Chg NoB w0 w') := by
  refine Calls.walk (args := [I n, I a, I b]) NoB Tryz.func24 rfl rfl ?_
  intro ac β S
  refine wp_seq (RG.start ?_)
  refine S.q 1 [0, 1, 2] 0 ⟨[(0, .v (I n)), (1, .v (I a)), (2, .v (I b))], []⟩ .nil ?_; clear S; intro ac w β S
  refine RG.done rfl (nx_then (wp_seq (RG.start ?_)))
  refine S.q 4 [0, 2, 10] 0 ⟨[(0, .v (I n)), (2, .v (I b)), (10, .v (B (decide (n ≥ a))))], []⟩ .nil ?_; clear S; intro ac w β S
  rcases Bool.eq_false_or_eq_true (decide (n ≥ a)) with h1 | h1 <;> rw [h1] at S
  · have g2 : n ≥ a := of_decide_eq_true h1
    refine S.q 5 [6] 0 ⟨[(6, .v (B (decide (n ≤ b))))], []⟩ .nil ?_; clear S; intro ac w β S
    refine RG.done rfl (nx_then (wp_ret ?_))
    refine S.r [B (decide (n ≤ b))] ?_
    exact ⟨retB (by clear S; first | rfl | (simp [f_within, *]; done) | (simp [f_within, *]; omega) | (simp_all [f_within]; done) | (simp_all [f_within]; omega)), S.chg⟩
  · have g3 : ¬ (n ≥ a) := of_decide_eq_false h1
    refine S.q 5 [6] 0 ⟨[(6, .v (B false))], []⟩ .nil ?_; clear S; intro ac w β S
    refine RG.done rfl (nx_then (wp_ret ?_))
    refine S.r [B false] ?_
    exact ⟨retB (by clear S; first | rfl | (simp [f_within, *]; done) | (simp [f_within, *]; omega) | (simp_all [f_within]; done) | (simp_all [f_within]; omega)), S.chg⟩

set_option maxRecDepth 100000 in
theorem c_impl_InsOk (w0 : World) (i : TIns) : Calls Tryz.prog 100 [GT.val i ()].toArray w0 (fun e w' => e = .returned (B (f_insOk i)) ∧ Chg NoB w0 w') := by
  refine Calls.walk (args := [GT.val i ()]) NoB Tryz.func100 rfl rfl ?_
  intro ac β S
  refine wp_seq (RG.start ?_)
  refine S.q 2 [1] 1 ⟨[(1, .p 0 0)], [GT.cells i ()]⟩ .nil ?_; clear S; intro ac w β S
  refine RG.done rfl (nx_then (wp_seq (wp_seq (RG.start ?_))))
  refine S.q 2 [1, 4] 1 ⟨[(1, .p 0 0), (4, .v (I i.opc))], [GT.cells i ()]⟩ .nil ?_; clear S; intro ac w β S
  refine RG.done rfl (nx_then (wp_block (wp_seq (wp_seq (RG.start ?_)))))
  refine S.q 2 [1, 4, 5] 1 ⟨[(1, .p 0 0), (4, .v (I i.opc)), (5, .v (B (i.opc == 1)))], [GT.cells i ()]⟩ .nil ?_; clear S; intro ac w β S
  refine RG.done rfl (nx_then ?_)
  refine S.c (i.opc == 1) (fun h1 => ?_) (fun h1 => ?_)
  · rw [h1] at S
    have g2 : i.opc = 1 := eq_of_beq h1
    refine wp_skip (nx_then ?_)
    refine S.c true (fun _ => ?_) (fun hx => by cases hx)
    refine wp_seq (RG.start ?_)
    refine S.q 4 [2] 0 ⟨[(2, .v (B (f_within i.x 0 99)))], []⟩ (.cons (Q_call fun w hw => c_impl_within w i.x 0 99) .nil) ?_; clear S; intro ac w β S
    refine RG.done rfl (nx_then (wp_ret (rt_block (rt_then ?_))))
    refine S.r [B (f_within i.x 0 99)] ?_
    exact ⟨retB (by clear S; first | rfl | (simp [f_insOk, *]; done) | (simp [f_insOk, *]; omega) | (simp_all [f_insOk]; done) | (simp_all [f_insOk]; omega)), S.chg⟩
  · have g3 : ¬ (i.opc = 1) := ne_of_beq_false h1
    refine wp_seq (RG.start ?_)
    refine S.q 2 [1, 4, 5] 1 ⟨[(1, .p 0 0), (4, .v (I i.opc)), (5, .v (B (i.opc == 2)))], [GT.cells i ()]⟩ .nil ?_; clear S; intro ac w β S
    refine RG.done rfl (nx_then ?_)
    refine S.c (i.opc == 2) (fun h4 => ?_) (fun h4 => ?_)
    · rw [h4] at S
      have g5 : i.opc = 2 := eq_of_beq h4
      refine wp_skip (nx_then ?_)
      refine S.c true (fun _ => ?_) (fun hx => by cases hx)
      refine wp_seq (RG.start ?_)
      refine S.q 4 [2] 0 ⟨[(2, .v (B (f_within i.x 0 99)))], []⟩ (.cons (Q_call fun w hw => c_impl_within w i.x 0 99) .nil) ?_; clear S; intro ac w β S
      refine RG.done rfl (nx_then (wp_ret (rt_block (rt_then ?_))))
      refine S.r [B (f_within i.x 0 99)] ?_
      exact ⟨retB (by clear S; first | rfl | (simp [f_insOk, *]; done) | (simp [f_insOk, *]; omega) | (simp_all [f_insOk]; done) | (simp_all [f_insOk]; omega)), S.chg⟩
    · have g6 : ¬ (i.opc = 2) := ne_of_beq_false h4
      refine wp_seq (RG.start ?_)
      refine S.q 2 [1, 4, 5] 1 ⟨[(1, .p 0 0), (4, .v (I i.opc)), (5, .v (B (i.opc == 5)))], [GT.cells i ()]⟩ .nil ?_; clear S; intro ac w β S
      refine RG.done rfl (nx_then ?_)
      refine S.c (i.opc == 5) (fun h7 => ?_) (fun h7 => ?_)
      · rw [h7] at S
        have g8 : i.opc = 5 := eq_of_beq h7
        refine wp_skip (nx_then ?_)
        refine S.c true (fun _ => ?_) (fun hx => by cases hx)
        refine wp_seq (RG.start ?_)
        refine S.q 4 [2] 0 ⟨[(2, .v (B (f_within i.x 0 99)))], []⟩ (.cons (Q_call fun w hw => c_impl_within w i.x 0 99) .nil) ?_; clear S; intro ac w β S
        refine RG.done rfl (nx_then (wp_ret (rt_block (rt_then ?_))))
        refine S.r [B (f_within i.x 0 99)] ?_
        exact ⟨retB (by clear S; first | rfl | (simp [f_insOk, *]; done) | (simp [f_insOk, *]; omega) | (simp_all [f_insOk]; done) | (simp_all [f_insOk]; omega)), S.chg⟩
      · have g9 : ¬ (i.opc = 5) := ne_of_beq_false h7
        refine RG.start ?_
        refine S.q 2 [1, 4, 5] 1 ⟨[(1, .p 0 0), (4, .v (I i.opc)), (5, .v (B (i.opc == 6)))], [GT.cells i ()]⟩ .nil ?_; clear S; intro ac w β S
        refine RG.done rfl (nx_then ?_)
        refine S.c (i.opc == 6) (fun h10 => ?_) (fun h10 => ?_)
        · have g11 : i.opc = 6 := eq_of_beq h10
          refine wp_seq (RG.start ?_)
          refine S.q 4 [2] 0 ⟨[(2, .v (B (f_within i.x 0 99)))], []⟩ (.cons (Q_call fun w hw => c_impl_within w i.x 0 99) .nil) ?_; clear S; intro ac w β S
          refine RG.done rfl (nx_then (wp_ret (rt_block (rt_then ?_))))
          refine S.r [B (f_within i.x 0 99)] ?_
          exact ⟨retB (by clear S; first | rfl | (simp [f_insOk, *]; done) | (simp [f_insOk, *]; omega) | (simp_all [f_insOk]; done) | (simp_all [f_insOk]; omega)), S.chg⟩
        · have g12 : ¬ (i.opc = 6) := ne_of_beq_false h10
          refine wp_seq (wp_seq (RG.start ?_))
          refine S.q 2 [1, 4, 13] 1 ⟨[(1, .p 0 0), (4, .v (I i.opc)), (13, .v (B (i.opc == 3)))], [GT.cells i ()]⟩ .nil ?_; clear S; intro ac w β S
          refine RG.done rfl (nx_then ?_)
          refine S.c (i.opc == 3) (fun h13 => ?_) (fun h13 => ?_)
          · rw [h13] at S
            have g14 : i.opc = 3 := eq_of_beq h13
            refine wp_skip (nx_then ?_)
            refine S.c true (fun _ => ?_) (fun hx => by cases hx)
            refine wp_seq (RG.start ?_)
            refine S.q 4 [2] 0 ⟨[(2, .v (B (f_within i.x 0 15)))], []⟩ (.cons (Q_call fun w hw => c_impl_within w i.x 0 15) .nil) ?_; clear S; intro ac w β S
            refine RG.done rfl (nx_then (wp_ret (rt_block (rt_then ?_))))
            refine S.r [B (f_within i.x 0 15)] ?_
            exact ⟨retB (by clear S; first | rfl | (simp [f_insOk, *]; done) | (simp [f_insOk, *]; omega) | (simp_all [f_insOk]; done) | (simp_all [f_insOk]; omega)), S.chg⟩
          · have g15 : ¬ (i.opc = 3) := ne_of_beq_false h13
            refine RG.start ?_
            refine S.q 2 [1, 4, 13] 1 ⟨[(1, .p 0 0), (4, .v (I i.opc)), (13, .v (B (i.opc == 4)))], [GT.cells i ()]⟩ .nil ?_; clear S; intro ac w β S
            refine RG.done rfl (nx_then ?_)
            refine S.c (i.opc == 4) (fun h16 => ?_) (fun h16 => ?_)
            · have g17 : i.opc = 4 := eq_of_beq h16
              refine wp_seq (RG.start ?_)
              refine S.q 4 [2] 0 ⟨[(2, .v (B (f_within i.x 0 15)))], []⟩ (.cons (Q_call fun w hw => c_impl_within w i.x 0 15) .nil) ?_; clear S; intro ac w β S
              refine RG.done rfl (nx_then (wp_ret (rt_block (rt_then ?_))))
              refine S.r [B (f_within i.x 0 15)] ?_
              exact ⟨retB (by clear S; first | rfl | (simp [f_insOk, *]; done) | (simp [f_insOk, *]; omega) | (simp_all [f_insOk]; done) | (simp_all [f_insOk]; omega)), S.chg⟩
            · have g18 : ¬ (i.opc = 4) := ne_of_beq_false h16
              refine wp_seq (RG.start ?_)
              refine S.q 2 [1, 4, 19] 1 ⟨[(1, .p 0 0), (4, .v (I i.opc)), (19, .v (B (i.opc == 7)))], [GT.cells i ()]⟩ .nil ?_; clear S; intro ac w β S
              refine RG.done rfl (nx_then ?_)
              refine S.c (i.opc == 7) (fun h19 => ?_) (fun h19 => ?_)
              · have g20 : i.opc = 7 := eq_of_beq h19
                refine wp_seq (RG.start ?_)
                refine S.q 4 [2] 0 ⟨[(2, .v (B (i.x == 0)))], []⟩ .nil ?_; clear S; intro ac w β S
                refine RG.done rfl (nx_then (wp_ret (rt_block (rt_then ?_))))
                refine S.r [B (i.x == 0)] ?_
                exact ⟨retB (by clear S; first | rfl | (simp [f_insOk, *]; done) | (simp [f_insOk, *]; omega) | (simp_all [f_insOk]; done) | (simp_all [f_insOk]; omega)), S.chg⟩
              · have g21 : ¬ (i.opc = 7) := ne_of_beq_false h19
                refine wp_seq (RG.start ?_)
                refine S.q 2 [1, 24] 1 ⟨[(1, .p 0 0), (24, .v (B (i.opc == 8)))], [GT.cells i ()]⟩ .nil ?_; clear S; intro ac w β S
                refine RG.done rfl (nx_then ?_)
                refine S.c (i.opc == 8) (fun h22 => ?_) (fun h22 => ?_)
                · have g23 : i.opc = 8 := eq_of_beq h22
                  refine wp_seq (RG.start ?_)
                  refine S.q 4 [2] 0 ⟨[(2, .v (B (f_within i.x 0 11)))], []⟩ (.cons (Q_call fun w hw => c_impl_within w i.x 0 11) .nil) ?_; clear S; intro ac w β S
                  refine RG.done rfl (nx_then (wp_ret (rt_block (rt_then ?_))))
                  refine S.r [B (f_within i.x 0 11)] ?_
                  exact ⟨retB (by clear S; first | rfl | (simp [f_insOk, *]; done) | (simp [f_insOk, *]; omega) | (simp_all [f_insOk]; done) | (simp_all [f_insOk]; omega)), S.chg⟩
                · have g24 : ¬ (i.opc = 8) := ne_of_beq_false h22
                  refine wp_skip (nx_block (nx_then (wp_seq (RG.start ?_))))
                  refine S.q 1 [2] 0 ⟨[(2, .v (B false))], []⟩ .nil ?_; clear S; intro ac w β S
                  refine RG.done rfl (nx_then (wp_ret ?_))
                  refine S.r [B false] ?_
                  exact ⟨retB (by clear S; first | rfl | (simp [f_insOk, *]; done) | (simp [f_insOk, *]; omega) | (simp_all [f_insOk]; done) | (simp_all [f_insOk]; omega)), S.chg⟩

set_option maxRecDepth 100000 in
theorem c_impl_ProgOk (w0 : World) (p : List TIns) (pp : LP TIns) (hp : GT.rd KK (Lt w0.heap.size) w0 p pp) : Calls Tryz.prog 86 [slv (p).length pp.1].toArray w0 (fun e w' => e = .returned (B (f_progOk p)) ∧ Chg NoB w0 w') := by
  refine Calls.walk (args := [slv (p).length pp.1]) NoB Tryz.func86 rfl rfl ?_
  intro ac β S
  have hlep : p.length ≤ 4194304 := LRd.le hp
  refine wp_seq (RG.start ?_)
  refine S.q 1 [0] 0 ⟨[(0, .v (slv (p).length pp.1))], []⟩ .nil ?_; clear S; intro ac w β S
  refine RG.done rfl (nx_then (wp_seq (wp_seq (RG.start ?_))))
  refine S.q 3 [0, 5, 6, 7] 0 ⟨[(0, .v (slv (p).length pp.1)), (5, .v (slv (p).length pp.1)), (6, .v (I ((p).length : Int))), (7, .v (I 0))], []⟩ .nil ?_; clear S; intro ac w β S
  refine RG.done rfl (nx_then (wp_block ?_))
  replace S := S.p [0, 5, 6, 7] 0 ⟨[(0, .v (slv (p).length pp.1)), (5, .v (slv (p).length pp.1)), (6, .v (I ((p).length : Int))), (7, .v (I 0))], []⟩
  refine wp_loop_down (fun mm ac w => ∃ (k : Nat)  (u : World) (N : Bl) (β : Nat → Nat), mm = (p).length - k ∧ (k ≤ (p).length) ∧ (((p).take k).all f_insOk = true) ∧ St Tryz.prog Tryz.f86.ntmps w0 NoB u N β ⟨[(0, .v (slv (p).length pp.1)), (5, .v (slv (p).length pp.1)), (6, .v (I ((p).length : Int))), (7, .v (I (k : Int)))], []⟩ ac w) _ ⟨0, _, _, _, rfl, (by first | omega | (simp; done) | (simp; omega)), (by simp), S.cast (by kernel_rfl)⟩ ?_
  clear S
  rintro mm ac w ⟨k, u, N, β, rfl, hk, he, S⟩
  refine wp_seq (RG.start ?_)
  refine S.q 1 [0, 5, 6, 7, 8] 0 ⟨[(0, .v (slv (p).length pp.1)), (5, .v (slv (p).length pp.1)), (6, .v (I ((p).length : Int))), (7, .v (I (k : Int))), (8, .v (B (decide ((k : Int) < ((p).length : Int)))))], []⟩ .nil ?_; clear S; intro ac w β S
  refine RG.done rfl (nx_then (wp_seq ?_))
  refine S.c (decide ((k : Int) < ((p).length : Int))) (fun h1 => ?_) (fun h1 => ?_)
  · have g2 : (k : Int) < ((p).length : Int) := of_decide_eq_true h1
    refine wp_skip (nx_then (wp_seq (wp_block (wp_seq (RG.start ?_)))))
    refine S.q 4 [0, 4, 5, 6, 7] 1 ⟨[(0, .v (slv (p).length pp.1)), (4, .p 0 0), (5, .v (slv (p).length pp.1)), (6, .v (I ((p).length : Int))), (7, .v (I (k : Int)))], [GT.cells (el p k) ()]⟩ (.cons (Q_idx (S.arg hp) (l := (p).length) (k := k) (i := (k : Int)) rfl rfl (by omega) Tryz.underlying67 (by kernel_rfl)) (.cons (Q_el (S.arg hp) (t := 100) (k := k) (by omega) rfl (by kernel_rfl) (by kernel_rfl)) .nil)) ?_; clear S; intro ac w β S
    refine RG.done rfl (nx_then (wp_seq (RG.start ?_)))
    refine S.q 3 [0, 5, 6, 7, 13] 0 ⟨[(0, .v (slv (p).length pp.1)), (5, .v (slv (p).length pp.1)), (6, .v (I ((p).length : Int))), (7, .v (I (k : Int))), (13, .v (B (!(f_insOk (el p k)))))], []⟩ (.cons (Q_call fun w hw => c_impl_InsOk w (el p k)) .nil) ?_; clear S; intro ac w β S
    refine RG.done rfl (nx_then ?_)
    refine S.c (!(f_insOk (el p k))) (fun h3 => ?_) (fun h3 => ?_)
    · have h4 : (f_insOk (el p k)) = false := not_t h3
      refine wp_seq (RG.start ?_)
      refine S.q 1 [2] 0 ⟨[(2, .v (B false))], []⟩ .nil ?_; clear S; intro ac w β S
      refine RG.done rfl (nx_then (wp_ret (rt_block (rt_then (rt_then (rt_block (rt_then ?_)))))))
      refine S.r [B false] ?_
      exact ⟨retB (by clear S; (first | rfl | (unfold f_progOk; rw [all_end (by omega) he]; simp; done) | (unfold f_progOk; rw [all_bad (k := k) (by omega) (by first | assumption | (simp_all <;> fail))]; simp; done) | (unfold f_progOk; rw [all_end (by omega) he]; simp [*]; done) | (unfold f_progOk; rw [all_end (by omega) he]; simp; omega))), S.chg⟩
    · have h5 : (f_insOk (el p k)) = true := not_f h3
      refine wp_skip (nx_block (nx_then (RG.start ?_)))
      refine S.q 2 [0, 5, 6, 7] 0 ⟨[(0, .v (slv (p).length pp.1)), (5, .v (slv (p).length pp.1)), (6, .v (I ((p).length : Int))), (7, .v (I ((k : Int) + 1)))], []⟩ (.cons (Q_add (x := (k : Int)) (y := 1) ⟨by omega, by omega⟩) .nil) ?_; clear S; intro ac w β S
      refine RG.done rfl (nx_then ?_)
      replace S := S.p [0, 5, 6, 7] 0 ⟨[(0, .v (slv (p).length pp.1)), (5, .v (slv (p).length pp.1)), (6, .v (I ((p).length : Int))), (7, .v (I ((k : Int) + 1)))], []⟩
      refine ⟨(p).length - (k + 1), by omega, k + 1, _, _, _, rfl, ?_, ?_, S.cast (by kernel_rfl)⟩
      · clear S; first | omega | (simp [*]; done) | (simp [*]; omega)
      · clear S; exact all_step (by omega) he (by first | assumption | (simp only [f_slotOk, f_within] at *; simp_all; done) | (simp_all; done) | (simp_all; omega))
  · have g6 : ¬ ((k : Int) < ((p).length : Int)) := of_decide_eq_false h1
    refine wp_exit (ex_then (ex_then (ex_hit (nx_then (wp_seq (RG.start ?_))))))
    refine S.q 4 [2] 0 ⟨[(2, .v (B (f_within ((p).length : Int) 1 12)))], []⟩ (.cons (Q_call fun w hw => c_impl_within w ((p).length : Int) 1 12) .nil) ?_; clear S; intro ac w β S
    refine RG.done rfl (nx_then (wp_ret ?_))
    refine S.r [B (f_within ((p).length : Int) 1 12)] ?_
    exact ⟨retB (by clear S; (first | rfl | (unfold f_progOk; rw [all_end (by omega) he]; simp; done) | (unfold f_progOk; rw [all_bad (k := k) (by omega) (by first | assumption | (simp_all <;> fail))]; simp; done) | (unfold f_progOk; rw [all_end (by omega) he]; simp [*]; done) | (unfold f_progOk; rw [all_end (by omega) he]; simp; omega))), S.chg⟩

set_option maxRecDepth 100000 in
theorem c_impl_NoSlot (w0 : World)  : Calls Tryz.prog 91 [].toArray w0 (fun e w' => e = .returned (GT.val (⟨-1, 0⟩ : TSlot) ()) ∧ Chg NoB w0 w') := by
  refine Calls.walk (args := []) NoB Tryz.func91 rfl rfl ?_
  intro ac β S
  refine wp_seq (RG.start ?_)
  refine S.q 1 [0] 1 ⟨[(0, .p 0 0)], [Zc TSlot]⟩ .nil ?_; clear S; intro ac w β S
  refine RG.done rfl (nx_then (wp_seq (RG.start ?_)))
  refine S.q 2 [0] 1 ⟨[(0, .p 0 0)], [[I (-1), I 0]]⟩ (.cons (Q_sem (s := Instr.build 86 [(0, I (-1))].toArray) (v := .agg [I (-1), I 0].toArray) (fun w => by kernel_rfl)) .nil) ?_; clear S; intro ac w β S
  refine RG.done rfl (nx_then (wp_ret ?_))
  refine S.r [GT.val (⟨(-1), 0⟩ : TSlot) ()] ?_
  exact ⟨retV (p := ()) (by clear S; first | rfl | (simp [id, *]; done) | (simp [id, *]; omega) | (simp_all [id]; done) | (simp_all [id]; omega)), S.chg⟩

set_option maxRecDepth 100000 in
theorem c_impl_SlotOk (w0 : World) (s : TSlot) (pages : Int) (pre0 : 0 ≤ pages) (pre1 : pages ≤ 1000) : Calls Tryz.prog 101 [GT.val s (), I pages].toArray w0 (fun e w' => e = .returned (B (f_slotOk s pages)) ∧ Chg NoB w0 w') := by
  refine Calls.walk (args := [GT.val s (), I pages]) NoB Tryz.func101 rfl rfl ?_
  intro ac β S
  refine wp_seq (RG.start ?_)
  refine S.q 2 [1, 2] 1 ⟨[(1, .v (I pages)), (2, .p 0 0)], [GT.cells s ()]⟩ .nil ?_; clear S; intro ac w β S
  refine RG.done rfl (nx_then (wp_seq ?_))
  rcases Bool.eq_false_or_eq_true (decide (s = ((⟨-1, 0⟩ : TSlot)))) with h1 | h1
  · refine S.drawnO [(3, true)] (keep := [4]) (m := 0) (σ' := ⟨[(4, .v (B true))], []⟩) (.cons (Q_call fun w hw => c_impl_NoSlot w ) (.cons (Eq_eq_Slot (t := 86) s ((⟨-1, 0⟩ : TSlot)) (by kernel_rfl)) .nil)) rfl (by kernel_rfl) (by kernel_rfl) (.cons h1 .nil) ?_
    clear S; intro ac w S
    refine id (nx_then (wp_ret ?_))
    refine S.r [B true] ?_
    exact ⟨retB (by clear S; first | rfl | (simp [f_slotOk, *]; done) | (simp [f_slotOk, *]; omega) | (simp_all [f_slotOk]; done) | (simp_all [f_slotOk]; omega)), S.chg⟩
  · rcases Bool.eq_false_or_eq_true (decide (pages > 0)) with h2 | h2
    · have g3 : pages > 0 := of_decide_eq_true h2
      rcases Bool.eq_false_or_eq_true (f_within s.page 0 (pages - 1)) with h4 | h4
      · have g5 := within_t h4
        refine S.drawnO [(3, false), (6, true), (13, true)] (keep := [4]) (m := 0) (σ' := ⟨[(4, .v (B (f_within s.rights 1 3)))], []⟩) (.cons (Q_call fun w hw => c_impl_NoSlot w ) (.cons (Eq_eq_Slot (t := 86) s ((⟨-1, 0⟩ : TSlot)) (by kernel_rfl)) (.cons (Q_sub (x := pages) (y := 1) ⟨by omega, by omega⟩) (.cons (Q_call fun w hw => c_impl_within w s.page 0 (pages - 1)) (.cons (Q_call fun w hw => c_impl_within w s.rights 1 3) .nil))))) rfl (by kernel_rfl) (by kernel_rfl) (.cons h1 (.cons h2 (.cons h4 .nil))) ?_
        clear S; intro ac w S
        refine id (nx_then (wp_ret ?_))
        refine S.r [B (f_within s.rights 1 3)] ?_
        exact ⟨retB (by clear S; first | rfl | (simp [f_slotOk, *]; done) | (simp [f_slotOk, *]; omega) | (simp_all [f_slotOk]; done) | (simp_all [f_slotOk]; omega)), S.chg⟩
      · have g6 := within_f h4
        refine S.drawnO [(3, false), (6, true), (13, false)] (keep := [4]) (m := 0) (σ' := ⟨[(4, .v (B false))], []⟩) (.cons (Q_call fun w hw => c_impl_NoSlot w ) (.cons (Eq_eq_Slot (t := 86) s ((⟨-1, 0⟩ : TSlot)) (by kernel_rfl)) (.cons (Q_sub (x := pages) (y := 1) ⟨by omega, by omega⟩) (.cons (Q_call fun w hw => c_impl_within w s.page 0 (pages - 1)) .nil)))) rfl (by kernel_rfl) (by kernel_rfl) (.cons h1 (.cons h2 (.cons h4 .nil))) ?_
        clear S; intro ac w S
        refine id (nx_then (wp_ret ?_))
        refine S.r [B false] ?_
        exact ⟨retB (by clear S; first | rfl | (simp [f_slotOk, *]; done) | (simp [f_slotOk, *]; omega) | (simp_all [f_slotOk]; done) | (simp_all [f_slotOk]; omega)), S.chg⟩
    · have g7 : ¬ (pages > 0) := of_decide_eq_false h2
      refine S.drawnO [(3, false), (6, false)] (keep := [4]) (m := 0) (σ' := ⟨[(4, .v (B false))], []⟩) (.cons (Q_call fun w hw => c_impl_NoSlot w ) (.cons (Eq_eq_Slot (t := 86) s ((⟨-1, 0⟩ : TSlot)) (by kernel_rfl)) .nil)) rfl (by kernel_rfl) (by kernel_rfl) (.cons h1 (.cons h2 .nil)) ?_
      clear S; intro ac w S
      refine id (nx_then (wp_ret ?_))
      refine S.r [B false] ?_
      exact ⟨retB (by clear S; first | rfl | (simp [f_slotOk, *]; done) | (simp [f_slotOk, *]; omega) | (simp_all [f_slotOk]; done) | (simp_all [f_slotOk]; omega)), S.chg⟩

set_option maxRecDepth 100000 in
theorem c_impl_TableOk (w0 : World) (t : List TSlot) (pt : LP TSlot) (ht : GT.rd KK (Lt w0.heap.size) w0 t pt) (size : Int) (pages : Int) (pre0 : 0 ≤ pages) (pre1 : pages ≤ 1000) : Calls Tryz.prog 87 [slv (t).length pt.1, I size, I pages].toArray w0 (fun e w' => e = .returned (B (f_tableOk t size pages)) ∧ Chg NoB w0 w') := by
  refine Calls.walk (args := [slv (t).length pt.1, I size, I pages]) NoB Tryz.func87 rfl rfl ?_
  intro ac β S
  have hlet : t.length ≤ 4194304 := LRd.le ht
  refine wp_seq (RG.start ?_)
  refine S.q 1 [0, 1, 2] 0 ⟨[(0, .v (slv (t).length pt.1)), (1, .v (I size)), (2, .v (I pages))], []⟩ .nil ?_; clear S; intro ac w β S
  refine RG.done rfl (nx_then (wp_seq (wp_seq (RG.start ?_))))
  refine S.q 3 [0, 1, 2, 9, 10, 11] 0 ⟨[(0, .v (slv (t).length pt.1)), (1, .v (I size)), (2, .v (I pages)), (9, .v (slv (t).length pt.1)), (10, .v (I ((t).length : Int))), (11, .v (I 0))], []⟩ .nil ?_; clear S; intro ac w β S
  refine RG.done rfl (nx_then (wp_block ?_))
  replace S := S.p [0, 1, 2, 9, 10, 11] 0 ⟨[(0, .v (slv (t).length pt.1)), (1, .v (I size)), (2, .v (I pages)), (9, .v (slv (t).length pt.1)), (10, .v (I ((t).length : Int))), (11, .v (I 0))], []⟩
  refine wp_loop_down (fun mm ac w => ∃ (k : Nat)  (u : World) (N : Bl) (β : Nat → Nat), mm = (t).length - k ∧ (k ≤ (t).length) ∧ (((t).take k).all (fun s => f_slotOk s pages) = true) ∧ St Tryz.prog Tryz.f87.ntmps w0 NoB u N β ⟨[(0, .v (slv (t).length pt.1)), (1, .v (I size)), (2, .v (I pages)), (9, .v (slv (t).length pt.1)), (10, .v (I ((t).length : Int))), (11, .v (I (k : Int)))], []⟩ ac w) _ ⟨0, _, _, _, rfl, (by first | omega | (simp; done) | (simp; omega)), (by simp), S.cast (by kernel_rfl)⟩ ?_
  clear S
  rintro mm ac w ⟨k, u, N, β, rfl, hk, he, S⟩
  refine wp_seq (RG.start ?_)
  refine S.q 1 [0, 1, 2, 9, 10, 11, 12] 0 ⟨[(0, .v (slv (t).length pt.1)), (1, .v (I size)), (2, .v (I pages)), (9, .v (slv (t).length pt.1)), (10, .v (I ((t).length : Int))), (11, .v (I (k : Int))), (12, .v (B (decide ((k : Int) < ((t).length : Int)))))], []⟩ .nil ?_; clear S; intro ac w β S
  refine RG.done rfl (nx_then (wp_seq ?_))
  refine S.c (decide ((k : Int) < ((t).length : Int))) (fun h1 => ?_) (fun h1 => ?_)
  · have g2 : (k : Int) < ((t).length : Int) := of_decide_eq_true h1
    refine wp_skip (nx_then (wp_seq (wp_block (wp_seq (RG.start ?_)))))
    refine S.q 4 [0, 1, 2, 8, 9, 10, 11] 1 ⟨[(0, .v (slv (t).length pt.1)), (1, .v (I size)), (2, .v (I pages)), (8, .p 0 0), (9, .v (slv (t).length pt.1)), (10, .v (I ((t).length : Int))), (11, .v (I (k : Int)))], [GT.cells (el t k) ()]⟩ (.cons (Q_idx (S.arg ht) (l := (t).length) (k := k) (i := (k : Int)) rfl rfl (by omega) Tryz.underlying68 (by kernel_rfl)) (.cons (Q_el (S.arg ht) (t := 86) (k := k) (by omega) rfl (by kernel_rfl) (by kernel_rfl)) .nil)) ?_; clear S; intro ac w β S
    refine RG.done rfl (nx_then (wp_seq (RG.start ?_)))
    refine S.q 4 [0, 1, 2, 9, 10, 11, 18] 0 ⟨[(0, .v (slv (t).length pt.1)), (1, .v (I size)), (2, .v (I pages)), (9, .v (slv (t).length pt.1)), (10, .v (I ((t).length : Int))), (11, .v (I (k : Int))), (18, .v (B (!(f_slotOk (el t k) pages))))], []⟩ (.cons (Q_call fun w hw => c_impl_SlotOk w (el t k) pages (by omega) (by omega)) .nil) ?_; clear S; intro ac w β S
    refine RG.done rfl (nx_then ?_)
    refine S.c (!(f_slotOk (el t k) pages)) (fun h3 => ?_) (fun h3 => ?_)
    · have h4 : (f_slotOk (el t k) pages) = false := not_t h3
      refine wp_seq (RG.start ?_)
      refine S.q 1 [6] 0 ⟨[(6, .v (B false))], []⟩ .nil ?_; clear S; intro ac w β S
      refine RG.done rfl (nx_then (wp_ret (rt_block (rt_then (rt_then (rt_block (rt_then ?_)))))))
      refine S.r [B false] ?_
      exact ⟨retB (by clear S; (first | rfl | (unfold f_tableOk; rw [all_end (by omega) he]; simp; done) | (unfold f_tableOk; rw [all_bad (k := k) (by omega) (by first | assumption | (simp_all <;> fail))]; simp; done) | (unfold f_tableOk; rw [all_end (by omega) he]; simp [*]; done) | (unfold f_tableOk; rw [all_end (by omega) he]; simp; omega))), S.chg⟩
    · have h5 : (f_slotOk (el t k) pages) = true := not_f h3
      refine wp_skip (nx_block (nx_then (RG.start ?_)))
      refine S.q 2 [0, 1, 2, 9, 10, 11] 0 ⟨[(0, .v (slv (t).length pt.1)), (1, .v (I size)), (2, .v (I pages)), (9, .v (slv (t).length pt.1)), (10, .v (I ((t).length : Int))), (11, .v (I ((k : Int) + 1)))], []⟩ (.cons (Q_add (x := (k : Int)) (y := 1) ⟨by omega, by omega⟩) .nil) ?_; clear S; intro ac w β S
      refine RG.done rfl (nx_then ?_)
      replace S := S.p [0, 1, 2, 9, 10, 11] 0 ⟨[(0, .v (slv (t).length pt.1)), (1, .v (I size)), (2, .v (I pages)), (9, .v (slv (t).length pt.1)), (10, .v (I ((t).length : Int))), (11, .v (I ((k : Int) + 1)))], []⟩
      refine ⟨(t).length - (k + 1), by omega, k + 1, _, _, _, rfl, ?_, ?_, S.cast (by kernel_rfl)⟩
      · clear S; first | omega | (simp [*]; done) | (simp [*]; omega)
      · clear S; exact all_step (by omega) he (by first | assumption | (simp only [f_slotOk, f_within] at *; simp_all; done) | (simp_all; done) | (simp_all; omega))
  · have g6 : ¬ ((k : Int) < ((t).length : Int)) := of_decide_eq_false h1
    refine wp_exit (ex_then (ex_then (ex_hit (nx_then (wp_seq (RG.start ?_))))))
    refine S.q 5 [6] 0 ⟨[(6, .v (B (((t).length : Int) == size)))], []⟩ .nil ?_; clear S; intro ac w β S
    refine RG.done rfl (nx_then (wp_ret ?_))
    refine S.r [B (((t).length : Int) == size)] ?_
    exact ⟨retB (by clear S; (first | rfl | (unfold f_tableOk; rw [all_end (by omega) he]; simp; done) | (unfold f_tableOk; rw [all_bad (k := k) (by omega) (by first | assumption | (simp_all <;> fail))]; simp; done) | (unfold f_tableOk; rw [all_end (by omega) he]; simp [*]; done) | (unfold f_tableOk; rw [all_end (by omega) he]; simp; omega))), S.chg⟩

set_option maxRecDepth 100000 in
theorem c_impl_CtlFaults (w0 : World) (c : TCtl) : Calls Tryz.prog 102 [GT.val c ()].toArray w0 (Ret1 NoB w0 (f_ctlFaults c : List Int)) := by
  refine Calls.walk (args := [GT.val c ()]) NoB Tryz.func102 rfl rfl ?_
  intro ac β S
  refine wp_seq (RG.start ?_)
  refine S.q 2 [1] 1 ⟨[(1, .p 0 0)], [GT.cells c ()]⟩ .nil ?_; clear S; intro ac w β S
  refine RG.done rfl (nx_then (wp_seq (RG.start ?_)))
  refine RG.op rfl (S.bs0 (α := Int) (d := 4) (by kernel_rfl) ?_)
  clear S; intro ac w N q1 F2 S up o3 d4
  clear up d4
  refine S.q 1 [1, 3] 1 ⟨[(1, .p 0 0), (3, .v (slv 0 q1.1))], [GT.cells c ()]⟩ .nil ?_; clear S; intro ac w β S
  refine RG.done rfl (nx_then (wp_seq (wp_seq (RG.start ?_))))
  refine S.q 4 [1, 3, 8] 1 ⟨[(1, .p 0 0), (3, .v (slv 0 q1.1)), (8, .v (B (!(f_within c.traps 0 3))))], [GT.cells c ()]⟩ (.cons (Q_call fun w hw => c_impl_within w c.traps 0 3) .nil) ?_; clear S; intro ac w β S
  refine RG.done rfl (nx_then ?_)
  refine wp_region_cut (fun ac w => ∃ (acc1 : List Int) (q5 : GT.Ptr (List Int)) (F6 : Bl) (u : World) (N : Bl) (β : Nat → Nat), (acc1 = (if f_within c.traps 0 3 then [] else [1])) ∧ St Tryz.prog Tryz.f102.ntmps w0 NoB u N β ⟨[(1, .p 0 0), (3, .v (slv (acc1).length q5.1))], [GT.cells c ()]⟩ ac w ∧ Ow w0 NoB u N F6 acc1 q5) ?_ ?_
  · refine S.c (!(f_within c.traps 0 3)) (fun h8 => ?_) (fun h8 => ?_)
    · have h9 : (f_within c.traps 0 3) = false := not_t h8
      have g10 := within_f h9
      refine RG.start ?_
      refine S.q 1 [1, 9] 1 ⟨[(1, .p 0 0), (9, .v (slv 0 q1.1))], [GT.cells c ()]⟩ .nil ?_; clear S; intro ac w β S
      refine RG.op rfl (S.bs1 (α := Int) (x := 1) (p := ()) (F := NoB) (show In64 1 from ⟨by decide, by decide⟩) (fun b h => False.elim h) (fun b h => False.elim h) (d := 10) (by kernel_rfl) ?_)
      clear S; intro ac w N q11 F12 S up o13 d14
      have d15 : Disj F2 F12 := d14 _ (fun b _ h => False.elim h) o3.sub
      replace o3 := o3.up up
      clear up d14
      refine RG.op rfl (S.appFlat (α := Int) o3 (o13.rn) (fun _ _ h => h) (by' := 8) (d := 11) (lx := 0) (ly := 1) rfl rfl (by kernel_rfl) (show _ ≤ 4194304 by simp only [List.length_append, List.length_cons, List.length_nil]; omega) ?_)
      clear S; intro ac w N q16 F17 S up o18 d19
      have d20 : Disj F12 F17 := d19 _ (Disj.symm d15) o13.sub
      replace o13 := o13.upF (Disj.symm d15) up
      clear up d19
      refine S.q 1 [1, 3] 1 ⟨[(1, .p 0 0), (3, .v (slv ((([] : List Int) ++ [1])).length q16.1))], [GT.cells c ()]⟩ .nil ?_; clear S; intro ac w β S
      refine RG.done rfl ?_
      replace S := S.p [1, 3] 1 ⟨[(1, .p 0 0), (3, .v (slv ((([] : List Int) ++ [1])).length q16.1))], [GT.cells c ()]⟩
      exact ⟨rfl, (([] : List Int) ++ [1]), q16, F17, _, _, _, (by clear S; (first | (rw [if_pos (by assumption)]; simp [*]; done) | (rw [if_neg (by simp [*])]; simp [*]; done) | ((repeat' split) <;> first | rfl | (simp; done) | (exfalso; simp_all; done) | (simp_all; done)))), S.cast (by kernel_rfl), o18⟩
    · have h21 : (f_within c.traps 0 3) = true := not_f h8
      have g22 := within_t h21
      refine wp_skip ?_
      replace S := S.p [1, 3] 1 ⟨[(1, .p 0 0), (3, .v (slv 0 q1.1))], [GT.cells c ()]⟩
      exact ⟨rfl, ([] : List Int), q1, F2, _, _, _, (by clear S; (first | (rw [if_pos (by assumption)]; simp [*]; done) | (rw [if_neg (by simp [*])]; simp [*]; done) | ((repeat' split) <;> first | rfl | (simp; done) | (exfalso; simp_all; done) | (simp_all; done)))), S.cast (by kernel_rfl), o3⟩
  clear S o3
  rintro ac w ⟨acc1, q5, F6, u, N, β, ha1, S, o7⟩
  have hl1 : acc1.length ≤ 1 := by rw [ha1]; (repeat' split) <;> simp
  refine id (nx_then (wp_seq (wp_seq (RG.start ?_))))
  refine S.q 4 [1, 3, 15] 1 ⟨[(1, .p 0 0), (3, .v (slv (acc1).length q5.1)), (15, .v (B (!(f_within c.post 0 255))))], [GT.cells c ()]⟩ (.cons (Q_call fun w hw => c_impl_within w c.post 0 255) .nil) ?_; clear S; intro ac w β S
  refine RG.done rfl (nx_then ?_)
  refine wp_region_cut (fun ac w => ∃ (acc2 : List Int) (q23 : GT.Ptr (List Int)) (F24 : Bl) (u : World) (N : Bl) (β : Nat → Nat), (acc2 = (if f_within c.traps 0 3 then [] else [1]) ++ (if f_within c.post 0 255 then [] else [2])) ∧ St Tryz.prog Tryz.f102.ntmps w0 NoB u N β ⟨[(1, .p 0 0), (3, .v (slv (acc2).length q23.1))], [GT.cells c ()]⟩ ac w ∧ Ow w0 NoB u N F24 acc2 q23) ?_ ?_
  · refine S.c (!(f_within c.post 0 255)) (fun h26 => ?_) (fun h26 => ?_)
    · have h27 : (f_within c.post 0 255) = false := not_t h26
      have g28 := within_f h27
      refine RG.start ?_
      refine S.q 1 [1, 16] 1 ⟨[(1, .p 0 0), (16, .v (slv (acc1).length q5.1))], [GT.cells c ()]⟩ .nil ?_; clear S; intro ac w β S
      refine RG.op rfl (S.bs1 (α := Int) (x := 2) (p := ()) (F := NoB) (show In64 2 from ⟨by decide, by decide⟩) (fun b h => False.elim h) (fun b h => False.elim h) (d := 17) (by kernel_rfl) ?_)
      clear S; intro ac w N q29 F30 S up o31 d32
      have d33 : Disj F6 F30 := d32 _ (fun b _ h => False.elim h) o7.sub
      replace o7 := o7.up up
      clear up d32
      refine RG.op rfl (S.appFlat (α := Int) o7 (o31.rn) (fun _ _ h => h) (by' := 8) (d := 18) (lx := (acc1).length) (ly := 1) rfl rfl (by kernel_rfl) (show _ ≤ 4194304 by simp only [List.length_append, List.length_cons, List.length_nil]; omega) ?_)
      clear S; intro ac w N q34 F35 S up o36 d37
      have d38 : Disj F30 F35 := d37 _ (Disj.symm d33) o31.sub
      replace o31 := o31.upF (Disj.symm d33) up
      clear up d37
      refine S.q 1 [1, 3] 1 ⟨[(1, .p 0 0), (3, .v (slv ((acc1 ++ [2])).length q34.1))], [GT.cells c ()]⟩ .nil ?_; clear S; intro ac w β S
      refine RG.done rfl ?_
      replace S := S.p [1, 3] 1 ⟨[(1, .p 0 0), (3, .v (slv ((acc1 ++ [2])).length q34.1))], [GT.cells c ()]⟩
      exact ⟨rfl, (acc1 ++ [2]), q34, F35, _, _, _, (by clear S; (first | (rw [if_pos (by assumption)]; simp [*]; done) | (rw [if_neg (by simp [*])]; simp [*]; done) | (rw [ha1]; (repeat' split) <;> first | rfl | (simp; done) | (exfalso; simp_all; done) | (simp_all; done)))), S.cast (by kernel_rfl), o36⟩
    · have h39 : (f_within c.post 0 255) = true := not_f h26
      have g40 := within_t h39
      refine wp_skip ?_
      replace S := S.p [1, 3] 1 ⟨[(1, .p 0 0), (3, .v (slv (acc1).length q5.1))], [GT.cells c ()]⟩
      exact ⟨rfl, acc1, q5, F6, _, _, _, (by clear S; (first | (rw [if_pos (by assumption)]; simp [*]; done) | (rw [if_neg (by simp [*])]; simp [*]; done) | (rw [ha1]; (repeat' split) <;> first | rfl | (simp; done) | (exfalso; simp_all; done) | (simp_all; done)))), S.cast (by kernel_rfl), o7⟩
  clear S o7
  rintro ac w ⟨acc2, q23, F24, u, N, β, ha2, S, o25⟩
  have hl2 : acc2.length ≤ 2 := by rw [ha2]; (repeat' split) <;> simp
  refine id (nx_then (wp_seq (wp_seq (RG.start ?_))))
  refine S.q 4 [1, 3, 22] 1 ⟨[(1, .p 0 0), (3, .v (slv (acc2).length q23.1)), (22, .v (B (c.post != 0)))], [GT.cells c ()]⟩ .nil ?_; clear S; intro ac w β S
  rcases Bool.eq_false_or_eq_true (c.post != 0) with h41 | h41 <;> rw [h41] at S
  · have g42 : ¬ (c.post = 0) := bne_iff_ne.1 h41
    refine S.q 4 [1, 3, 26] 1 ⟨[(1, .p 0 0), (3, .v (slv (acc2).length q23.1)), (26, .v (B (!c.opn)))], [GT.cells c ()]⟩ .nil ?_; clear S; intro ac w β S
    refine RG.done rfl (nx_then ?_)
    refine wp_region_cut (fun ac w => ∃ (acc3 : List Int) (q43 : GT.Ptr (List Int)) (F44 : Bl) (u : World) (N : Bl) (β : Nat → Nat), (acc3 = (if f_within c.traps 0 3 then [] else [1]) ++ (if f_within c.post 0 255 then [] else [2]) ++ (if c.post ≠ 0 ∧ c.opn = false then [3] else [])) ∧ St Tryz.prog Tryz.f102.ntmps w0 NoB u N β ⟨[(1, .p 0 0), (3, .v (slv (acc3).length q43.1))], [GT.cells c ()]⟩ ac w ∧ Ow w0 NoB u N F44 acc3 q43) ?_ ?_
    · refine S.c (!c.opn) (fun h46 => ?_) (fun h46 => ?_)
      · have h47 : c.opn = false := not_t h46
        refine RG.start ?_
        refine S.q 1 [1, 27] 1 ⟨[(1, .p 0 0), (27, .v (slv (acc2).length q23.1))], [GT.cells c ()]⟩ .nil ?_; clear S; intro ac w β S
        refine RG.op rfl (S.bs1 (α := Int) (x := 3) (p := ()) (F := NoB) (show In64 3 from ⟨by decide, by decide⟩) (fun b h => False.elim h) (fun b h => False.elim h) (d := 28) (by kernel_rfl) ?_)
        clear S; intro ac w N q48 F49 S up o50 d51
        have d52 : Disj F24 F49 := d51 _ (fun b _ h => False.elim h) o25.sub
        replace o25 := o25.up up
        clear up d51
        refine RG.op rfl (S.appFlat (α := Int) o25 (o50.rn) (fun _ _ h => h) (by' := 8) (d := 29) (lx := (acc2).length) (ly := 1) rfl rfl (by kernel_rfl) (show _ ≤ 4194304 by simp only [List.length_append, List.length_cons, List.length_nil]; omega) ?_)
        clear S; intro ac w N q53 F54 S up o55 d56
        have d57 : Disj F49 F54 := d56 _ (Disj.symm d52) o50.sub
        replace o50 := o50.upF (Disj.symm d52) up
        clear up d56
        refine S.q 1 [1, 3] 1 ⟨[(1, .p 0 0), (3, .v (slv ((acc2 ++ [3])).length q53.1))], [GT.cells c ()]⟩ .nil ?_; clear S; intro ac w β S
        refine RG.done rfl ?_
        replace S := S.p [1, 3] 1 ⟨[(1, .p 0 0), (3, .v (slv ((acc2 ++ [3])).length q53.1))], [GT.cells c ()]⟩
        exact ⟨rfl, (acc2 ++ [3]), q53, F54, _, _, _, (by clear S; (first | (rw [if_pos (by assumption)]; simp [*]; done) | (rw [if_neg (by simp [*])]; simp [*]; done) | (rw [ha2]; (repeat' split) <;> first | rfl | (simp; done) | (exfalso; simp_all; done) | (simp_all; done)))), S.cast (by kernel_rfl), o55⟩
      · have h58 : c.opn = true := not_f h46
        refine wp_skip ?_
        replace S := S.p [1, 3] 1 ⟨[(1, .p 0 0), (3, .v (slv (acc2).length q23.1))], [GT.cells c ()]⟩
        exact ⟨rfl, acc2, q23, F24, _, _, _, (by clear S; (first | (rw [if_pos (by assumption)]; simp [*]; done) | (rw [if_neg (by simp [*])]; simp [*]; done) | (rw [ha2]; (repeat' split) <;> first | rfl | (simp; done) | (exfalso; simp_all; done) | (simp_all; done)))), S.cast (by kernel_rfl), o25⟩
    clear S o25
    rintro ac w ⟨acc3, q43, F44, u, N, β, ha3, S, o45⟩
    have hl3 : acc3.length ≤ 3 := by rw [ha3]; (repeat' split) <;> simp
    refine id (nx_then (wp_seq (wp_seq (RG.start ?_))))
    refine S.q 4 [1, 3, 33] 1 ⟨[(1, .p 0 0), (3, .v (slv (acc3).length q43.1)), (33, .v (B (c.traps == 2)))], [GT.cells c ()]⟩ .nil ?_; clear S; intro ac w β S
    rcases Bool.eq_false_or_eq_true (c.traps == 2) with h59 | h59 <;> rw [h59] at S
    · have g60 : c.traps = 2 := eq_of_beq h59
      refine S.q 4 [3, 37] 0 ⟨[(3, .v (slv (acc3).length q43.1)), (37, .v (B (c.post != 0)))], []⟩ .nil ?_; clear S; intro ac w β S
      refine RG.done rfl (nx_then ?_)
      refine wp_region_cut (fun ac w => ∃ (acc4 : List Int) (q61 : GT.Ptr (List Int)) (F62 : Bl) (u : World) (N : Bl) (β : Nat → Nat), (acc4 = (if f_within c.traps 0 3 then [] else [1]) ++ (if f_within c.post 0 255 then [] else [2]) ++ (if c.post ≠ 0 ∧ c.opn = false then [3] else []) ++ (if c.traps = 2 ∧ c.post ≠ 0 then [4] else [])) ∧ St Tryz.prog Tryz.f102.ntmps w0 NoB u N β ⟨[(3, .v (slv (acc4).length q61.1))], []⟩ ac w ∧ Ow w0 NoB u N F62 acc4 q61) ?_ ?_
      · refine S.c (c.post != 0) (fun h64 => ?_) (fun h64 => ?_)
        · have g65 : ¬ (c.post = 0) := bne_iff_ne.1 h64
          refine RG.start ?_
          refine S.q 1 [38] 0 ⟨[(38, .v (slv (acc3).length q43.1))], []⟩ .nil ?_; clear S; intro ac w β S
          refine RG.op rfl (S.bs1 (α := Int) (x := 4) (p := ()) (F := NoB) (show In64 4 from ⟨by decide, by decide⟩) (fun b h => False.elim h) (fun b h => False.elim h) (d := 39) (by kernel_rfl) ?_)
          clear S; intro ac w N q66 F67 S up o68 d69
          have d70 : Disj F44 F67 := d69 _ (fun b _ h => False.elim h) o45.sub
          replace o45 := o45.up up
          clear up d69
          refine RG.op rfl (S.appFlat (α := Int) o45 (o68.rn) (fun _ _ h => h) (by' := 8) (d := 40) (lx := (acc3).length) (ly := 1) rfl rfl (by kernel_rfl) (show _ ≤ 4194304 by simp only [List.length_append, List.length_cons, List.length_nil]; omega) ?_)
          clear S; intro ac w N q71 F72 S up o73 d74
          have d75 : Disj F67 F72 := d74 _ (Disj.symm d70) o68.sub
          replace o68 := o68.upF (Disj.symm d70) up
          clear up d74
          refine S.q 1 [3] 0 ⟨[(3, .v (slv ((acc3 ++ [4])).length q71.1))], []⟩ .nil ?_; clear S; intro ac w β S
          refine RG.done rfl ?_
          replace S := S.p [3] 0 ⟨[(3, .v (slv ((acc3 ++ [4])).length q71.1))], []⟩
          exact ⟨rfl, (acc3 ++ [4]), q71, F72, _, _, _, (by clear S; (first | (rw [if_pos (by assumption)]; simp [*]; done) | (rw [if_neg (by simp [*])]; simp [*]; done) | (rw [ha3]; (repeat' split) <;> first | rfl | (simp; done) | (exfalso; simp_all; done) | (simp_all; done)))), S.cast (by kernel_rfl), o73⟩
        · have g76 : c.post = 0 := ne_f h64
          refine wp_skip ?_
          replace S := S.p [3] 0 ⟨[(3, .v (slv (acc3).length q43.1))], []⟩
          exact ⟨rfl, acc3, q43, F44, _, _, _, (by clear S; (first | (rw [if_pos (by assumption)]; simp [*]; done) | (rw [if_neg (by simp [*])]; simp [*]; done) | (rw [ha3]; (repeat' split) <;> first | rfl | (simp; done) | (exfalso; simp_all; done) | (simp_all; done)))), S.cast (by kernel_rfl), o45⟩
      clear S o45
      rintro ac w ⟨acc4, q61, F62, u, N, β, ha4, S, o63⟩
      have hl4 : acc4.length ≤ 4 := by rw [ha4]; (repeat' split) <;> simp
      refine id (nx_then (wp_seq (RG.start ?_)))
      refine S.q 2 [2] 0 ⟨[(2, .v (slv (acc4).length q61.1))], []⟩ .nil ?_; clear S; intro ac w β S
      refine RG.done rfl (nx_then (wp_ret ?_))
      refine S.r [slv (acc4).length q61.1] ?_
      exact ret1_of S (show f_ctlFaults c = acc4 by clear S; (rw [ha4]; rfl)) rfl o63
    · have g77 : ¬ (c.traps = 2) := ne_of_beq_false h59
      refine S.q 4 [3, 37] 0 ⟨[(3, .v (slv (acc3).length q43.1)), (37, .v (B false))], []⟩ .nil ?_; clear S; intro ac w β S
      refine RG.done rfl (nx_then ?_)
      refine wp_region_cut (fun ac w => ∃ (acc4 : List Int) (q78 : GT.Ptr (List Int)) (F79 : Bl) (u : World) (N : Bl) (β : Nat → Nat), (acc4 = (if f_within c.traps 0 3 then [] else [1]) ++ (if f_within c.post 0 255 then [] else [2]) ++ (if c.post ≠ 0 ∧ c.opn = false then [3] else []) ++ (if c.traps = 2 ∧ c.post ≠ 0 then [4] else [])) ∧ St Tryz.prog Tryz.f102.ntmps w0 NoB u N β ⟨[(3, .v (slv (acc4).length q78.1))], []⟩ ac w ∧ Ow w0 NoB u N F79 acc4 q78) ?_ ?_
      · refine S.c false (fun hx => by cases hx) (fun _ => ?_)
        refine wp_skip ?_
        replace S := S.p [3] 0 ⟨[(3, .v (slv (acc3).length q43.1))], []⟩
        exact ⟨rfl, acc3, q43, F44, _, _, _, (by clear S; (first | (rw [if_pos (by assumption)]; simp [*]; done) | (rw [if_neg (by simp [*])]; simp [*]; done) | (rw [ha3]; (repeat' split) <;> first | rfl | (simp; done) | (exfalso; simp_all; done) | (simp_all; done)))), S.cast (by kernel_rfl), o45⟩
      clear S o45
      rintro ac w ⟨acc4, q78, F79, u, N, β, ha4, S, o80⟩
      have hl4 : acc4.length ≤ 4 := by rw [ha4]; (repeat' split) <;> simp
      refine id (nx_then (wp_seq (RG.start ?_)))
      refine S.q 2 [2] 0 ⟨[(2, .v (slv (acc4).length q78.1))], []⟩ .nil ?_; clear S; intro ac w β S
      refine RG.done rfl (nx_then (wp_ret ?_))
      refine S.r [slv (acc4).length q78.1] ?_
      exact ret1_of S (show f_ctlFaults c = acc4 by clear S; (rw [ha4]; rfl)) rfl o80
  · have g81 : c.post = 0 := ne_f h41
    refine S.q 4 [1, 3, 26] 1 ⟨[(1, .p 0 0), (3, .v (slv (acc2).length q23.1)), (26, .v (B false))], [GT.cells c ()]⟩ .nil ?_; clear S; intro ac w β S
    refine RG.done rfl (nx_then ?_)
    refine wp_region_cut (fun ac w => ∃ (acc3 : List Int) (q82 : GT.Ptr (List Int)) (F83 : Bl) (u : World) (N : Bl) (β : Nat → Nat), (acc3 = (if f_within c.traps 0 3 then [] else [1]) ++ (if f_within c.post 0 255 then [] else [2]) ++ (if c.post ≠ 0 ∧ c.opn = false then [3] else [])) ∧ St Tryz.prog Tryz.f102.ntmps w0 NoB u N β ⟨[(1, .p 0 0), (3, .v (slv (acc3).length q82.1))], [GT.cells c ()]⟩ ac w ∧ Ow w0 NoB u N F83 acc3 q82) ?_ ?_
    · refine S.c false (fun hx => by cases hx) (fun _ => ?_)
      refine wp_skip ?_
      replace S := S.p [1, 3] 1 ⟨[(1, .p 0 0), (3, .v (slv (acc2).length q23.1))], [GT.cells c ()]⟩
      exact ⟨rfl, acc2, q23, F24, _, _, _, (by clear S; (first | (rw [if_pos (by assumption)]; simp [*]; done) | (rw [if_neg (by simp [*])]; simp [*]; done) | (rw [ha2]; (repeat' split) <;> first | rfl | (simp; done) | (exfalso; simp_all; done) | (simp_all; done)))), S.cast (by kernel_rfl), o25⟩
    clear S o25
    rintro ac w ⟨acc3, q82, F83, u, N, β, ha3, S, o84⟩
    have hl3 : acc3.length ≤ 3 := by rw [ha3]; (repeat' split) <;> simp
    refine id (nx_then (wp_seq (wp_seq (RG.start ?_))))
    refine S.q 4 [1, 3, 33] 1 ⟨[(1, .p 0 0), (3, .v (slv (acc3).length q82.1)), (33, .v (B (c.traps == 2)))], [GT.cells c ()]⟩ .nil ?_; clear S; intro ac w β S
    rcases Bool.eq_false_or_eq_true (c.traps == 2) with h85 | h85 <;> rw [h85] at S
    · have g86 : c.traps = 2 := eq_of_beq h85
      refine S.q 4 [3, 37] 0 ⟨[(3, .v (slv (acc3).length q82.1)), (37, .v (B (c.post != 0)))], []⟩ .nil ?_; clear S; intro ac w β S
      refine RG.done rfl (nx_then ?_)
      refine wp_region_cut (fun ac w => ∃ (acc4 : List Int) (q87 : GT.Ptr (List Int)) (F88 : Bl) (u : World) (N : Bl) (β : Nat → Nat), (acc4 = (if f_within c.traps 0 3 then [] else [1]) ++ (if f_within c.post 0 255 then [] else [2]) ++ (if c.post ≠ 0 ∧ c.opn = false then [3] else []) ++ (if c.traps = 2 ∧ c.post ≠ 0 then [4] else [])) ∧ St Tryz.prog Tryz.f102.ntmps w0 NoB u N β ⟨[(3, .v (slv (acc4).length q87.1))], []⟩ ac w ∧ Ow w0 NoB u N F88 acc4 q87) ?_ ?_
      · refine S.c (c.post != 0) (fun h90 => ?_) (fun h90 => ?_)
        · have g91 : ¬ (c.post = 0) := bne_iff_ne.1 h90
          refine RG.start ?_
          refine S.q 1 [38] 0 ⟨[(38, .v (slv (acc3).length q82.1))], []⟩ .nil ?_; clear S; intro ac w β S
          refine RG.op rfl (S.bs1 (α := Int) (x := 4) (p := ()) (F := NoB) (show In64 4 from ⟨by decide, by decide⟩) (fun b h => False.elim h) (fun b h => False.elim h) (d := 39) (by kernel_rfl) ?_)
          clear S; intro ac w N q92 F93 S up o94 d95
          have d96 : Disj F83 F93 := d95 _ (fun b _ h => False.elim h) o84.sub
          replace o84 := o84.up up
          clear up d95
          refine RG.op rfl (S.appFlat (α := Int) o84 (o94.rn) (fun _ _ h => h) (by' := 8) (d := 40) (lx := (acc3).length) (ly := 1) rfl rfl (by kernel_rfl) (show _ ≤ 4194304 by simp only [List.length_append, List.length_cons, List.length_nil]; omega) ?_)
          clear S; intro ac w N q97 F98 S up o99 d100
          have d101 : Disj F93 F98 := d100 _ (Disj.symm d96) o94.sub
          replace o94 := o94.upF (Disj.symm d96) up
          clear up d100
          refine S.q 1 [3] 0 ⟨[(3, .v (slv ((acc3 ++ [4])).length q97.1))], []⟩ .nil ?_; clear S; intro ac w β S
          refine RG.done rfl ?_
          replace S := S.p [3] 0 ⟨[(3, .v (slv ((acc3 ++ [4])).length q97.1))], []⟩
          exact ⟨rfl, (acc3 ++ [4]), q97, F98, _, _, _, (by clear S; (first | (rw [if_pos (by assumption)]; simp [*]; done) | (rw [if_neg (by simp [*])]; simp [*]; done) | (rw [ha3]; (repeat' split) <;> first | rfl | (simp; done) | (exfalso; simp_all; done) | (simp_all; done)))), S.cast (by kernel_rfl), o99⟩
        · have g102 : c.post = 0 := ne_f h90
          refine wp_skip ?_
          replace S := S.p [3] 0 ⟨[(3, .v (slv (acc3).length q82.1))], []⟩
          exact ⟨rfl, acc3, q82, F83, _, _, _, (by clear S; (first | (rw [if_pos (by assumption)]; simp [*]; done) | (rw [if_neg (by simp [*])]; simp [*]; done) | (rw [ha3]; (repeat' split) <;> first | rfl | (simp; done) | (exfalso; simp_all; done) | (simp_all; done)))), S.cast (by kernel_rfl), o84⟩
      clear S o84
      rintro ac w ⟨acc4, q87, F88, u, N, β, ha4, S, o89⟩
      have hl4 : acc4.length ≤ 4 := by rw [ha4]; (repeat' split) <;> simp
      refine id (nx_then (wp_seq (RG.start ?_)))
      refine S.q 2 [2] 0 ⟨[(2, .v (slv (acc4).length q87.1))], []⟩ .nil ?_; clear S; intro ac w β S
      refine RG.done rfl (nx_then (wp_ret ?_))
      refine S.r [slv (acc4).length q87.1] ?_
      exact ret1_of S (show f_ctlFaults c = acc4 by clear S; (rw [ha4]; rfl)) rfl o89
    · have g103 : ¬ (c.traps = 2) := ne_of_beq_false h85
      refine S.q 4 [3, 37] 0 ⟨[(3, .v (slv (acc3).length q82.1)), (37, .v (B false))], []⟩ .nil ?_; clear S; intro ac w β S
      refine RG.done rfl (nx_then ?_)
      refine wp_region_cut (fun ac w => ∃ (acc4 : List Int) (q104 : GT.Ptr (List Int)) (F105 : Bl) (u : World) (N : Bl) (β : Nat → Nat), (acc4 = (if f_within c.traps 0 3 then [] else [1]) ++ (if f_within c.post 0 255 then [] else [2]) ++ (if c.post ≠ 0 ∧ c.opn = false then [3] else []) ++ (if c.traps = 2 ∧ c.post ≠ 0 then [4] else [])) ∧ St Tryz.prog Tryz.f102.ntmps w0 NoB u N β ⟨[(3, .v (slv (acc4).length q104.1))], []⟩ ac w ∧ Ow w0 NoB u N F105 acc4 q104) ?_ ?_
      · refine S.c false (fun hx => by cases hx) (fun _ => ?_)
        refine wp_skip ?_
        replace S := S.p [3] 0 ⟨[(3, .v (slv (acc3).length q82.1))], []⟩
        exact ⟨rfl, acc3, q82, F83, _, _, _, (by clear S; (first | (rw [if_pos (by assumption)]; simp [*]; done) | (rw [if_neg (by simp [*])]; simp [*]; done) | (rw [ha3]; (repeat' split) <;> first | rfl | (simp; done) | (exfalso; simp_all; done) | (simp_all; done)))), S.cast (by kernel_rfl), o84⟩
      clear S o84
      rintro ac w ⟨acc4, q104, F105, u, N, β, ha4, S, o106⟩
      have hl4 : acc4.length ≤ 4 := by rw [ha4]; (repeat' split) <;> simp
      refine id (nx_then (wp_seq (RG.start ?_)))
      refine S.q 2 [2] 0 ⟨[(2, .v (slv (acc4).length q104.1))], []⟩ .nil ?_; clear S; intro ac w β S
      refine RG.done rfl (nx_then (wp_ret ?_))
      refine S.r [slv (acc4).length q104.1] ?_
      exact ret1_of S (show f_ctlFaults c = acc4 by clear S; (rw [ha4]; rfl)) rfl o106

set_option maxRecDepth 100000 in
theorem c_impl_CtlOk (w0 : World) (c : TCtl) : Calls Tryz.prog 88 [GT.val c ()].toArray w0 (fun e w' => e = .returned (B (f_ctlOk c)) ∧ Chg NoB w0 w') := by
  refine Calls.walk (args := [GT.val c ()]) NoB Tryz.func88 rfl rfl ?_
  intro ac β S
  refine wp_seq (RG.start ?_)
  refine S.q 2 [1] 1 ⟨[(1, .p 0 0)], [GT.cells c ()]⟩ .nil ?_; clear S; intro ac w β S
  refine RG.done rfl (nx_then (wp_seq (RG.start ?_)))
  refine S.q 1 [3] 0 ⟨[(3, .v (GT.val c ()))], []⟩ .nil ?_; clear S; intro ac w β S
  refine RG.op rfl (S.call1 (r := f_ctlFaults c) (d := 4) (c_impl_CtlFaults w c) (by kernel_rfl) rfl ?_)
  clear S; intro ac w N q1 F2 S up o3 d4
  clear up d4
  refine S.q 3 [2] 0 ⟨[(2, .v (B ((((f_ctlFaults c)).length : Int) == 0)))], []⟩ .nil ?_; clear S; intro ac w β S
  refine RG.done rfl (nx_then (wp_ret ?_))
  refine S.r [B ((((f_ctlFaults c)).length : Int) == 0)] ?_
  exact ⟨retB (by clear S; first | rfl | (simp [f_ctlOk, *]; done) | (simp [f_ctlOk, *]; omega) | (simp_all [f_ctlOk]; done) | (simp_all [f_ctlOk]; omega)), S.chg⟩

set_option maxRecDepth 100000 in
theorem c_impl_PendOk (w0 : World) (p : Int) : Calls Tryz.prog 70 [I p].toArray w0 (fun e w' => e = .returned (B (f_within p 0 255)) ∧ Chg NoB w0 w') := by
  refine Calls.walk (args := [I p]) NoB Tryz.func70 rfl rfl ?_
  intro ac β S
  refine wp_seq (RG.start ?_)
  refine S.q 1 [0] 0 ⟨[(0, .v (I p))], []⟩ .nil ?_; clear S; intro ac w β S
  refine RG.done rfl (nx_then (wp_seq (RG.start ?_)))
  refine S.q 3 [2] 0 ⟨[(2, .v (B (f_within p 0 255)))], []⟩ (.cons (Q_call fun w hw => c_impl_within w p 0 255) .nil) ?_; clear S; intro ac w β S
  refine RG.done rfl (nx_then (wp_ret ?_))
  refine S.r [B (f_within p 0 255)] ?_
  exact ⟨retB (by clear S; first | rfl | (simp [f_within, *]; done) | (simp [f_within, *]; omega) | (simp_all [f_within]; done) | (simp_all [f_within]; omega)), S.chg⟩

set_option maxRecDepth 100000 in
theorem c_impl_ExitOk (w0 : World) (x : TExit) : Calls Tryz.prog 89 [GT.val x ()].toArray w0 (fun e w' => e = .returned (B (f_exitOk x)) ∧ Chg NoB w0 w') := by
  refine Calls.walk (args := [GT.val x ()]) NoB Tryz.func89 rfl rfl ?_
  intro ac β S
  refine wp_seq (RG.start ?_)
  refine S.q 2 [1] 1 ⟨[(1, .p 0 0)], [GT.cells x ()]⟩ .nil ?_; clear S; intro ac w β S
  refine RG.done rfl (nx_then (wp_seq (wp_seq (RG.start ?_))))
  refine S.q 2 [1, 4] 1 ⟨[(1, .p 0 0), (4, .v (I x.kind))], [GT.cells x ()]⟩ .nil ?_; clear S; intro ac w β S
  refine RG.done rfl (nx_then (wp_block (wp_seq (wp_seq (RG.start ?_)))))
  refine S.q 2 [1, 4, 5] 1 ⟨[(1, .p 0 0), (4, .v (I x.kind)), (5, .v (B (x.kind == 0)))], [GT.cells x ()]⟩ .nil ?_; clear S; intro ac w β S
  refine RG.done rfl (nx_then ?_)
  refine S.c (x.kind == 0) (fun h1 => ?_) (fun h1 => ?_)
  · rw [h1] at S
    have g2 : x.kind = 0 := eq_of_beq h1
    refine wp_skip (nx_then ?_)
    refine S.c true (fun _ => ?_) (fun hx => by cases hx)
    refine wp_seq (RG.start ?_)
    refine S.q 4 [1, 11] 1 ⟨[(1, .p 0 0), (11, .v (B (x.page == 0)))], [GT.cells x ()]⟩ .nil ?_; clear S; intro ac w β S
    rcases Bool.eq_false_or_eq_true (x.page == 0) with h3 | h3 <;> rw [h3] at S
    · have g4 : x.page = 0 := eq_of_beq h3
      refine S.q 5 [1, 16] 1 ⟨[(1, .p 0 0), (16, .v (B (!x.wr)))], [GT.cells x ()]⟩ .nil ?_; clear S; intro ac w β S
      rcases Bool.eq_false_or_eq_true (!x.wr) with h5 | h5 <;> rw [h5] at S
      · have h6 : x.wr = false := not_t h5
        refine S.q 5 [2] 0 ⟨[(2, .v (B (x.n == 0)))], []⟩ .nil ?_; clear S; intro ac w β S
        refine RG.done rfl (nx_then (wp_ret (rt_block (rt_then ?_))))
        refine S.r [B (x.n == 0)] ?_
        exact ⟨retB (by clear S; (unfold f_exitOk; (repeat' split) <;> first | rfl | (exfalso; simp_all; done) | (exfalso; omega) | (rw [Bool.eq_iff_iff]; simp [TExit.ext_iff, *]; done) | (rw [Bool.eq_iff_iff]; simp_all [TExit.ext_iff, and_assoc]; done) | (rw [Bool.eq_iff_iff]; simp_all [TExit.ext_iff, and_assoc]; omega))), S.chg⟩
      · have h7 : x.wr = true := not_f h5
        refine S.q 5 [2] 0 ⟨[(2, .v (B false))], []⟩ .nil ?_; clear S; intro ac w β S
        refine RG.done rfl (nx_then (wp_ret (rt_block (rt_then ?_))))
        refine S.r [B false] ?_
        exact ⟨retB (by clear S; (unfold f_exitOk; (repeat' split) <;> first | rfl | (exfalso; simp_all; done) | (exfalso; omega) | (rw [Bool.eq_iff_iff]; simp [TExit.ext_iff, *]; done) | (rw [Bool.eq_iff_iff]; simp_all [TExit.ext_iff, and_assoc]; done) | (rw [Bool.eq_iff_iff]; simp_all [TExit.ext_iff, and_assoc]; omega))), S.chg⟩
    · have g8 : ¬ (x.page = 0) := ne_of_beq_false h3
      refine S.q 10 [2] 0 ⟨[(2, .v (B false))], []⟩ .nil ?_; clear S; intro ac w β S
      refine RG.done rfl (nx_then (wp_ret (rt_block (rt_then ?_))))
      refine S.r [B false] ?_
      exact ⟨retB (by clear S; (unfold f_exitOk; (repeat' split) <;> first | rfl | (exfalso; simp_all; done) | (exfalso; omega) | (rw [Bool.eq_iff_iff]; simp [TExit.ext_iff, *]; done) | (rw [Bool.eq_iff_iff]; simp_all [TExit.ext_iff, and_assoc]; done) | (rw [Bool.eq_iff_iff]; simp_all [TExit.ext_iff, and_assoc]; omega))), S.chg⟩
  · have g9 : ¬ (x.kind = 0) := ne_of_beq_false h1
    refine RG.start ?_
    refine S.q 2 [1, 4, 5] 1 ⟨[(1, .p 0 0), (4, .v (I x.kind)), (5, .v (B (x.kind == 4)))], [GT.cells x ()]⟩ .nil ?_; clear S; intro ac w β S
    refine RG.done rfl (nx_then ?_)
    refine S.c (x.kind == 4) (fun h10 => ?_) (fun h10 => ?_)
    · have g11 : x.kind = 4 := eq_of_beq h10
      refine wp_seq (RG.start ?_)
      refine S.q 4 [1, 11] 1 ⟨[(1, .p 0 0), (11, .v (B (x.page == 0)))], [GT.cells x ()]⟩ .nil ?_; clear S; intro ac w β S
      rcases Bool.eq_false_or_eq_true (x.page == 0) with h12 | h12 <;> rw [h12] at S
      · have g13 : x.page = 0 := eq_of_beq h12
        refine S.q 5 [1, 16] 1 ⟨[(1, .p 0 0), (16, .v (B (!x.wr)))], [GT.cells x ()]⟩ .nil ?_; clear S; intro ac w β S
        rcases Bool.eq_false_or_eq_true (!x.wr) with h14 | h14 <;> rw [h14] at S
        · have h15 : x.wr = false := not_t h14
          refine S.q 5 [2] 0 ⟨[(2, .v (B (x.n == 0)))], []⟩ .nil ?_; clear S; intro ac w β S
          refine RG.done rfl (nx_then (wp_ret (rt_block (rt_then ?_))))
          refine S.r [B (x.n == 0)] ?_
          exact ⟨retB (by clear S; (unfold f_exitOk; (repeat' split) <;> first | rfl | (exfalso; simp_all; done) | (exfalso; omega) | (rw [Bool.eq_iff_iff]; simp [TExit.ext_iff, *]; done) | (rw [Bool.eq_iff_iff]; simp_all [TExit.ext_iff, and_assoc]; done) | (rw [Bool.eq_iff_iff]; simp_all [TExit.ext_iff, and_assoc]; omega))), S.chg⟩
        · have h16 : x.wr = true := not_f h14
          refine S.q 5 [2] 0 ⟨[(2, .v (B false))], []⟩ .nil ?_; clear S; intro ac w β S
          refine RG.done rfl (nx_then (wp_ret (rt_block (rt_then ?_))))
          refine S.r [B false] ?_
          exact ⟨retB (by clear S; (unfold f_exitOk; (repeat' split) <;> first | rfl | (exfalso; simp_all; done) | (exfalso; omega) | (rw [Bool.eq_iff_iff]; simp [TExit.ext_iff, *]; done) | (rw [Bool.eq_iff_iff]; simp_all [TExit.ext_iff, and_assoc]; done) | (rw [Bool.eq_iff_iff]; simp_all [TExit.ext_iff, and_assoc]; omega))), S.chg⟩
      · have g17 : ¬ (x.page = 0) := ne_of_beq_false h12
        refine S.q 10 [2] 0 ⟨[(2, .v (B false))], []⟩ .nil ?_; clear S; intro ac w β S
        refine RG.done rfl (nx_then (wp_ret (rt_block (rt_then ?_))))
        refine S.r [B false] ?_
        exact ⟨retB (by clear S; (unfold f_exitOk; (repeat' split) <;> first | rfl | (exfalso; simp_all; done) | (exfalso; omega) | (rw [Bool.eq_iff_iff]; simp [TExit.ext_iff, *]; done) | (rw [Bool.eq_iff_iff]; simp_all [TExit.ext_iff, and_assoc]; done) | (rw [Bool.eq_iff_iff]; simp_all [TExit.ext_iff, and_assoc]; omega))), S.chg⟩
    · have g18 : ¬ (x.kind = 4) := ne_of_beq_false h10
      refine wp_seq (RG.start ?_)
      refine S.q 2 [1, 4, 21] 1 ⟨[(1, .p 0 0), (4, .v (I x.kind)), (21, .v (B (x.kind == 1)))], [GT.cells x ()]⟩ .nil ?_; clear S; intro ac w β S
      refine RG.done rfl (nx_then ?_)
      refine S.c (x.kind == 1) (fun h19 => ?_) (fun h19 => ?_)
      · have g20 : x.kind = 1 := eq_of_beq h19
        refine wp_seq (RG.start ?_)
        refine S.q 4 [1, 26] 1 ⟨[(1, .p 0 0), (26, .v (B (f_within x.page 0 3)))], [GT.cells x ()]⟩ (.cons (Q_call fun w hw => c_impl_within w x.page 0 3) .nil) ?_; clear S; intro ac w β S
        rcases Bool.eq_false_or_eq_true (f_within x.page 0 3) with h21 | h21 <;> rw [h21] at S
        · have g22 := within_t h21
          refine S.q 5 [2] 0 ⟨[(2, .v (B (x.n == 0)))], []⟩ .nil ?_; clear S; intro ac w β S
          refine RG.done rfl (nx_then (wp_ret (rt_block (rt_then ?_))))
          refine S.r [B (x.n == 0)] ?_
          exact ⟨retB (by clear S; (unfold f_exitOk; (repeat' split) <;> first | rfl | (exfalso; simp_all; done) | (exfalso; omega) | (rw [Bool.eq_iff_iff]; simp [TExit.ext_iff, *]; done) | (rw [Bool.eq_iff_iff]; simp_all [TExit.ext_iff, and_assoc]; done) | (rw [Bool.eq_iff_iff]; simp_all [TExit.ext_iff, and_assoc]; omega))), S.chg⟩
        · have g23 := within_f h21
          refine S.q 5 [2] 0 ⟨[(2, .v (B false))], []⟩ .nil ?_; clear S; intro ac w β S
          refine RG.done rfl (nx_then (wp_ret (rt_block (rt_then ?_))))
          refine S.r [B false] ?_
          exact ⟨retB (by clear S; (unfold f_exitOk; (repeat' split) <;> first | rfl | (exfalso; simp_all; done) | (exfalso; omega) | (rw [Bool.eq_iff_iff]; simp [TExit.ext_iff, *]; done) | (rw [Bool.eq_iff_iff]; simp_all [TExit.ext_iff, and_assoc]; done) | (rw [Bool.eq_iff_iff]; simp_all [TExit.ext_iff, and_assoc]; omega))), S.chg⟩
      · have g24 : ¬ (x.kind = 1) := ne_of_beq_false h19
        refine wp_seq (wp_seq (RG.start ?_))
        refine S.q 2 [1, 4, 31] 1 ⟨[(1, .p 0 0), (4, .v (I x.kind)), (31, .v (B (x.kind == 2)))], [GT.cells x ()]⟩ .nil ?_; clear S; intro ac w β S
        refine RG.done rfl (nx_then ?_)
        refine S.c (x.kind == 2) (fun h25 => ?_) (fun h25 => ?_)
        · rw [h25] at S
          have g26 : x.kind = 2 := eq_of_beq h25
          refine wp_skip (nx_then ?_)
          refine S.c true (fun _ => ?_) (fun hx => by cases hx)
          refine wp_seq (RG.start ?_)
          refine S.q 4 [1, 37] 1 ⟨[(1, .p 0 0), (37, .v (B (f_within x.n 0 99)))], [GT.cells x ()]⟩ (.cons (Q_call fun w hw => c_impl_within w x.n 0 99) .nil) ?_; clear S; intro ac w β S
          rcases Bool.eq_false_or_eq_true (f_within x.n 0 99) with h27 | h27 <;> rw [h27] at S
          · have g28 := within_t h27
            refine S.q 5 [1, 42] 1 ⟨[(1, .p 0 0), (42, .v (B (x.page == 0)))], [GT.cells x ()]⟩ .nil ?_; clear S; intro ac w β S
            rcases Bool.eq_false_or_eq_true (x.page == 0) with h29 | h29 <;> rw [h29] at S
            · have g30 : x.page = 0 := eq_of_beq h29
              refine S.q 5 [2] 0 ⟨[(2, .v (B (!x.wr)))], []⟩ .nil ?_; clear S; intro ac w β S
              refine RG.done rfl (nx_then (wp_ret (rt_block (rt_then ?_))))
              refine S.r [B (!x.wr)] ?_
              exact ⟨retB (by clear S; (unfold f_exitOk; (repeat' split) <;> first | rfl | (exfalso; simp_all; done) | (exfalso; omega) | (rw [Bool.eq_iff_iff]; simp [TExit.ext_iff, *]; done) | (rw [Bool.eq_iff_iff]; simp_all [TExit.ext_iff, and_assoc]; done) | (rw [Bool.eq_iff_iff]; simp_all [TExit.ext_iff, and_assoc]; omega))), S.chg⟩
            · have g31 : ¬ (x.page = 0) := ne_of_beq_false h29
              refine S.q 5 [2] 0 ⟨[(2, .v (B false))], []⟩ .nil ?_; clear S; intro ac w β S
              refine RG.done rfl (nx_then (wp_ret (rt_block (rt_then ?_))))
              refine S.r [B false] ?_
              exact ⟨retB (by clear S; (unfold f_exitOk; (repeat' split) <;> first | rfl | (exfalso; simp_all; done) | (exfalso; omega) | (rw [Bool.eq_iff_iff]; simp [TExit.ext_iff, *]; done) | (rw [Bool.eq_iff_iff]; simp_all [TExit.ext_iff, and_assoc]; done) | (rw [Bool.eq_iff_iff]; simp_all [TExit.ext_iff, and_assoc]; omega))), S.chg⟩
          · have g32 := within_f h27
            refine S.q 10 [2] 0 ⟨[(2, .v (B false))], []⟩ .nil ?_; clear S; intro ac w β S
            refine RG.done rfl (nx_then (wp_ret (rt_block (rt_then ?_))))
            refine S.r [B false] ?_
            exact ⟨retB (by clear S; (unfold f_exitOk; (repeat' split) <;> first | rfl | (exfalso; simp_all; done) | (exfalso; omega) | (rw [Bool.eq_iff_iff]; simp [TExit.ext_iff, *]; done) | (rw [Bool.eq_iff_iff]; simp_all [TExit.ext_iff, and_assoc]; done) | (rw [Bool.eq_iff_iff]; simp_all [TExit.ext_iff, and_assoc]; omega))), S.chg⟩
        · have g33 : ¬ (x.kind = 2) := ne_of_beq_false h25
          refine RG.start ?_
          refine S.q 2 [1, 31] 1 ⟨[(1, .p 0 0), (31, .v (B (x.kind == 3)))], [GT.cells x ()]⟩ .nil ?_; clear S; intro ac w β S
          refine RG.done rfl (nx_then ?_)
          refine S.c (x.kind == 3) (fun h34 => ?_) (fun h34 => ?_)
          · have g35 : x.kind = 3 := eq_of_beq h34
            refine wp_seq (RG.start ?_)
            refine S.q 4 [1, 37] 1 ⟨[(1, .p 0 0), (37, .v (B (f_within x.n 0 99)))], [GT.cells x ()]⟩ (.cons (Q_call fun w hw => c_impl_within w x.n 0 99) .nil) ?_; clear S; intro ac w β S
            rcases Bool.eq_false_or_eq_true (f_within x.n 0 99) with h36 | h36 <;> rw [h36] at S
            · have g37 := within_t h36
              refine S.q 5 [1, 42] 1 ⟨[(1, .p 0 0), (42, .v (B (x.page == 0)))], [GT.cells x ()]⟩ .nil ?_; clear S; intro ac w β S
              rcases Bool.eq_false_or_eq_true (x.page == 0) with h38 | h38 <;> rw [h38] at S
              · have g39 : x.page = 0 := eq_of_beq h38
                refine S.q 5 [2] 0 ⟨[(2, .v (B (!x.wr)))], []⟩ .nil ?_; clear S; intro ac w β S
                refine RG.done rfl (nx_then (wp_ret (rt_block (rt_then ?_))))
                refine S.r [B (!x.wr)] ?_
                exact ⟨retB (by clear S; (unfold f_exitOk; (repeat' split) <;> first | rfl | (exfalso; simp_all; done) | (exfalso; omega) | (rw [Bool.eq_iff_iff]; simp [TExit.ext_iff, *]; done) | (rw [Bool.eq_iff_iff]; simp_all [TExit.ext_iff, and_assoc]; done) | (rw [Bool.eq_iff_iff]; simp_all [TExit.ext_iff, and_assoc]; omega))), S.chg⟩
              · have g40 : ¬ (x.page = 0) := ne_of_beq_false h38
                refine S.q 5 [2] 0 ⟨[(2, .v (B false))], []⟩ .nil ?_; clear S; intro ac w β S
                refine RG.done rfl (nx_then (wp_ret (rt_block (rt_then ?_))))
                refine S.r [B false] ?_
                exact ⟨retB (by clear S; (unfold f_exitOk; (repeat' split) <;> first | rfl | (exfalso; simp_all; done) | (exfalso; omega) | (rw [Bool.eq_iff_iff]; simp [TExit.ext_iff, *]; done) | (rw [Bool.eq_iff_iff]; simp_all [TExit.ext_iff, and_assoc]; done) | (rw [Bool.eq_iff_iff]; simp_all [TExit.ext_iff, and_assoc]; omega))), S.chg⟩
            · have g41 := within_f h36
              refine S.q 10 [2] 0 ⟨[(2, .v (B false))], []⟩ .nil ?_; clear S; intro ac w β S
              refine RG.done rfl (nx_then (wp_ret (rt_block (rt_then ?_))))
              refine S.r [B false] ?_
              exact ⟨retB (by clear S; (unfold f_exitOk; (repeat' split) <;> first | rfl | (exfalso; simp_all; done) | (exfalso; omega) | (rw [Bool.eq_iff_iff]; simp [TExit.ext_iff, *]; done) | (rw [Bool.eq_iff_iff]; simp_all [TExit.ext_iff, and_assoc]; done) | (rw [Bool.eq_iff_iff]; simp_all [TExit.ext_iff, and_assoc]; omega))), S.chg⟩
          · have g42 : ¬ (x.kind = 3) := ne_of_beq_false h34
            refine wp_skip (nx_block (nx_then (wp_seq (RG.start ?_))))
            refine S.q 1 [2] 0 ⟨[(2, .v (B false))], []⟩ .nil ?_; clear S; intro ac w β S
            refine RG.done rfl (nx_then (wp_ret ?_))
            refine S.r [B false] ?_
            exact ⟨retB (by clear S; (unfold f_exitOk; (repeat' split) <;> first | rfl | (exfalso; simp_all; done) | (exfalso; omega) | (rw [Bool.eq_iff_iff]; simp [TExit.ext_iff, *]; done) | (rw [Bool.eq_iff_iff]; simp_all [TExit.ext_iff, and_assoc]; done) | (rw [Bool.eq_iff_iff]; simp_all [TExit.ext_iff, and_assoc]; omega))), S.chg⟩

set_option maxRecDepth 100000 in
theorem c_impl_GuestOk (w0 : World) (g : TGuest) (pg : PGuest) (hg : GT.rd KK (Lt w0.heap.size) w0 g pg) : Calls Tryz.prog 68 [GT.val g pg].toArray w0 (fun e w' => e = .returned (B (f_guestOk g)) ∧ Chg NoB w0 w') := by
  refine Calls.walk (args := [GT.val g pg]) NoB Tryz.func68 rfl rfl ?_
  intro ac β S
  have hleg_prog : g.prog.length ≤ 4194304 := LRd.le (RGuest.prog (d := g) hg)
  have hleg_written : g.written.length ≤ 4194304 := LRd.le (RGuest.written (d := g) hg)
  have hleg_live : g.live.length ≤ 4194304 := LRd.le (RGuest.live (d := g) hg)
  have hleg_seen : g.seen.length ≤ 4194304 := LRd.le (RGuest.seen (d := g) hg)
  refine wp_seq (RG.start ?_)
  refine S.q 2 [1] 1 ⟨[(1, .p 0 0)], [GT.cells g pg]⟩ .nil ?_; clear S; intro ac w β S
  refine RG.done rfl (nx_then (wp_seq (RG.start ?_)))
  refine S.q 4 [1, 6] 1 ⟨[(1, .p 0 0), (6, .v (B (f_progOk g.prog)))], [GT.cells g pg]⟩ (.cons (Q_call fun w hw => c_impl_ProgOk w g.prog pg.prog (rd_of (RGuest.prog (d := g) (S.arg hg)) hw)) .nil) ?_; clear S; intro ac w β S
  rcases Bool.eq_false_or_eq_true (f_progOk g.prog) with h1 | h1 <;> rw [h1] at S
  · refine S.q 5 [1, 11] 1 ⟨[(1, .p 0 0), (11, .v (B (f_within g.acc 0 99)))], [GT.cells g pg]⟩ (.cons (Q_call fun w hw => c_impl_within w g.acc 0 99) .nil) ?_; clear S; intro ac w β S
    rcases Bool.eq_false_or_eq_true (f_within g.acc 0 99) with h2 | h2 <;> rw [h2] at S
    · have g3 := within_t h2
      refine S.q 5 [1, 16] 1 ⟨[(1, .p 0 0), (16, .v (B (f_within g.pc 0 12)))], [GT.cells g pg]⟩ (.cons (Q_call fun w hw => c_impl_within w g.pc 0 12) .nil) ?_; clear S; intro ac w β S
      rcases Bool.eq_false_or_eq_true (f_within g.pc 0 12) with h4 | h4 <;> rw [h4] at S
      · have g5 := within_t h4
        refine S.q 5 [1, 21] 1 ⟨[(1, .p 0 0), (21, .v (B (f_tableOk g.written 4 8)))], [GT.cells g pg]⟩ (.cons (Q_call fun w hw => c_impl_TableOk w g.written pg.written (rd_of (RGuest.written (d := g) (S.arg hg)) hw) 4 8 (by omega) (by omega)) .nil) ?_; clear S; intro ac w β S
        rcases Bool.eq_false_or_eq_true (f_tableOk g.written 4 8) with h6 | h6 <;> rw [h6] at S
        · have g7 := tableOk_t h6
          refine S.q 5 [1, 26] 1 ⟨[(1, .p 0 0), (26, .v (B (f_tableOk g.live 4 8)))], [GT.cells g pg]⟩ (.cons (Q_call fun w hw => c_impl_TableOk w g.live pg.live (rd_of (RGuest.live (d := g) (S.arg hg)) hw) 4 8 (by omega) (by omega)) .nil) ?_; clear S; intro ac w β S
          rcases Bool.eq_false_or_eq_true (f_tableOk g.live 4 8) with h8 | h8 <;> rw [h8] at S
          · have g9 := tableOk_t h8
            refine S.q 5 [1, 31] 1 ⟨[(1, .p 0 0), (31, .v (B (f_ctlOk g.ctl)))], [GT.cells g pg]⟩ (.cons (Q_call fun w hw => c_impl_CtlOk w g.ctl) .nil) ?_; clear S; intro ac w β S
            rcases Bool.eq_false_or_eq_true (f_ctlOk g.ctl) with h10 | h10 <;> rw [h10] at S
            · refine S.q 5 [1, 36] 1 ⟨[(1, .p 0 0), (36, .v (B (f_within g.pend 0 255)))], [GT.cells g pg]⟩ (.cons (Q_call fun w hw => c_impl_PendOk w g.pend) .nil) ?_; clear S; intro ac w β S
              rcases Bool.eq_false_or_eq_true (f_within g.pend 0 255) with h11 | h11 <;> rw [h11] at S
              · have g12 := within_t h11
                refine S.q 5 [1, 41] 1 ⟨[(1, .p 0 0), (41, .v (B (f_exitOk g.exit)))], [GT.cells g pg]⟩ (.cons (Q_call fun w hw => c_impl_ExitOk w g.exit) .nil) ?_; clear S; intro ac w β S
                rcases Bool.eq_false_or_eq_true (f_exitOk g.exit) with h13 | h13 <;> rw [h13] at S
                · refine S.q 6 [2] 0 ⟨[(2, .v (B (decide (((g.seen).length : Int) ≤ 40))))], []⟩ .nil ?_; clear S; intro ac w β S
                  refine RG.done rfl (nx_then (wp_ret ?_))
                  refine S.r [B (decide (((g.seen).length : Int) ≤ 40))] ?_
                  exact ⟨retB (by clear S; first | rfl | (simp [f_guestOk, *]; done) | (simp [f_guestOk, *]; omega) | (simp_all [f_guestOk]; done) | (simp_all [f_guestOk]; omega)), S.chg⟩
                · refine S.q 6 [2] 0 ⟨[(2, .v (B false))], []⟩ .nil ?_; clear S; intro ac w β S
                  refine RG.done rfl (nx_then (wp_ret ?_))
                  refine S.r [B false] ?_
                  exact ⟨retB (by clear S; first | rfl | (simp [f_guestOk, *]; done) | (simp [f_guestOk, *]; omega) | (simp_all [f_guestOk]; done) | (simp_all [f_guestOk]; omega)), S.chg⟩
              · have g14 := within_f h11
                refine S.q 11 [2] 0 ⟨[(2, .v (B false))], []⟩ .nil ?_; clear S; intro ac w β S
                refine RG.done rfl (nx_then (wp_ret ?_))
                refine S.r [B false] ?_
                exact ⟨retB (by clear S; first | rfl | (simp [f_guestOk, *]; done) | (simp [f_guestOk, *]; omega) | (simp_all [f_guestOk]; done) | (simp_all [f_guestOk]; omega)), S.chg⟩
            · refine S.q 16 [2] 0 ⟨[(2, .v (B false))], []⟩ .nil ?_; clear S; intro ac w β S
              refine RG.done rfl (nx_then (wp_ret ?_))
              refine S.r [B false] ?_
              exact ⟨retB (by clear S; first | rfl | (simp [f_guestOk, *]; done) | (simp [f_guestOk, *]; omega) | (simp_all [f_guestOk]; done) | (simp_all [f_guestOk]; omega)), S.chg⟩
          · refine S.q 21 [2] 0 ⟨[(2, .v (B false))], []⟩ .nil ?_; clear S; intro ac w β S
            refine RG.done rfl (nx_then (wp_ret ?_))
            refine S.r [B false] ?_
            exact ⟨retB (by clear S; first | rfl | (simp [f_guestOk, *]; done) | (simp [f_guestOk, *]; omega) | (simp_all [f_guestOk]; done) | (simp_all [f_guestOk]; omega)), S.chg⟩
        · refine S.q 26 [2] 0 ⟨[(2, .v (B false))], []⟩ .nil ?_; clear S; intro ac w β S
          refine RG.done rfl (nx_then (wp_ret ?_))
          refine S.r [B false] ?_
          exact ⟨retB (by clear S; first | rfl | (simp [f_guestOk, *]; done) | (simp [f_guestOk, *]; omega) | (simp_all [f_guestOk]; done) | (simp_all [f_guestOk]; omega)), S.chg⟩
      · have g15 := within_f h4
        refine S.q 31 [2] 0 ⟨[(2, .v (B false))], []⟩ .nil ?_; clear S; intro ac w β S
        refine RG.done rfl (nx_then (wp_ret ?_))
        refine S.r [B false] ?_
        exact ⟨retB (by clear S; first | rfl | (simp [f_guestOk, *]; done) | (simp [f_guestOk, *]; omega) | (simp_all [f_guestOk]; done) | (simp_all [f_guestOk]; omega)), S.chg⟩
    · have g16 := within_f h2
      refine S.q 36 [2] 0 ⟨[(2, .v (B false))], []⟩ .nil ?_; clear S; intro ac w β S
      refine RG.done rfl (nx_then (wp_ret ?_))
      refine S.r [B false] ?_
      exact ⟨retB (by clear S; first | rfl | (simp [f_guestOk, *]; done) | (simp [f_guestOk, *]; omega) | (simp_all [f_guestOk]; done) | (simp_all [f_guestOk]; omega)), S.chg⟩
  · refine S.q 41 [2] 0 ⟨[(2, .v (B false))], []⟩ .nil ?_; clear S; intro ac w β S
    refine RG.done rfl (nx_then (wp_ret ?_))
    refine S.r [B false] ?_
    exact ⟨retB (by clear S; first | rfl | (simp [f_guestOk, *]; done) | (simp [f_guestOk, *]; omega) | (simp_all [f_guestOk]; done) | (simp_all [f_guestOk]; omega)), S.chg⟩

set_option maxRecDepth 100000 in
theorem c_impl_PageOk (w0 : World) (cells : List Int) (pcells : LP Int) (hcells : GT.rd KK (Lt w0.heap.size) w0 cells pcells) : Calls Tryz.prog 90 [slv (cells).length pcells.1].toArray w0 (fun e w' => e = .returned (B (f_pageOk cells)) ∧ Chg NoB w0 w') := by
  refine Calls.walk (args := [slv (cells).length pcells.1]) NoB Tryz.func90 rfl rfl ?_
  intro ac β S
  have hlecells : cells.length ≤ 4194304 := LRd.le hcells
  refine wp_seq (RG.start ?_)
  refine S.q 1 [0] 0 ⟨[(0, .v (slv (cells).length pcells.1))], []⟩ .nil ?_; clear S; intro ac w β S
  refine RG.done rfl (nx_then (wp_seq (wp_seq (RG.start ?_))))
  refine S.q 3 [0, 5, 6, 7] 0 ⟨[(0, .v (slv (cells).length pcells.1)), (5, .v (slv (cells).length pcells.1)), (6, .v (I ((cells).length : Int))), (7, .v (I 0))], []⟩ .nil ?_; clear S; intro ac w β S
  refine RG.done rfl (nx_then (wp_block ?_))
  replace S := S.p [0, 5, 6, 7] 0 ⟨[(0, .v (slv (cells).length pcells.1)), (5, .v (slv (cells).length pcells.1)), (6, .v (I ((cells).length : Int))), (7, .v (I 0))], []⟩
  refine wp_loop_down (fun mm ac w => ∃ (k : Nat)  (u : World) (N : Bl) (β : Nat → Nat), mm = (cells).length - k ∧ (k ≤ (cells).length) ∧ (((cells).take k).all (fun v => f_within v 0 99) = true) ∧ St Tryz.prog Tryz.f90.ntmps w0 NoB u N β ⟨[(0, .v (slv (cells).length pcells.1)), (5, .v (slv (cells).length pcells.1)), (6, .v (I ((cells).length : Int))), (7, .v (I (k : Int)))], []⟩ ac w) _ ⟨0, _, _, _, rfl, (by first | omega | (simp; done) | (simp; omega)), (by simp), S.cast (by kernel_rfl)⟩ ?_
  clear S
  rintro mm ac w ⟨k, u, N, β, rfl, hk, he, S⟩
  refine wp_seq (RG.start ?_)
  refine S.q 1 [0, 5, 6, 7, 8] 0 ⟨[(0, .v (slv (cells).length pcells.1)), (5, .v (slv (cells).length pcells.1)), (6, .v (I ((cells).length : Int))), (7, .v (I (k : Int))), (8, .v (B (decide ((k : Int) < ((cells).length : Int)))))], []⟩ .nil ?_; clear S; intro ac w β S
  refine RG.done rfl (nx_then (wp_seq ?_))
  refine S.c (decide ((k : Int) < ((cells).length : Int))) (fun h1 => ?_) (fun h1 => ?_)
  · have g2 : (k : Int) < ((cells).length : Int) := of_decide_eq_true h1
    refine wp_skip (nx_then (wp_seq (wp_block (wp_seq (RG.start ?_)))))
    refine S.q 3 [0, 4, 5, 6, 7] 0 ⟨[(0, .v (slv (cells).length pcells.1)), (4, .v (I (el cells k))), (5, .v (slv (cells).length pcells.1)), (6, .v (I ((cells).length : Int))), (7, .v (I (k : Int)))], []⟩ (.cons (Q_idx (S.arg hcells) (l := (cells).length) (k := k) (i := (k : Int)) rfl rfl (by omega) Tryz.underlying24 (by kernel_rfl)) (.cons (Q_el1 (S.arg hcells) (t := 3) (k := k) (by omega) rfl (by kernel_rfl)) .nil)) ?_; clear S; intro ac w β S
    refine RG.done rfl (nx_then (wp_seq (RG.start ?_)))
    refine S.q 3 [0, 5, 6, 7, 13] 0 ⟨[(0, .v (slv (cells).length pcells.1)), (5, .v (slv (cells).length pcells.1)), (6, .v (I ((cells).length : Int))), (7, .v (I (k : Int))), (13, .v (B (!(f_within (el cells k) 0 99))))], []⟩ (.cons (Q_call fun w hw => c_impl_within w (el cells k) 0 99) .nil) ?_; clear S; intro ac w β S
    refine RG.done rfl (nx_then ?_)
    refine S.c (!(f_within (el cells k) 0 99)) (fun h3 => ?_) (fun h3 => ?_)
    · have h4 : (f_within (el cells k) 0 99) = false := not_t h3
      have g5 := within_f h4
      refine wp_seq (RG.start ?_)
      refine S.q 1 [2] 0 ⟨[(2, .v (B false))], []⟩ .nil ?_; clear S; intro ac w β S
      refine RG.done rfl (nx_then (wp_ret (rt_block (rt_then (rt_then (rt_block (rt_then ?_)))))))
      refine S.r [B false] ?_
      exact ⟨retB (by clear S; (first | rfl | (unfold f_pageOk; rw [all_end (by omega) he]; simp; done) | (unfold f_pageOk; rw [all_bad (k := k) (by omega) (by first | assumption | (simp_all <;> fail))]; simp; done) | (unfold f_pageOk; rw [all_end (by omega) he]; simp [*]; done) | (unfold f_pageOk; rw [all_end (by omega) he]; simp; omega))), S.chg⟩
    · have h6 : (f_within (el cells k) 0 99) = true := not_f h3
      have g7 := within_t h6
      refine wp_skip (nx_block (nx_then (RG.start ?_)))
      refine S.q 2 [0, 5, 6, 7] 0 ⟨[(0, .v (slv (cells).length pcells.1)), (5, .v (slv (cells).length pcells.1)), (6, .v (I ((cells).length : Int))), (7, .v (I ((k : Int) + 1)))], []⟩ (.cons (Q_add (x := (k : Int)) (y := 1) ⟨by omega, by omega⟩) .nil) ?_; clear S; intro ac w β S
      refine RG.done rfl (nx_then ?_)
      replace S := S.p [0, 5, 6, 7] 0 ⟨[(0, .v (slv (cells).length pcells.1)), (5, .v (slv (cells).length pcells.1)), (6, .v (I ((cells).length : Int))), (7, .v (I ((k : Int) + 1)))], []⟩
      refine ⟨(cells).length - (k + 1), by omega, k + 1, _, _, _, rfl, ?_, ?_, S.cast (by kernel_rfl)⟩
      · clear S; first | omega | (simp [*]; done) | (simp [*]; omega)
      · clear S; exact all_step (by omega) he (by first | assumption | (simp only [f_slotOk, f_within] at *; simp_all; done) | (simp_all; done) | (simp_all; omega))
  · have g8 : ¬ ((k : Int) < ((cells).length : Int)) := of_decide_eq_false h1
    refine wp_exit (ex_then (ex_then (ex_hit (nx_then (wp_seq (RG.start ?_))))))
    refine S.q 4 [2] 0 ⟨[(2, .v (B (((cells).length : Int) == 4)))], []⟩ .nil ?_; clear S; intro ac w β S
    refine RG.done rfl (nx_then (wp_ret ?_))
    refine S.r [B (((cells).length : Int) == 4)] ?_
    exact ⟨retB (by clear S; (first | rfl | (unfold f_pageOk; rw [all_end (by omega) he]; simp; done) | (unfold f_pageOk; rw [all_bad (k := k) (by omega) (by first | assumption | (simp_all <;> fail))]; simp; done) | (unfold f_pageOk; rw [all_end (by omega) he]; simp [*]; done) | (unfold f_pageOk; rw [all_end (by omega) he]; simp; omega))), S.chg⟩

set_option maxRecDepth 100000 in
theorem c_impl_MemOk (w0 : World) (m : List (List Int)) (pm : LP (List Int)) (hm : GT.rd KK (Lt w0.heap.size) w0 m pm) (pages : Int) : Calls Tryz.prog 69 [slv (m).length pm.1, I pages].toArray w0 (fun e w' => e = .returned (B (f_memOk m pages)) ∧ Chg NoB w0 w') := by
  refine Calls.walk (args := [slv (m).length pm.1, I pages]) NoB Tryz.func69 rfl rfl ?_
  intro ac β S
  have hlem : m.length ≤ 4194304 := LRd.le hm
  refine wp_seq (RG.start ?_)
  refine S.q 1 [0, 1] 0 ⟨[(0, .v (slv (m).length pm.1)), (1, .v (I pages))], []⟩ .nil ?_; clear S; intro ac w β S
  refine RG.done rfl (nx_then (wp_seq (wp_seq (RG.start ?_))))
  refine S.q 3 [0, 1, 7, 8, 9] 0 ⟨[(0, .v (slv (m).length pm.1)), (1, .v (I pages)), (7, .v (slv (m).length pm.1)), (8, .v (I ((m).length : Int))), (9, .v (I 0))], []⟩ .nil ?_; clear S; intro ac w β S
  refine RG.done rfl (nx_then (wp_block ?_))
  replace S := S.p [0, 1, 7, 8, 9] 0 ⟨[(0, .v (slv (m).length pm.1)), (1, .v (I pages)), (7, .v (slv (m).length pm.1)), (8, .v (I ((m).length : Int))), (9, .v (I 0))], []⟩
  refine wp_loop_down (fun mm ac w => ∃ (k : Nat)  (u : World) (N : Bl) (β : Nat → Nat), mm = (m).length - k ∧ (k ≤ (m).length) ∧ (((m).take k).all f_pageOk = true) ∧ St Tryz.prog Tryz.f69.ntmps w0 NoB u N β ⟨[(0, .v (slv (m).length pm.1)), (1, .v (I pages)), (7, .v (slv (m).length pm.1)), (8, .v (I ((m).length : Int))), (9, .v (I (k : Int)))], []⟩ ac w) _ ⟨0, _, _, _, rfl, (by first | omega | (simp; done) | (simp; omega)), (by simp), S.cast (by kernel_rfl)⟩ ?_
  clear S
  rintro mm ac w ⟨k, u, N, β, rfl, hk, he, S⟩
  refine wp_seq (RG.start ?_)
  refine S.q 1 [0, 1, 7, 8, 9, 10] 0 ⟨[(0, .v (slv (m).length pm.1)), (1, .v (I pages)), (7, .v (slv (m).length pm.1)), (8, .v (I ((m).length : Int))), (9, .v (I (k : Int))), (10, .v (B (decide ((k : Int) < ((m).length : Int)))))], []⟩ .nil ?_; clear S; intro ac w β S
  refine RG.done rfl (nx_then (wp_seq ?_))
  refine S.c (decide ((k : Int) < ((m).length : Int))) (fun h1 => ?_) (fun h1 => ?_)
  · have g2 : (k : Int) < ((m).length : Int) := of_decide_eq_true h1
    refine wp_skip (nx_then (wp_seq (wp_block (wp_seq (RG.start ?_)))))
    refine S.q 3 [0, 1, 6, 7, 8, 9] 0 ⟨[(0, .v (slv (m).length pm.1)), (1, .v (I pages)), (6, .v (slv ((el m k)).length (pm.2 k).1)), (7, .v (slv (m).length pm.1)), (8, .v (I ((m).length : Int))), (9, .v (I (k : Int)))], []⟩ (.cons (Q_idx (S.arg hm) (l := (m).length) (k := k) (i := (k : Int)) rfl rfl (by omega) Tryz.underlying22 (by kernel_rfl)) (.cons (Q_el1 (S.arg hm) (t := 24) (k := k) (by omega) rfl (by kernel_rfl)) .nil)) ?_; clear S; intro ac w β S
    refine RG.done rfl (nx_then (wp_seq (RG.start ?_)))
    refine S.q 3 [0, 1, 7, 8, 9, 15] 0 ⟨[(0, .v (slv (m).length pm.1)), (1, .v (I pages)), (7, .v (slv (m).length pm.1)), (8, .v (I ((m).length : Int))), (9, .v (I (k : Int))), (15, .v (B (!(f_pageOk (el m k)))))], []⟩ (.cons (Q_call fun w hw => c_impl_PageOk w (el m k) (pm.2 k) (rd_of (LRd.el (S.arg hm) k (by omega)) hw)) .nil) ?_; clear S; intro ac w β S
    refine RG.done rfl (nx_then ?_)
    refine S.c (!(f_pageOk (el m k))) (fun h3 => ?_) (fun h3 => ?_)
    · have h4 : (f_pageOk (el m k)) = false := not_t h3
      refine wp_seq (RG.start ?_)
      refine S.q 1 [4] 0 ⟨[(4, .v (B false))], []⟩ .nil ?_; clear S; intro ac w β S
      refine RG.done rfl (nx_then (wp_ret (rt_block (rt_then (rt_then (rt_block (rt_then ?_)))))))
      refine S.r [B false] ?_
      exact ⟨retB (by clear S; (first | rfl | (unfold f_memOk; rw [all_end (by omega) he]; simp; done) | (unfold f_memOk; rw [all_bad (k := k) (by omega) (by first | assumption | (simp_all <;> fail))]; simp; done) | (unfold f_memOk; rw [all_end (by omega) he]; simp [*]; done) | (unfold f_memOk; rw [all_end (by omega) he]; simp; omega))), S.chg⟩
    · have h5 : (f_pageOk (el m k)) = true := not_f h3
      refine wp_skip (nx_block (nx_then (RG.start ?_)))
      refine S.q 2 [0, 1, 7, 8, 9] 0 ⟨[(0, .v (slv (m).length pm.1)), (1, .v (I pages)), (7, .v (slv (m).length pm.1)), (8, .v (I ((m).length : Int))), (9, .v (I ((k : Int) + 1)))], []⟩ (.cons (Q_add (x := (k : Int)) (y := 1) ⟨by omega, by omega⟩) .nil) ?_; clear S; intro ac w β S
      refine RG.done rfl (nx_then ?_)
      replace S := S.p [0, 1, 7, 8, 9] 0 ⟨[(0, .v (slv (m).length pm.1)), (1, .v (I pages)), (7, .v (slv (m).length pm.1)), (8, .v (I ((m).length : Int))), (9, .v (I ((k : Int) + 1)))], []⟩
      refine ⟨(m).length - (k + 1), by omega, k + 1, _, _, _, rfl, ?_, ?_, S.cast (by kernel_rfl)⟩
      · clear S; first | omega | (simp [*]; done) | (simp [*]; omega)
      · clear S; exact all_step (by omega) he (by first | assumption | (simp only [f_slotOk, f_within] at *; simp_all; done) | (simp_all; done) | (simp_all; omega))
  · have g6 : ¬ ((k : Int) < ((m).length : Int)) := of_decide_eq_false h1
    refine wp_exit (ex_then (ex_then (ex_hit (nx_then (wp_seq (RG.start ?_))))))
    refine S.q 5 [4] 0 ⟨[(4, .v (B (((m).length : Int) == pages)))], []⟩ .nil ?_; clear S; intro ac w β S
    refine RG.done rfl (nx_then (wp_ret ?_))
    refine S.r [B (((m).length : Int) == pages)] ?_
    exact ⟨retB (by clear S; (first | rfl | (unfold f_memOk; rw [all_end (by omega) he]; simp; done) | (unfold f_memOk; rw [all_bad (k := k) (by omega) (by first | assumption | (simp_all <;> fail))]; simp; done) | (unfold f_memOk; rw [all_end (by omega) he]; simp [*]; done) | (unfold f_memOk; rw [all_end (by omega) he]; simp; omega))), S.chg⟩

set_option maxRecDepth 100000 in
theorem c_impl_BareOk (w0 : World) (b : TBare) (pb : PBare) (hb : GT.rd KK (Lt w0.heap.size) w0 b pb) : Calls Tryz.prog 47 [GT.val b pb].toArray w0 (fun e w' => e = .returned (B (f_bareOk b)) ∧ Chg NoB w0 w') := by
  refine Calls.walk (args := [GT.val b pb]) NoB Tryz.func47 rfl rfl ?_
  intro ac β S
  have hleb_mem : b.mem.length ≤ 4194304 := LRd.le (RBare.mem (d := b) hb)
  have hleb_guests : b.guests.length ≤ 4194304 := LRd.le (RBare.guests (d := b) hb)
  have hleb_outs : b.outs.length ≤ 4194304 := LRd.le (RBare.outs (d := b) hb)
  refine wp_seq (RG.start ?_)
  refine S.q 2 [1] 1 ⟨[(1, .p 0 0)], [GT.cells b pb]⟩ .nil ?_; clear S; intro ac w β S
  refine RG.done rfl (nx_then (wp_seq (wp_seq (RG.start ?_))))
  refine S.q 4 [1, 6, 7, 8] 1 ⟨[(1, .p 0 0), (6, .v (slv (b.guests).length pb.guests.1)), (7, .v (I ((b.guests).length : Int))), (8, .v (I 0))], [GT.cells b pb]⟩ .nil ?_; clear S; intro ac w β S
  refine RG.done rfl (nx_then (wp_block ?_))
  replace S := S.p [1, 6, 7, 8] 1 ⟨[(1, .p 0 0), (6, .v (slv (b.guests).length pb.guests.1)), (7, .v (I ((b.guests).length : Int))), (8, .v (I 0))], [GT.cells b pb]⟩
  refine wp_loop_down (fun mm ac w => ∃ (k : Nat)  (u : World) (N : Bl) (β : Nat → Nat), mm = b.guests.length - k ∧ (k ≤ b.guests.length) ∧ ((b.guests.take k).all f_guestOk = true) ∧ St Tryz.prog Tryz.f47.ntmps w0 NoB u N β ⟨[(1, .p 0 0), (6, .v (slv (b.guests).length pb.guests.1)), (7, .v (I ((b.guests).length : Int))), (8, .v (I (k : Int)))], [GT.cells b pb]⟩ ac w) _ ⟨0, _, _, _, rfl, (by first | omega | (simp; done) | (simp; omega)), (by simp), S.cast (by kernel_rfl)⟩ ?_
  clear S
  rintro mm ac w ⟨k, u, N, β, rfl, hk, he, S⟩
  refine wp_seq (RG.start ?_)
  refine S.q 1 [1, 6, 7, 8, 9] 1 ⟨[(1, .p 0 0), (6, .v (slv (b.guests).length pb.guests.1)), (7, .v (I ((b.guests).length : Int))), (8, .v (I (k : Int))), (9, .v (B (decide ((k : Int) < ((b.guests).length : Int)))))], [GT.cells b pb]⟩ .nil ?_; clear S; intro ac w β S
  refine RG.done rfl (nx_then (wp_seq ?_))
  refine S.c (decide ((k : Int) < ((b.guests).length : Int))) (fun h1 => ?_) (fun h1 => ?_)
  · have g2 : (k : Int) < ((b.guests).length : Int) := of_decide_eq_true h1
    refine wp_skip (nx_then (wp_seq (wp_block (wp_seq (RG.start ?_)))))
    refine S.q 4 [1, 4, 6, 7, 8] 2 ⟨[(1, .p 0 0), (4, .p 1 0), (6, .v (slv (b.guests).length pb.guests.1)), (7, .v (I ((b.guests).length : Int))), (8, .v (I (k : Int)))], [GT.cells b pb, GT.cells (el b.guests k) (pb.guests.2 k)]⟩ (.cons (Q_idx (RBare.guests (d := b) (S.arg hb)) (l := (b.guests).length) (k := k) (i := (k : Int)) rfl rfl (by omega) Tryz.underlying28 (by kernel_rfl)) (.cons (Q_el (RBare.guests (d := b) (S.arg hb)) (t := 72) (k := k) (by omega) rfl (by kernel_rfl) (by kernel_rfl)) .nil)) ?_; clear S; intro ac w β S
    refine RG.done rfl (nx_then (wp_seq (RG.start ?_)))
    refine S.q 3 [1, 6, 7, 8, 14] 1 ⟨[(1, .p 0 0), (6, .v (slv (b.guests).length pb.guests.1)), (7, .v (I ((b.guests).length : Int))), (8, .v (I (k : Int))), (14, .v (B (!(f_guestOk (el b.guests k)))))], [GT.cells b pb]⟩ (.cons (Q_call fun w hw => c_impl_GuestOk w (el b.guests k) (pb.guests.2 k) (rd_of (LRd.el (RBare.guests (d := b) (S.arg hb)) k (by omega)) hw)) .nil) ?_; clear S; intro ac w β S
    refine RG.done rfl (nx_then ?_)
    refine S.c (!(f_guestOk (el b.guests k))) (fun h3 => ?_) (fun h3 => ?_)
    · have h4 : (f_guestOk (el b.guests k)) = false := not_t h3
      refine wp_seq (RG.start ?_)
      refine S.q 1 [2] 0 ⟨[(2, .v (B false))], []⟩ .nil ?_; clear S; intro ac w β S
      refine RG.done rfl (nx_then (wp_ret (rt_block (rt_then (rt_then (rt_block (rt_then ?_)))))))
      refine S.r [B false] ?_
      exact ⟨retB (by clear S; (symm; rw [← Bool.not_eq_true]; intro hc; simp only [f_bareOk, Bool.and_eq_true, decide_eq_true_eq, beq_iff_eq] at hc; first | omega | (simp_all; done) | (simp_all; omega) | (have hx := all_el (k := k) hc.1.1.1.1 (by omega); simp_all; done))), S.chg⟩
    · have h5 : (f_guestOk (el b.guests k)) = true := not_f h3
      refine wp_skip (nx_block (nx_then (RG.start ?_)))
      refine S.q 2 [1, 6, 7, 8] 1 ⟨[(1, .p 0 0), (6, .v (slv (b.guests).length pb.guests.1)), (7, .v (I ((b.guests).length : Int))), (8, .v (I ((k : Int) + 1)))], [GT.cells b pb]⟩ (.cons (Q_add (x := (k : Int)) (y := 1) ⟨by omega, by omega⟩) .nil) ?_; clear S; intro ac w β S
      refine RG.done rfl (nx_then ?_)
      replace S := S.p [1, 6, 7, 8] 1 ⟨[(1, .p 0 0), (6, .v (slv (b.guests).length pb.guests.1)), (7, .v (I ((b.guests).length : Int))), (8, .v (I ((k : Int) + 1)))], [GT.cells b pb]⟩
      refine ⟨b.guests.length - (k + 1), by omega, k + 1, _, _, _, rfl, ?_, ?_, S.cast (by kernel_rfl)⟩
      · clear S; first | omega | (simp [*]; done) | (simp [*]; omega)
      · clear S; exact all_step (by omega) he (by first | assumption | simp_all)
  · have g6 : ¬ ((k : Int) < ((b.guests).length : Int)) := of_decide_eq_false h1
    refine wp_exit (ex_then (ex_then (ex_hit (nx_then (wp_seq (RG.start ?_))))))
    refine S.q 4 [1, 19] 1 ⟨[(1, .p 0 0), (19, .v (B (f_memOk b.mem 8)))], [GT.cells b pb]⟩ (.cons (Q_call fun w hw => c_impl_MemOk w b.mem pb.mem (rd_of (RBare.mem (d := b) (S.arg hb)) hw) 8) .nil) ?_; clear S; intro ac w β S
    rcases Bool.eq_false_or_eq_true (f_memOk b.mem 8) with h7 | h7 <;> rw [h7] at S
    · refine S.q 6 [1, 25] 1 ⟨[(1, .p 0 0), (25, .v (B (f_within ((b.guests).length : Int) 1 2)))], [GT.cells b pb]⟩ (.cons (Q_call fun w hw => c_impl_within w ((b.guests).length : Int) 1 2) .nil) ?_; clear S; intro ac w β S
      rcases Bool.eq_false_or_eq_true (f_within ((b.guests).length : Int) 1 2) with h8 | h8 <;> rw [h8] at S
      · have g9 := within_t h8
        refine S.q 6 [1, 31] 1 ⟨[(1, .p 0 0), (31, .v (B (decide (((b.outs).length : Int) ≤ 40))))], [GT.cells b pb]⟩ .nil ?_; clear S; intro ac w β S
        rcases Bool.eq_false_or_eq_true (decide (((b.outs).length : Int) ≤ 40)) with h10 | h10 <;> rw [h10] at S
        · have g11 : ((b.outs).length : Int) ≤ 40 := of_decide_eq_true h10
          refine S.q 5 [2] 0 ⟨[(2, .v (B (f_within b.pend 0 255)))], []⟩ (.cons (Q_call fun w hw => c_impl_PendOk w b.pend) .nil) ?_; clear S; intro ac w β S
          refine RG.done rfl (nx_then (wp_ret ?_))
          refine S.r [B (f_within b.pend 0 255)] ?_
          exact ⟨retB (by clear S; (first | rfl | (symm; rw [← Bool.not_eq_true]; intro hc; simp only [f_bareOk, Bool.and_eq_true, decide_eq_true_eq, beq_iff_eq] at hc; first | omega | (simp_all; done) | (simp_all; omega) | (have hx := all_el (k := k) hc.1.1.1.1 (by omega); simp_all; done)) | (symm; simp only [f_bareOk, Bool.and_eq_true, decide_eq_true_eq, beq_iff_eq]; (repeat' apply And.intro); all_goals first | assumption | omega | (simp_all; done) | (simp_all; omega) | (exact all_end (by omega) he)) | (rw [Bool.eq_iff_iff]; simp only [f_bareOk, Bool.and_eq_true, decide_eq_true_eq, beq_iff_eq]; refine ⟨fun hr => ?_, fun hc => ?_⟩ <;> ((repeat' apply And.intro); all_goals first | assumption | omega | (simp_all; done) | (simp_all; omega) | (exact all_end (by omega) he))))), S.chg⟩
        · have g12 : ¬ (((b.outs).length : Int) ≤ 40) := of_decide_eq_false h10
          refine S.q 5 [2] 0 ⟨[(2, .v (B false))], []⟩ .nil ?_; clear S; intro ac w β S
          refine RG.done rfl (nx_then (wp_ret ?_))
          refine S.r [B false] ?_
          exact ⟨retB (by clear S; (symm; rw [← Bool.not_eq_true]; intro hc; simp only [f_bareOk, Bool.and_eq_true, decide_eq_true_eq, beq_iff_eq] at hc; first | omega | (simp_all; done) | (simp_all; omega) | (have hx := all_el (k := k) hc.1.1.1.1 (by omega); simp_all; done))), S.chg⟩
      · have g13 := within_f h8
        refine S.q 11 [2] 0 ⟨[(2, .v (B false))], []⟩ .nil ?_; clear S; intro ac w β S
        refine RG.done rfl (nx_then (wp_ret ?_))
        refine S.r [B false] ?_
        exact ⟨retB (by clear S; (symm; rw [← Bool.not_eq_true]; intro hc; simp only [f_bareOk, Bool.and_eq_true, decide_eq_true_eq, beq_iff_eq] at hc; first | omega | (simp_all; done) | (simp_all; omega) | (have hx := all_el (k := k) hc.1.1.1.1 (by omega); simp_all; done))), S.chg⟩
    · refine S.q 17 [2] 0 ⟨[(2, .v (B false))], []⟩ .nil ?_; clear S; intro ac w β S
      refine RG.done rfl (nx_then (wp_ret ?_))
      refine S.r [B false] ?_
      exact ⟨retB (by clear S; (symm; rw [← Bool.not_eq_true]; intro hc; simp only [f_bareOk, Bool.and_eq_true, decide_eq_true_eq, beq_iff_eq] at hc; first | omega | (simp_all; done) | (simp_all; omega) | (have hx := all_el (k := k) hc.1.1.1.1 (by omega); simp_all; done))), S.chg⟩

set_option maxRecDepth 100000 in
theorem c_impl_AddrPage (w0 : World) (addr : Int) (haddr : In64 addr) : Calls Tryz.prog 49 [I addr].toArray w0 (fun e w' => e = .returned (I (f_addrPage addr)) ∧ Chg NoB w0 w') := by
  refine Calls.walk (args := [I addr]) NoB Tryz.func49 rfl rfl ?_
  intro ac β S
  have hloaddr := haddr.lo; have hhiaddr := haddr.hi
  refine wp_seq (RG.start ?_)
  refine S.q 1 [0] 0 ⟨[(0, .v (I addr))], []⟩ .nil ?_; clear S; intro ac w β S
  refine RG.done rfl (nx_then (wp_seq (wp_seq (RG.start ?_))))
  refine S.q 2 [0, 4] 0 ⟨[(0, .v (I addr)), (4, .v (B (decide (addr < 0))))], []⟩ .nil ?_; clear S; intro ac w β S
  refine RG.done rfl (nx_then ?_)
  refine S.c (decide (addr < 0)) (fun h1 => ?_) (fun h1 => ?_)
  · have g2 : addr < 0 := of_decide_eq_true h1
    refine wp_seq (RG.start ?_)
    refine S.q 1 [2] 0 ⟨[(2, .v (I (-1)))], []⟩ .nil ?_; clear S; intro ac w β S
    refine RG.done rfl (nx_then (wp_ret (rt_then ?_)))
    refine S.r [I (-1)] ?_
    exact ⟨retI (by clear S; (first | (unfold f_addrPage; rw [if_pos (by omega)]; done) | (unfold f_addrPage; rw [if_pos (by omega)]; first | rfl | (simp; done)) | (unfold f_addrPage; rw [if_neg (by omega)]; done) | (unfold f_addrPage; rw [if_neg (by omega)]; first | rfl | (simp; done)))), S.chg⟩
  · have g3 : ¬ (addr < 0) := of_decide_eq_false h1
    refine wp_skip (nx_then (wp_seq (RG.start ?_)))
    refine S.q 3 [2] 0 ⟨[(2, .v (I (Int.tdiv addr 4)))], []⟩ (.cons (Q_quo (x := addr) (y := 4) (by decide) (tdiv4_in64 haddr (by omega))) .nil) ?_; clear S; intro ac w β S
    refine RG.done rfl (nx_then (wp_ret ?_))
    refine S.r [I (Int.tdiv addr 4)] ?_
    exact ⟨retI (by clear S; (first | (unfold f_addrPage; rw [if_pos (by omega)]; done) | (unfold f_addrPage; rw [if_pos (by omega)]; first | rfl | (simp; done)) | (unfold f_addrPage; rw [if_neg (by omega)]; done) | (unfold f_addrPage; rw [if_neg (by omega)]; first | rfl | (simp; done)))), S.chg⟩

set_option maxRecDepth 100000 in
theorem c_impl_SlotAt (w0 : World) (t : List TSlot) (pt : LP TSlot) (ht : GT.rd KK (Lt w0.heap.size) w0 t pt) (page : Int) : Calls Tryz.prog 71 [slv (t).length pt.1, I page].toArray w0 (fun e w' => e = .returned (GT.val (f_slotAt t page) ()) ∧ Chg NoB w0 w') := by
  refine Calls.walk (args := [slv (t).length pt.1, I page]) NoB Tryz.func71 rfl rfl ?_
  intro ac β S
  have hlet : t.length ≤ 4194304 := LRd.le ht
  refine wp_seq (RG.start ?_)
  refine S.q 1 [0, 1, 4] 1 ⟨[(0, .v (slv (t).length pt.1)), (1, .v (I page)), (4, .p 0 0)], [Zc TSlot]⟩ .nil ?_; clear S; intro ac w β S
  refine RG.done rfl (nx_then (wp_seq (wp_seq (RG.start ?_))))
  refine S.q 5 [0, 1, 4, 9] 1 ⟨[(0, .v (slv (t).length pt.1)), (1, .v (I page)), (4, .p 0 0), (9, .v (B (!(f_within page 0 (((t).length : Int) - 1)))))], [Zc TSlot]⟩ (.cons (Q_call fun w hw => c_impl_has w page ((t).length : Int) (by omega)) .nil) ?_; clear S; intro ac w β S
  refine RG.done rfl (nx_then ?_)
  refine S.c (!(f_within page 0 (((t).length : Int) - 1))) (fun h1 => ?_) (fun h1 => ?_)
  · have h2 : (f_within page 0 (((t).length : Int) - 1)) = false := not_t h1
    have g3 := within_f h2
    refine wp_seq (RG.start ?_)
    refine S.q 2 [4] 1 ⟨[(4, .p 0 0)], [GT.cells ((⟨-1, 0⟩ : TSlot)) ()]⟩ (.cons (Q_call fun w hw => c_impl_NoSlot w ) .nil) ?_; clear S; intro ac w β S
    refine RG.done rfl (nx_then (wp_ret (rt_then ?_)))
    refine S.r [GT.val ((⟨-1, 0⟩ : TSlot)) ()] ?_
    exact ⟨retV (p := ()) (by clear S; (first | (unfold f_slotAt; rw [if_pos (by omega)]) | (unfold f_slotAt; rw [if_neg (by omega)]))), S.chg⟩
  · have h4 : (f_within page 0 (((t).length : Int) - 1)) = true := not_f h1
    have g5 := within_t h4
    refine wp_skip (nx_then (wp_seq (RG.start ?_)))
    refine S.q 5 [4] 1 ⟨[(4, .p 0 0)], [GT.cells (el t ((page).toNat)) ()]⟩ (.cons (Q_idx (S.arg ht) (l := (t).length) (k := (page).toNat) (i := page) rfl (by omega) (by omega) Tryz.underlying68 (by kernel_rfl)) (.cons (Q_el (S.arg ht) (t := 86) (k := (page).toNat) (by omega) rfl (by kernel_rfl) (by kernel_rfl)) .nil)) ?_; clear S; intro ac w β S
    refine RG.done rfl (nx_then (wp_ret ?_))
    refine S.r [GT.val (el t ((page).toNat)) ()] ?_
    exact ⟨retV (p := ()) (by clear S; (first | (unfold f_slotAt; rw [if_pos (by omega)]) | (unfold f_slotAt; rw [if_neg (by omega)]))), S.chg⟩

set_option maxRecDepth 100000 in
theorem c_impl_RightsOk (w0 : World) (r : Int) : Calls Tryz.prog 92 [I r].toArray w0 (fun e w' => e = .returned (B (f_within r 0 3)) ∧ Chg NoB w0 w') := by
  refine Calls.walk (args := [I r]) NoB Tryz.func92 rfl rfl ?_
  intro ac β S
  refine wp_seq (RG.start ?_)
  refine S.q 1 [0] 0 ⟨[(0, .v (I r))], []⟩ .nil ?_; clear S; intro ac w β S
  refine RG.done rfl (nx_then (wp_seq (RG.start ?_)))
  refine S.q 3 [2] 0 ⟨[(2, .v (B (f_within r 0 3)))], []⟩ (.cons (Q_call fun w hw => c_impl_within w r 0 3) .nil) ?_; clear S; intro ac w β S
  refine RG.done rfl (nx_then (wp_ret ?_))
  refine S.r [B (f_within r 0 3)] ?_
  exact ⟨retB (by clear S; first | rfl | (simp [f_within, *]; done) | (simp [f_within, *]; omega) | (simp_all [f_within]; done) | (simp_all [f_within]; omega)), S.chg⟩

set_option maxRecDepth 100000 in
theorem c_impl_Enough (w0 : World) (rights : Int) (need : Int) : Calls Tryz.prog 72 [I rights, I need].toArray w0 (fun e w' => e = .returned (B (f_enough rights need)) ∧ Chg NoB w0 w') := by
  refine Calls.walk (args := [I rights, I need]) NoB Tryz.func72 rfl rfl ?_
  intro ac β S
  refine wp_seq (RG.start ?_)
  refine S.q 1 [0, 1] 0 ⟨[(0, .v (I rights)), (1, .v (I need))], []⟩ .nil ?_; clear S; intro ac w β S
  refine RG.done rfl (nx_then (wp_seq (RG.start ?_)))
  refine S.q 3 [0, 1, 7] 0 ⟨[(0, .v (I rights)), (1, .v (I need)), (7, .v (B (f_within rights 0 3)))], []⟩ (.cons (Q_call fun w hw => c_impl_RightsOk w rights) .nil) ?_; clear S; intro ac w β S
  rcases Bool.eq_false_or_eq_true (f_within rights 0 3) with h1 | h1 <;> rw [h1] at S
  · have g2 := within_t h1
    refine S.q 4 [0, 1, 11] 0 ⟨[(0, .v (I rights)), (1, .v (I need)), (11, .v (B (f_within need 0 3)))], []⟩ (.cons (Q_call fun w hw => c_impl_RightsOk w need) .nil) ?_; clear S; intro ac w β S
    rcases Bool.eq_false_or_eq_true (f_within need 0 3) with h3 | h3 <;> rw [h3] at S
    · have g4 := within_t h3
      refine S.q 7 [4] 0 ⟨[(4, .v (B ((land64 rights need) == need)))], []⟩ (.cons (Q_land64 (x := rights) (y := need)) .nil) ?_; clear S; intro ac w β S
      refine RG.done rfl (nx_then (wp_ret ?_))
      refine S.r [B ((land64 rights need) == need)] ?_
      exact ⟨retB (by clear S; first | rfl | (simp [f_enough, *]; done) | (simp [f_enough, *]; omega) | (simp_all [f_enough]; done) | (simp_all [f_enough]; omega)), S.chg⟩
    · have g5 := within_f h3
      refine S.q 7 [4] 0 ⟨[(4, .v (B false))], []⟩ .nil ?_; clear S; intro ac w β S
      refine RG.done rfl (nx_then (wp_ret ?_))
      refine S.r [B false] ?_
      exact ⟨retB (by clear S; first | rfl | (simp [f_enough, *]; done) | (simp [f_enough, *]; omega) | (simp_all [f_enough]; done) | (simp_all [f_enough]; omega)), S.chg⟩
  · have g6 := within_f h1
    refine S.q 11 [4] 0 ⟨[(4, .v (B false))], []⟩ .nil ?_; clear S; intro ac w β S
    refine RG.done rfl (nx_then (wp_ret ?_))
    refine S.r [B false] ?_
    exact ⟨retB (by clear S; first | rfl | (simp [f_enough, *]; done) | (simp [f_enough, *]; omega) | (simp_all [f_enough]; done) | (simp_all [f_enough]; omega)), S.chg⟩

set_option maxRecDepth 100000 in
theorem c_impl_WalkInner (w0 : World) (inner : List TSlot) (pinner : LP TSlot) (hinner : GT.rd KK (Lt w0.heap.size) w0 inner pinner) (page : Int) (need : Int) : Calls Tryz.prog 48 [slv (inner).length pinner.1, I page, I need].toArray w0 (fun e w' => e = .returned (.tuple #[I ((f_walkInner inner page need).1), B ((f_walkInner inner page need).2)]) ∧ Chg NoB w0 w') := by
  refine Calls.walk (args := [slv (inner).length pinner.1, I page, I need]) NoB Tryz.func48 rfl rfl ?_
  intro ac β S
  have hleinner : inner.length ≤ 4194304 := LRd.le hinner
  refine wp_seq (RG.start ?_)
  refine S.q 2 [0, 1, 2] 0 ⟨[(0, .v (slv (inner).length pinner.1)), (1, .v (I page)), (2, .v (I need))], []⟩ .nil ?_; clear S; intro ac w β S
  refine RG.done rfl (nx_then (wp_seq (RG.start ?_)))
  refine S.q 5 [2, 8] 1 ⟨[(2, .v (I need)), (8, .p 0 0)], [GT.cells (f_slotAt inner page) ()]⟩ (.cons (Q_call fun w hw => c_impl_SlotAt w inner pinner (rd_of (S.arg hinner) hw) page) .nil) ?_; clear S; intro ac w β S
  refine RG.done rfl (nx_then (wp_seq (wp_seq (RG.start ?_))))
  refine S.q 4 [2, 8, 15] 1 ⟨[(2, .v (I need)), (8, .p 0 0), (15, .v (B ((f_slotAt inner page).page == (-1))))], [GT.cells (f_slotAt inner page) ()]⟩ .nil ?_; clear S; intro ac w β S
  rcases Bool.eq_false_or_eq_true ((f_slotAt inner page).page == (-1)) with h1 | h1 <;> rw [h1] at S
  · have g2 : (f_slotAt inner page).page = (-1) := eq_of_beq h1
    refine S.q 11 [8, 26] 1 ⟨[(8, .p 0 0), (26, .v (B true))], [GT.cells (f_slotAt inner page) ()]⟩ .nil ?_; clear S; intro ac w β S
    refine RG.done rfl (nx_then ?_)
    refine S.c true (fun _ => ?_) (fun hx => by cases hx)
    refine wp_seq (RG.start ?_)
    refine S.q 2 [6, 7] 0 ⟨[(6, .v (I (-1))), (7, .v (B false))], []⟩ .nil ?_; clear S; intro ac w β S
    refine RG.done rfl (nx_then (wp_ret (rt_then ?_)))
    refine S.r [I (-1), B false] ?_
    exact ⟨ret2v (eqI (show (-1) = (f_walkInner inner page need).1 by clear S; (unfold f_walkInner; (repeat' split) <;> first | rfl | (exfalso; omega) | (exfalso; simp_all; done) | (exfalso; simp_all; omega)))) (eqB (show false = (f_walkInner inner page need).2 by clear S; (unfold f_walkInner; (repeat' split) <;> first | rfl | (exfalso; omega) | (exfalso; simp_all; done) | (exfalso; simp_all; omega)))), S.chg⟩
  · have g3 : ¬ ((f_slotAt inner page).page = (-1)) := ne_of_beq_false h1
    refine S.q 7 [2, 8, 22] 1 ⟨[(2, .v (I need)), (8, .p 0 0), (22, .v (B (!(f_enough ((f_slotAt inner page).rights) need))))], [GT.cells (f_slotAt inner page) ()]⟩ (.cons (Q_call fun w hw => c_impl_Enough w ((f_slotAt inner page).rights) need) .nil) ?_; clear S; intro ac w β S
    rcases Bool.eq_false_or_eq_true (!(f_enough ((f_slotAt inner page).rights) need)) with h4 | h4 <;> rw [h4] at S
    · have h5 : (f_enough ((f_slotAt inner page).rights) need) = false := not_t h4
      refine S.q 4 [8, 26] 1 ⟨[(8, .p 0 0), (26, .v (B true))], [GT.cells (f_slotAt inner page) ()]⟩ .nil ?_; clear S; intro ac w β S
      refine RG.done rfl (nx_then ?_)
      refine S.c true (fun _ => ?_) (fun hx => by cases hx)
      refine wp_seq (RG.start ?_)
      refine S.q 2 [6, 7] 0 ⟨[(6, .v (I (-1))), (7, .v (B false))], []⟩ .nil ?_; clear S; intro ac w β S
      refine RG.done rfl (nx_then (wp_ret (rt_then ?_)))
      refine S.r [I (-1), B false] ?_
      exact ⟨ret2v (eqI (show (-1) = (f_walkInner inner page need).1 by clear S; (unfold f_walkInner; (repeat' split) <;> first | rfl | (exfalso; omega) | (exfalso; simp_all; done) | (exfalso; simp_all; omega)))) (eqB (show false = (f_walkInner inner page need).2 by clear S; (unfold f_walkInner; (repeat' split) <;> first | rfl | (exfalso; omega) | (exfalso; simp_all; done) | (exfalso; simp_all; omega)))), S.chg⟩
    · have h6 : (f_enough ((f_slotAt inner page).rights) need) = true := not_f h4
      have g7 := enough_t h6
      refine S.q 4 [8, 26] 1 ⟨[(8, .p 0 0), (26, .v (B (!(f_within need 1 3))))], [GT.cells (f_slotAt inner page) ()]⟩ (.cons (Q_call fun w hw => c_impl_within w need 1 3) .nil) ?_; clear S; intro ac w β S
      refine RG.done rfl (nx_then ?_)
      refine S.c (!(f_within need 1 3)) (fun h8 => ?_) (fun h8 => ?_)
      · have h9 : (f_within need 1 3) = false := not_t h8
        have g10 := within_f h9
        refine wp_seq (RG.start ?_)
        refine S.q 2 [6, 7] 0 ⟨[(6, .v (I (-1))), (7, .v (B false))], []⟩ .nil ?_; clear S; intro ac w β S
        refine RG.done rfl (nx_then (wp_ret (rt_then ?_)))
        refine S.r [I (-1), B false] ?_
        exact ⟨ret2v (eqI (show (-1) = (f_walkInner inner page need).1 by clear S; (unfold f_walkInner; (repeat' split) <;> first | rfl | (exfalso; omega) | (exfalso; simp_all; done) | (exfalso; simp_all; omega)))) (eqB (show false = (f_walkInner inner page need).2 by clear S; (unfold f_walkInner; (repeat' split) <;> first | rfl | (exfalso; omega) | (exfalso; simp_all; done) | (exfalso; simp_all; omega)))), S.chg⟩
      · have h11 : (f_within need 1 3) = true := not_f h8
        have g12 := within_t h11
        refine wp_skip (nx_then (wp_seq (RG.start ?_)))
        refine S.q 4 [6, 7] 0 ⟨[(6, .v (I ((f_slotAt inner page).page))), (7, .v (B true))], []⟩ .nil ?_; clear S; intro ac w β S
        refine RG.done rfl (nx_then (wp_ret ?_))
        refine S.r [I ((f_slotAt inner page).page), B true] ?_
        exact ⟨ret2v (eqI (show (f_slotAt inner page).page = (f_walkInner inner page need).1 by clear S; (unfold f_walkInner; (repeat' split) <;> first | rfl | (exfalso; omega) | (exfalso; simp_all; done) | (exfalso; simp_all; omega)))) (eqB (show true = (f_walkInner inner page need).2 by clear S; (unfold f_walkInner; (repeat' split) <;> first | rfl | (exfalso; omega) | (exfalso; simp_all; done) | (exfalso; simp_all; omega)))), S.chg⟩

set_option maxRecDepth 100000 in
theorem c_impl_AddrCell (w0 : World) (addr : Int) (haddr : In64 addr) : Calls Tryz.prog 50 [I addr].toArray w0 (fun e w' => e = .returned (I (f_addrCell addr)) ∧ Chg NoB w0 w') := by
  refine Calls.walk (args := [I addr]) NoB Tryz.func50 rfl rfl ?_
  intro ac β S
  have hloaddr := haddr.lo; have hhiaddr := haddr.hi
  refine wp_seq (RG.start ?_)
  refine S.q 1 [0] 0 ⟨[(0, .v (I addr))], []⟩ .nil ?_; clear S; intro ac w β S
  refine RG.done rfl (nx_then (wp_seq (wp_seq (RG.start ?_))))
  refine S.q 2 [0, 4] 0 ⟨[(0, .v (I addr)), (4, .v (B (decide (addr < 0))))], []⟩ .nil ?_; clear S; intro ac w β S
  refine RG.done rfl (nx_then ?_)
  refine S.c (decide (addr < 0)) (fun h1 => ?_) (fun h1 => ?_)
  · have g2 : addr < 0 := of_decide_eq_true h1
    refine wp_seq (RG.start ?_)
    refine S.q 1 [2] 0 ⟨[(2, .v (I (-1)))], []⟩ .nil ?_; clear S; intro ac w β S
    refine RG.done rfl (nx_then (wp_ret (rt_then ?_)))
    refine S.r [I (-1)] ?_
    exact ⟨retI (by clear S; (first | (unfold f_addrCell; rw [if_pos (by omega)]; done) | (unfold f_addrCell; rw [if_pos (by omega)]; first | rfl | (simp; done)) | (unfold f_addrCell; rw [if_neg (by omega)]; done) | (unfold f_addrCell; rw [if_neg (by omega)]; first | rfl | (simp; done)))), S.chg⟩
  · have g3 : ¬ (addr < 0) := of_decide_eq_false h1
    refine wp_skip (nx_then (wp_seq (RG.start ?_)))
    refine S.q 3 [2] 0 ⟨[(2, .v (I (Int.tmod addr 4)))], []⟩ (.cons (Q_rem (x := addr) (y := 4) (by decide)) .nil) ?_; clear S; intro ac w β S
    refine RG.done rfl (nx_then (wp_ret ?_))
    refine S.r [I (Int.tmod addr 4)] ?_
    exact ⟨retI (by clear S; (first | (unfold f_addrCell; rw [if_pos (by omega)]; done) | (unfold f_addrCell; rw [if_pos (by omega)]; first | rfl | (simp; done)) | (unfold f_addrCell; rw [if_neg (by omega)]; done) | (unfold f_addrCell; rw [if_neg (by omega)]; first | rfl | (simp; done)))), S.chg⟩

set_option maxRecDepth 100000 in
theorem c_impl_reach (w0 : World) (b : TBare) (pb : PBare) (hb : GT.rd KK (Lt w0.heap.size) w0 b pb) (g : Int) (addr : Int) (haddr : In64 addr) (need : Int) : Calls Tryz.prog 23 [GT.val b pb, I g, I addr, I need].toArray w0 (fun e w' => e = .returned (.tuple #[I ((f_reach b g addr need).1), I ((f_reach b g addr need).2.1), B ((f_reach b g addr need).2.2)]) ∧ Chg NoB w0 w') := by
  refine Calls.walk (args := [GT.val b pb, I g, I addr, I need]) NoB Tryz.func23 rfl rfl ?_
  intro ac β S
  have hleb_mem : b.mem.length ≤ 4194304 := LRd.le (RBare.mem (d := b) hb)
  have hleb_guests : b.guests.length ≤ 4194304 := LRd.le (RBare.guests (d := b) hb)
  have hleb_outs : b.outs.length ≤ 4194304 := LRd.le (RBare.outs (d := b) hb)
  have hloaddr := haddr.lo; have hhiaddr := haddr.hi
  refine wp_seq (RG.start ?_)
  refine S.q 4 [1, 2, 3, 4] 1 ⟨[(1, .v (I g)), (2, .v (I addr)), (3, .v (I need)), (4, .p 0 0)], [GT.cells b pb]⟩ .nil ?_; clear S; intro ac w β S
  refine RG.done rfl (nx_then (wp_seq (RG.start ?_)))
  refine S.q 2 [2, 3, 4, 16, 17] 1 ⟨[(2, .v (I addr)), (3, .v (I need)), (4, .p 0 0), (16, .v (GT.val b pb)), (17, .v (I g))], [GT.cells b pb]⟩ .nil ?_; clear S; intro ac w β S
  refine RG.op rfl (S.call2 (r := (f_guestAt b g).1) (r' := (f_guestAt b g).2) (d := 18) (c_impl_GuestAt w b pb (S.rd (S.arg hb)) g) (by kernel_rfl) rfl ?_)
  clear S; intro ac w N q1 q2 F3 F4 S up o5 o6 d7 d8 d9
  clear up d7
  clear d8
  have i13 : In64 ((f_guestAt b g).1).acc := RGuest.acc (d := ((f_guestAt b g).1)) o5.rn
  have i14 : In64 ((f_guestAt b g).1).pc := RGuest.pc (d := ((f_guestAt b g).1)) o5.rn
  have i21 : RCtl ((f_guestAt b g).1).ctl := RGuest.ctl (d := ((f_guestAt b g).1)) o5.rn
  have i22 : In64 ((f_guestAt b g).1).pend := RGuest.pend (d := ((f_guestAt b g).1)) o5.rn
  have i23 : RExit ((f_guestAt b g).1).exit := RGuest.exit (d := ((f_guestAt b g).1)) o5.rn
  obtain ⟨F10, F15, F18, F24, o11, o16, o19, o25, s12, s17, s20, s26, d27, d28, d29, d30, d31, d32⟩ := sp_Guest o5
  refine S.q 6 [2, 3, 4, 11, 12] 2 ⟨[(2, .v (I addr)), (3, .v (I need)), (4, .p 0 0), (11, .p 1 0), (12, .v (B ((f_guestAt b g).2)))], [GT.cells b pb, [slv (((f_guestAt b g).1).prog).length q1.prog.1, I (((f_guestAt b g).1).acc), I (((f_guestAt b g).1).pc), slv (((f_guestAt b g).1).written).length q1.written.1, slv (((f_guestAt b g).1).live).length q1.live.1, I ((((f_guestAt b g).1).ctl).traps), I ((((f_guestAt b g).1).ctl).post), B ((((f_guestAt b g).1).ctl).opn), I (((f_guestAt b g).1).pend), I ((((f_guestAt b g).1).exit).kind), I ((((f_guestAt b g).1).exit).page), B ((((f_guestAt b g).1).exit).wr), I ((((f_guestAt b g).1).exit).n), B (((f_guestAt b g).1).halted), slv (((f_guestAt b g).1).seen).length q1.seen.1]]⟩ .nil ?_; clear S; intro ac w β S
  refine RG.done rfl (nx_then (wp_seq (wp_seq (RG.start ?_))))
  refine S.q 4 [2, 3, 11, 12, 24] 2 ⟨[(2, .v (I addr)), (3, .v (I need)), (11, .p 1 0), (12, .v (B ((f_guestAt b g).2))), (24, .v (B (!(f_bareOk b))))], [GT.cells b pb, [slv (((f_guestAt b g).1).prog).length q1.prog.1, I (((f_guestAt b g).1).acc), I (((f_guestAt b g).1).pc), slv (((f_guestAt b g).1).written).length q1.written.1, slv (((f_guestAt b g).1).live).length q1.live.1, I ((((f_guestAt b g).1).ctl).traps), I ((((f_guestAt b g).1).ctl).post), B ((((f_guestAt b g).1).ctl).opn), I (((f_guestAt b g).1).pend), I ((((f_guestAt b g).1).exit).kind), I ((((f_guestAt b g).1).exit).page), B ((((f_guestAt b g).1).exit).wr), I ((((f_guestAt b g).1).exit).n), B (((f_guestAt b g).1).halted), slv (((f_guestAt b g).1).seen).length q1.seen.1]]⟩ (.cons (Q_call fun w hw => c_impl_BareOk w b pb (rd_of (S.arg hb) hw)) .nil) ?_; clear S; intro ac w β S
  rcases Bool.eq_false_or_eq_true (!(f_bareOk b)) with h33 | h33 <;> rw [h33] at S
  · have h34 : (f_bareOk b) = false := not_t h33
    refine S.q 8 [2, 3, 11, 32] 2 ⟨[(2, .v (I addr)), (3, .v (I need)), (11, .p 1 0), (32, .v (B true))], [GT.cells b pb, [slv (((f_guestAt b g).1).prog).length q1.prog.1, I (((f_guestAt b g).1).acc), I (((f_guestAt b g).1).pc), slv (((f_guestAt b g).1).written).length q1.written.1, slv (((f_guestAt b g).1).live).length q1.live.1, I ((((f_guestAt b g).1).ctl).traps), I ((((f_guestAt b g).1).ctl).post), B ((((f_guestAt b g).1).ctl).opn), I (((f_guestAt b g).1).pend), I ((((f_guestAt b g).1).exit).kind), I ((((f_guestAt b g).1).exit).page), B ((((f_guestAt b g).1).exit).wr), I ((((f_guestAt b g).1).exit).n), B (((f_guestAt b g).1).halted), slv (((f_guestAt b g).1).seen).length q1.seen.1]]⟩ .nil ?_; clear S; intro ac w β S
    refine RG.done rfl (nx_then ?_)
    refine S.c true (fun _ => ?_) (fun hx => by cases hx)
    refine wp_seq (RG.start ?_)
    refine S.q 3 [8, 9, 10] 0 ⟨[(8, .v (I 0)), (9, .v (I 0)), (10, .v (B false))], []⟩ .nil ?_; clear S; intro ac w β S
    refine RG.done rfl (nx_then (wp_ret (rt_then ?_)))
    refine S.r [I 0, I 0, B false] ?_
    exact ⟨ret3v (eqI (show 0 = (f_reach b g addr need).1 by clear S; (first | (rw [reach_n1 (by assumption)]; done) | (rw [reach_n2 (by assumption)]; done) | (rw [reach_n3 (by assumption)]; done) | (rw [reach_pos (by assumption) (by assumption) (by assumption)]; done)))) (eqI (show 0 = (f_reach b g addr need).2.1 by clear S; (first | (rw [reach_n1 (by assumption)]; done) | (rw [reach_n2 (by assumption)]; done) | (rw [reach_n3 (by assumption)]; done) | (rw [reach_pos (by assumption) (by assumption) (by assumption)]; done)))) (eqB (show false = (f_reach b g addr need).2.2 by clear S; (first | (rw [reach_n1 (by assumption)]; done) | (rw [reach_n2 (by assumption)]; done) | (rw [reach_n3 (by assumption)]; done) | (rw [reach_pos (by assumption) (by assumption) (by assumption)]; done)))), S.chg⟩
  · have h35 : (f_bareOk b) = true := not_f h33
    have g36 := bareOk_t h35
    refine S.q 4 [2, 3, 11, 28] 2 ⟨[(2, .v (I addr)), (3, .v (I need)), (11, .p 1 0), (28, .v (B (!((f_guestAt b g).2))))], [GT.cells b pb, [slv (((f_guestAt b g).1).prog).length q1.prog.1, I (((f_guestAt b g).1).acc), I (((f_guestAt b g).1).pc), slv (((f_guestAt b g).1).written).length q1.written.1, slv (((f_guestAt b g).1).live).length q1.live.1, I ((((f_guestAt b g).1).ctl).traps), I ((((f_guestAt b g).1).ctl).post), B ((((f_guestAt b g).1).ctl).opn), I (((f_guestAt b g).1).pend), I ((((f_guestAt b g).1).exit).kind), I ((((f_guestAt b g).1).exit).page), B ((((f_guestAt b g).1).exit).wr), I ((((f_guestAt b g).1).exit).n), B (((f_guestAt b g).1).halted), slv (((f_guestAt b g).1).seen).length q1.seen.1]]⟩ .nil ?_; clear S; intro ac w β S
    rcases Bool.eq_false_or_eq_true (!((f_guestAt b g).2)) with h37 | h37 <;> rw [h37] at S
    · have h38 : (f_guestAt b g).2 = false := not_t h37
      have g39 := guestAt_f h38
      refine S.q 4 [2, 3, 11, 32] 2 ⟨[(2, .v (I addr)), (3, .v (I need)), (11, .p 1 0), (32, .v (B true))], [GT.cells b pb, [slv (((f_guestAt b g).1).prog).length q1.prog.1, I (((f_guestAt b g).1).acc), I (((f_guestAt b g).1).pc), slv (((f_guestAt b g).1).written).length q1.written.1, slv (((f_guestAt b g).1).live).length q1.live.1, I ((((f_guestAt b g).1).ctl).traps), I ((((f_guestAt b g).1).ctl).post), B ((((f_guestAt b g).1).ctl).opn), I (((f_guestAt b g).1).pend), I ((((f_guestAt b g).1).exit).kind), I ((((f_guestAt b g).1).exit).page), B ((((f_guestAt b g).1).exit).wr), I ((((f_guestAt b g).1).exit).n), B (((f_guestAt b g).1).halted), slv (((f_guestAt b g).1).seen).length q1.seen.1]]⟩ .nil ?_; clear S; intro ac w β S
      refine RG.done rfl (nx_then ?_)
      refine S.c true (fun _ => ?_) (fun hx => by cases hx)
      refine wp_seq (RG.start ?_)
      refine S.q 3 [8, 9, 10] 0 ⟨[(8, .v (I 0)), (9, .v (I 0)), (10, .v (B false))], []⟩ .nil ?_; clear S; intro ac w β S
      refine RG.done rfl (nx_then (wp_ret (rt_then ?_)))
      refine S.r [I 0, I 0, B false] ?_
      exact ⟨ret3v (eqI (show 0 = (f_reach b g addr need).1 by clear S; (first | (rw [reach_n1 (by assumption)]; done) | (rw [reach_n2 (by assumption)]; done) | (rw [reach_n3 (by assumption)]; done) | (rw [reach_pos (by assumption) (by assumption) (by assumption)]; done)))) (eqI (show 0 = (f_reach b g addr need).2.1 by clear S; (first | (rw [reach_n1 (by assumption)]; done) | (rw [reach_n2 (by assumption)]; done) | (rw [reach_n3 (by assumption)]; done) | (rw [reach_pos (by assumption) (by assumption) (by assumption)]; done)))) (eqB (show false = (f_reach b g addr need).2.2 by clear S; (first | (rw [reach_n1 (by assumption)]; done) | (rw [reach_n2 (by assumption)]; done) | (rw [reach_n3 (by assumption)]; done) | (rw [reach_pos (by assumption) (by assumption) (by assumption)]; done)))), S.chg⟩
    · have h40 : (f_guestAt b g).2 = true := not_f h37
      have g41 := guestAt_t h40
      refine S.q 4 [2, 3, 11, 32] 2 ⟨[(2, .v (I addr)), (3, .v (I need)), (11, .p 1 0), (32, .v (B (!(f_within addr 0 15))))], [GT.cells b pb, [slv (((f_guestAt b g).1).prog).length q1.prog.1, I (((f_guestAt b g).1).acc), I (((f_guestAt b g).1).pc), slv (((f_guestAt b g).1).written).length q1.written.1, slv (((f_guestAt b g).1).live).length q1.live.1, I ((((f_guestAt b g).1).ctl).traps), I ((((f_guestAt b g).1).ctl).post), B ((((f_guestAt b g).1).ctl).opn), I (((f_guestAt b g).1).pend), I ((((f_guestAt b g).1).exit).kind), I ((((f_guestAt b g).1).exit).page), B ((((f_guestAt b g).1).exit).wr), I ((((f_guestAt b g).1).exit).n), B (((f_guestAt b g).1).halted), slv (((f_guestAt b g).1).seen).length q1.seen.1]]⟩ (.cons (Q_call fun w hw => c_impl_within w addr 0 15) .nil) ?_; clear S; intro ac w β S
      refine RG.done rfl (nx_then ?_)
      refine S.c (!(f_within addr 0 15)) (fun h42 => ?_) (fun h42 => ?_)
      · have h43 : (f_within addr 0 15) = false := not_t h42
        have g44 := within_f h43
        refine wp_seq (RG.start ?_)
        refine S.q 3 [8, 9, 10] 0 ⟨[(8, .v (I 0)), (9, .v (I 0)), (10, .v (B false))], []⟩ .nil ?_; clear S; intro ac w β S
        refine RG.done rfl (nx_then (wp_ret (rt_then ?_)))
        refine S.r [I 0, I 0, B false] ?_
        exact ⟨ret3v (eqI (show 0 = (f_reach b g addr need).1 by clear S; (first | (rw [reach_n1 (by assumption)]; done) | (rw [reach_n2 (by assumption)]; done) | (rw [reach_n3 (by assumption)]; done) | (rw [reach_pos (by assumption) (by assumption) (by assumption)]; done)))) (eqI (show 0 = (f_reach b g addr need).2.1 by clear S; (first | (rw [reach_n1 (by assumption)]; done) | (rw [reach_n2 (by assumption)]; done) | (rw [reach_n3 (by assumption)]; done) | (rw [reach_pos (by assumption) (by assumption) (by assumption)]; done)))) (eqB (show false = (f_reach b g addr need).2.2 by clear S; (first | (rw [reach_n1 (by assumption)]; done) | (rw [reach_n2 (by assumption)]; done) | (rw [reach_n3 (by assumption)]; done) | (rw [reach_pos (by assumption) (by assumption) (by assumption)]; done)))), S.chg⟩
      · have h45 : (f_within addr 0 15) = true := not_f h42
        have g46 := within_t h45
        refine wp_skip (nx_then (wp_seq ?_))
        refine S.drawn (keep := [2, 13, 14]) (m := 0) (σ' := ⟨[(2, .v (I addr)), (13, .v (I ((f_walkInner (((f_guestAt b g).1).live) (f_addrPage addr) need).1))), (14, .v (B ((f_walkInner (((f_guestAt b g).1).live) (f_addrPage addr) need).2)))], []⟩) (.cons (Q_call fun w hw => c_impl_AddrPage w addr haddr) (.cons (Q_call fun w hw => c_impl_WalkInner w (((f_guestAt b g).1).live) q1.live (rd_of o19.rn hw) (f_addrPage addr) need) .nil)) rfl (by kernel_rfl) (by kernel_rfl) ?_
        clear S; intro ac w S
        refine id (nx_then (wp_seq (RG.start ?_)))
        refine S.q 7 [8, 9, 10] 0 ⟨[(8, .v (I ((f_walkInner (((f_guestAt b g).1).live) (f_addrPage addr) need).1))), (9, .v (I (f_addrCell addr))), (10, .v (B ((f_walkInner (((f_guestAt b g).1).live) (f_addrPage addr) need).2)))], []⟩ (.cons (Q_call fun w hw => c_impl_AddrCell w addr haddr) .nil) ?_; clear S; intro ac w β S
        refine RG.done rfl (nx_then (wp_ret ?_))
        refine S.r [I ((f_walkInner (((f_guestAt b g).1).live) (f_addrPage addr) need).1), I (f_addrCell addr), B ((f_walkInner (((f_guestAt b g).1).live) (f_addrPage addr) need).2)] ?_
        exact ⟨ret3v (eqI (show ((f_walkInner (((f_guestAt b g).1).live) (f_addrPage addr) need).1) = (f_reach b g addr need).1 by clear S; (first | (rw [reach_n1 (by assumption)]; done) | (rw [reach_n2 (by assumption)]; done) | (rw [reach_n3 (by assumption)]; done) | (rw [reach_pos (by assumption) (by assumption) (by assumption)]; done)))) (eqI (show (f_addrCell addr) = (f_reach b g addr need).2.1 by clear S; (first | (rw [reach_n1 (by assumption)]; done) | (rw [reach_n2 (by assumption)]; done) | (rw [reach_n3 (by assumption)]; done) | (rw [reach_pos (by assumption) (by assumption) (by assumption)]; done)))) (eqB (show ((f_walkInner (((f_guestAt b g).1).live) (f_addrPage addr) need).2) = (f_reach b g addr need).2.2 by clear S; (first | (rw [reach_n1 (by assumption)]; done) | (rw [reach_n2 (by assumption)]; done) | (rw [reach_n3 (by assumption)]; done) | (rw [reach_pos (by assumption) (by assumption) (by assumption)]; done)))), S.chg⟩

set_option maxRecDepth 100000 in
theorem c_impl_WithCell (w0 : World) (m : List (List Int)) (pm : LP (List Int)) (hm : GT.rd KK (Lt w0.heap.size) w0 m pm) (page : Int) (cell : Int) (v : Int) (hv : In64 v) : Calls Tryz.prog 25 [slv (m).length pm.1, I page, I cell, I v].toArray w0 (Ret1 NoB w0 (f_withCell m page cell v : List (List Int))) := by
  refine Calls.walk (args := [slv (m).length pm.1, I page, I cell, I v]) NoB Tryz.func25 rfl rfl ?_
  intro ac β S
  have hlem : m.length ≤ 4194304 := LRd.le hm
  have hlov := hv.lo; have hhiv := hv.hi
  refine wp_seq (RG.start ?_)
  refine S.q 1 [0, 1, 2, 3] 0 ⟨[(0, .v (slv (m).length pm.1)), (1, .v (I page)), (2, .v (I cell)), (3, .v (I v))], []⟩ .nil ?_; clear S; intro ac w β S
  refine RG.done rfl (nx_then (wp_seq (RG.start ?_)))
  refine S.q 1 [0, 1, 2, 3, 10] 0 ⟨[(0, .v (slv (m).length pm.1)), (1, .v (I page)), (2, .v (I cell)), (3, .v (I v)), (10, .v (slv (m).length pm.1))], []⟩ .nil ?_; clear S; intro ac w β S
  refine RG.op rfl (S.call1 (r := m) (d := 11) (c_impl_copyMem w m pm (S.rd (S.arg hm))) (by kernel_rfl) rfl ?_)
  clear S; intro ac w N q1 F2 S up o3 d4
  clear up d4
  refine S.q 1 [0, 1, 2, 3, 9] 0 ⟨[(0, .v (slv (m).length pm.1)), (1, .v (I page)), (2, .v (I cell)), (3, .v (I v)), (9, .v (slv (m).length q1.1))], []⟩ .nil ?_; clear S; intro ac w β S
  refine RG.done rfl (nx_then (wp_seq (wp_seq (RG.start ?_))))
  refine S.q 5 [0, 1, 2, 3, 9, 16] 0 ⟨[(0, .v (slv (m).length pm.1)), (1, .v (I page)), (2, .v (I cell)), (3, .v (I v)), (9, .v (slv (m).length q1.1)), (16, .v (B (f_within page 0 (((m).length : Int) - 1))))], []⟩ (.cons (Q_call fun w hw => c_impl_has w page ((m).length : Int) (by omega)) .nil) ?_; clear S; intro ac w β S
  rcases Bool.eq_false_or_eq_true (f_within page 0 (((m).length : Int) - 1)) with h5 | h5 <;> rw [h5] at S
  · have g6 := within_t h5
    have b7 : ((el m ((page).toNat))).length ≤ 4194304 := LRd.le (LRd.el (S.arg hm) ((page).toNat) (by omega))
    refine S.q 9 [1, 2, 3, 9, 25] 0 ⟨[(1, .v (I page)), (2, .v (I cell)), (3, .v (I v)), (9, .v (slv (m).length q1.1)), (25, .v (B (f_within cell 0 ((((el m ((page).toNat))).length : Int) - 1))))], []⟩ (.cons (Q_idx (S.arg hm) (l := (m).length) (k := (page).toNat) (i := page) rfl (by omega) (by omega) Tryz.underlying22 (by kernel_rfl)) (.cons (Q_el1 (S.arg hm) (t := 24) (k := (page).toNat) (by omega) rfl (by kernel_rfl)) (.cons (Q_call fun w hw => c_impl_has w cell (((el m ((page).toNat))).length : Int) (by omega)) .nil))) ?_; clear S; intro ac w β S
    rcases Bool.eq_false_or_eq_true (f_within cell 0 ((((el m ((page).toNat))).length : Int) - 1)) with h8 | h8 <;> rw [h8] at S
    · have g9 := within_t h8
      refine S.q 3 [1, 2, 3, 9, 28] 0 ⟨[(1, .v (I page)), (2, .v (I cell)), (3, .v (I v)), (9, .v (slv (m).length q1.1)), (28, .v (B (f_within v 0 99)))], []⟩ (.cons (Q_call fun w hw => c_impl_within w v 0 99) .nil) ?_; clear S; intro ac w β S
      refine RG.done rfl (nx_then ?_)
      refine S.c (f_within v 0 99) (fun h10 => ?_) (fun h10 => ?_)
      · have g11 := within_t h10
        refine RG.start ?_
        refine S.q 7 [9, 34, 35] 0 ⟨[(9, .v (slv (m).length q1.1)), (34, .v (I v)), (35, .v (pt (q1.2 ((page).toNat)).1.b ((q1.2 ((page).toNat)).1.off + ((cell).toNat) * 1)))], []⟩ (.cons (Q_idx o3.rn (l := (m).length) (k := (page).toNat) (i := page) rfl (by omega) (by omega) Tryz.underlying22 (by kernel_rfl)) (.cons (Q_el1 o3.rn (t := 24) (k := (page).toNat) (by omega) rfl (by kernel_rfl)) (.cons (Q_idx (LRd.el o3.rn ((page).toNat) (by omega)) (l := ((el m ((page).toNat))).length) (k := (cell).toNat) (i := cell) rfl (by omega) (by omega) Tryz.underlying24 (by kernel_rfl)) .nil))) ?_; clear S; intro ac w β S
        obtain ⟨F12, o13, s14, b15⟩ := foc2_id o3 (k := (page).toNat) (show (page).toNat < (m).length by omega)
        have l16 := LRd.le o13.rn
        have n17 := o13.sub
        refine RG.op rfl (S.setEl (α := Int) o13 (t := 3) (v := I v) (k := (cell).toNat) (j := 0) (off := (q1.2 ((page).toNat)).1.off + ((cell).toNat) * 1) (y := v) (q := ()) (Fy := NoB) (by kernel_rfl) (by kernel_rfl) (by omega) (by kernel_rfl) (by kernel_rfl) (Nat.le_of_ble_eq_true (by kernel_rfl)) (by kernel_rfl) (fun _ _ _ => ⟨NoB, hv, fun _ h => False.elim h⟩) (fun b _ h => False.elim h) (fun b h => False.elim h) (fun b h => False.elim h) ?_)
        clear S; intro w N F19 q20 S up o18 d21 s22 n23
        clear d21 o13
        obtain ⟨p24, o25⟩ := b15 _ _ _ _ _ NoB up o18 s22 (fun b _ h => False.elim h) (by show [slv _ _] = [slv _ _]; rw [List.length_set]) (fun b h => n23 b (n17 b h))
        clear up o18 n23
        have l26 : ((m).set ((page).toNat) ((((el m ((page).toNat))).set ((cell).toNat) v))).length = (m).length := List.length_set
        replace S := S.p [9] 0 ⟨[(9, .v (slv (m).length q1.1))], []⟩
        refine RG.done rfl (nx_then (wp_seq (RG.start ?_)))
        refine S.q 2 [8] 0 ⟨[(8, .v (slv (m).length q1.1))], []⟩ .nil ?_; clear S; intro ac w β S
        refine RG.done rfl (nx_then (wp_ret ?_))
        refine S.r [slv (m).length q1.1] ?_
        exact ret1_of S (show f_withCell m page cell v = ((m).set ((page).toNat) ((((el m ((page).toNat))).set ((cell).toNat) v))) by clear S; (unfold f_withCell; (repeat' split) <;> first | rfl | (simp; done) | (exfalso; omega) | (exfalso; simp_all; done) | (exfalso; simp_all; omega))) (by rw [show (m).length = (((m).set ((page).toNat) ((((el m ((page).toNat))).set ((cell).toNat) v)))).length from (by omega)]; rfl) o25
      · have g27 := within_f h10
        refine wp_skip (nx_then (wp_seq (RG.start ?_)))
        refine S.q 2 [8] 0 ⟨[(8, .v (slv (m).length q1.1))], []⟩ .nil ?_; clear S; intro ac w β S
        refine RG.done rfl (nx_then (wp_ret ?_))
        refine S.r [slv (m).length q1.1] ?_
        exact ret1_of S (show f_withCell m page cell v = m by clear S; (unfold f_withCell; (repeat' split) <;> first | rfl | (simp; done) | (exfalso; omega) | (exfalso; simp_all; done) | (exfalso; simp_all; omega))) rfl o3
    · have g28 := within_f h8
      refine S.q 3 [1, 2, 3, 9, 28] 0 ⟨[(1, .v (I page)), (2, .v (I cell)), (3, .v (I v)), (9, .v (slv (m).length q1.1)), (28, .v (B false))], []⟩ .nil ?_; clear S; intro ac w β S
      refine RG.done rfl (nx_then ?_)
      refine S.c false (fun hx => by cases hx) (fun _ => ?_)
      refine wp_skip (nx_then (wp_seq (RG.start ?_)))
      refine S.q 2 [8] 0 ⟨[(8, .v (slv (m).length q1.1))], []⟩ .nil ?_; clear S; intro ac w β S
      refine RG.done rfl (nx_then (wp_ret ?_))
      refine S.r [slv (m).length q1.1] ?_
      exact ret1_of S (show f_withCell m page cell v = m by clear S; (unfold f_withCell; (repeat' split) <;> first | rfl | (simp; done) | (exfalso; omega) | (exfalso; simp_all; done) | (exfalso; simp_all; omega))) rfl o3
  · have g29 := within_f h5
    refine S.q 12 [1, 2, 3, 9, 28] 0 ⟨[(1, .v (I page)), (2, .v (I cell)), (3, .v (I v)), (9, .v (slv (m).length q1.1)), (28, .v (B false))], []⟩ .nil ?_; clear S; intro ac w β S
    refine RG.done rfl (nx_then ?_)
    refine S.c false (fun hx => by cases hx) (fun _ => ?_)
    refine wp_skip (nx_then (wp_seq (RG.start ?_)))
    refine S.q 2 [8] 0 ⟨[(8, .v (slv (m).length q1.1))], []⟩ .nil ?_; clear S; intro ac w β S
    refine RG.done rfl (nx_then (wp_ret ?_))
    refine S.r [slv (m).length q1.1] ?_
    exact ret1_of S (show f_withCell m page cell v = m by clear S; (unfold f_withCell; (repeat' split) <;> first | rfl | (simp; done) | (exfalso; omega) | (exfalso; simp_all; done) | (exfalso; simp_all; omega))) rfl o3

set_option maxRecDepth 100000 in
theorem c_impl_BareDma (w0 : World) (b : TBare) (pb : PBare) (hb : GT.rd KK (Lt w0.heap.size) w0 b pb) (g : Int) (addr : Int) (haddr : In64 addr) (v : Int) (hv : In64 v) : Calls Tryz.prog 7 [GT.val b pb, I g, I addr, I v].toArray w0 (Ret2 NoB w0 ((f_bareDma b g addr v).1 : TBare) ((f_bareDma b g addr v).2 : Bool)) := by
  refine Calls.walk (args := [GT.val b pb, I g, I addr, I v]) NoB Tryz.func7 rfl rfl ?_
  intro ac β S
  have hleb_mem : b.mem.length ≤ 4194304 := LRd.le (RBare.mem (d := b) hb)
  have hleb_guests : b.guests.length ≤ 4194304 := LRd.le (RBare.guests (d := b) hb)
  have hleb_outs : b.outs.length ≤ 4194304 := LRd.le (RBare.outs (d := b) hb)
  have hloaddr := haddr.lo; have hhiaddr := haddr.hi
  have hlov := hv.lo; have hhiv := hv.hi
  refine wp_seq (RG.start ?_)
  refine S.q 3 [1, 2, 3, 4, 8] 2 ⟨[(1, .v (I g)), (2, .v (I addr)), (3, .v (I v)), (4, .p 0 0), (8, .p 1 0)], [GT.cells b pb, Zc TBare]⟩ .nil ?_; clear S; intro ac w β S
  refine RG.done rfl (nx_then (wp_seq (RG.start ?_)))
  refine S.q 1 [1, 2, 3, 4, 8, 14] 2 ⟨[(1, .v (I g)), (2, .v (I addr)), (3, .v (I v)), (4, .p 0 0), (8, .p 1 0), (14, .v (GT.val b pb))], [GT.cells b pb, Zc TBare]⟩ .nil ?_; clear S; intro ac w β S
  refine RG.op rfl (S.call1 (r := b) (d := 15) (c_impl_copyBare w b pb (S.rd (S.arg hb))) (by kernel_rfl) rfl ?_)
  clear S; intro ac w N q1 F2 S up o3 d4
  clear up d4
  have i14 : In64 b.pend := RBare.pend (d := b) o3.rn
  obtain ⟨F5, F8, F11, o6, o9, o12, s7, s10, s13, d15, d16, d17⟩ := sp_Bare o3
  refine S.q 2 [1, 2, 3, 4, 8, 10] 3 ⟨[(1, .v (I g)), (2, .v (I addr)), (3, .v (I v)), (4, .p 0 0), (8, .p 1 0), (10, .p 2 0)], [GT.cells b pb, Zc TBare, [slv (b.mem).length q1.mem.1, slv (b.guests).length q1.guests.1, slv (b.outs).length q1.outs.1, I b.pend]]⟩ .nil ?_; clear S; intro ac w β S
  refine RG.done rfl (nx_then (wp_seq (RG.start ?_)))
  refine S.q 11 [3, 4, 8, 10, 11, 12, 13] 3 ⟨[(3, .v (I v)), (4, .p 0 0), (8, .p 1 0), (10, .p 2 0), (11, .v (I ((f_reach b g addr 2).1))), (12, .v (I ((f_reach b g addr 2).2.1))), (13, .v (B ((f_reach b g addr 2).2.2)))], [GT.cells b pb, Zc TBare, [slv (b.mem).length q1.mem.1, slv (b.guests).length q1.guests.1, slv (b.outs).length q1.outs.1, I b.pend]]⟩ (.cons (Q_call fun w hw => c_impl_reach w b pb (rd_of (S.arg hb) hw) g addr haddr 2) .nil) ?_; clear S; intro ac w β S
  refine RG.done rfl (nx_then (wp_seq (wp_seq (RG.start ?_))))
  refine S.q 3 [3, 4, 8, 10, 11, 12, 26] 3 ⟨[(3, .v (I v)), (4, .p 0 0), (8, .p 1 0), (10, .p 2 0), (11, .v (I ((f_reach b g addr 2).1))), (12, .v (I ((f_reach b g addr 2).2.1))), (26, .v (B (!((f_reach b g addr 2).2.2))))], [GT.cells b pb, Zc TBare, [slv (b.mem).length q1.mem.1, slv (b.guests).length q1.guests.1, slv (b.outs).length q1.outs.1, I b.pend]]⟩ .nil ?_; clear S; intro ac w β S
  rcases Bool.eq_false_or_eq_true (!((f_reach b g addr 2).2.2)) with h18 | h18 <;> rw [h18] at S
  · have h19 : ((f_reach b g addr 2).2.2) = false := not_t h18
    refine S.q 4 [3, 4, 8, 10, 11, 12, 30] 3 ⟨[(3, .v (I v)), (4, .p 0 0), (8, .p 1 0), (10, .p 2 0), (11, .v (I ((f_reach b g addr 2).1))), (12, .v (I ((f_reach b g addr 2).2.1))), (30, .v (B true))], [GT.cells b pb, Zc TBare, [slv (b.mem).length q1.mem.1, slv (b.guests).length q1.guests.1, slv (b.outs).length q1.outs.1, I b.pend]]⟩ .nil ?_; clear S; intro ac w β S
    refine RG.done rfl (nx_then ?_)
    refine S.c true (fun _ => ?_) (fun hx => by cases hx)
    refine wp_seq (RG.start ?_)
    refine S.q 3 [8, 9] 2 ⟨[(8, .p 1 0), (9, .v (B false))], [GT.cells b pb, [slv (b.mem).length q1.mem.1, slv (b.guests).length q1.guests.1, slv (b.outs).length q1.outs.1, I b.pend]]⟩ .nil ?_; clear S; intro ac w β S
    refine RG.done rfl (nx_then (wp_ret (rt_then ?_)))
    refine S.r [GT.val b q1, B false] ?_
    have o20 := ow_Bare (x := b) (p := q1) o6 o9 o12 d15 d16 d17 i14
    exact ret2_of (p' := ()) S (show (f_bareDma b g addr v).1 = b by clear S; (first | (unfold f_bareDma; rw [if_neg (by (have hz := reach_f (by assumption)); simp [hz])]; done) | (unfold f_bareDma; rw [if_neg (by simp [*])]; done) | ((have hz := reach_t (by assumption)); unfold f_bareDma; rw [if_pos ⟨hz.1, by assumption⟩, ← hz.2.1, ← hz.2.2]; done))) (show (f_bareDma b g addr v).2 = false by clear S; (first | (unfold f_bareDma; rw [if_neg (by (have hz := reach_f (by assumption)); simp [hz])]; done) | (unfold f_bareDma; rw [if_neg (by simp [*])]; done) | ((have hz := reach_t (by assumption)); unfold f_bareDma; rw [if_pos ⟨hz.1, by assumption⟩, ← hz.2.1, ← hz.2.2]; done))) rfl rfl o20 trivial
  · have h21 : ((f_reach b g addr 2).2.2) = true := not_f h18
    refine S.q 4 [3, 4, 8, 10, 11, 12, 30] 3 ⟨[(3, .v (I v)), (4, .p 0 0), (8, .p 1 0), (10, .p 2 0), (11, .v (I ((f_reach b g addr 2).1))), (12, .v (I ((f_reach b g addr 2).2.1))), (30, .v (B (!(f_within v 0 99))))], [GT.cells b pb, Zc TBare, [slv (b.mem).length q1.mem.1, slv (b.guests).length q1.guests.1, slv (b.outs).length q1.outs.1, I b.pend]]⟩ (.cons (Q_call fun w hw => c_impl_within w v 0 99) .nil) ?_; clear S; intro ac w β S
    refine RG.done rfl (nx_then ?_)
    refine S.c (!(f_within v 0 99)) (fun h22 => ?_) (fun h22 => ?_)
    · have h23 : (f_within v 0 99) = false := not_t h22
      have g24 := within_f h23
      refine wp_seq (RG.start ?_)
      refine S.q 3 [8, 9] 2 ⟨[(8, .p 1 0), (9, .v (B false))], [GT.cells b pb, [slv (b.mem).length q1.mem.1, slv (b.guests).length q1.guests.1, slv (b.outs).length q1.outs.1, I b.pend]]⟩ .nil ?_; clear S; intro ac w β S
      refine RG.done rfl (nx_then (wp_ret (rt_then ?_)))
      refine S.r [GT.val b q1, B false] ?_
      have o25 := ow_Bare (x := b) (p := q1) o6 o9 o12 d15 d16 d17 i14
      exact ret2_of (p' := ()) S (show (f_bareDma b g addr v).1 = b by clear S; (first | (unfold f_bareDma; rw [if_neg (by (have hz := reach_f (by assumption)); simp [hz])]; done) | (unfold f_bareDma; rw [if_neg (by simp [*])]; done) | ((have hz := reach_t (by assumption)); unfold f_bareDma; rw [if_pos ⟨hz.1, by assumption⟩, ← hz.2.1, ← hz.2.2]; done))) (show (f_bareDma b g addr v).2 = false by clear S; (first | (unfold f_bareDma; rw [if_neg (by (have hz := reach_f (by assumption)); simp [hz])]; done) | (unfold f_bareDma; rw [if_neg (by simp [*])]; done) | ((have hz := reach_t (by assumption)); unfold f_bareDma; rw [if_pos ⟨hz.1, by assumption⟩, ← hz.2.1, ← hz.2.2]; done))) rfl rfl o25 trivial
    · have h26 : (f_within v 0 99) = true := not_f h22
      have g27 := within_t h26
      refine wp_skip (nx_then (wp_seq (RG.start ?_)))
      refine S.q 5 [8, 10, 33, 34, 35, 36] 3 ⟨[(8, .p 1 0), (10, .p 2 0), (33, .v (slv (b.mem).length pb.mem.1)), (34, .v (I ((f_reach b g addr 2).1))), (35, .v (I ((f_reach b g addr 2).2.1))), (36, .v (I v))], [GT.cells b pb, Zc TBare, [slv (b.mem).length q1.mem.1, slv (b.guests).length q1.guests.1, slv (b.outs).length q1.outs.1, I b.pend]]⟩ .nil ?_; clear S; intro ac w β S
      refine RG.op rfl (S.call1 (r := f_withCell b.mem ((f_reach b g addr 2).1) ((f_reach b g addr 2).2.1) v) (d := 37) (c_impl_WithCell w b.mem pb.mem (S.rd (RBare.mem (d := b) (S.arg hb))) ((f_reach b g addr 2).1) ((f_reach b g addr 2).2.1) v hv) (by kernel_rfl) rfl ?_)
      clear S; intro ac w N q28 F29 S up o30 d31
      have d32 : Disj F5 F29 := fun b x y => d31 b (o6.sub b x) y
      have d33 : Disj F8 F29 := fun b x y => d31 b (o9.sub b x) y
      have d34 : Disj F11 F29 := fun b x y => d31 b (o12.sub b x) y
      replace o6 := o6.up up
      replace o9 := o9.up up
      replace o12 := o12.up up
      clear up d31
      refine S.q 2 [8, 10] 3 ⟨[(8, .p 1 0), (10, .p 2 0)], [GT.cells b pb, Zc TBare, [slv ((f_withCell b.mem ((f_reach b g addr 2).1) ((f_reach b g addr 2).2.1) v)).length q28.1, slv (b.guests).length q1.guests.1, slv (b.outs).length q1.outs.1, I b.pend]]⟩ .nil ?_; clear S; intro ac w β S
      refine RG.done rfl (nx_then (wp_seq (RG.start ?_)))
      refine S.q 3 [8, 9] 2 ⟨[(8, .p 1 0), (9, .v (B true))], [GT.cells b pb, [slv ((f_withCell b.mem ((f_reach b g addr 2).1) ((f_reach b g addr 2).2.1) v)).length q28.1, slv (b.guests).length q1.guests.1, slv (b.outs).length q1.outs.1, I b.pend]]⟩ .nil ?_; clear S; intro ac w β S
      refine RG.done rfl (nx_then (wp_ret ?_))
      refine S.r [GT.val (⟨(f_withCell b.mem ((f_reach b g addr 2).1) ((f_reach b g addr 2).2.1) v), b.guests, b.outs, b.pend⟩ : TBare) (⟨q28, q1.guests, q1.outs⟩ : PBare), B true] ?_
      have o35 := ow_Bare (x := (⟨(f_withCell b.mem ((f_reach b g addr 2).1) ((f_reach b g addr 2).2.1) v), b.guests, b.outs, b.pend⟩ : TBare)) (p := (⟨q28, q1.guests, q1.outs⟩ : PBare)) o30 o9 o12 (Disj.symm d33) (Disj.symm d34) d17 i14
      exact ret2_of (p' := ()) S (show (f_bareDma b g addr v).1 = (⟨(f_withCell b.mem ((f_reach b g addr 2).1) ((f_reach b g addr 2).2.1) v), b.guests, b.outs, b.pend⟩ : TBare) by clear S; (first | (unfold f_bareDma; rw [if_neg (by (have hz := reach_f (by assumption)); simp [hz])]; done) | (unfold f_bareDma; rw [if_neg (by simp [*])]; done) | ((have hz := reach_t (by assumption)); unfold f_bareDma; rw [if_pos ⟨hz.1, by assumption⟩, ← hz.2.1, ← hz.2.2]; done))) (show (f_bareDma b g addr v).2 = true by clear S; (first | (unfold f_bareDma; rw [if_neg (by (have hz := reach_f (by assumption)); simp [hz])]; done) | (unfold f_bareDma; rw [if_neg (by simp [*])]; done) | ((have hz := reach_t (by assumption)); unfold f_bareDma; rw [if_pos ⟨hz.1, by assumption⟩, ← hz.2.1, ← hz.2.2]; done))) rfl rfl o35 trivial

set_option maxRecDepth 100000 in
theorem c_laws_eqIntS (w0 : World) (a : List Int) (pa : LP Int) (ha : GT.rd KK (Lt w0.heap.size) w0 a pa) (b : List Int) (pb : LP Int) (hb : GT.rd KK (Lt w0.heap.size) w0 b pb) : Calls Tryz.prog 28 [slv (a).length pa.1, slv (b).length pb.1].toArray w0 (fun e w' => e = .returned (B (decide (a = b))) ∧ Chg NoB w0 w') := by
  refine Calls.walk (args := [slv (a).length pa.1, slv (b).length pb.1]) NoB Tryz.func28 rfl rfl ?_
  intro ac β S
  have hlea : a.length ≤ 4194304 := LRd.le ha
  have hleb : b.length ≤ 4194304 := LRd.le hb
  refine wp_seq (RG.start ?_)
  refine S.q 1 [0, 1] 0 ⟨[(0, .v (slv (a).length pa.1)), (1, .v (slv (b).length pb.1))], []⟩ .nil ?_; clear S; intro ac w β S
  refine RG.done rfl (nx_then (wp_seq (wp_seq (RG.start ?_))))
  refine S.q 5 [0, 1, 10] 0 ⟨[(0, .v (slv (a).length pa.1)), (1, .v (slv (b).length pb.1)), (10, .v (B (((a).length : Int) != ((b).length : Int))))], []⟩ .nil ?_; clear S; intro ac w β S
  refine RG.done rfl (nx_then ?_)
  refine S.c (((a).length : Int) != ((b).length : Int)) (fun h1 => ?_) (fun h1 => ?_)
  · have g2 : ¬ (((a).length : Int) = ((b).length : Int)) := bne_iff_ne.1 h1
    refine wp_seq (RG.start ?_)
    refine S.q 1 [4] 0 ⟨[(4, .v (B false))], []⟩ .nil ?_; clear S; intro ac w β S
    refine RG.done rfl (nx_then (wp_ret (rt_then ?_)))
    refine S.r [B false] ?_
    exact ⟨retB (by clear S; first | (simp; intro e; subst e; simp_all; done) | (simp; rw [take_all (by omega), take_all (by omega)] at he; exact he) | (simp; exact take_ne (by simp_all))), S.chg⟩
  · have g3 : ((a).length : Int) = ((b).length : Int) := ne_f h1
    refine wp_skip (nx_then (wp_seq (wp_seq (RG.start ?_))))
    refine S.q 1 [0, 1, 5] 0 ⟨[(0, .v (slv (a).length pa.1)), (1, .v (slv (b).length pb.1)), (5, .v (I 0))], []⟩ .nil ?_; clear S; intro ac w β S
    refine RG.done rfl (nx_then (wp_block ?_))
    replace S := S.p [0, 1, 5] 0 ⟨[(0, .v (slv (a).length pa.1)), (1, .v (slv (b).length pb.1)), (5, .v (I 0))], []⟩
    refine wp_loop_down (fun mm ac w => ∃ (k : Nat)  (u : World) (N : Bl) (β : Nat → Nat), mm = a.length - k ∧ (k ≤ a.length) ∧ (a.length = b.length) ∧ (a.take k = b.take k) ∧ St Tryz.prog Tryz.f28.ntmps w0 NoB u N β ⟨[(0, .v (slv (a).length pa.1)), (1, .v (slv (b).length pb.1)), (5, .v (I (k : Int)))], []⟩ ac w) _ ⟨0, _, _, _, rfl, (by first | omega | (simp; done) | (simp; omega)), (by first | omega | (simp; done) | (simp; omega)), (by simp), S.cast (by kernel_rfl)⟩ ?_
    clear S
    rintro mm ac w ⟨k, u, N, β, rfl, hk, hab, he, S⟩
    refine wp_seq (wp_seq (RG.start ?_))
    refine S.q 4 [0, 1, 5, 14] 0 ⟨[(0, .v (slv (a).length pa.1)), (1, .v (slv (b).length pb.1)), (5, .v (I (k : Int))), (14, .v (B (decide ((k : Int) < ((a).length : Int)))))], []⟩ .nil ?_; clear S; intro ac w β S
    refine RG.done rfl (nx_then ?_)
    refine S.c (decide ((k : Int) < ((a).length : Int))) (fun h4 => ?_) (fun h4 => ?_)
    · have g5 : (k : Int) < ((a).length : Int) := of_decide_eq_true h4
      refine wp_skip (nx_then (wp_seq (wp_block (wp_seq ?_))))
      refine S.drawn (keep := [0, 1, 5, 25]) (m := 0) (σ' := ⟨[(0, .v (slv (a).length pa.1)), (1, .v (slv (b).length pb.1)), (5, .v (I (k : Int))), (25, .v (B ((el a k) != (el b k))))], []⟩) (.cons (Q_idx (S.arg ha) (l := (a).length) (k := k) (i := (k : Int)) rfl rfl (by omega) Tryz.underlying24 (by kernel_rfl)) (.cons (Q_el1 (S.arg ha) (t := 3) (k := k) (by omega) rfl (by kernel_rfl)) (.cons (Q_idx (S.arg hb) (l := (b).length) (k := k) (i := (k : Int)) rfl rfl (by omega) Tryz.underlying24 (by kernel_rfl)) (.cons (Q_el1 (S.arg hb) (t := 3) (k := k) (by omega) rfl (by kernel_rfl)) .nil)))) rfl (by kernel_rfl) (by kernel_rfl) ?_
      clear S; intro ac w S
      refine id (nx_then ?_)
      refine S.c ((el a k) != (el b k)) (fun h6 => ?_) (fun h6 => ?_)
      · have g7 : ¬ ((el a k) = (el b k)) := bne_iff_ne.1 h6
        refine wp_seq (RG.start ?_)
        refine S.q 1 [4] 0 ⟨[(4, .v (B false))], []⟩ .nil ?_; clear S; intro ac w β S
        refine RG.done rfl (nx_then (wp_ret (rt_block (rt_then (rt_then (rt_block (rt_then ?_)))))))
        refine S.r [B false] ?_
        exact ⟨retB (by clear S; first | (simp; intro e; subst e; simp_all; done) | (simp; rw [take_all (by omega), take_all (by omega)] at he; exact he) | (simp; exact take_ne (by simp_all))), S.chg⟩
      · have g8 : (el a k) = (el b k) := ne_f h6
        refine wp_skip (nx_block (nx_then (RG.start ?_)))
        refine S.q 3 [0, 1, 5] 0 ⟨[(0, .v (slv (a).length pa.1)), (1, .v (slv (b).length pb.1)), (5, .v (I ((k : Int) + 1)))], []⟩ (.cons (Q_add (x := (k : Int)) (y := 1) ⟨by omega, by omega⟩) .nil) ?_; clear S; intro ac w β S
        refine RG.done rfl (nx_then ?_)
        replace S := S.p [0, 1, 5] 0 ⟨[(0, .v (slv (a).length pa.1)), (1, .v (slv (b).length pb.1)), (5, .v (I ((k : Int) + 1)))], []⟩
        refine ⟨a.length - (k + 1), by omega, k + 1, _, _, _, rfl, ?_, ?_, ?_, S.cast (by kernel_rfl)⟩
        · clear S; first | omega | (simp [*]; done) | (simp [*]; omega)
        · clear S; first | omega | (simp [*]; done) | (simp [*]; omega)
        · clear S; exact take_eq_step (by omega) (by omega) he (by simp_all)
    · have g9 : ¬ ((k : Int) < ((a).length : Int)) := of_decide_eq_false h4
      refine wp_exit (ex_then (ex_then (ex_hit (nx_then (wp_seq (RG.start ?_))))))
      refine S.q 1 [4] 0 ⟨[(4, .v (B true))], []⟩ .nil ?_; clear S; intro ac w β S
      refine RG.done rfl (nx_then (wp_ret ?_))
      refine S.r [B true] ?_
      exact ⟨retB (by clear S; first | (simp; intro e; subst e; simp_all; done) | (simp; rw [take_all (by omega), take_all (by omega)] at he; exact he) | (simp; exact take_ne (by simp_all))), S.chg⟩

set_option maxRecDepth 100000 in
theorem c_laws_eqIntSS (w0 : World) (a : List (List Int)) (pa : LP (List Int)) (ha : GT.rd KK (Lt w0.heap.size) w0 a pa) (b : List (List Int)) (pb : LP (List Int)) (hb : GT.rd KK (Lt w0.heap.size) w0 b pb) : Calls Tryz.prog 26 [slv (a).length pa.1, slv (b).length pb.1].toArray w0 (fun e w' => e = .returned (B (decide (a = b))) ∧ Chg NoB w0 w') := by
  refine Calls.walk (args := [slv (a).length pa.1, slv (b).length pb.1]) NoB Tryz.func26 rfl rfl ?_
  intro ac β S
  have hlea : a.length ≤ 4194304 := LRd.le ha
  have hleb : b.length ≤ 4194304 := LRd.le hb
  refine wp_seq (RG.start ?_)
  refine S.q 1 [0, 1] 0 ⟨[(0, .v (slv (a).length pa.1)), (1, .v (slv (b).length pb.1))], []⟩ .nil ?_; clear S; intro ac w β S
  refine RG.done rfl (nx_then (wp_seq (wp_seq (RG.start ?_))))
  refine S.q 5 [0, 1, 10] 0 ⟨[(0, .v (slv (a).length pa.1)), (1, .v (slv (b).length pb.1)), (10, .v (B (((a).length : Int) != ((b).length : Int))))], []⟩ .nil ?_; clear S; intro ac w β S
  refine RG.done rfl (nx_then ?_)
  refine S.c (((a).length : Int) != ((b).length : Int)) (fun h1 => ?_) (fun h1 => ?_)
  · have g2 : ¬ (((a).length : Int) = ((b).length : Int)) := bne_iff_ne.1 h1
    refine wp_seq (RG.start ?_)
    refine S.q 1 [4] 0 ⟨[(4, .v (B false))], []⟩ .nil ?_; clear S; intro ac w β S
    refine RG.done rfl (nx_then (wp_ret (rt_then ?_)))
    refine S.r [B false] ?_
    exact ⟨retB (by clear S; first | (simp; intro e; subst e; simp_all; done) | (simp; rw [take_all (by omega), take_all (by omega)] at he; exact he) | (simp; exact take_ne (by simp_all))), S.chg⟩
  · have g3 : ((a).length : Int) = ((b).length : Int) := ne_f h1
    refine wp_skip (nx_then (wp_seq (wp_seq (RG.start ?_))))
    refine S.q 1 [0, 1, 5] 0 ⟨[(0, .v (slv (a).length pa.1)), (1, .v (slv (b).length pb.1)), (5, .v (I 0))], []⟩ .nil ?_; clear S; intro ac w β S
    refine RG.done rfl (nx_then (wp_block ?_))
    replace S := S.p [0, 1, 5] 0 ⟨[(0, .v (slv (a).length pa.1)), (1, .v (slv (b).length pb.1)), (5, .v (I 0))], []⟩
    refine wp_loop_down (fun mm ac w => ∃ (k : Nat)  (u : World) (N : Bl) (β : Nat → Nat), mm = a.length - k ∧ (k ≤ a.length) ∧ (a.length = b.length) ∧ (a.take k = b.take k) ∧ St Tryz.prog Tryz.f26.ntmps w0 NoB u N β ⟨[(0, .v (slv (a).length pa.1)), (1, .v (slv (b).length pb.1)), (5, .v (I (k : Int)))], []⟩ ac w) _ ⟨0, _, _, _, rfl, (by first | omega | (simp; done) | (simp; omega)), (by first | omega | (simp; done) | (simp; omega)), (by simp), S.cast (by kernel_rfl)⟩ ?_
    clear S
    rintro mm ac w ⟨k, u, N, β, rfl, hk, hab, he, S⟩
    refine wp_seq (wp_seq (RG.start ?_))
    refine S.q 4 [0, 1, 5, 14] 0 ⟨[(0, .v (slv (a).length pa.1)), (1, .v (slv (b).length pb.1)), (5, .v (I (k : Int))), (14, .v (B (decide ((k : Int) < ((a).length : Int)))))], []⟩ .nil ?_; clear S; intro ac w β S
    refine RG.done rfl (nx_then ?_)
    refine S.c (decide ((k : Int) < ((a).length : Int))) (fun h4 => ?_) (fun h4 => ?_)
    · have g5 : (k : Int) < ((a).length : Int) := of_decide_eq_true h4
      refine wp_skip (nx_then (wp_seq (wp_block (wp_seq ?_))))
      refine S.drawn (keep := [0, 1, 5, 26]) (m := 0) (σ' := ⟨[(0, .v (slv (a).length pa.1)), (1, .v (slv (b).length pb.1)), (5, .v (I (k : Int))), (26, .v (B (!(decide ((el a k) = (el b k))))))], []⟩) (.cons (Q_idx (S.arg ha) (l := (a).length) (k := k) (i := (k : Int)) rfl rfl (by omega) Tryz.underlying22 (by kernel_rfl)) (.cons (Q_el1 (S.arg ha) (t := 24) (k := k) (by omega) rfl (by kernel_rfl)) (.cons (Q_idx (S.arg hb) (l := (b).length) (k := k) (i := (k : Int)) rfl rfl (by omega) Tryz.underlying22 (by kernel_rfl)) (.cons (Q_el1 (S.arg hb) (t := 24) (k := k) (by omega) rfl (by kernel_rfl)) (.cons (Q_call fun w hw => c_laws_eqIntS w (el a k) (pa.2 k) (rd_of (LRd.el (S.arg ha) k (by omega)) hw) (el b k) (pb.2 k) (rd_of (LRd.el (S.arg hb) k (by omega)) hw)) .nil))))) rfl (by kernel_rfl) (by kernel_rfl) ?_
      clear S; intro ac w S
      refine id (nx_then ?_)
      refine S.c (!(decide ((el a k) = (el b k)))) (fun h6 => ?_) (fun h6 => ?_)
      · have h7 : (decide ((el a k) = (el b k))) = false := not_t h6
        have g8 := of_decide_eq_false h7
        refine wp_seq (RG.start ?_)
        refine S.q 1 [4] 0 ⟨[(4, .v (B false))], []⟩ .nil ?_; clear S; intro ac w β S
        refine RG.done rfl (nx_then (wp_ret (rt_block (rt_then (rt_then (rt_block (rt_then ?_)))))))
        refine S.r [B false] ?_
        exact ⟨retB (by clear S; first | (simp; intro e; subst e; simp_all; done) | (simp; rw [take_all (by omega), take_all (by omega)] at he; exact he) | (simp; exact take_ne (by simp_all))), S.chg⟩
      · have h9 : (decide ((el a k) = (el b k))) = true := not_f h6
        have g10 := of_decide_eq_true h9
        refine wp_skip (nx_block (nx_then (RG.start ?_)))
        refine S.q 3 [0, 1, 5] 0 ⟨[(0, .v (slv (a).length pa.1)), (1, .v (slv (b).length pb.1)), (5, .v (I ((k : Int) + 1)))], []⟩ (.cons (Q_add (x := (k : Int)) (y := 1) ⟨by omega, by omega⟩) .nil) ?_; clear S; intro ac w β S
        refine RG.done rfl (nx_then ?_)
        replace S := S.p [0, 1, 5] 0 ⟨[(0, .v (slv (a).length pa.1)), (1, .v (slv (b).length pb.1)), (5, .v (I ((k : Int) + 1)))], []⟩
        refine ⟨a.length - (k + 1), by omega, k + 1, _, _, _, rfl, ?_, ?_, ?_, S.cast (by kernel_rfl)⟩
        · clear S; first | omega | (simp [*]; done) | (simp [*]; omega)
        · clear S; first | omega | (simp [*]; done) | (simp [*]; omega)
        · clear S; exact take_eq_step (by omega) (by omega) he (by simp_all)
    · have g11 : ¬ ((k : Int) < ((a).length : Int)) := of_decide_eq_false h4
      refine wp_exit (ex_then (ex_then (ex_hit (nx_then (wp_seq (RG.start ?_))))))
      refine S.q 1 [4] 0 ⟨[(4, .v (B true))], []⟩ .nil ?_; clear S; intro ac w β S
      refine RG.done rfl (nx_then (wp_ret ?_))
      refine S.r [B true] ?_
      exact ⟨retB (by clear S; first | (simp; intro e; subst e; simp_all; done) | (simp; rw [take_all (by omega), take_all (by omega)] at he; exact he) | (simp; exact take_ne (by simp_all))), S.chg⟩

set_option maxRecDepth 100000 in
theorem c_laws_eqIns (w0 : World) (a : TIns) (b : TIns) : Calls Tryz.prog 93 [GT.val a (), GT.val b ()].toArray w0 (fun e w' => e = .returned (B (decide (a = b))) ∧ Chg NoB w0 w') := by
  refine Calls.walk (args := [GT.val a (), GT.val b ()]) NoB Tryz.func93 rfl rfl ?_
  intro ac β S
  refine wp_seq (RG.start ?_)
  refine S.q 3 [2, 3] 2 ⟨[(2, .p 0 0), (3, .p 1 0)], [GT.cells a (), GT.cells b ()]⟩ .nil ?_; clear S; intro ac w β S
  refine RG.done rfl (nx_then (wp_seq (wp_seq (RG.start ?_))))
  refine S.q 5 [2, 3, 9] 2 ⟨[(2, .p 0 0), (3, .p 1 0), (9, .v (B (a.opc != b.opc)))], [GT.cells a (), GT.cells b ()]⟩ .nil ?_; clear S; intro ac w β S
  refine RG.done rfl (nx_then ?_)
  refine S.c (a.opc != b.opc) (fun h1 => ?_) (fun h1 => ?_)
  · have g2 : ¬ (a.opc = b.opc) := bne_iff_ne.1 h1
    refine wp_seq (RG.start ?_)
    refine S.q 1 [4] 0 ⟨[(4, .v (B false))], []⟩ .nil ?_; clear S; intro ac w β S
    refine RG.done rfl (nx_then (wp_ret (rt_then ?_)))
    refine S.r [B false] ?_
    exact ⟨retB (by clear S; first | (simp [TIns.ext_iff, *]; done) | (simp_all [TIns.ext_iff]; done)), S.chg⟩
  · have g3 : a.opc = b.opc := ne_f h1
    refine wp_skip (nx_then (wp_seq (wp_seq (RG.start ?_))))
    refine S.q 5 [14] 0 ⟨[(14, .v (B (a.x != b.x)))], []⟩ .nil ?_; clear S; intro ac w β S
    refine RG.done rfl (nx_then ?_)
    refine S.c (a.x != b.x) (fun h4 => ?_) (fun h4 => ?_)
    · have g5 : ¬ (a.x = b.x) := bne_iff_ne.1 h4
      refine wp_seq (RG.start ?_)
      refine S.q 1 [4] 0 ⟨[(4, .v (B false))], []⟩ .nil ?_; clear S; intro ac w β S
      refine RG.done rfl (nx_then (wp_ret (rt_then ?_)))
      refine S.r [B false] ?_
      exact ⟨retB (by clear S; first | (simp [TIns.ext_iff, *]; done) | (simp_all [TIns.ext_iff]; done)), S.chg⟩
    · have g6 : a.x = b.x := ne_f h4
      refine wp_skip (nx_then (wp_seq (RG.start ?_)))
      refine S.q 1 [4] 0 ⟨[(4, .v (B true))], []⟩ .nil ?_; clear S; intro ac w β S
      refine RG.done rfl (nx_then (wp_ret ?_))
      refine S.r [B true] ?_
      exact ⟨retB (by clear S; first | (simp [TIns.ext_iff, *]; done) | (simp_all [TIns.ext_iff]; done)), S.chg⟩

set_option maxRecDepth 100000 in
theorem c_laws_eqInsS (w0 : World) (a : List TIns) (pa : LP TIns) (ha : GT.rd KK (Lt w0.heap.size) w0 a pa) (b : List TIns) (pb : LP TIns) (hb : GT.rd KK (Lt w0.heap.size) w0 b pb) : Calls Tryz.prog 73 [slv (a).length pa.1, slv (b).length pb.1].toArray w0 (fun e w' => e = .returned (B (decide (a = b))) ∧ Chg NoB w0 w') := by
  refine Calls.walk (args := [slv (a).length pa.1, slv (b).length pb.1]) NoB Tryz.func73 rfl rfl ?_
  intro ac β S
  have hlea : a.length ≤ 4194304 := LRd.le ha
  have hleb : b.length ≤ 4194304 := LRd.le hb
  refine wp_seq (RG.start ?_)
  refine S.q 1 [0, 1] 0 ⟨[(0, .v (slv (a).length pa.1)), (1, .v (slv (b).length pb.1))], []⟩ .nil ?_; clear S; intro ac w β S
  refine RG.done rfl (nx_then (wp_seq (wp_seq (RG.start ?_))))
  refine S.q 5 [0, 1, 10] 0 ⟨[(0, .v (slv (a).length pa.1)), (1, .v (slv (b).length pb.1)), (10, .v (B (((a).length : Int) != ((b).length : Int))))], []⟩ .nil ?_; clear S; intro ac w β S
  refine RG.done rfl (nx_then ?_)
  refine S.c (((a).length : Int) != ((b).length : Int)) (fun h1 => ?_) (fun h1 => ?_)
  · have g2 : ¬ (((a).length : Int) = ((b).length : Int)) := bne_iff_ne.1 h1
    refine wp_seq (RG.start ?_)
    refine S.q 1 [4] 0 ⟨[(4, .v (B false))], []⟩ .nil ?_; clear S; intro ac w β S
    refine RG.done rfl (nx_then (wp_ret (rt_then ?_)))
    refine S.r [B false] ?_
    exact ⟨retB (by clear S; first | (simp; intro e; subst e; simp_all; done) | (simp; rw [take_all (by omega), take_all (by omega)] at he; exact he) | (simp; exact take_ne (by simp_all))), S.chg⟩
  · have g3 : ((a).length : Int) = ((b).length : Int) := ne_f h1
    refine wp_skip (nx_then (wp_seq (wp_seq (RG.start ?_))))
    refine S.q 1 [0, 1, 5] 0 ⟨[(0, .v (slv (a).length pa.1)), (1, .v (slv (b).length pb.1)), (5, .v (I 0))], []⟩ .nil ?_; clear S; intro ac w β S
    refine RG.done rfl (nx_then (wp_block ?_))
    replace S := S.p [0, 1, 5] 0 ⟨[(0, .v (slv (a).length pa.1)), (1, .v (slv (b).length pb.1)), (5, .v (I 0))], []⟩
    refine wp_loop_down (fun mm ac w => ∃ (k : Nat)  (u : World) (N : Bl) (β : Nat → Nat), mm = a.length - k ∧ (k ≤ a.length) ∧ (a.length = b.length) ∧ (a.take k = b.take k) ∧ St Tryz.prog Tryz.f73.ntmps w0 NoB u N β ⟨[(0, .v (slv (a).length pa.1)), (1, .v (slv (b).length pb.1)), (5, .v (I (k : Int)))], []⟩ ac w) _ ⟨0, _, _, _, rfl, (by first | omega | (simp; done) | (simp; omega)), (by first | omega | (simp; done) | (simp; omega)), (by simp), S.cast (by kernel_rfl)⟩ ?_
    clear S
    rintro mm ac w ⟨k, u, N, β, rfl, hk, hab, he, S⟩
    refine wp_seq (wp_seq (RG.start ?_))
    refine S.q 4 [0, 1, 5, 14] 0 ⟨[(0, .v (slv (a).length pa.1)), (1, .v (slv (b).length pb.1)), (5, .v (I (k : Int))), (14, .v (B (decide ((k : Int) < ((a).length : Int)))))], []⟩ .nil ?_; clear S; intro ac w β S
    refine RG.done rfl (nx_then ?_)
    refine S.c (decide ((k : Int) < ((a).length : Int))) (fun h4 => ?_) (fun h4 => ?_)
    · have g5 : (k : Int) < ((a).length : Int) := of_decide_eq_true h4
      refine wp_skip (nx_then (wp_seq (wp_block (wp_seq ?_))))
      refine S.drawn (keep := [0, 1, 5, 26]) (m := 0) (σ' := ⟨[(0, .v (slv (a).length pa.1)), (1, .v (slv (b).length pb.1)), (5, .v (I (k : Int))), (26, .v (B (!(decide ((el a k) = (el b k))))))], []⟩) (.cons (Q_idx (S.arg ha) (l := (a).length) (k := k) (i := (k : Int)) rfl rfl (by omega) Tryz.underlying67 (by kernel_rfl)) (.cons (Q_el (S.arg ha) (t := 100) (k := k) (by omega) rfl (by kernel_rfl) (by kernel_rfl)) (.cons (Q_idx (S.arg hb) (l := (b).length) (k := k) (i := (k : Int)) rfl rfl (by omega) Tryz.underlying67 (by kernel_rfl)) (.cons (Q_el (S.arg hb) (t := 100) (k := k) (by omega) rfl (by kernel_rfl) (by kernel_rfl)) (.cons (Q_call fun w hw => c_laws_eqIns w (el a k) (el b k)) .nil))))) rfl (by kernel_rfl) (by kernel_rfl) ?_
      clear S; intro ac w S
      refine id (nx_then ?_)
      refine S.c (!(decide ((el a k) = (el b k)))) (fun h6 => ?_) (fun h6 => ?_)
      · have h7 : (decide ((el a k) = (el b k))) = false := not_t h6
        have g8 := of_decide_eq_false h7
        refine wp_seq (RG.start ?_)
        refine S.q 1 [4] 0 ⟨[(4, .v (B false))], []⟩ .nil ?_; clear S; intro ac w β S
        refine RG.done rfl (nx_then (wp_ret (rt_block (rt_then (rt_then (rt_block (rt_then ?_)))))))
        refine S.r [B false] ?_
        exact ⟨retB (by clear S; first | (simp; intro e; subst e; simp_all; done) | (simp; rw [take_all (by omega), take_all (by omega)] at he; exact he) | (simp; exact take_ne (by simp_all))), S.chg⟩
      · have h9 : (decide ((el a k) = (el b k))) = true := not_f h6
        have g10 := of_decide_eq_true h9
        refine wp_skip (nx_block (nx_then (RG.start ?_)))
        refine S.q 3 [0, 1, 5] 0 ⟨[(0, .v (slv (a).length pa.1)), (1, .v (slv (b).length pb.1)), (5, .v (I ((k : Int) + 1)))], []⟩ (.cons (Q_add (x := (k : Int)) (y := 1) ⟨by omega, by omega⟩) .nil) ?_; clear S; intro ac w β S
        refine RG.done rfl (nx_then ?_)
        replace S := S.p [0, 1, 5] 0 ⟨[(0, .v (slv (a).length pa.1)), (1, .v (slv (b).length pb.1)), (5, .v (I ((k : Int) + 1)))], []⟩
        refine ⟨a.length - (k + 1), by omega, k + 1, _, _, _, rfl, ?_, ?_, ?_, S.cast (by kernel_rfl)⟩
        · clear S; first | omega | (simp [*]; done) | (simp [*]; omega)
        · clear S; first | omega | (simp [*]; done) | (simp [*]; omega)
        · clear S; exact take_eq_step (by omega) (by omega) he (by simp_all)
    · have g11 : ¬ ((k : Int) < ((a).length : Int)) := of_decide_eq_false h4
      refine wp_exit (ex_then (ex_then (ex_hit (nx_then (wp_seq (RG.start ?_))))))
      refine S.q 1 [4] 0 ⟨[(4, .v (B true))], []⟩ .nil ?_; clear S; intro ac w β S
      refine RG.done rfl (nx_then (wp_ret ?_))
      refine S.r [B true] ?_
      exact ⟨retB (by clear S; first | (simp; intro e; subst e; simp_all; done) | (simp; rw [take_all (by omega), take_all (by omega)] at he; exact he) | (simp; exact take_ne (by simp_all))), S.chg⟩

set_option maxRecDepth 100000 in
theorem c_laws_eqSlot (w0 : World) (a : TSlot) (b : TSlot) : Calls Tryz.prog 94 [GT.val a (), GT.val b ()].toArray w0 (fun e w' => e = .returned (B (decide (a = b))) ∧ Chg NoB w0 w') := by
  refine Calls.walk (args := [GT.val a (), GT.val b ()]) NoB Tryz.func94 rfl rfl ?_
  intro ac β S
  refine wp_seq (RG.start ?_)
  refine S.q 3 [2, 3] 2 ⟨[(2, .p 0 0), (3, .p 1 0)], [GT.cells a (), GT.cells b ()]⟩ .nil ?_; clear S; intro ac w β S
  refine RG.done rfl (nx_then (wp_seq (wp_seq (RG.start ?_))))
  refine S.q 5 [2, 3, 9] 2 ⟨[(2, .p 0 0), (3, .p 1 0), (9, .v (B (a.page != b.page)))], [GT.cells a (), GT.cells b ()]⟩ .nil ?_; clear S; intro ac w β S
  refine RG.done rfl (nx_then ?_)
  refine S.c (a.page != b.page) (fun h1 => ?_) (fun h1 => ?_)
  · have g2 : ¬ (a.page = b.page) := bne_iff_ne.1 h1
    refine wp_seq (RG.start ?_)
    refine S.q 1 [4] 0 ⟨[(4, .v (B false))], []⟩ .nil ?_; clear S; intro ac w β S
    refine RG.done rfl (nx_then (wp_ret (rt_then ?_)))
    refine S.r [B false] ?_
    exact ⟨retB (by clear S; first | (simp [TSlot.ext_iff, *]; done) | (simp_all [TSlot.ext_iff]; done)), S.chg⟩
  · have g3 : a.page = b.page := ne_f h1
    refine wp_skip (nx_then (wp_seq (wp_seq (RG.start ?_))))
    refine S.q 5 [14] 0 ⟨[(14, .v (B (a.rights != b.rights)))], []⟩ .nil ?_; clear S; intro ac w β S
    refine RG.done rfl (nx_then ?_)
    refine S.c (a.rights != b.rights) (fun h4 => ?_) (fun h4 => ?_)
    · have g5 : ¬ (a.rights = b.rights) := bne_iff_ne.1 h4
      refine wp_seq (RG.start ?_)
      refine S.q 1 [4] 0 ⟨[(4, .v (B false))], []⟩ .nil ?_; clear S; intro ac w β S
      refine RG.done rfl (nx_then (wp_ret (rt_then ?_)))
      refine S.r [B false] ?_
      exact ⟨retB (by clear S; first | (simp [TSlot.ext_iff, *]; done) | (simp_all [TSlot.ext_iff]; done)), S.chg⟩
    · have g6 : a.rights = b.rights := ne_f h4
      refine wp_skip (nx_then (wp_seq (RG.start ?_)))
      refine S.q 1 [4] 0 ⟨[(4, .v (B true))], []⟩ .nil ?_; clear S; intro ac w β S
      refine RG.done rfl (nx_then (wp_ret ?_))
      refine S.r [B true] ?_
      exact ⟨retB (by clear S; first | (simp [TSlot.ext_iff, *]; done) | (simp_all [TSlot.ext_iff]; done)), S.chg⟩

set_option maxRecDepth 100000 in
theorem c_laws_eqSlotS (w0 : World) (a : List TSlot) (pa : LP TSlot) (ha : GT.rd KK (Lt w0.heap.size) w0 a pa) (b : List TSlot) (pb : LP TSlot) (hb : GT.rd KK (Lt w0.heap.size) w0 b pb) : Calls Tryz.prog 74 [slv (a).length pa.1, slv (b).length pb.1].toArray w0 (fun e w' => e = .returned (B (decide (a = b))) ∧ Chg NoB w0 w') := by
  refine Calls.walk (args := [slv (a).length pa.1, slv (b).length pb.1]) NoB Tryz.func74 rfl rfl ?_
  intro ac β S
  have hlea : a.length ≤ 4194304 := LRd.le ha
  have hleb : b.length ≤ 4194304 := LRd.le hb
  refine wp_seq (RG.start ?_)
  refine S.q 1 [0, 1] 0 ⟨[(0, .v (slv (a).length pa.1)), (1, .v (slv (b).length pb.1))], []⟩ .nil ?_; clear S; intro ac w β S
  refine RG.done rfl (nx_then (wp_seq (wp_seq (RG.start ?_))))
  refine S.q 5 [0, 1, 10] 0 ⟨[(0, .v (slv (a).length pa.1)), (1, .v (slv (b).length pb.1)), (10, .v (B (((a).length : Int) != ((b).length : Int))))], []⟩ .nil ?_; clear S; intro ac w β S
  refine RG.done rfl (nx_then ?_)
  refine S.c (((a).length : Int) != ((b).length : Int)) (fun h1 => ?_) (fun h1 => ?_)
  · have g2 : ¬ (((a).length : Int) = ((b).length : Int)) := bne_iff_ne.1 h1
    refine wp_seq (RG.start ?_)
    refine S.q 1 [4] 0 ⟨[(4, .v (B false))], []⟩ .nil ?_; clear S; intro ac w β S
    refine RG.done rfl (nx_then (wp_ret (rt_then ?_)))
    refine S.r [B false] ?_
    exact ⟨retB (by clear S; first | (simp; intro e; subst e; simp_all; done) | (simp; rw [take_all (by omega), take_all (by omega)] at he; exact he) | (simp; exact take_ne (by simp_all))), S.chg⟩
  · have g3 : ((a).length : Int) = ((b).length : Int) := ne_f h1
    refine wp_skip (nx_then (wp_seq (wp_seq (RG.start ?_))))
    refine S.q 1 [0, 1, 5] 0 ⟨[(0, .v (slv (a).length pa.1)), (1, .v (slv (b).length pb.1)), (5, .v (I 0))], []⟩ .nil ?_; clear S; intro ac w β S
    refine RG.done rfl (nx_then (wp_block ?_))
    replace S := S.p [0, 1, 5] 0 ⟨[(0, .v (slv (a).length pa.1)), (1, .v (slv (b).length pb.1)), (5, .v (I 0))], []⟩
    refine wp_loop_down (fun mm ac w => ∃ (k : Nat)  (u : World) (N : Bl) (β : Nat → Nat), mm = a.length - k ∧ (k ≤ a.length) ∧ (a.length = b.length) ∧ (a.take k = b.take k) ∧ St Tryz.prog Tryz.f74.ntmps w0 NoB u N β ⟨[(0, .v (slv (a).length pa.1)), (1, .v (slv (b).length pb.1)), (5, .v (I (k : Int)))], []⟩ ac w) _ ⟨0, _, _, _, rfl, (by first | omega | (simp; done) | (simp; omega)), (by first | omega | (simp; done) | (simp; omega)), (by simp), S.cast (by kernel_rfl)⟩ ?_
    clear S
    rintro mm ac w ⟨k, u, N, β, rfl, hk, hab, he, S⟩
    refine wp_seq (wp_seq (RG.start ?_))
    refine S.q 4 [0, 1, 5, 14] 0 ⟨[(0, .v (slv (a).length pa.1)), (1, .v (slv (b).length pb.1)), (5, .v (I (k : Int))), (14, .v (B (decide ((k : Int) < ((a).length : Int)))))], []⟩ .nil ?_; clear S; intro ac w β S
    refine RG.done rfl (nx_then ?_)
    refine S.c (decide ((k : Int) < ((a).length : Int))) (fun h4 => ?_) (fun h4 => ?_)
    · have g5 : (k : Int) < ((a).length : Int) := of_decide_eq_true h4
      refine wp_skip (nx_then (wp_seq (wp_block (wp_seq ?_))))
      refine S.drawn (keep := [0, 1, 5, 26]) (m := 0) (σ' := ⟨[(0, .v (slv (a).length pa.1)), (1, .v (slv (b).length pb.1)), (5, .v (I (k : Int))), (26, .v (B (!(decide ((el a k) = (el b k))))))], []⟩) (.cons (Q_idx (S.arg ha) (l := (a).length) (k := k) (i := (k : Int)) rfl rfl (by omega) Tryz.underlying68 (by kernel_rfl)) (.cons (Q_el (S.arg ha) (t := 86) (k := k) (by omega) rfl (by kernel_rfl) (by kernel_rfl)) (.cons (Q_idx (S.arg hb) (l := (b).length) (k := k) (i := (k : Int)) rfl rfl (by omega) Tryz.underlying68 (by kernel_rfl)) (.cons (Q_el (S.arg hb) (t := 86) (k := k) (by omega) rfl (by kernel_rfl) (by kernel_rfl)) (.cons (Q_call fun w hw => c_laws_eqSlot w (el a k) (el b k)) .nil))))) rfl (by kernel_rfl) (by kernel_rfl) ?_
      clear S; intro ac w S
      refine id (nx_then ?_)
      refine S.c (!(decide ((el a k) = (el b k)))) (fun h6 => ?_) (fun h6 => ?_)
      · have h7 : (decide ((el a k) = (el b k))) = false := not_t h6
        have g8 := of_decide_eq_false h7
        refine wp_seq (RG.start ?_)
        refine S.q 1 [4] 0 ⟨[(4, .v (B false))], []⟩ .nil ?_; clear S; intro ac w β S
        refine RG.done rfl (nx_then (wp_ret (rt_block (rt_then (rt_then (rt_block (rt_then ?_)))))))
        refine S.r [B false] ?_
        exact ⟨retB (by clear S; first | (simp; intro e; subst e; simp_all; done) | (simp; rw [take_all (by omega), take_all (by omega)] at he; exact he) | (simp; exact take_ne (by simp_all))), S.chg⟩
      · have h9 : (decide ((el a k) = (el b k))) = true := not_f h6
        have g10 := of_decide_eq_true h9
        refine wp_skip (nx_block (nx_then (RG.start ?_)))
        refine S.q 3 [0, 1, 5] 0 ⟨[(0, .v (slv (a).length pa.1)), (1, .v (slv (b).length pb.1)), (5, .v (I ((k : Int) + 1)))], []⟩ (.cons (Q_add (x := (k : Int)) (y := 1) ⟨by omega, by omega⟩) .nil) ?_; clear S; intro ac w β S
        refine RG.done rfl (nx_then ?_)
        replace S := S.p [0, 1, 5] 0 ⟨[(0, .v (slv (a).length pa.1)), (1, .v (slv (b).length pb.1)), (5, .v (I ((k : Int) + 1)))], []⟩
        refine ⟨a.length - (k + 1), by omega, k + 1, _, _, _, rfl, ?_, ?_, ?_, S.cast (by kernel_rfl)⟩
        · clear S; first | omega | (simp [*]; done) | (simp [*]; omega)
        · clear S; first | omega | (simp [*]; done) | (simp [*]; omega)
        · clear S; exact take_eq_step (by omega) (by omega) he (by simp_all)
    · have g11 : ¬ ((k : Int) < ((a).length : Int)) := of_decide_eq_false h4
      refine wp_exit (ex_then (ex_then (ex_hit (nx_then (wp_seq (RG.start ?_))))))
      refine S.q 1 [4] 0 ⟨[(4, .v (B true))], []⟩ .nil ?_; clear S; intro ac w β S
      refine RG.done rfl (nx_then (wp_ret ?_))
      refine S.r [B true] ?_
      exact ⟨retB (by clear S; first | (simp; intro e; subst e; simp_all; done) | (simp; rw [take_all (by omega), take_all (by omega)] at he; exact he) | (simp; exact take_ne (by simp_all))), S.chg⟩

set_option maxRecDepth 100000 in
theorem c_laws_eqCtl (w0 : World) (a : TCtl) (b : TCtl) : Calls Tryz.prog 75 [GT.val a (), GT.val b ()].toArray w0 (fun e w' => e = .returned (B (decide (a = b))) ∧ Chg NoB w0 w') := by
  refine Calls.walk (args := [GT.val a (), GT.val b ()]) NoB Tryz.func75 rfl rfl ?_
  intro ac β S
  refine wp_seq (RG.start ?_)
  refine S.q 3 [2, 3] 2 ⟨[(2, .p 0 0), (3, .p 1 0)], [GT.cells a (), GT.cells b ()]⟩ .nil ?_; clear S; intro ac w β S
  refine RG.done rfl (nx_then (wp_seq (wp_seq (RG.start ?_))))
  refine S.q 5 [2, 3, 9] 2 ⟨[(2, .p 0 0), (3, .p 1 0), (9, .v (B (a.traps != b.traps)))], [GT.cells a (), GT.cells b ()]⟩ .nil ?_; clear S; intro ac w β S
  refine RG.done rfl (nx_then ?_)
  refine S.c (a.traps != b.traps) (fun h1 => ?_) (fun h1 => ?_)
  · have g2 : ¬ (a.traps = b.traps) := bne_iff_ne.1 h1
    refine wp_seq (RG.start ?_)
    refine S.q 1 [4] 0 ⟨[(4, .v (B false))], []⟩ .nil ?_; clear S; intro ac w β S
    refine RG.done rfl (nx_then (wp_ret (rt_then ?_)))
    refine S.r [B false] ?_
    exact ⟨retB (by clear S; first | (simp [TCtl.ext_iff, *]; done) | (simp_all [TCtl.ext_iff]; done)), S.chg⟩
  · have g3 : a.traps = b.traps := ne_f h1
    refine wp_skip (nx_then (wp_seq (wp_seq (RG.start ?_))))
    refine S.q 5 [2, 3, 14] 2 ⟨[(2, .p 0 0), (3, .p 1 0), (14, .v (B (a.post != b.post)))], [GT.cells a (), GT.cells b ()]⟩ .nil ?_; clear S; intro ac w β S
    refine RG.done rfl (nx_then ?_)
    refine S.c (a.post != b.post) (fun h4 => ?_) (fun h4 => ?_)
    · have g5 : ¬ (a.post = b.post) := bne_iff_ne.1 h4
      refine wp_seq (RG.start ?_)
      refine S.q 1 [4] 0 ⟨[(4, .v (B false))], []⟩ .nil ?_; clear S; intro ac w β S
      refine RG.done rfl (nx_then (wp_ret (rt_then ?_)))
      refine S.r [B false] ?_
      exact ⟨retB (by clear S; first | (simp [TCtl.ext_iff, *]; done) | (simp_all [TCtl.ext_iff]; done)), S.chg⟩
    · have g6 : a.post = b.post := ne_f h4
      refine wp_skip (nx_then (wp_seq (wp_seq (RG.start ?_))))
      refine S.q 5 [19] 0 ⟨[(19, .v (B (!(a.opn == b.opn))))], []⟩ .nil ?_; clear S; intro ac w β S
      refine RG.done rfl (nx_then ?_)
      refine S.c (!(a.opn == b.opn)) (fun h7 => ?_) (fun h7 => ?_)
      · have h8 : (a.opn == b.opn) = false := not_t h7
        have g9 : ¬ (a.opn = b.opn) := ne_of_beq_false h8
        refine wp_seq (RG.start ?_)
        refine S.q 1 [4] 0 ⟨[(4, .v (B false))], []⟩ .nil ?_; clear S; intro ac w β S
        refine RG.done rfl (nx_then (wp_ret (rt_then ?_)))
        refine S.r [B false] ?_
        exact ⟨retB (by clear S; first | (simp [TCtl.ext_iff, *]; done) | (simp_all [TCtl.ext_iff]; done)), S.chg⟩
      · have h10 : (a.opn == b.opn) = true := not_f h7
        have g11 : a.opn = b.opn := eq_of_beq h10
        refine wp_skip (nx_then (wp_seq (RG.start ?_)))
        refine S.q 1 [4] 0 ⟨[(4, .v (B true))], []⟩ .nil ?_; clear S; intro ac w β S
        refine RG.done rfl (nx_then (wp_ret ?_))
        refine S.r [B true] ?_
        exact ⟨retB (by clear S; first | (simp [TCtl.ext_iff, *]; done) | (simp_all [TCtl.ext_iff]; done)), S.chg⟩

set_option maxRecDepth 100000 in
theorem c_laws_eqExit (w0 : World) (a : TExit) (b : TExit) : Calls Tryz.prog 76 [GT.val a (), GT.val b ()].toArray w0 (fun e w' => e = .returned (B (decide (a = b))) ∧ Chg NoB w0 w') := by
  refine Calls.walk (args := [GT.val a (), GT.val b ()]) NoB Tryz.func76 rfl rfl ?_
  intro ac β S
  refine wp_seq (RG.start ?_)
  refine S.q 3 [2, 3] 2 ⟨[(2, .p 0 0), (3, .p 1 0)], [GT.cells a (), GT.cells b ()]⟩ .nil ?_; clear S; intro ac w β S
  refine RG.done rfl (nx_then (wp_seq (wp_seq (RG.start ?_))))
  refine S.q 5 [2, 3, 9] 2 ⟨[(2, .p 0 0), (3, .p 1 0), (9, .v (B (a.kind != b.kind)))], [GT.cells a (), GT.cells b ()]⟩ .nil ?_; clear S; intro ac w β S
  refine RG.done rfl (nx_then ?_)
  refine S.c (a.kind != b.kind) (fun h1 => ?_) (fun h1 => ?_)
  · have g2 : ¬ (a.kind = b.kind) := bne_iff_ne.1 h1
    refine wp_seq (RG.start ?_)
    refine S.q 1 [4] 0 ⟨[(4, .v (B false))], []⟩ .nil ?_; clear S; intro ac w β S
    refine RG.done rfl (nx_then (wp_ret (rt_then ?_)))
    refine S.r [B false] ?_
    exact ⟨retB (by clear S; first | (simp [TExit.ext_iff, *]; done) | (simp_all [TExit.ext_iff]; done)), S.chg⟩
  · have g3 : a.kind = b.kind := ne_f h1
    refine wp_skip (nx_then (wp_seq (wp_seq (RG.start ?_))))
    refine S.q 5 [2, 3, 14] 2 ⟨[(2, .p 0 0), (3, .p 1 0), (14, .v (B (a.page != b.page)))], [GT.cells a (), GT.cells b ()]⟩ .nil ?_; clear S; intro ac w β S
    refine RG.done rfl (nx_then ?_)
    refine S.c (a.page != b.page) (fun h4 => ?_) (fun h4 => ?_)
    · have g5 : ¬ (a.page = b.page) := bne_iff_ne.1 h4
      refine wp_seq (RG.start ?_)
      refine S.q 1 [4] 0 ⟨[(4, .v (B false))], []⟩ .nil ?_; clear S; intro ac w β S
      refine RG.done rfl (nx_then (wp_ret (rt_then ?_)))
      refine S.r [B false] ?_
      exact ⟨retB (by clear S; first | (simp [TExit.ext_iff, *]; done) | (simp_all [TExit.ext_iff]; done)), S.chg⟩
    · have g6 : a.page = b.page := ne_f h4
      refine wp_skip (nx_then (wp_seq (wp_seq (RG.start ?_))))
      refine S.q 5 [2, 3, 19] 2 ⟨[(2, .p 0 0), (3, .p 1 0), (19, .v (B (!(a.wr == b.wr))))], [GT.cells a (), GT.cells b ()]⟩ .nil ?_; clear S; intro ac w β S
      refine RG.done rfl (nx_then ?_)
      refine S.c (!(a.wr == b.wr)) (fun h7 => ?_) (fun h7 => ?_)
      · have h8 : (a.wr == b.wr) = false := not_t h7
        have g9 : ¬ (a.wr = b.wr) := ne_of_beq_false h8
        refine wp_seq (RG.start ?_)
        refine S.q 1 [4] 0 ⟨[(4, .v (B false))], []⟩ .nil ?_; clear S; intro ac w β S
        refine RG.done rfl (nx_then (wp_ret (rt_then ?_)))
        refine S.r [B false] ?_
        exact ⟨retB (by clear S; first | (simp [TExit.ext_iff, *]; done) | (simp_all [TExit.ext_iff]; done)), S.chg⟩
      · have h10 : (a.wr == b.wr) = true := not_f h7
        have g11 : a.wr = b.wr := eq_of_beq h10
        refine wp_skip (nx_then (wp_seq (wp_seq (RG.start ?_))))
        refine S.q 5 [24] 0 ⟨[(24, .v (B (a.n != b.n)))], []⟩ .nil ?_; clear S; intro ac w β S
        refine RG.done rfl (nx_then ?_)
        refine S.c (a.n != b.n) (fun h12 => ?_) (fun h12 => ?_)
        · have g13 : ¬ (a.n = b.n) := bne_iff_ne.1 h12
          refine wp_seq (RG.start ?_)
          refine S.q 1 [4] 0 ⟨[(4, .v (B false))], []⟩ .nil ?_; clear S; intro ac w β S
          refine RG.done rfl (nx_then (wp_ret (rt_then ?_)))
          refine S.r [B false] ?_
          exact ⟨retB (by clear S; first | (simp [TExit.ext_iff, *]; done) | (simp_all [TExit.ext_iff]; done)), S.chg⟩
        · have g14 : a.n = b.n := ne_f h12
          refine wp_skip (nx_then (wp_seq (RG.start ?_)))
          refine S.q 1 [4] 0 ⟨[(4, .v (B true))], []⟩ .nil ?_; clear S; intro ac w β S
          refine RG.done rfl (nx_then (wp_ret ?_))
          refine S.r [B true] ?_
          exact ⟨retB (by clear S; first | (simp [TExit.ext_iff, *]; done) | (simp_all [TExit.ext_iff]; done)), S.chg⟩

set_option maxRecDepth 100000 in
theorem c_laws_eqGuest (w0 : World) (a : TGuest) (pa : PGuest) (ha : GT.rd KK (Lt w0.heap.size) w0 a pa) (b : TGuest) (pb : PGuest) (hb : GT.rd KK (Lt w0.heap.size) w0 b pb) : Calls Tryz.prog 52 [GT.val a pa, GT.val b pb].toArray w0 (fun e w' => e = .returned (B (decide (a = b))) ∧ Chg NoB w0 w') := by
  refine Calls.walk (args := [GT.val a pa, GT.val b pb]) NoB Tryz.func52 rfl rfl ?_
  intro ac β S
  have hlea_prog : a.prog.length ≤ 4194304 := LRd.le (RGuest.prog (d := a) ha)
  have hlea_written : a.written.length ≤ 4194304 := LRd.le (RGuest.written (d := a) ha)
  have hlea_live : a.live.length ≤ 4194304 := LRd.le (RGuest.live (d := a) ha)
  have hlea_seen : a.seen.length ≤ 4194304 := LRd.le (RGuest.seen (d := a) ha)
  have hleb_prog : b.prog.length ≤ 4194304 := LRd.le (RGuest.prog (d := b) hb)
  have hleb_written : b.written.length ≤ 4194304 := LRd.le (RGuest.written (d := b) hb)
  have hleb_live : b.live.length ≤ 4194304 := LRd.le (RGuest.live (d := b) hb)
  have hleb_seen : b.seen.length ≤ 4194304 := LRd.le (RGuest.seen (d := b) hb)
  refine wp_seq (RG.start ?_)
  refine S.q 3 [2, 3] 2 ⟨[(2, .p 0 0), (3, .p 1 0)], [GT.cells a pa, GT.cells b pb]⟩ .nil ?_; clear S; intro ac w β S
  refine RG.done rfl (nx_then (wp_seq (wp_seq (RG.start ?_))))
  refine S.q 6 [2, 3, 10] 2 ⟨[(2, .p 0 0), (3, .p 1 0), (10, .v (B (!(decide (a.prog = b.prog)))))], [GT.cells a pa, GT.cells b pb]⟩ (.cons (Q_call fun w hw => c_laws_eqInsS w a.prog pa.prog (rd_of (RGuest.prog (d := a) (S.arg ha)) hw) b.prog pb.prog (rd_of (RGuest.prog (d := b) (S.arg hb)) hw)) .nil) ?_; clear S; intro ac w β S
  refine RG.done rfl (nx_then ?_)
  refine S.c (!(decide (a.prog = b.prog))) (fun h1 => ?_) (fun h1 => ?_)
  · have h2 : (decide (a.prog = b.prog)) = false := not_t h1
    have g3 := of_decide_eq_false h2
    refine wp_seq (RG.start ?_)
    refine S.q 1 [4] 0 ⟨[(4, .v (B false))], []⟩ .nil ?_; clear S; intro ac w β S
    refine RG.done rfl (nx_then (wp_ret (rt_then ?_)))
    refine S.r [B false] ?_
    exact ⟨retB (by clear S; first | (simp [TGuest.ext_iff, *]; done) | (simp_all [TGuest.ext_iff]; done)), S.chg⟩
  · have h4 : (decide (a.prog = b.prog)) = true := not_f h1
    have g5 := of_decide_eq_true h4
    refine wp_skip (nx_then (wp_seq (wp_seq (RG.start ?_))))
    refine S.q 5 [2, 3, 15] 2 ⟨[(2, .p 0 0), (3, .p 1 0), (15, .v (B (a.acc != b.acc)))], [GT.cells a pa, GT.cells b pb]⟩ .nil ?_; clear S; intro ac w β S
    refine RG.done rfl (nx_then ?_)
    refine S.c (a.acc != b.acc) (fun h6 => ?_) (fun h6 => ?_)
    · have g7 : ¬ (a.acc = b.acc) := bne_iff_ne.1 h6
      refine wp_seq (RG.start ?_)
      refine S.q 1 [4] 0 ⟨[(4, .v (B false))], []⟩ .nil ?_; clear S; intro ac w β S
      refine RG.done rfl (nx_then (wp_ret (rt_then ?_)))
      refine S.r [B false] ?_
      exact ⟨retB (by clear S; first | (simp [TGuest.ext_iff, *]; done) | (simp_all [TGuest.ext_iff]; done)), S.chg⟩
    · have g8 : a.acc = b.acc := ne_f h6
      refine wp_skip (nx_then (wp_seq (wp_seq (RG.start ?_))))
      refine S.q 5 [2, 3, 20] 2 ⟨[(2, .p 0 0), (3, .p 1 0), (20, .v (B (a.pc != b.pc)))], [GT.cells a pa, GT.cells b pb]⟩ .nil ?_; clear S; intro ac w β S
      refine RG.done rfl (nx_then ?_)
      refine S.c (a.pc != b.pc) (fun h9 => ?_) (fun h9 => ?_)
      · have g10 : ¬ (a.pc = b.pc) := bne_iff_ne.1 h9
        refine wp_seq (RG.start ?_)
        refine S.q 1 [4] 0 ⟨[(4, .v (B false))], []⟩ .nil ?_; clear S; intro ac w β S
        refine RG.done rfl (nx_then (wp_ret (rt_then ?_)))
        refine S.r [B false] ?_
        exact ⟨retB (by clear S; first | (simp [TGuest.ext_iff, *]; done) | (simp_all [TGuest.ext_iff]; done)), S.chg⟩
      · have g11 : a.pc = b.pc := ne_f h9
        refine wp_skip (nx_then (wp_seq (wp_seq (RG.start ?_))))
        refine S.q 6 [2, 3, 26] 2 ⟨[(2, .p 0 0), (3, .p 1 0), (26, .v (B (!(decide (a.written = b.written)))))], [GT.cells a pa, GT.cells b pb]⟩ (.cons (Q_call fun w hw => c_laws_eqSlotS w a.written pa.written (rd_of (RGuest.written (d := a) (S.arg ha)) hw) b.written pb.written (rd_of (RGuest.written (d := b) (S.arg hb)) hw)) .nil) ?_; clear S; intro ac w β S
        refine RG.done rfl (nx_then ?_)
        refine S.c (!(decide (a.written = b.written))) (fun h12 => ?_) (fun h12 => ?_)
        · have h13 : (decide (a.written = b.written)) = false := not_t h12
          have g14 := of_decide_eq_false h13
          refine wp_seq (RG.start ?_)
          refine S.q 1 [4] 0 ⟨[(4, .v (B false))], []⟩ .nil ?_; clear S; intro ac w β S
          refine RG.done rfl (nx_then (wp_ret (rt_then ?_)))
          refine S.r [B false] ?_
          exact ⟨retB (by clear S; first | (simp [TGuest.ext_iff, *]; done) | (simp_all [TGuest.ext_iff]; done)), S.chg⟩
        · have h15 : (decide (a.written = b.written)) = true := not_f h12
          have g16 := of_decide_eq_true h15
          refine wp_skip (nx_then (wp_seq (wp_seq (RG.start ?_))))
          refine S.q 6 [2, 3, 32] 2 ⟨[(2, .p 0 0), (3, .p 1 0), (32, .v (B (!(decide (a.live = b.live)))))], [GT.cells a pa, GT.cells b pb]⟩ (.cons (Q_call fun w hw => c_laws_eqSlotS w a.live pa.live (rd_of (RGuest.live (d := a) (S.arg ha)) hw) b.live pb.live (rd_of (RGuest.live (d := b) (S.arg hb)) hw)) .nil) ?_; clear S; intro ac w β S
          refine RG.done rfl (nx_then ?_)
          refine S.c (!(decide (a.live = b.live))) (fun h17 => ?_) (fun h17 => ?_)
          · have h18 : (decide (a.live = b.live)) = false := not_t h17
            have g19 := of_decide_eq_false h18
            refine wp_seq (RG.start ?_)
            refine S.q 1 [4] 0 ⟨[(4, .v (B false))], []⟩ .nil ?_; clear S; intro ac w β S
            refine RG.done rfl (nx_then (wp_ret (rt_then ?_)))
            refine S.r [B false] ?_
            exact ⟨retB (by clear S; first | (simp [TGuest.ext_iff, *]; done) | (simp_all [TGuest.ext_iff]; done)), S.chg⟩
          · have h20 : (decide (a.live = b.live)) = true := not_f h17
            have g21 := of_decide_eq_true h20
            refine wp_skip (nx_then (wp_seq (wp_seq (RG.start ?_))))
            refine S.q 6 [2, 3, 38] 2 ⟨[(2, .p 0 0), (3, .p 1 0), (38, .v (B (!(decide (a.ctl = b.ctl)))))], [GT.cells a pa, GT.cells b pb]⟩ (.cons (Q_call fun w hw => c_laws_eqCtl w a.ctl b.ctl) .nil) ?_; clear S; intro ac w β S
            refine RG.done rfl (nx_then ?_)
            refine S.c (!(decide (a.ctl = b.ctl))) (fun h22 => ?_) (fun h22 => ?_)
            · have h23 : (decide (a.ctl = b.ctl)) = false := not_t h22
              have g24 := of_decide_eq_false h23
              refine wp_seq (RG.start ?_)
              refine S.q 1 [4] 0 ⟨[(4, .v (B false))], []⟩ .nil ?_; clear S; intro ac w β S
              refine RG.done rfl (nx_then (wp_ret (rt_then ?_)))
              refine S.r [B false] ?_
              exact ⟨retB (by clear S; first | (simp [TGuest.ext_iff, *]; done) | (simp_all [TGuest.ext_iff]; done)), S.chg⟩
            · have h25 : (decide (a.ctl = b.ctl)) = true := not_f h22
              have g26 := of_decide_eq_true h25
              refine wp_skip (nx_then (wp_seq (wp_seq (RG.start ?_))))
              refine S.q 5 [2, 3, 43] 2 ⟨[(2, .p 0 0), (3, .p 1 0), (43, .v (B (a.pend != b.pend)))], [GT.cells a pa, GT.cells b pb]⟩ .nil ?_; clear S; intro ac w β S
              refine RG.done rfl (nx_then ?_)
              refine S.c (a.pend != b.pend) (fun h27 => ?_) (fun h27 => ?_)
              · have g28 : ¬ (a.pend = b.pend) := bne_iff_ne.1 h27
                refine wp_seq (RG.start ?_)
                refine S.q 1 [4] 0 ⟨[(4, .v (B false))], []⟩ .nil ?_; clear S; intro ac w β S
                refine RG.done rfl (nx_then (wp_ret (rt_then ?_)))
                refine S.r [B false] ?_
                exact ⟨retB (by clear S; first | (simp [TGuest.ext_iff, *]; done) | (simp_all [TGuest.ext_iff]; done)), S.chg⟩
              · have g29 : a.pend = b.pend := ne_f h27
                refine wp_skip (nx_then (wp_seq (wp_seq (RG.start ?_))))
                refine S.q 6 [2, 3, 49] 2 ⟨[(2, .p 0 0), (3, .p 1 0), (49, .v (B (!(decide (a.exit = b.exit)))))], [GT.cells a pa, GT.cells b pb]⟩ (.cons (Q_call fun w hw => c_laws_eqExit w a.exit b.exit) .nil) ?_; clear S; intro ac w β S
                refine RG.done rfl (nx_then ?_)
                refine S.c (!(decide (a.exit = b.exit))) (fun h30 => ?_) (fun h30 => ?_)
                · have h31 : (decide (a.exit = b.exit)) = false := not_t h30
                  have g32 := of_decide_eq_false h31
                  refine wp_seq (RG.start ?_)
                  refine S.q 1 [4] 0 ⟨[(4, .v (B false))], []⟩ .nil ?_; clear S; intro ac w β S
                  refine RG.done rfl (nx_then (wp_ret (rt_then ?_)))
                  refine S.r [B false] ?_
                  exact ⟨retB (by clear S; first | (simp [TGuest.ext_iff, *]; done) | (simp_all [TGuest.ext_iff]; done)), S.chg⟩
                · have h33 : (decide (a.exit = b.exit)) = true := not_f h30
                  have g34 := of_decide_eq_true h33
                  refine wp_skip (nx_then (wp_seq (wp_seq (RG.start ?_))))
                  refine S.q 5 [2, 3, 54] 2 ⟨[(2, .p 0 0), (3, .p 1 0), (54, .v (B (!(a.halted == b.halted))))], [GT.cells a pa, GT.cells b pb]⟩ .nil ?_; clear S; intro ac w β S
                  refine RG.done rfl (nx_then ?_)
                  refine S.c (!(a.halted == b.halted)) (fun h35 => ?_) (fun h35 => ?_)
                  · have h36 : (a.halted == b.halted) = false := not_t h35
                    have g37 : ¬ (a.halted = b.halted) := ne_of_beq_false h36
                    refine wp_seq (RG.start ?_)
                    refine S.q 1 [4] 0 ⟨[(4, .v (B false))], []⟩ .nil ?_; clear S; intro ac w β S
                    refine RG.done rfl (nx_then (wp_ret (rt_then ?_)))
                    refine S.r [B false] ?_
                    exact ⟨retB (by clear S; first | (simp [TGuest.ext_iff, *]; done) | (simp_all [TGuest.ext_iff]; done)), S.chg⟩
                  · have h38 : (a.halted == b.halted) = true := not_f h35
                    have g39 : a.halted = b.halted := eq_of_beq h38
                    refine wp_skip (nx_then (wp_seq (wp_seq (RG.start ?_))))
                    refine S.q 6 [60] 0 ⟨[(60, .v (B (!(decide (a.seen = b.seen)))))], []⟩ (.cons (Q_call fun w hw => c_laws_eqIntS w a.seen pa.seen (rd_of (RGuest.seen (d := a) (S.arg ha)) hw) b.seen pb.seen (rd_of (RGuest.seen (d := b) (S.arg hb)) hw)) .nil) ?_; clear S; intro ac w β S
                    refine RG.done rfl (nx_then ?_)
                    refine S.c (!(decide (a.seen = b.seen))) (fun h40 => ?_) (fun h40 => ?_)
                    · have h41 : (decide (a.seen = b.seen)) = false := not_t h40
                      have g42 := of_decide_eq_false h41
                      refine wp_seq (RG.start ?_)
                      refine S.q 1 [4] 0 ⟨[(4, .v (B false))], []⟩ .nil ?_; clear S; intro ac w β S
                      refine RG.done rfl (nx_then (wp_ret (rt_then ?_)))
                      refine S.r [B false] ?_
                      exact ⟨retB (by clear S; first | (simp [TGuest.ext_iff, *]; done) | (simp_all [TGuest.ext_iff]; done)), S.chg⟩
                    · have h43 : (decide (a.seen = b.seen)) = true := not_f h40
                      have g44 := of_decide_eq_true h43
                      refine wp_skip (nx_then (wp_seq (RG.start ?_)))
                      refine S.q 1 [4] 0 ⟨[(4, .v (B true))], []⟩ .nil ?_; clear S; intro ac w β S
                      refine RG.done rfl (nx_then (wp_ret ?_))
                      refine S.r [B true] ?_
                      exact ⟨retB (by clear S; first | (simp [TGuest.ext_iff, *]; done) | (simp_all [TGuest.ext_iff]; done)), S.chg⟩

end Go.Proofs.YtngpcoihomipfaaGreat
