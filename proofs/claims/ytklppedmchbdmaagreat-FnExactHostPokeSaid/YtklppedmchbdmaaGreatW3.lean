/- The walks: what each function that the laws reach computes (part 3). -/
import Derived.Test.YtklppedmchbdmaaGreatW2
import Derived.Test.YtklppedmchbdmaaGreatProg
import Derived.KernelRfl
namespace Go.Proofs.YtklppedmchbdmaaGreat
open Go
set_option linter.unusedVariables false
set_option linter.unusedSimpArgs false
set_option maxRecDepth 100000

theorem k1_impl_BareOk {p : Prop} (h : p := by clear S; (symm; rw [← Bool.not_eq_true]; intro hc; simp only [f_bareOk, Bool.and_eq_true, decide_eq_true_eq, beq_iff_eq] at hc; first | omega | (simp_all; done) | (simp_all; omega) | (have hx := all_el (k := k) hc.1.1.1.1 (by omega); simp_all; done))) : p := h
theorem c_impl_BareOk (w0 : World) (b : TBare) (pb : PBare) (hb : RD w0 b pb) : Calls Tryz.prog 101 [GT.val b pb].toArray w0 (fun e w' => e = .returned (B (f_bareOk b)) ∧ Chg NoB w0 w') := by
 refine Calls.walk NoB Tryz.func101 rfl rfl ?_
 intro ac β S
 have hleb_mem : b.mem.length ≤ 4194304 := LRd.le (RBare.mem (d := b) hb)
 have hleb_guests : b.guests.length ≤ 4194304 := LRd.le (RBare.guests (d := b) hb)
 have hleb_outs : b.outs.length ≤ 4194304 := LRd.le (RBare.outs (d := b) hb)
 refine ws (rg ?_)
 refine S.qem 2 [] [(1, .p 0 0)] 1 [(0, GT.cells b pb)] fun ac w β S => ?_
 refine (nt (ws (ws (rg ?_))))
 refine S.qe 4 [] [(6, .v (slv b.guests.length pb.guests.1)), (7, .v (I (b.guests.length : Int))), (8, .v (I 0))] fun ac w β S => ?_
 refine (nt (wp_block ?_))
 refine wp_loop_down (fun mm ac w => ∃ (k : Nat)  (u : _) (N : _) (β : _), mm = b.guests.length - k ∧ (k ≤ b.guests.length) ∧ ((b.guests.take k).all f_guestOk = true) ∧ St Tryz.prog Tryz.f101.ntmps w0 NoB u N β ⟨[(1, .p 0 0), (6, .v (slv b.guests.length pb.guests.1)), (7, .v (I (b.guests.length : Int))), (8, .v (I (k : Int)))], [GT.cells b pb]⟩ ac w) _ ⟨0, _, _, _, rfl, o0, (by simp), S.z⟩ ?_
 clear S
 rintro mm ac w ⟨k, u, N, β, rfl, hk, he, S⟩
 refine ws (rg ?_)
 refine S.qe 1 [] [(9, .v (B (decide ((k : Int) < (b.guests.length : Int)))))] fun ac w β S => ?_
 refine (nt (ws (S.c (decide ((k : Int) < (b.guests.length : Int))) (fun h1 => ?_) (fun h1 => ?_))))
 ·have g2 := of_decide_eq_true h1
  refine wk (nt (ws (wp_block (ws (rg ?_)))))
  refine S.qgm 4 [] [(4, .p 1 0)] (.cons (qn (RBare.guests (d := b) (S.arg hb)) k Tryz.underlying49) (.cons (qs (RBare.guests (d := b) (S.arg hb)) 99 k) .nil)) 2 [(1, GT.cells (el b.guests k) (pb.guests.2 k))] fun ac w β S => ?_
  refine (nt (ws (rg ?_)))
  refine S.qgm 3 [] [(14, .v (B (!(f_guestOk (el b.guests k)))))] (.cons (Q_call fun w hw => c_impl_GuestOk w (el b.guests k) (pb.guests.2 k) (rd_of (LRd.el (RBare.guests (d := b) (S.arg hb)) k (by omega)) hw)) .nil) 1 [] fun ac w β S => ?_
  refine (nt (S.c (!(f_guestOk (el b.guests k))) (fun h3 => ?_) (fun h3 => ?_)))
  ·have h4 := not_t h3
   refine ws (rg ?_)
   refine S.qe 1 [] [(2, .v (B false))] fun ac w β S => ?_
   exact (nt (wr (rb (rt (rt (rb (rt (S.r [B false] ⟨retB k1_impl_BareOk, S.chg⟩))))))))
  have h5 := not_f h3
  refine wk (nb (nt (rg ?_)))
  refine S.qg 2 [] [(8, .v (I ((k : Int) + 1)))] (.cons (qp (k : Int) 1) .nil) fun ac w β S => ?_
  refine (nt ?_)
  refine ⟨b.guests.length - (k + 1), by omega, k + 1, _, _, _, rfl, ?_, ?_, S.z⟩
  ·exact oz
  ·clear S; exact all_step (by omega) he (by first | assumption | simp_all)
 have g6 := of_decide_eq_false h1
 refine wp_exit (ex_then (ex_then (ex_hit (nt (ws (rg ?_))))))
 refine S.qb 4 [] [(19, .v (B (f_memOk b.mem 8)))] (.cons (Q_call fun w hw => c_impl_MemOk w b.mem pb.mem (rd_of (RBare.mem (d := b) (S.arg hb)) hw) 8) .nil) fun ac w β S => ?_
 rcases Bool.eq_false_or_eq_true (f_memOk b.mem 8) with h7 | h7 <;> rw [h7] at S
 ·refine S.qb 6 [19] [(25, .v (B (f_within (b.guests.length : Int) 1 2)))] (.cons (Q_call fun w hw => c_impl_within w (b.guests.length : Int) 1 2) .nil) fun ac w β S => ?_
  rcases Bool.eq_false_or_eq_true (f_within (b.guests.length : Int) 1 2) with h8 | h8 <;> rw [h8] at S
  ·have g9 := within_t h8
   refine S.qa 6 [25] [(31, .v (B (decide ((b.outs.length : Int) ≤ 40))))] fun ac w β S => ?_
   rcases Bool.eq_false_or_eq_true (decide ((b.outs.length : Int) ≤ 40)) with h10 | h10 <;> rw [h10] at S
   ·have g11 := of_decide_eq_true h10
    refine S.qg 5 [31] [(2, .v (B (f_within b.pend 0 255)))] (.cons (Q_call fun w hw => c_impl_PendOk w b.pend) .nil) fun ac w β S => ?_
    exact (nt (wr (S.r [B (f_within b.pend 0 255)] ⟨retB (by clear S; (first | rfl | (symm; rw [← Bool.not_eq_true]; intro hc; simp only [f_bareOk, Bool.and_eq_true, decide_eq_true_eq, beq_iff_eq] at hc; first | omega | (simp_all; done) | (simp_all; omega) | (have hx := all_el (k := k) hc.1.1.1.1 (by omega); simp_all; done)) | (symm; simp only [f_bareOk, Bool.and_eq_true, decide_eq_true_eq, beq_iff_eq]; (repeat' apply And.intro); all_goals first | assumption | omega | (simp_all; done) | (simp_all; omega) | (exact all_end (by omega) he)) | (rw [Bool.eq_iff_iff]; simp only [f_bareOk, Bool.and_eq_true, decide_eq_true_eq, beq_iff_eq]; refine ⟨fun hr => ?_, fun hc => ?_⟩ <;> ((repeat' apply And.intro); all_goals first | assumption | omega | (simp_all; done) | (simp_all; omega) | (exact all_end (by omega) he))))), S.chg⟩)))
   ·have g12 := of_decide_eq_false h10
    refine S.qe 5 [31] [(2, .v (B false))] fun ac w β S => ?_
    exact (nt (wr (S.r [B false] ⟨retB k1_impl_BareOk, S.chg⟩)))
  ·have g13 := within_f h8
   refine S.qe 11 [25] [(2, .v (B false))] fun ac w β S => ?_
   exact (nt (wr (S.r [B false] ⟨retB k1_impl_BareOk, S.chg⟩)))
 ·refine S.qe 17 [19] [(2, .v (B false))] fun ac w β S => ?_
  exact (nt (wr (S.r [B false] ⟨retB k1_impl_BareOk, S.chg⟩)))

theorem c_impl_has (w0 : World) (k : Int) (length : Int) (pre0 : -9223372036854775808 < length) : Calls Tryz.prog 71 [I k, I length].toArray w0 (fun e w' => e = .returned (B (f_within k 0 (length - 1))) ∧ Chg NoB w0 w') := by
 refine Calls.walk NoB Tryz.func71 rfl rfl ?_
 intro ac β S
 refine ws (rg ?_)
 refine S.qe 1 [] [] fun ac w β S => ?_
 refine (nt (ws (rg ?_)))
 refine S.qa 3 [] [(7, .v (B (decide (k ≥ 0))))] fun ac w β S => ?_
 rcases Bool.eq_false_or_eq_true (decide (k ≥ 0)) with h1 | h1 <;> rw [h1] at S
 ·have g2 := of_decide_eq_true h1
  refine S.qe 5 [7] [(4, .v (B (decide (k < length))))] fun ac w β S => ?_
  exact (nt (wr (S.r [B (decide (k < length))] ⟨retB (by clear S; (rw [Bool.eq_iff_iff]; simp [f_within]; omega)), S.chg⟩)))
 ·have g3 := of_decide_eq_false h1
  refine S.qe 5 [7] [(4, .v (B false))] fun ac w β S => ?_
  exact (nt (wr (S.r [B false] ⟨retB (by clear S; (rw [Bool.eq_iff_iff]; simp [f_within]; omega)), S.chg⟩)))

theorem k0_impl_WithCell {p : Prop} (h : p := by clear S; (unfold f_withCell; (repeat' split) <;> first | rfl | (simp; done) | (exfalso; omega) | (exfalso; simp_all; done) | (exfalso; simp_all; omega))) : p := h
theorem c_impl_WithCell (w0 : World) (m : List (List Int)) (pm : LP (List Int)) (hm : RD w0 m pm) (page : Int) (cell : Int) (v : Int) (hv : In64 v) : Calls Tryz.prog 57 [slv m.length pm.1, I page, I cell, I v].toArray w0 (Ret1 NoB w0 (f_withCell m page cell v : List (List Int))) := by
 refine Calls.walk NoB Tryz.func57 rfl rfl ?_
 intro ac β S
 have hlem : m.length ≤ 4194304 := LRd.le hm
 have hlov := hv.lo; have hhiv := hv.hi
 refine ws (rg ?_)
 refine S.qe 1 [] [] fun ac w β S => ?_
 refine (nt (ws (rg ?_)))
 refine S.qa 1 [] [(10, .v (slv m.length pm.1))] fun ac w β S => ?_
 refine RG.op rfl (S.k1 11 (c_impl_copyMem w m pm (S.rd (S.arg hm))) fun ac w N q1 F2 S up o3 d4 => ?_)
 clear up d4
 refine S.qe 1 [] [(9, .v (slv m.length q1.1))] fun ac w β S => ?_
 refine (nt (ws (ws (rg ?_))))
 refine S.qb 5 [] [(16, .v (B (f_within page 0 ((m.length : Int) - 1))))] (.cons (Q_call fun w hw => c_impl_has w page (m.length : Int) (by omega)) .nil) fun ac w β S => ?_
 rcases Bool.eq_false_or_eq_true (f_within page 0 ((m.length : Int) - 1)) with h5 | h5 <;> rw [h5] at S
 ·have g6 := within_t h5
  have b7 : (el m page.toNat).length ≤ 4194304 := LRd.le (LRd.el (S.arg hm) page.toNat (by omega))
  refine S.qb 9 [16] [(25, .v (B (f_within cell 0 (((el m page.toNat).length : Int) - 1))))] (.cons (qt (S.arg hm) page Tryz.underlying22) (.cons (qx (S.arg hm) 50 page.toNat) (.cons (Q_call fun w hw => c_impl_has w cell ((el m page.toNat).length : Int) (by omega)) .nil))) fun ac w β S => ?_
  rcases Bool.eq_false_or_eq_true (f_within cell 0 (((el m page.toNat).length : Int) - 1)) with h8 | h8 <;> rw [h8] at S
  ·have g9 := within_t h8
   refine S.qg 3 [25] [(28, .v (B (f_within v 0 99)))] (.cons (Q_call fun w hw => c_impl_within w v 0 99) .nil) fun ac w β S => ?_
   refine (nt (S.c (f_within v 0 99) (fun h10 => ?_) (fun h10 => ?_)))
   ·have g11 := within_t h10
    refine rg ?_
    refine S.qb 7 [] [(34, .v (I v)), (35, .v (pt (q1.2 page.toNat).1.b ((q1.2 page.toNat).1.off + cell.toNat * 1)))] (.cons (qt o3.rn page Tryz.underlying22) (.cons (qx o3.rn 50 page.toNat) (.cons (qt (LRd.el o3.rn page.toNat (by omega)) cell Tryz.underlying50) .nil))) fun ac w β S => ?_
    obtain ⟨F12, o13, s14, b15⟩ := foc2_id o3 (k := page.toNat) (show page.toNat < m.length by omega)
    have l16 := LRd.le o13.rn
    have n17 := o13.sub
    refine RG.op rfl (S.sF (α := Int) o13 (t := 3) (k := cell.toNat) (j := 0) (off := (q1.2 page.toNat).1.off + cell.toNat * 1) (v := I v) (y := v) (q := ()) (fun _ _ _ => ⟨NoB, hv, fun _ h => False.elim h⟩) fun w N F19 q20 S up o18 d21 s22 n23 => ?_)
    clear d21 o13
    obtain ⟨p24, o25, c26⟩ := b15 _ _ _ _ _ NoB up o18 s22 (fun b _ h => False.elim h) (by show [slv _ _] = [slv _ _]; rw [List.length_set]) (fun b h => n23 b (n17 b h))
    clear up o18 n23
    have l27 : (m.set page.toNat ((el m page.toNat).set cell.toNat v)).length = m.length := List.length_set
    refine rd (nt (ws (rg ?_)))
    refine S.qe 2 [] [(8, .v (slv m.length q1.1))] fun ac w β S => ?_
    exact (nt (wr (S.r [slv m.length q1.1] (ret1_of S (show f_withCell m page cell v = (m.set page.toNat ((el m page.toNat).set cell.toNat v)) from k0_impl_WithCell) (by rw [show m.length = (m.set page.toNat ((el m page.toNat).set cell.toNat v)).length from (by omega)]; rfl) o25))))
   have g28 := within_f h10
   refine wk (nt (ws (rg ?_)))
   refine S.qe 2 [] [(8, .v (slv m.length q1.1))] fun ac w β S => ?_
   exact (nt (wr (S.r [slv m.length q1.1] (ret1_of S (show f_withCell m page cell v = m from k0_impl_WithCell) rfl o3))))
  ·have g29 := within_f h8
   refine S.qe 3 [25] [(28, .v (B false))] fun ac w β S => ?_
   refine (nt (S.c false (fun hx => by cases hx) (fun _ => ?_)))
   refine wk (nt (ws (rg ?_)))
   refine S.qe 2 [] [(8, .v (slv m.length q1.1))] fun ac w β S => ?_
   exact (nt (wr (S.r [slv m.length q1.1] (ret1_of S (show f_withCell m page cell v = m from k0_impl_WithCell) rfl o3))))
 ·have g30 := within_f h5
  refine S.qe 12 [16] [(28, .v (B false))] fun ac w β S => ?_
  refine (nt (S.c false (fun hx => by cases hx) (fun _ => ?_)))
  refine wk (nt (ws (rg ?_)))
  refine S.qe 2 [] [(8, .v (slv m.length q1.1))] fun ac w β S => ?_
  exact (nt (wr (S.r [slv m.length q1.1] (ret1_of S (show f_withCell m page cell v = m from k0_impl_WithCell) rfl o3))))

theorem k0_impl_BarePoke {p : Prop} (h : p := by clear S; (unfold f_barePoke; (repeat' split) <;> first | rfl | (exfalso; omega) | (exfalso; simp_all; done) | (exfalso; simp_all; omega) | (simp_all; done))) : p := h
theorem c_impl_BarePoke (w0 : World) (b : TBare) (pb : PBare) (hb : RD w0 b pb) (page : Int) (cell : Int) (v : Int) (hv : In64 v) : Calls Tryz.prog 56 [GT.val b pb, I page, I cell, I v].toArray w0 (Ret2 NoB w0 ((f_barePoke b page cell v).1 : TBare) ((f_barePoke b page cell v).2 : Bool)) := by
 refine Calls.walk NoB Tryz.func56 rfl rfl ?_
 intro ac β S
 have hleb_mem : b.mem.length ≤ 4194304 := LRd.le (RBare.mem (d := b) hb)
 have hleb_guests : b.guests.length ≤ 4194304 := LRd.le (RBare.guests (d := b) hb)
 have hleb_outs : b.outs.length ≤ 4194304 := LRd.le (RBare.outs (d := b) hb)
 have hlov := hv.lo; have hhiv := hv.hi
 refine ws (rg ?_)
 refine S.qem 3 [] [(4, .p 0 0), (8, .p 1 0)] 2 [(0, GT.cells b pb), (1, Zc TBare)] fun ac w β S => ?_
 refine (nt (ws (rg ?_)))
 refine S.qa 1 [] [(11, .v (GT.val b pb))] fun ac w β S => ?_
 refine RG.op rfl (S.k1 12 (c_impl_copyBare w b pb (S.rd (S.arg hb))) fun ac w N q1 F2 S up o3 d4 => ?_)
 clear up d4
 have i14 : In64 b.pend := RBare.pend (d := b) o3.rn
 obtain ⟨F5, F8, F11, o6, o9, o12, s7, s10, s13, d15, d16, d17⟩ := sp_Bare o3
 refine S.qem 2 [] [(10, .p 2 0)] 3 [(2, [slv b.mem.length q1.mem.1, slv b.guests.length q1.guests.1, slv b.outs.length q1.outs.1, I b.pend])] fun ac w β S => ?_
 refine (nt (ws (ws (rg ?_))))
 refine S.qb 4 [] [(16, .v (B (!(f_bareOk b))))] (.cons (Q_call fun w hw => c_impl_BareOk w b pb (rd_of (S.arg hb) hw)) .nil) fun ac w β S => ?_
 rcases Bool.eq_false_or_eq_true (!(f_bareOk b)) with h18 | h18 <;> rw [h18] at S
 ·have h19 := not_t h18
  refine S.qe 14 [16] [(30, .v (B true))] fun ac w β S => ?_
  refine (nt (S.c true (fun _ => ?_) (fun hx => by cases hx)))
  refine ws (rg ?_)
  refine S.qem 3 [] [(9, .v (B false))] 2 [(1, [slv b.mem.length q1.mem.1, slv b.guests.length q1.guests.1, slv b.outs.length q1.outs.1, I b.pend])] fun ac w β S => ?_
  refine (nt (wr (rt (S.r [GT.val b q1, B false] ?_))))
  have o20 := ow_Bare (x := b) (p := q1) o6 o9 o12 d15 d16 d17 i14
  exact ret2_of (p' := ()) S (show (f_barePoke b page cell v).1 = b from k0_impl_BarePoke) (show (f_barePoke b page cell v).2 = false from k0_impl_BarePoke) rfl rfl o20 trivial
 ·have h21 := not_f h18
  have g22 := bareOk_t h21
  refine S.qb 5 [16] [(21, .v (B (!(f_within page 0 (8 - 1)))))] (.cons (Q_call fun w hw => c_impl_has w page 8 (by omega)) .nil) fun ac w β S => ?_
  rcases Bool.eq_false_or_eq_true (!(f_within page 0 (8 - 1))) with h23 | h23 <;> rw [h23] at S
  ·have h24 := not_t h23
   have g25 := within_f h24
   refine S.qe 9 [21] [(30, .v (B true))] fun ac w β S => ?_
   refine (nt (S.c true (fun _ => ?_) (fun hx => by cases hx)))
   refine ws (rg ?_)
   refine S.qem 3 [] [(9, .v (B false))] 2 [(1, [slv b.mem.length q1.mem.1, slv b.guests.length q1.guests.1, slv b.outs.length q1.outs.1, I b.pend])] fun ac w β S => ?_
   refine (nt (wr (rt (S.r [GT.val b q1, B false] ?_))))
   have o26 := ow_Bare (x := b) (p := q1) o6 o9 o12 d15 d16 d17 i14
   exact ret2_of (p' := ()) S (show (f_barePoke b page cell v).1 = b from k0_impl_BarePoke) (show (f_barePoke b page cell v).2 = false from k0_impl_BarePoke) rfl rfl o26 trivial
  ·have h27 := not_f h23
   have g28 := within_t h27
   refine S.qb 5 [21] [(26, .v (B (!(f_within cell 0 (4 - 1)))))] (.cons (Q_call fun w hw => c_impl_has w cell 4 (by omega)) .nil) fun ac w β S => ?_
   rcases Bool.eq_false_or_eq_true (!(f_within cell 0 (4 - 1))) with h29 | h29 <;> rw [h29] at S
   ·have h30 := not_t h29
    have g31 := within_f h30
    refine S.qe 4 [26] [(30, .v (B true))] fun ac w β S => ?_
    refine (nt (S.c true (fun _ => ?_) (fun hx => by cases hx)))
    refine ws (rg ?_)
    refine S.qem 3 [] [(9, .v (B false))] 2 [(1, [slv b.mem.length q1.mem.1, slv b.guests.length q1.guests.1, slv b.outs.length q1.outs.1, I b.pend])] fun ac w β S => ?_
    refine (nt (wr (rt (S.r [GT.val b q1, B false] ?_))))
    have o32 := ow_Bare (x := b) (p := q1) o6 o9 o12 d15 d16 d17 i14
    exact ret2_of (p' := ()) S (show (f_barePoke b page cell v).1 = b from k0_impl_BarePoke) (show (f_barePoke b page cell v).2 = false from k0_impl_BarePoke) rfl rfl o32 trivial
   ·have h33 := not_f h29
    have g34 := within_t h33
    refine S.qg 4 [26] [(30, .v (B (!(f_within v 0 99))))] (.cons (Q_call fun w hw => c_impl_within w v 0 99) .nil) fun ac w β S => ?_
    refine (nt (S.c (!(f_within v 0 99)) (fun h35 => ?_) (fun h35 => ?_)))
    ·have h36 := not_t h35
     have g37 := within_f h36
     refine ws (rg ?_)
     refine S.qem 3 [] [(9, .v (B false))] 2 [(1, [slv b.mem.length q1.mem.1, slv b.guests.length q1.guests.1, slv b.outs.length q1.outs.1, I b.pend])] fun ac w β S => ?_
     refine (nt (wr (rt (S.r [GT.val b q1, B false] ?_))))
     have o38 := ow_Bare (x := b) (p := q1) o6 o9 o12 d15 d16 d17 i14
     exact ret2_of (p' := ()) S (show (f_barePoke b page cell v).1 = b from k0_impl_BarePoke) (show (f_barePoke b page cell v).2 = false from k0_impl_BarePoke) rfl rfl o38 trivial
    have h39 := not_f h35
    have g40 := within_t h39
    refine wk (nt (ws (rg ?_)))
    refine S.qa 5 [] [(33, .v (slv b.mem.length pb.mem.1)), (34, .v (I page)), (35, .v (I cell)), (36, .v (I v))] fun ac w β S => ?_
    refine RG.op rfl (S.k1 37 (c_impl_WithCell w b.mem pb.mem (S.rd (RBare.mem (d := b) (S.arg hb))) page cell v hv) fun ac w N q41 F42 S up o43 d44 => ?_)
    have d45 := Disj.w d44 o6.sub
    have d46 := Disj.w d44 o9.sub
    have d47 := Disj.w d44 o12.sub
    replace o6 := o6.up up
    replace o9 := o9.up up
    replace o12 := o12.up up
    clear up d44
    refine S.qem 2 [] [] 3 [(2, [slv (f_withCell b.mem page cell v).length q41.1, slv b.guests.length q1.guests.1, slv b.outs.length q1.outs.1, I b.pend])] fun ac w β S => ?_
    refine (nt (ws (rg ?_)))
    refine S.qem 3 [] [(9, .v (B true))] 2 [(1, [slv (f_withCell b.mem page cell v).length q41.1, slv b.guests.length q1.guests.1, slv b.outs.length q1.outs.1, I b.pend])] fun ac w β S => ?_
    refine (nt (wr (S.r [GT.val (⟨(f_withCell b.mem page cell v), b.guests, b.outs, b.pend⟩ : TBare) (⟨q41, q1.guests, q1.outs⟩ : PBare), B true] ?_)))
    have o48 := ow_Bare (x := (⟨(f_withCell b.mem page cell v), b.guests, b.outs, b.pend⟩ : TBare)) (p := (⟨q41, q1.guests, q1.outs⟩ : PBare)) o43 o9 o12 (Disj.symm d46) (Disj.symm d47) d17 i14
    exact ret2_of (p' := ()) S (show (f_barePoke b page cell v).1 = (⟨(f_withCell b.mem page cell v), b.guests, b.outs, b.pend⟩ : TBare) from k0_impl_BarePoke) (show (f_barePoke b page cell v).2 = true from k0_impl_BarePoke) rfl rfl o48 trivial

theorem c_impl_HostPoke_1 (w0 : World) (b : TBare) (pb : PBare) (hb : RD w0 b pb) (page : Int) (qpage : LP Int) (hpage : RD w0 [page] qpage) (cell : Int) (qcell : LP Int) (hcell : RD w0 [cell] qcell) (v : Int) (qv : LP Int) (hv : RD w0 [v] qv) : Calls Tryz.prog 55 [GT.val b pb, pt qpage.1.b (qpage.1.off + 0 * 1), pt qcell.1.b (qcell.1.off + 0 * 1), pt qv.1.b (qv.1.off + 0 * 1)].toArray w0 (Ret2 NoB w0 ((f_barePoke b page cell v).1 : TBare) ((f_barePoke b page cell v).2 : Bool)) := by
 refine Calls.walk NoB Tryz.func55 rfl rfl ?_
 intro ac β S
 have hleb_mem : b.mem.length ≤ 4194304 := LRd.le (RBare.mem (d := b) hb)
 have hleb_guests : b.guests.length ≤ 4194304 := LRd.le (RBare.guests (d := b) hb)
 have hleb_outs : b.outs.length ≤ 4194304 := LRd.le (RBare.outs (d := b) hb)
 refine ws (rg ?_)
 refine S.qem 3 [] [(4, .p 0 0), (5, .p 1 0)] 2 [(0, GT.cells b pb), (1, Zc TBare)] fun ac w β S => ?_
 refine (nt (ws (rg ?_)))
 refine S.qb 4 [] [(7, .v (GT.val b pb)), (8, .v (I page)), (9, .v (I cell)), (10, .v (I v))] (.cons (Q_el1 (S.arg hpage) (t := 3) (k := 0) (Nat.succ_pos 0) rfl (by kernel_rfl)) (.cons (Q_el1 (S.arg hcell) (t := 3) (k := 0) (Nat.succ_pos 0) rfl (by kernel_rfl)) (.cons (Q_el1 (S.arg hv) (t := 3) (k := 0) (Nat.succ_pos 0) rfl (by kernel_rfl)) .nil))) fun ac w β S => ?_
 refine RG.op rfl (S.call2 (r := (f_barePoke b page cell v).1) (r' := (f_barePoke b page cell v).2) (d := 11) (c_impl_BarePoke w b pb (S.rd (S.arg hb)) page cell v (show In64 v from LRd.el (S.arg hv) 0 (Nat.succ_pos 0))) (by kernel_rfl) rfl fun ac w N q1 q2 F3 F4 S up o5 o6 d7 d8 d9 => ?_)
 clear up d7
 clear d8
 have i19 : In64 (f_barePoke b page cell v).1.pend := RBare.pend (d := (f_barePoke b page cell v).1) o5.rn
 obtain ⟨F10, F13, F16, o11, o14, o17, s12, s15, s18, d20, d21, d22⟩ := sp_Bare o5
 refine S.qem 4 [] [(6, .v (B (f_barePoke b page cell v).2))] 2 [(1, [slv (f_barePoke b page cell v).1.mem.length q1.mem.1, slv (f_barePoke b page cell v).1.guests.length q1.guests.1, slv (f_barePoke b page cell v).1.outs.length q1.outs.1, I (f_barePoke b page cell v).1.pend])] fun ac w β S => ?_
 refine (nt (wr (S.r [GT.val (f_barePoke b page cell v).1 q1, B (f_barePoke b page cell v).2] ?_)))
 have o23 := ow_Bare (x := (f_barePoke b page cell v).1) (p := q1) o11 o14 o17 d20 d21 d22 i19
 exact ret2_of (p' := ()) S (show (f_barePoke b page cell v).1 = (f_barePoke b page cell v).1 by clear S; rfl) (show (f_barePoke b page cell v).2 = (f_barePoke b page cell v).2 by clear S; rfl) rfl rfl o23 trivial

theorem c_impl_copyKept (w0 : World) (k : TKept) (pk : PKept) (hk : RD w0 k pk) : Calls Tryz.prog 119 [GT.val k pk].toArray w0 (Ret1 NoB w0 (k : TKept)) := by
 refine Calls.walk NoB Tryz.func119 rfl rfl ?_
 intro ac β S
 have hlek_known : k.known.length ≤ 4194304 := LRd.le (RKept.known (d := k) hk)
 have hlek_slots : k.slots.length ≤ 4194304 := LRd.le (RKept.slots (d := k) hk)
 refine ws (rg ?_)
 refine S.qem 2 [] [(1, .p 0 0), (2, .p 1 0)] 2 [(0, GT.cells k pk), (1, Zc TKept)] fun ac w β S => ?_
 refine (nt (ws ?_))
 refine S.draw0 (f := 9) 8 rfl rfl fun w S => ?_
 refine S.hq 1 [1] [] [(4, .p 0 0)] .nil fun ac S => ?_
 refine S.hq 2 [2] [] [(5, .v (slv k.known.length pk.known.1))] .nil fun ac S => ?_
 refine S.hq 4 [4] [] [(7, .p 0 1)] .nil fun ac S => ?_
 refine S.hq 5 [5] [] [(8, .v (slv k.slots.length pk.slots.1))] .nil fun ac S => ?_
 refine WD.one (i := 0) (by kernel_rfl) ?_
 refine id (S.bs0 (α := Bool) (d := 3) (by kernel_rfl) fun ac w N q1 F2 S up o3 d4 => ?_)
 have hb5 := fun b h => (⟨(up b h).1, (up b h).2, d4 b h⟩ : _ ∧ _ ∧ _)
 refine WD.keep S up (by kernel_rfl) ?_
 clear up d4
 refine WD.one (i := 3) (by kernel_rfl) ?_
 have b10 : k.known.length ≤ 4194304 := LRd.le (RKept.known (d := k) (S.arg hk))
 refine id (S.appFlat0 (α := Bool) o3 (RKept.known (d := k) (S.arg hk)) (fun _ _ h => h) (by' := 1) (d := 6) (lx := 0) (ly := k.known.length) rfl fun ac w N q6 F7 S up o8 d9 => ?_)
 have hb11 := fun b h => (⟨(up b (hb5 b h).1 (hb5 b h).2.2).1, (up b (hb5 b h).1 (hb5 b h).2.2).2.trans (hb5 b h).2.1⟩ : _ ∧ _)
 refine WD.next S hb11 (by kernel_rfl) ?_
 clear up d9
 refine WD.one (i := 6) (by kernel_rfl) ?_
 refine id (S.k1 9 (c_impl_copyTable w k.slots pk.slots (S.rd (RKept.slots (d := k) (S.arg hk)))) fun ac w N q12 F13 S up o14 d15 => ?_)
 refine WD.next S up (by kernel_rfl) ?_
 have d16 := Disj.w d15 o8.sub
 replace o8 := o8.up up
 clear up d15
 refine S.hq 7 [7] [] [(10, .v (GT.val (⟨k.known, k.slots⟩ : TKept) (⟨q6, q12⟩ : PKept)))] (.cons (Q_sem (s := Instr.build 91 [(0, slv k.known.length q6.1), (1, slv k.slots.length q12.1)].toArray) (v := .agg [slv k.known.length q6.1, slv k.slots.length q12.1].toArray) (fun w => by kernel_rfl)) .nil) fun ac S => ?_
 refine WD.one (i := 8) (by kernel_rfl) ?_
 refine S.stepq (i := 8) (keep := [2]) (m := 2) (σ' := ⟨[(2, .p 1 0)], [GT.cells k pk, [slv k.known.length q6.1, slv k.slots.length q12.1]]⟩) .nil (by kernel_rfl) fun ac w β S hβ => ?_
 refine WD.last (by kernel_rfl) ?_
 clear hβ
 refine WD.done (by kernel_rfl) ?_ _
 refine id (nt (wr (S.r [GT.val (⟨k.known, k.slots⟩ : TKept) (⟨q6, q12⟩ : PKept)] ?_)))
 have o17 := ow_Kept (x := (⟨k.known, k.slots⟩ : TKept)) (p := (⟨q6, q12⟩ : PKept)) o8 o14 d16 
 exact ret1_of S (show k = (⟨k.known, k.slots⟩ : TKept) by clear S; (first | rfl | simp)) rfl o17

theorem c_impl_copyMon (w0 : World) (m : TMon) (pm : PMon) (hm : RD w0 m pm) : Calls Tryz.prog 69 [GT.val m pm].toArray w0 (Ret1 NoB w0 (m : TMon)) := by
 refine Calls.walk NoB Tryz.func69 rfl rfl ?_
 intro ac β S
 have hlem_outer : m.outer.length ≤ 4194304 := LRd.le (RMon.outer (d := m) hm)
 have hlem_out : m.out.length ≤ 4194304 := LRd.le (RMon.out (d := m) hm)
 have hlem_dirty : m.dirty.length ≤ 4194304 := LRd.le (RMon.dirty (d := m) hm)
 have hlem_guests : m.guests.length ≤ 4194304 := LRd.le (RMon.guests (d := m) hm)
 have hlem_outs : m.outs.length ≤ 4194304 := LRd.le (RMon.outs (d := m) hm)
 have hlem_tables : m.tables.length ≤ 4194304 := LRd.le (RMon.tables (d := m) hm)
 refine ws (rg ?_)
 refine S.qem 2 [] [(1, .p 0 0), (2, .p 1 0)] 2 [(0, GT.cells m pm), (1, Zc TMon)] fun ac w β S => ?_
 refine (nt (ws (rg ?_)))
 refine S.qa 2 [] [(7, .v (slv m.outer.length pm.outer.1))] fun ac w β S => ?_
 refine RG.op rfl (S.k1 8 (c_impl_copyTable w m.outer pm.outer (S.rd (RMon.outer (d := m) (S.arg hm)))) fun ac w N q1 F2 S up o3 d4 => ?_)
 clear up d4
 refine S.qem 2 [] [] 2 [(0, [slv m.outer.length q1.1, slv m.out.length pm.out.1, slv m.dirty.length pm.dirty.1, slv m.guests.length pm.guests.1, slv m.outs.length pm.outs.1, I m.pend, I m.traps, slv m.tables.length pm.tables.1, I m.owned])] fun ac w β S => ?_
 refine (nt (ws (rg ?_)))
 refine S.qa 2 [] [(11, .v (slv m.out.length pm.out.1))] fun ac w β S => ?_
 refine RG.op rfl (S.k1 12 (c_impl_copyMem w m.out pm.out (S.rd (RMon.out (d := m) (S.arg hm)))) fun ac w N q5 F6 S up o7 d8 => ?_)
 have d9 := Disj.w d8 o3.sub
 replace o3 := o3.up up
 clear up d8
 refine S.qem 2 [] [] 2 [(0, [slv m.outer.length q1.1, slv m.out.length q5.1, slv m.dirty.length pm.dirty.1, slv m.guests.length pm.guests.1, slv m.outs.length pm.outs.1, I m.pend, I m.traps, slv m.tables.length pm.tables.1, I m.owned])] fun ac w β S => ?_
 refine (nt (ws (rg ?_)))
 refine RG.op rfl (S.bs0 (α := Bool) (d := 14) (by kernel_rfl) fun ac w N q10 F11 S up o12 d13 => ?_)
 have d14 := Disj.w d13 o3.sub
 have d15 := Disj.w d13 o7.sub
 replace o3 := o3.up up
 replace o7 := o7.up up
 clear up d13
 refine S.qa 2 [] [(14, .v (slv 0 q10.1)), (16, .v (slv m.dirty.length pm.dirty.1))] fun ac w β S => ?_
 have b20 : m.dirty.length ≤ 4194304 := LRd.le (RMon.dirty (d := m) (S.arg hm))
 refine RG.op rfl (S.appFlat0 (α := Bool) o12 (RMon.dirty (d := m) (S.arg hm)) (fun _ _ h => h) (by' := 1) (d := 17) (lx := 0) (ly := m.dirty.length) rfl fun ac w N q16 F17 S up o18 d19 => ?_)
 have d21 := d19 _ d14 o3.sub
 have d22 := d19 _ d15 o7.sub
 replace o3 := o3.upF d14 up
 replace o7 := o7.upF d15 up
 clear up d19
 refine S.qem 2 [] [] 2 [(0, [slv m.outer.length q1.1, slv m.out.length q5.1, slv m.dirty.length q16.1, slv m.guests.length pm.guests.1, slv m.outs.length pm.outs.1, I m.pend, I m.traps, slv m.tables.length pm.tables.1, I m.owned])] fun ac w β S => ?_
 refine (nt (ws (rg ?_)))
 refine S.qa 2 [] [(20, .v (slv m.guests.length pm.guests.1))] fun ac w β S => ?_
 refine RG.op rfl (S.k1 21 (c_impl_copyGuests w m.guests pm.guests (S.rd (RMon.guests (d := m) (S.arg hm)))) fun ac w N q23 F24 S up o25 d26 => ?_)
 have d27 := Disj.w d26 o3.sub
 have d28 := Disj.w d26 o7.sub
 have d29 := Disj.w d26 o18.sub
 replace o3 := o3.up up
 replace o7 := o7.up up
 replace o18 := o18.up up
 clear up d26
 refine S.qem 2 [] [] 2 [(0, [slv m.outer.length q1.1, slv m.out.length q5.1, slv m.dirty.length q16.1, slv m.guests.length q23.1, slv m.outs.length pm.outs.1, I m.pend, I m.traps, slv m.tables.length pm.tables.1, I m.owned])] fun ac w β S => ?_
 refine (nt (ws (rg ?_)))
 refine S.qa 2 [] [(24, .v (slv m.outs.length pm.outs.1))] fun ac w β S => ?_
 refine RG.op rfl (S.k1 25 (c_impl_copyInts w m.outs pm.outs (S.rd (RMon.outs (d := m) (S.arg hm)))) fun ac w N q30 F31 S up o32 d33 => ?_)
 have d34 := Disj.w d33 o3.sub
 have d35 := Disj.w d33 o7.sub
 have d36 := Disj.w d33 o18.sub
 have d37 := Disj.w d33 o25.sub
 replace o3 := o3.up up
 replace o7 := o7.up up
 replace o18 := o18.up up
 replace o25 := o25.up up
 clear up d33
 refine S.qem 2 [] [] 2 [(0, [slv m.outer.length q1.1, slv m.out.length q5.1, slv m.dirty.length q16.1, slv m.guests.length q23.1, slv m.outs.length q30.1, I m.pend, I m.traps, slv m.tables.length pm.tables.1, I m.owned])] fun ac w β S => ?_
 refine (nt (ws (rg ?_)))
 refine RG.op rfl (S.bs0 (α := TKept) (d := 27) (by kernel_rfl) fun ac w N q38 F39 S up o40 d41 => ?_)
 have d42 := Disj.w d41 o3.sub
 have d43 := Disj.w d41 o7.sub
 have d44 := Disj.w d41 o18.sub
 have d45 := Disj.w d41 o25.sub
 have d46 := Disj.w d41 o32.sub
 replace o3 := o3.up up
 replace o7 := o7.up up
 replace o18 := o18.up up
 replace o25 := o25.up up
 replace o32 := o32.up up
 clear up d41
 refine S.qe 1 [] [(3, .v (slv 0 q38.1))] fun ac w β S => ?_
 refine (nt (ws (ws (rg ?_))))
 refine S.qe 4 [] [(29, .v (slv m.tables.length pm.tables.1)), (30, .v (I (m.tables.length : Int))), (31, .v (I 0))] fun ac w β S => ?_
 refine (nt (wp_block ?_))
 refine wp_loop_down (fun mm ac w => ∃ (k : Nat) (acc : List TKept) (q47 : _) (F48 : _) (u : _) (N : _) (β : _), mm = m.tables.length - k ∧ (k ≤ m.tables.length) ∧ (acc = m.tables.take k) ∧ St Tryz.prog Tryz.f69.ntmps w0 NoB u N β ⟨[(1, .p 0 0), (2, .p 1 0), (3, .v (slv acc.length q47.1)), (29, .v (slv m.tables.length pm.tables.1)), (30, .v (I (m.tables.length : Int))), (31, .v (I (k : Int)))], [[slv m.outer.length q1.1, slv m.out.length q5.1, slv m.dirty.length q16.1, slv m.guests.length q23.1, slv m.outs.length q30.1, I m.pend, I m.traps, slv m.tables.length pm.tables.1, I m.owned], Zc TMon]⟩ ac w ∧ Ow w0 NoB u N F48 acc q47 ∧ Ow w0 NoB u N F2 m.outer q1 ∧ Ow w0 NoB u N F6 m.out q5 ∧ Ow w0 NoB u N F17 m.dirty q16 ∧ Ow w0 NoB u N F24 m.guests q23 ∧ Ow w0 NoB u N F31 m.outs q30 ∧ Disj F48 F2 ∧ Disj F48 F6 ∧ Disj F48 F17 ∧ Disj F48 F24 ∧ Disj F48 F31) _ ⟨0, ([] : List TKept), q38, F39, _, _, _, rfl, o0, (by simp), S.z, o40, o3, o7, o18, o25, o32, (Disj.symm d42), (Disj.symm d43), (Disj.symm d44), (Disj.symm d45), (Disj.symm d46)⟩ ?_
 clear S o18 o25 o3 o32 o40 o7
 rintro mm ac w ⟨k, acc, q47, F48, u, N, β, rfl, hk, hacc, S, o49, o3, o7, o18, o25, o32, d50, d51, d52, d53, d54⟩
 have hlacc : acc.length = k := by rw [hacc]; simp; omega
 refine ws (rg ?_)
 refine S.qe 1 [] [(32, .v (B (decide ((k : Int) < (m.tables.length : Int)))))] fun ac w β S => ?_
 refine (nt (ws (S.c (decide ((k : Int) < (m.tables.length : Int))) (fun h55 => ?_) (fun h55 => ?_))))
 ·have g56 := of_decide_eq_true h55
  refine wk (nt (ws (wp_block (ws (rg ?_)))))
  refine S.qgm 4 [] [(5, .p 2 0)] (.cons (qn (RMon.tables (d := m) (S.arg hm)) k Tryz.underlying51) (.cons (qs (RMon.tables (d := m) (S.arg hm)) 91 k) .nil)) 3 [(2, GT.cells (el m.tables k) (pm.tables.2 k))] fun ac w β S => ?_
  refine (nt (rg ?_))
  refine S.qam 2 [] [(35, .v (slv acc.length q47.1)), (36, .v (GT.val (el m.tables k) (pm.tables.2 k)))] 2 [] fun ac w β S => ?_
  refine RG.op rfl (S.k1 37 (c_impl_copyKept w (el m.tables k) (pm.tables.2 k) (S.rd (LRd.el (RMon.tables (d := m) (S.arg hm)) k (by omega)))) fun ac w N q57 F58 S up o59 d60 => ?_)
  have d61 := Disj.w d60 o49.sub
  have d62 := Disj.w d60 o3.sub
  have d63 := Disj.w d60 o7.sub
  have d64 := Disj.w d60 o18.sub
  have d65 := Disj.w d60 o25.sub
  have d66 := Disj.w d60 o32.sub
  replace o49 := o49.up up
  replace o3 := o3.up up
  replace o7 := o7.up up
  replace o18 := o18.up up
  replace o25 := o25.up up
  replace o32 := o32.up up
  clear up d60
  obtain ⟨F67, F70, o68, o71, s69, s72, d73⟩ := sp_Kept o59
  have o78 := ow_Kept (x := (el m.tables k)) (p := q57) o68 o71 d73 
  refine RG.op rfl (S.bs1 (α := TKept) (x := (el m.tables k)) (p := q57) o78.own o78.sub o78.young (d := 38) (by kernel_rfl) fun ac w N q74 F75 S up o76 d77 => ?_)
  have d79 := d77 _ (Disj.symm (Disj.or (Disj.part (Disj.symm d61) s69) (Disj.or (Disj.part (Disj.symm d61) s72) Disj.nob))) o49.sub
  have d80 := d77 _ (Disj.symm (Disj.or (Disj.part (Disj.symm d62) s69) (Disj.or (Disj.part (Disj.symm d62) s72) Disj.nob))) o3.sub
  have d81 := d77 _ (Disj.symm (Disj.or (Disj.part (Disj.symm d63) s69) (Disj.or (Disj.part (Disj.symm d63) s72) Disj.nob))) o7.sub
  have d82 := d77 _ (Disj.symm (Disj.or (Disj.part (Disj.symm d64) s69) (Disj.or (Disj.part (Disj.symm d64) s72) Disj.nob))) o18.sub
  have d83 := d77 _ (Disj.symm (Disj.or (Disj.part (Disj.symm d65) s69) (Disj.or (Disj.part (Disj.symm d65) s72) Disj.nob))) o25.sub
  have d84 := d77 _ (Disj.symm (Disj.or (Disj.part (Disj.symm d66) s69) (Disj.or (Disj.part (Disj.symm d66) s72) Disj.nob))) o32.sub
  replace o49 := o49.up up
  replace o3 := o3.up up
  replace o7 := o7.up up
  replace o18 := o18.up up
  replace o25 := o25.up up
  replace o32 := o32.up up
  clear up d77
  refine RG.op rfl (S.appOwn (α := TKept) o49 o76 d79 (by' := 48) (d := 39) (lx := acc.length) (ly := 1) rfl rfl (by kernel_rfl) (show _ ≤ 4194304 by simp only [List.length_append, List.length_cons, List.length_nil]; omega) fun ac w N q85 F86 S up o87 d88 => ?_)
  have d89 := d88 _ (Disj.symm d50) d80 o3.sub
  have d90 := d88 _ (Disj.symm d51) d81 o7.sub
  have d91 := d88 _ (Disj.symm d52) d82 o18.sub
  have d92 := d88 _ (Disj.symm d53) d83 o25.sub
  have d93 := d88 _ (Disj.symm d54) d84 o32.sub
  replace o3 := o3.upF (Disj.symm d50) up
  replace o7 := o7.upF (Disj.symm d51) up
  replace o18 := o18.upF (Disj.symm d52) up
  replace o25 := o25.upF (Disj.symm d53) up
  replace o32 := o32.upF (Disj.symm d54) up
  clear up d88
  refine S.qe 1 [] [(3, .v (slv (acc ++ [(el m.tables k)]).length q85.1))] fun ac w β S => ?_
  refine (nb (nt (rg ?_)))
  refine S.qg 2 [] [(31, .v (I ((k : Int) + 1)))] (.cons (qp (k : Int) 1) .nil) fun ac w β S => ?_
  refine (nt ?_)
  refine ⟨m.tables.length - (k + 1), by omega, k + 1, (acc ++ [(el m.tables k)]), q85, F86, _, _, _, rfl, ?_, ?_, S.z, o87, o3, o7, o18, o25, o32, (Disj.symm d89), (Disj.symm d90), (Disj.symm d91), (Disj.symm d92), (Disj.symm d93)⟩
  ·exact oz
  ·clear S; (first | (rw [take_el (by omega), hacc]; done) | (rw [take_el (by omega), hacc]; simp; done))
 have g94 := of_decide_eq_false h55
 refine wp_exit (ex_then (ex_then (ex_hit (nt (ws (rg ?_))))))
 refine S.qem 3 [] [] 2 [(0, [slv m.outer.length q1.1, slv m.out.length q5.1, slv m.dirty.length q16.1, slv m.guests.length q23.1, slv m.outs.length q30.1, I m.pend, I m.traps, slv acc.length q47.1, I m.owned])] fun ac w β S => ?_
 refine (nt (ws (rg ?_)))
 refine S.qem 2 [] [] 2 [(1, [slv m.outer.length q1.1, slv m.out.length q5.1, slv m.dirty.length q16.1, slv m.guests.length q23.1, slv m.outs.length q30.1, I m.pend, I m.traps, slv acc.length q47.1, I m.owned])] fun ac w β S => ?_
 refine (nt (wr (S.r [GT.val (⟨m.outer, m.out, m.dirty, m.guests, m.outs, m.pend, m.traps, acc, m.owned⟩ : TMon) (⟨q1, q5, q16, q23, q30, q47⟩ : PMon)] ?_)))
 have o95 := ow_Mon (x := (⟨m.outer, m.out, m.dirty, m.guests, m.outs, m.pend, m.traps, acc, m.owned⟩ : TMon)) (p := (⟨q1, q5, q16, q23, q30, q47⟩ : PMon)) o3 o7 o18 o25 o32 o49 d9 d21 d27 d34 (Disj.symm d50) d22 d28 d35 (Disj.symm d51) d29 d36 (Disj.symm d52) d37 (Disj.symm d53) (Disj.symm d54) (RMon.pend (d := m) (S.arg hm)) (RMon.traps (d := m) (S.arg hm)) (RMon.owned (d := m) (S.arg hm))
 exact ret1_of S (show m = (⟨m.outer, m.out, m.dirty, m.guests, m.outs, m.pend, m.traps, acc, m.owned⟩ : TMon) by clear S; (first | rfl | (rw [hacc, take_all (by omega)]; done) | (rw [hacc, take_all (by omega)]; simp; done) | simp)) rfl o95

theorem c_impl_copyHost (w0 : World) (h : THost) (ph : PHost) (hh : RD w0 h ph) : Calls Tryz.prog 33 [GT.val h ph].toArray w0 (Ret1 NoB w0 (h : THost)) := by
 refine Calls.walk NoB Tryz.func33 rfl rfl ?_
 intro ac β S
 have hleh_mem : h.mem.length ≤ 4194304 := LRd.le (RHost.mem (d := h) hh)
 have hleh_mons : h.mons.length ≤ 4194304 := LRd.le (RHost.mons (d := h) hh)
 have hleh_buf : h.buf.length ≤ 4194304 := LRd.le (RHost.buf (d := h) hh)
 have hleh_iobuf : h.iobuf.length ≤ 4194304 := LRd.le (RHost.iobuf (d := h) hh)
 refine ws (rg ?_)
 refine S.qem 2 [] [(1, .p 0 0), (2, .p 1 0)] 2 [(0, GT.cells h ph), (1, Zc THost)] fun ac w β S => ?_
 refine (nt (ws ?_))
 let σ1 : Sy := ⟨[(1, .p 0 0), (2, .p 1 0)], [GT.cells h ph, Zc THost]⟩
 obtain ⟨u0, N0, β0, S⟩ : ∃ u0 N0 β0, St Tryz.prog Tryz.f33.ntmps w0 NoB u0 N0 β0 σ1 ac w := ⟨_, _, _, S.z⟩
 refine wp_region_cut (fun ac w => ∃ q234 F235 q237 F238 q231 F232 u N β, St Tryz.prog Tryz.f33.ntmps w0 NoB u N β (σ1.dl [] [(3, .p 2 0)] 3 [(2, [slv h.mem.length q231.1, slv ([] : List TMon).length (GT.pdflt (α := List TMon)).1, slv h.buf.length q234.1, slv h.iobuf.length q237.1])]) ac w ∧ Ow w0 NoB u N F235 h.buf q234 ∧ Ow w0 NoB u N F238 h.iobuf q237 ∧ Ow w0 NoB u N F232 h.mem q231 ∧ Disj F235 F238 ∧ Disj F235 F232 ∧ Disj F238 F232) ?_ ?_
 ·refine S.draw0 (f := 14) 13 rfl rfl fun w S => ?_
  refine S.hq 0 [0] [] [(6, .p 0 0)] .nil fun ac S => ?_
  refine S.hq 1 [1] [] [(7, .v (slv h.mem.length ph.mem.1))] .nil fun ac S => ?_
  refine S.hq 4 [4] [] [(10, .p 0 2)] .nil fun ac S => ?_
  refine S.hq 5 [5] [] [(11, .v (slv h.buf.length ph.buf.1))] .nil fun ac S => ?_
  refine S.hq 8 [8] [] [(14, .p 0 3)] .nil fun ac S => ?_
  refine S.hq 9 [9] [] [(15, .v (slv h.iobuf.length ph.iobuf.1))] .nil fun ac S => ?_
  refine WD.nameW fun W hW => ?_
  refine WD.castW (l' := mkL 14 [0, 1, 4, 5, 8, 9]) (by kernel_rfl) ?_
  have hK239 ac w q234 F235 q237 F238 q231 F232 u N β (S : St Tryz.prog Tryz.f33.ntmps w0 NoB u N β (σ1.dl [] [(3, .p 2 0)] 3 [(2, [slv h.mem.length q231.1, slv ([] : List TMon).length (GT.pdflt (α := List TMon)).1, slv h.buf.length q234.1, slv h.iobuf.length q237.1])]) ac w) (o233 : Ow w0 NoB u N F235 h.buf q234) (o236 : Ow w0 NoB u N F238 h.iobuf q237) (o230 : Ow w0 NoB u N F232 h.mem q231) (d240 : Disj F235 F238) (d241 : Disj F235 F232) (d242 : Disj F238 F232) : W 0 (mkL 14 [0, 1, 2, 3, 4, 5, 6, 7, 8, 9, 10, 11, 12, 13]) ac w := by
   exact od hW ⟨rfl, q234, F235, q237, F238, q231, F232, _, _, _, S.z, o233, o236, o230, d240, d241, d242⟩
  have hK243 ac w q217 F218 q220 F221 q214 F215 u N β (S : St Tryz.prog Tryz.f33.ntmps w0 NoB u N β (σ1.dl [] [(3, .p 2 0), (17, .v (GT.val (⟨h.mem, ([] : List TMon), h.buf, h.iobuf⟩ : THost) (⟨q214, (GT.pdflt (α := List TMon)), q217, q220⟩ : PHost)))] 3 [(2, Zc THost)]) ac w) (o216 : Ow w0 NoB u N F218 h.buf q217) (o219 : Ow w0 NoB u N F221 h.iobuf q220) (o213 : Ow w0 NoB u N F215 h.mem q214) (d244 : Disj F218 F221) (d245 : Disj F218 F215) (d246 : Disj F221 F215) (hNN : NN N0 u0 N u) (hBB : BB σ1.bx.length β0 β) : W 1 (mkL 14 [0, 1, 2, 3, 4, 5, 6, 7, 8, 9, 10, 11, 12]) ac w := by
   exact o1 hW 13 (S.wl hW [] .nil fun _ _ _ S => hK239 _ _ q217 F218 q220 F221 q214 F215 _ _ _ S o216 o219 o213 d244 d245 d246)
  have hK247 ac w q217 F218 q220 F221 q214 F215 u N β (S : St Tryz.prog Tryz.f33.ntmps w0 NoB u N β (σ1.dl [] [(17, .v (GT.val (⟨h.mem, ([] : List TMon), h.buf, h.iobuf⟩ : THost) (⟨q214, (GT.pdflt (α := List TMon)), q217, q220⟩ : PHost)))] 2 []) ac w) (o216 : Ow w0 NoB u N F218 h.buf q217) (o219 : Ow w0 NoB u N F221 h.iobuf q220) (o213 : Ow w0 NoB u N F215 h.mem q214) (d248 : Disj F218 F221) (d249 : Disj F218 F215) (d250 : Disj F221 F215) (hNN : NN N0 u0 N u) (hBB : BB σ1.bx.length β0 β) : W 2 (mkL 14 [0, 1, 2, 3, 4, 5, 6, 7, 8, 9, 10, 11]) ac w := by
   exact o1 hW 12 (S.wq hW hNN hBB [] .nil fun _ _ _ S hB => hK243 _ _ q217 F218 q220 F221 q214 F215 _ _ _ S o216 o219 o213 d248 d249 d250 hNN hB)
  have hK251 ac w q85 F86 q196 F197 q8 F9 u N β (S : St Tryz.prog Tryz.f33.ntmps w0 NoB u N β (σ1.dl [] [(3, .p 2 0), (8, .v (slv h.mem.length q8.1)), (12, .v (slv h.buf.length q85.1)), (16, .v (slv h.iobuf.length q196.1))] 3 [(2, Zc THost)]) ac w) (o84 : Ow w0 NoB u N F86 h.buf q85) (o195 : Ow w0 NoB u N F197 h.iobuf q196) (o7 : Ow w0 NoB u N F9 h.mem q8) (d252 : Disj F86 F197) (d253 : Disj F86 F9) (d254 : Disj F197 F9) (hNN : NN N0 u0 N u) (hBB : BB σ1.bx.length β0 β) : W 2 (mkL 14 [0, 1, 2, 3, 4, 5, 6, 7, 8, 9, 10, 12]) ac w := by
   exact o1 hW 11 (S.wq hW hNN hBB [] (.cons (Q_sem (s := Instr.build 31 [(0, slv h.mem.length q8.1), (2, slv h.buf.length q85.1), (3, slv h.iobuf.length q196.1)].toArray) (v := .agg [slv h.mem.length q8.1, slv ([] : List TMon).length (GT.pdflt (α := List TMon)).1, slv h.buf.length q85.1, slv h.iobuf.length q196.1].toArray) (fun w => by kernel_rfl)) .nil) fun _ _ _ S hB => hK243 _ _ q85 F86 q196 F197 q8 F9 _ _ _ S o84 o195 o7 d252 d253 d254 hNN hB)
  have hK255 ac w q85 F86 q196 F197 q8 F9 u N β (S : St Tryz.prog Tryz.f33.ntmps w0 NoB u N β (σ1.dl [] [(8, .v (slv h.mem.length q8.1)), (12, .v (slv h.buf.length q85.1)), (16, .v (slv h.iobuf.length q196.1))] 2 []) ac w) (o84 : Ow w0 NoB u N F86 h.buf q85) (o195 : Ow w0 NoB u N F197 h.iobuf q196) (o7 : Ow w0 NoB u N F9 h.mem q8) (d256 : Disj F86 F197) (d257 : Disj F86 F9) (d258 : Disj F197 F9) (hNN : NN N0 u0 N u) (hBB : BB σ1.bx.length β0 β) : W 3 (mkL 14 [0, 1, 2, 3, 4, 5, 6, 7, 8, 9, 10]) ac w := by
   exact o2 hW 11 12 (S.wq hW hNN hBB [] (.cons (Q_sem (s := Instr.build 31 [(0, slv h.mem.length q8.1), (2, slv h.buf.length q85.1), (3, slv h.iobuf.length q196.1)].toArray) (v := .agg [slv h.mem.length q8.1, slv ([] : List TMon).length (GT.pdflt (α := List TMon)).1, slv h.buf.length q85.1, slv h.iobuf.length q196.1].toArray) (fun w => by kernel_rfl)) .nil) fun _ _ _ S hB => hK247 _ _ q85 F86 q196 F197 q8 F9 _ _ _ S o84 o195 o7 d256 d257 d258 hNN hB) (S.wq hW hNN hBB [] .nil fun _ _ _ S hB => hK251 _ _ q85 F86 q196 F197 q8 F9 _ _ _ S o84 o195 o7 d256 d257 d258 hNN hB)
  have hK259 ac w q85 F86 q24 F25 q8 F9 u N β (S : St Tryz.prog Tryz.f33.ntmps w0 NoB u N β (σ1.dl [] [(3, .p 2 0), (8, .v (slv h.mem.length q8.1)), (12, .v (slv h.buf.length q85.1)), (13, .v (slv 0 q24.1)), (15, .v (slv h.iobuf.length ph.iobuf.1))] 3 [(2, Zc THost)]) ac w) (o84 : Ow w0 NoB u N F86 h.buf q85) (o23 : Ow w0 NoB u N F25 ([] : List TEntry) q24) (o7 : Ow w0 NoB u N F9 h.mem q8) (d260 : Disj F86 F25) (d261 : Disj F86 F9) (d262 : Disj F25 F9) (hNN : ∀ b, N0 b → N b ∧ u.heap[b]? = u0.heap[b]? ∧ ¬ F25 b) (hBB : BB σ1.bx.length β0 β) : W 3 (mkL 14 [0, 1, 2, 3, 4, 5, 6, 7, 8, 9, 12]) ac w := by
   refine o1 hW 10 ?_
   have b267 : h.iobuf.length ≤ 4194304 := LRd.le (RHost.iobuf (d := h) (S.arg hh))
   refine id (S.appFlat0 (α := TEntry) o23 (RHost.iobuf (d := h) (S.arg hh)) (fun _ _ h => h) (by' := 32) (d := 16) (lx := 0) (ly := h.iobuf.length) rfl fun ac w N q263 F264 S up o265 d266 => ?_)
   have hb268 := fun b h => (⟨(up b (hNN b h).1 (hNN b h).2.2).1, (up b (hNN b h).1 (hNN b h).2.2).2.trans (hNN b h).2.1⟩ : _ ∧ _)
   refine WD.sc S hb268 hBB fun hC => ?_
   have d269 := d266 _ (Disj.symm d262) o7.sub
   have d270 := d266 _ d260 o84.sub
   replace o7 := o7.upF (Disj.symm d262) up
   replace o84 := o84.upF d260 up
   clear up d266
   exact S.wh hW [] hC fun _ S => hK251 _ _ q85 F86 q263 F264 q8 F9 _ _ _ S o84 o265 o7 d270 d261 (Disj.symm d269) hb268 hBB
  have hK271 ac w q85 F86 q24 F25 q8 F9 u N β (S : St Tryz.prog Tryz.f33.ntmps w0 NoB u N β (σ1.dl [] [(8, .v (slv h.mem.length q8.1)), (12, .v (slv h.buf.length q85.1)), (13, .v (slv 0 q24.1)), (15, .v (slv h.iobuf.length ph.iobuf.1))] 2 []) ac w) (o84 : Ow w0 NoB u N F86 h.buf q85) (o23 : Ow w0 NoB u N F25 ([] : List TEntry) q24) (o7 : Ow w0 NoB u N F9 h.mem q8) (d272 : Disj F86 F25) (d273 : Disj F86 F9) (d274 : Disj F25 F9) (hNN : ∀ b, N0 b → N b ∧ u.heap[b]? = u0.heap[b]? ∧ ¬ F25 b) (hBB : BB σ1.bx.length β0 β) : W 4 (mkL 14 [0, 1, 2, 3, 4, 5, 6, 7, 8, 9]) ac w := by
   refine o2 hW 10 12 ?_ (S.wq hW (fun b h => ⟨(hNN b h).1, (hNN b h).2.1⟩) hBB [] .nil fun _ _ _ S hB => hK259 _ _ q85 F86 q24 F25 q8 F9 _ _ _ S o84 o23 o7 d272 d273 d274 hNN hB)
   have b279 : h.iobuf.length ≤ 4194304 := LRd.le (RHost.iobuf (d := h) (S.arg hh))
   refine id (S.appFlat0 (α := TEntry) o23 (RHost.iobuf (d := h) (S.arg hh)) (fun _ _ h => h) (by' := 32) (d := 16) (lx := 0) (ly := h.iobuf.length) rfl fun ac w N q275 F276 S up o277 d278 => ?_)
   have hb280 := fun b h => (⟨(up b (hNN b h).1 (hNN b h).2.2).1, (up b (hNN b h).1 (hNN b h).2.2).2.trans (hNN b h).2.1⟩ : _ ∧ _)
   refine WD.sc S hb280 hBB fun hC => ?_
   have d281 := d278 _ (Disj.symm d274) o7.sub
   have d282 := d278 _ d272 o84.sub
   replace o7 := o7.upF (Disj.symm d274) up
   replace o84 := o84.upF d272 up
   clear up d278
   exact S.wh hW [] hC fun _ S => hK255 _ _ q85 F86 q275 F276 q8 F9 _ _ _ S o84 o277 o7 d282 d273 (Disj.symm d281) hb280 hBB
  have hK283 ac w q85 F86 q8 F9 u N β (S : St Tryz.prog Tryz.f33.ntmps w0 NoB u N β (σ1.dl [] [(3, .p 2 0), (8, .v (slv h.mem.length q8.1)), (12, .v (slv h.buf.length q85.1)), (15, .v (slv h.iobuf.length ph.iobuf.1))] 3 [(2, Zc THost)]) ac w) (o84 : Ow w0 NoB u N F86 h.buf q85) (o7 : Ow w0 NoB u N F9 h.mem q8) (d284 : Disj F86 F9) (hNN : NN N0 u0 N u) (hBB : BB σ1.bx.length β0 β) : W 4 (mkL 14 [0, 1, 2, 3, 4, 5, 6, 8, 9, 12]) ac w := by
   refine o1 hW 7 ?_
   refine id (S.bs0 (α := TEntry) (d := 13) (by kernel_rfl) fun ac w N q285 F286 S up o287 d288 => ?_)
   have hb289 := fun b h => (⟨(up b (hNN b h).1).1, (up b (hNN b h).1).2.trans (hNN b h).2, d288 b (hNN b h).1⟩ : _ ∧ _ ∧ _)
   refine WD.sc S (fun b h => ⟨(hb289 b h).1, (hb289 b h).2.1⟩) hBB fun hC => ?_
   have d290 := Disj.w d288 o7.sub
   have d291 := Disj.w d288 o84.sub
   replace o7 := o7.up up
   replace o84 := o84.up up
   clear up d288
   exact S.wh hW [] hC fun _ S => hK259 _ _ q85 F86 q285 F286 q8 F9 _ _ _ S o84 o287 o7 d291 d284 (Disj.symm d290) hb289 hBB
  have hK292 ac w q24 F25 q8 F9 q16 F17 u N β (S : St Tryz.prog Tryz.f33.ntmps w0 NoB u N β (σ1.dl [] [(3, .p 2 0), (8, .v (slv h.mem.length q8.1)), (9, .v (slv 0 q16.1)), (11, .v (slv h.buf.length ph.buf.1)), (13, .v (slv 0 q24.1)), (15, .v (slv h.iobuf.length ph.iobuf.1))] 3 [(2, Zc THost)]) ac w) (o23 : Ow w0 NoB u N F25 ([] : List TEntry) q24) (o7 : Ow w0 NoB u N F9 h.mem q8) (o15 : Ow w0 NoB u N F17 ([] : List TEntry) q16) (d293 : Disj F25 F9) (d294 : Disj F25 F17) (d295 : Disj F9 F17) (hNN : ∀ b, N0 b → N b ∧ u.heap[b]? = u0.heap[b]? ∧ ¬ F17 b ∧ ¬ F25 b) (hBB : BB σ1.bx.length β0 β) : W 4 (mkL 14 [0, 1, 2, 3, 4, 5, 7, 8, 9, 12]) ac w := by
   refine o1 hW 6 ?_
   have b300 : h.buf.length ≤ 4194304 := LRd.le (RHost.buf (d := h) (S.arg hh))
   refine id (S.appFlat0 (α := TEntry) o15 (RHost.buf (d := h) (S.arg hh)) (fun _ _ h => h) (by' := 32) (d := 12) (lx := 0) (ly := h.buf.length) rfl fun ac w N q296 F297 S up o298 d299 => ?_)
   have hb301 := fun b h => (⟨(up b (hNN b h).1 (hNN b h).2.2.1).1, (up b (hNN b h).1 (hNN b h).2.2.1).2.trans (hNN b h).2.1, (hNN b h).2.2.2⟩ : _ ∧ _ ∧ _)
   refine WD.sc S (fun b h => ⟨(hb301 b h).1, (hb301 b h).2.1⟩) hBB fun hC => ?_
   have d302 := d299 _ d295 o7.sub
   have d303 := d299 _ d294 o23.sub
   replace o7 := o7.upF d295 up
   replace o23 := o23.upF d294 up
   clear up d299
   exact S.wh hW [] hC fun _ S => hK259 _ _ q296 F297 q24 F25 q8 F9 _ _ _ S o298 o23 o7 (Disj.symm d303) (Disj.symm d302) d293 hb301 hBB
  have hK304 ac w q85 F86 q8 F9 u N β (S : St Tryz.prog Tryz.f33.ntmps w0 NoB u N β (σ1.dl [] [(8, .v (slv h.mem.length q8.1)), (12, .v (slv h.buf.length q85.1)), (15, .v (slv h.iobuf.length ph.iobuf.1))] 2 []) ac w) (o84 : Ow w0 NoB u N F86 h.buf q85) (o7 : Ow w0 NoB u N F9 h.mem q8) (d305 : Disj F86 F9) (hNN : NN N0 u0 N u) (hBB : BB σ1.bx.length β0 β) : W 5 (mkL 14 [0, 1, 2, 3, 4, 5, 6, 8, 9]) ac w := by
   refine o2 hW 7 12 ?_ (S.wq hW hNN hBB [] .nil fun _ _ _ S hB => hK283 _ _ q85 F86 q8 F9 _ _ _ S o84 o7 d305 hNN hB)
   refine id (S.bs0 (α := TEntry) (d := 13) (by kernel_rfl) fun ac w N q306 F307 S up o308 d309 => ?_)
   have hb310 := fun b h => (⟨(up b (hNN b h).1).1, (up b (hNN b h).1).2.trans (hNN b h).2, d309 b (hNN b h).1⟩ : _ ∧ _ ∧ _)
   refine WD.sc S (fun b h => ⟨(hb310 b h).1, (hb310 b h).2.1⟩) hBB fun hC => ?_
   have d311 := Disj.w d309 o7.sub
   have d312 := Disj.w d309 o84.sub
   replace o7 := o7.up up
   replace o84 := o84.up up
   clear up d309
   exact S.wh hW [] hC fun _ S => hK271 _ _ q85 F86 q306 F307 q8 F9 _ _ _ S o84 o308 o7 d312 d305 (Disj.symm d311) hb310 hBB
  have hK313 ac w q24 F25 q8 F9 q16 F17 u N β (S : St Tryz.prog Tryz.f33.ntmps w0 NoB u N β (σ1.dl [] [(8, .v (slv h.mem.length q8.1)), (9, .v (slv 0 q16.1)), (11, .v (slv h.buf.length ph.buf.1)), (13, .v (slv 0 q24.1)), (15, .v (slv h.iobuf.length ph.iobuf.1))] 2 []) ac w) (o23 : Ow w0 NoB u N F25 ([] : List TEntry) q24) (o7 : Ow w0 NoB u N F9 h.mem q8) (o15 : Ow w0 NoB u N F17 ([] : List TEntry) q16) (d314 : Disj F25 F9) (d315 : Disj F25 F17) (d316 : Disj F9 F17) (hNN : ∀ b, N0 b → N b ∧ u.heap[b]? = u0.heap[b]? ∧ ¬ F17 b ∧ ¬ F25 b) (hBB : BB σ1.bx.length β0 β) : W 5 (mkL 14 [0, 1, 2, 3, 4, 5, 7, 8, 9]) ac w := by
   refine o2 hW 6 12 ?_ (S.wq hW (fun b h => ⟨(hNN b h).1, (hNN b h).2.1⟩) hBB [] .nil fun _ _ _ S hB => hK292 _ _ q24 F25 q8 F9 q16 F17 _ _ _ S o23 o7 o15 d314 d315 d316 hNN hB)
   have b321 : h.buf.length ≤ 4194304 := LRd.le (RHost.buf (d := h) (S.arg hh))
   refine id (S.appFlat0 (α := TEntry) o15 (RHost.buf (d := h) (S.arg hh)) (fun _ _ h => h) (by' := 32) (d := 12) (lx := 0) (ly := h.buf.length) rfl fun ac w N q317 F318 S up o319 d320 => ?_)
   have hb322 := fun b h => (⟨(up b (hNN b h).1 (hNN b h).2.2.1).1, (up b (hNN b h).1 (hNN b h).2.2.1).2.trans (hNN b h).2.1, (hNN b h).2.2.2⟩ : _ ∧ _ ∧ _)
   refine WD.sc S (fun b h => ⟨(hb322 b h).1, (hb322 b h).2.1⟩) hBB fun hC => ?_
   have d323 := d320 _ d316 o7.sub
   have d324 := d320 _ d315 o23.sub
   replace o7 := o7.upF d316 up
   replace o23 := o23.upF d315 up
   clear up d320
   exact S.wh hW [] hC fun _ S => hK271 _ _ q317 F318 q24 F25 q8 F9 _ _ _ S o319 o23 o7 (Disj.symm d324) (Disj.symm d323) d314 hb322 hBB
  have hK325 ac w q8 F9 q16 F17 u N β (S : St Tryz.prog Tryz.f33.ntmps w0 NoB u N β (σ1.dl [] [(3, .p 2 0), (8, .v (slv h.mem.length q8.1)), (9, .v (slv 0 q16.1)), (11, .v (slv h.buf.length ph.buf.1)), (15, .v (slv h.iobuf.length ph.iobuf.1))] 3 [(2, Zc THost)]) ac w) (o7 : Ow w0 NoB u N F9 h.mem q8) (o15 : Ow w0 NoB u N F17 ([] : List TEntry) q16) (d326 : Disj F9 F17) (hNN : ∀ b, N0 b → N b ∧ u.heap[b]? = u0.heap[b]? ∧ ¬ F17 b) (hBB : BB σ1.bx.length β0 β) : W 5 (mkL 14 [0, 1, 2, 3, 4, 5, 8, 9, 12]) ac w := by
   refine o2 hW 6 7 ?_ ?_
   ·have b331 : h.buf.length ≤ 4194304 := LRd.le (RHost.buf (d := h) (S.arg hh))
    refine id (S.appFlat0 (α := TEntry) o15 (RHost.buf (d := h) (S.arg hh)) (fun _ _ h => h) (by' := 32) (d := 12) (lx := 0) (ly := h.buf.length) rfl fun ac w N q327 F328 S up o329 d330 => ?_)
    have hb332 := fun b h => (⟨(up b (hNN b h).1 (hNN b h).2.2).1, (up b (hNN b h).1 (hNN b h).2.2).2.trans (hNN b h).2.1⟩ : _ ∧ _)
    refine WD.sc S hb332 hBB fun hC => ?_
    have d333 := d330 _ d326 o7.sub
    replace o7 := o7.upF d326 up
    clear up d330
    exact S.wh hW [] hC fun _ S => hK283 _ _ q327 F328 q8 F9 _ _ _ S o329 o7 (Disj.symm d333) hb332 hBB
   ·refine id (S.bs0 (α := TEntry) (d := 13) (by kernel_rfl) fun ac w N q334 F335 S up o336 d337 => ?_)
    have hb338 := fun b h => (⟨(up b (hNN b h).1).1, (up b (hNN b h).1).2.trans (hNN b h).2.1, (hNN b h).2.2, d337 b (hNN b h).1⟩ : _ ∧ _ ∧ _ ∧ _)
    refine WD.sc S (fun b h => ⟨(hb338 b h).1, (hb338 b h).2.1⟩) hBB fun hC => ?_
    have d339 := Disj.w d337 o7.sub
    have d340 := Disj.w d337 o15.sub
    replace o7 := o7.up up
    replace o15 := o15.up up
    clear up d337
    exact S.wh hW [] hC fun _ S => hK292 _ _ q334 F335 q8 F9 q16 F17 _ _ _ S o336 o7 o15 (Disj.symm d339) (Disj.symm d340) d326 hb338 hBB
  have hK341 ac w q24 F25 q8 F9 u N β (S : St Tryz.prog Tryz.f33.ntmps w0 NoB u N β (σ1.dl [] [(3, .p 2 0), (8, .v (slv h.mem.length q8.1)), (11, .v (slv h.buf.length ph.buf.1)), (13, .v (slv 0 q24.1)), (15, .v (slv h.iobuf.length ph.iobuf.1))] 3 [(2, Zc THost)]) ac w) (o23 : Ow w0 NoB u N F25 ([] : List TEntry) q24) (o7 : Ow w0 NoB u N F9 h.mem q8) (d342 : Disj F25 F9) (hNN : ∀ b, N0 b → N b ∧ u.heap[b]? = u0.heap[b]? ∧ ¬ F25 b) (hBB : BB σ1.bx.length β0 β) : W 5 (mkL 14 [0, 1, 2, 4, 5, 7, 8, 9, 12]) ac w := by
   refine o1 hW 3 ?_
   refine id (S.bs0 (α := TEntry) (d := 9) (by kernel_rfl) fun ac w N q343 F344 S up o345 d346 => ?_)
   have hb347 := fun b h => (⟨(up b (hNN b h).1).1, (up b (hNN b h).1).2.trans (hNN b h).2.1, d346 b (hNN b h).1, (hNN b h).2.2⟩ : _ ∧ _ ∧ _ ∧ _)
   refine WD.sc S (fun b h => ⟨(hb347 b h).1, (hb347 b h).2.1⟩) hBB fun hC => ?_
   have d348 := Disj.w d346 o7.sub
   have d349 := Disj.w d346 o23.sub
   replace o7 := o7.up up
   replace o23 := o23.up up
   clear up d346
   exact S.wh hW [] hC fun _ S => hK292 _ _ q24 F25 q8 F9 q343 F344 _ _ _ S o23 o7 o345 d342 d349 d348 hb347 hBB
  have hK350 ac w q24 F25 q16 F17 u N β (S : St Tryz.prog Tryz.f33.ntmps w0 NoB u N β (σ1.dl [] [(3, .p 2 0), (7, .v (slv h.mem.length ph.mem.1)), (9, .v (slv 0 q16.1)), (11, .v (slv h.buf.length ph.buf.1)), (13, .v (slv 0 q24.1)), (15, .v (slv h.iobuf.length ph.iobuf.1))] 3 [(2, Zc THost)]) ac w) (o23 : Ow w0 NoB u N F25 ([] : List TEntry) q24) (o15 : Ow w0 NoB u N F17 ([] : List TEntry) q16) (d351 : Disj F25 F17) (hNN : ∀ b, N0 b → N b ∧ u.heap[b]? = u0.heap[b]? ∧ ¬ F17 b ∧ ¬ F25 b) (hBB : BB σ1.bx.length β0 β) : W 5 (mkL 14 [0, 1, 3, 4, 5, 7, 8, 9, 12]) ac w := by
   refine o1 hW 2 ?_
   refine id (S.k1 8 (c_impl_copyMem w h.mem ph.mem (S.rd (RHost.mem (d := h) (S.arg hh)))) fun ac w N q352 F353 S up o354 d355 => ?_)
   have hb356 := fun b h => (⟨(up b (hNN b h).1).1, (up b (hNN b h).1).2.trans (hNN b h).2.1, (hNN b h).2.2.1, (hNN b h).2.2.2⟩ : _ ∧ _ ∧ _ ∧ _)
   refine WD.sc S (fun b h => ⟨(hb356 b h).1, (hb356 b h).2.1⟩) hBB fun hC => ?_
   have d357 := Disj.w d355 o15.sub
   have d358 := Disj.w d355 o23.sub
   replace o15 := o15.up up
   replace o23 := o23.up up
   clear up d355
   exact S.wh hW [] hC fun _ S => hK292 _ _ q24 F25 q352 F353 q16 F17 _ _ _ S o23 o354 o15 d358 d351 (Disj.symm d357) hb356 hBB
  have hK359 ac w q8 F9 q16 F17 u N β (S : St Tryz.prog Tryz.f33.ntmps w0 NoB u N β (σ1.dl [] [(8, .v (slv h.mem.length q8.1)), (9, .v (slv 0 q16.1)), (11, .v (slv h.buf.length ph.buf.1)), (15, .v (slv h.iobuf.length ph.iobuf.1))] 2 []) ac w) (o7 : Ow w0 NoB u N F9 h.mem q8) (o15 : Ow w0 NoB u N F17 ([] : List TEntry) q16) (d360 : Disj F9 F17) (hNN : ∀ b, N0 b → N b ∧ u.heap[b]? = u0.heap[b]? ∧ ¬ F17 b) (hBB : BB σ1.bx.length β0 β) : W 6 (mkL 14 [0, 1, 2, 3, 4, 5, 8, 9]) ac w := by
   refine o3 hW 6 7 12 ?_ ?_ (S.wq hW (fun b h => ⟨(hNN b h).1, (hNN b h).2.1⟩) hBB [] .nil fun _ _ _ S hB => hK325 _ _ q8 F9 q16 F17 _ _ _ S o7 o15 d360 hNN hB)
   ·have b365 : h.buf.length ≤ 4194304 := LRd.le (RHost.buf (d := h) (S.arg hh))
    refine id (S.appFlat0 (α := TEntry) o15 (RHost.buf (d := h) (S.arg hh)) (fun _ _ h => h) (by' := 32) (d := 12) (lx := 0) (ly := h.buf.length) rfl fun ac w N q361 F362 S up o363 d364 => ?_)
    have hb366 := fun b h => (⟨(up b (hNN b h).1 (hNN b h).2.2).1, (up b (hNN b h).1 (hNN b h).2.2).2.trans (hNN b h).2.1⟩ : _ ∧ _)
    refine WD.sc S hb366 hBB fun hC => ?_
    have d367 := d364 _ d360 o7.sub
    replace o7 := o7.upF d360 up
    clear up d364
    exact S.wh hW [] hC fun _ S => hK304 _ _ q361 F362 q8 F9 _ _ _ S o363 o7 (Disj.symm d367) hb366 hBB
   ·refine id (S.bs0 (α := TEntry) (d := 13) (by kernel_rfl) fun ac w N q368 F369 S up o370 d371 => ?_)
    have hb372 := fun b h => (⟨(up b (hNN b h).1).1, (up b (hNN b h).1).2.trans (hNN b h).2.1, (hNN b h).2.2, d371 b (hNN b h).1⟩ : _ ∧ _ ∧ _ ∧ _)
    refine WD.sc S (fun b h => ⟨(hb372 b h).1, (hb372 b h).2.1⟩) hBB fun hC => ?_
    have d373 := Disj.w d371 o7.sub
    have d374 := Disj.w d371 o15.sub
    replace o7 := o7.up up
    replace o15 := o15.up up
    clear up d371
    exact S.wh hW [] hC fun _ S => hK313 _ _ q368 F369 q8 F9 q16 F17 _ _ _ S o370 o7 o15 (Disj.symm d373) (Disj.symm d374) d360 hb372 hBB
  have hK375 ac w q24 F25 q8 F9 u N β (S : St Tryz.prog Tryz.f33.ntmps w0 NoB u N β (σ1.dl [] [(8, .v (slv h.mem.length q8.1)), (11, .v (slv h.buf.length ph.buf.1)), (13, .v (slv 0 q24.1)), (15, .v (slv h.iobuf.length ph.iobuf.1))] 2 []) ac w) (o23 : Ow w0 NoB u N F25 ([] : List TEntry) q24) (o7 : Ow w0 NoB u N F9 h.mem q8) (d376 : Disj F25 F9) (hNN : ∀ b, N0 b → N b ∧ u.heap[b]? = u0.heap[b]? ∧ ¬ F25 b) (hBB : BB σ1.bx.length β0 β) : W 6 (mkL 14 [0, 1, 2, 4, 5, 7, 8, 9]) ac w := by
   refine o2 hW 3 12 ?_ (S.wq hW (fun b h => ⟨(hNN b h).1, (hNN b h).2.1⟩) hBB [] .nil fun _ _ _ S hB => hK341 _ _ q24 F25 q8 F9 _ _ _ S o23 o7 d376 hNN hB)
   refine id (S.bs0 (α := TEntry) (d := 9) (by kernel_rfl) fun ac w N q377 F378 S up o379 d380 => ?_)
   have hb381 := fun b h => (⟨(up b (hNN b h).1).1, (up b (hNN b h).1).2.trans (hNN b h).2.1, d380 b (hNN b h).1, (hNN b h).2.2⟩ : _ ∧ _ ∧ _ ∧ _)
   refine WD.sc S (fun b h => ⟨(hb381 b h).1, (hb381 b h).2.1⟩) hBB fun hC => ?_
   have d382 := Disj.w d380 o7.sub
   have d383 := Disj.w d380 o23.sub
   replace o7 := o7.up up
   replace o23 := o23.up up
   clear up d380
   exact S.wh hW [] hC fun _ S => hK313 _ _ q24 F25 q8 F9 q377 F378 _ _ _ S o23 o7 o379 d376 d383 d382 hb381 hBB
  have hK384 ac w q8 F9 u N β (S : St Tryz.prog Tryz.f33.ntmps w0 NoB u N β (σ1.dl [] [(3, .p 2 0), (8, .v (slv h.mem.length q8.1)), (11, .v (slv h.buf.length ph.buf.1)), (15, .v (slv h.iobuf.length ph.iobuf.1))] 3 [(2, Zc THost)]) ac w) (o7 : Ow w0 NoB u N F9 h.mem q8) (hNN : NN N0 u0 N u) (hBB : BB σ1.bx.length β0 β) : W 6 (mkL 14 [0, 1, 2, 4, 5, 8, 9, 12]) ac w := by
   refine o2 hW 3 7 ?_ ?_
   ·refine id (S.bs0 (α := TEntry) (d := 9) (by kernel_rfl) fun ac w N q385 F386 S up o387 d388 => ?_)
    have hb389 := fun b h => (⟨(up b (hNN b h).1).1, (up b (hNN b h).1).2.trans (hNN b h).2, d388 b (hNN b h).1⟩ : _ ∧ _ ∧ _)
    refine WD.sc S (fun b h => ⟨(hb389 b h).1, (hb389 b h).2.1⟩) hBB fun hC => ?_
    have d390 := Disj.w d388 o7.sub
    replace o7 := o7.up up
    clear up d388
    exact S.wh hW [] hC fun _ S => hK325 _ _ q8 F9 q385 F386 _ _ _ S o7 o387 d390 hb389 hBB
   ·refine id (S.bs0 (α := TEntry) (d := 13) (by kernel_rfl) fun ac w N q391 F392 S up o393 d394 => ?_)
    have hb395 := fun b h => (⟨(up b (hNN b h).1).1, (up b (hNN b h).1).2.trans (hNN b h).2, d394 b (hNN b h).1⟩ : _ ∧ _ ∧ _)
    refine WD.sc S (fun b h => ⟨(hb395 b h).1, (hb395 b h).2.1⟩) hBB fun hC => ?_
    have d396 := Disj.w d394 o7.sub
    replace o7 := o7.up up
    clear up d394
    exact S.wh hW [] hC fun _ S => hK341 _ _ q391 F392 q8 F9 _ _ _ S o393 o7 (Disj.symm d396) hb395 hBB
  have hK397 ac w q24 F25 q16 F17 u N β (S : St Tryz.prog Tryz.f33.ntmps w0 NoB u N β (σ1.dl [] [(7, .v (slv h.mem.length ph.mem.1)), (9, .v (slv 0 q16.1)), (11, .v (slv h.buf.length ph.buf.1)), (13, .v (slv 0 q24.1)), (15, .v (slv h.iobuf.length ph.iobuf.1))] 2 []) ac w) (o23 : Ow w0 NoB u N F25 ([] : List TEntry) q24) (o15 : Ow w0 NoB u N F17 ([] : List TEntry) q16) (d398 : Disj F25 F17) (hNN : ∀ b, N0 b → N b ∧ u.heap[b]? = u0.heap[b]? ∧ ¬ F17 b ∧ ¬ F25 b) (hBB : BB σ1.bx.length β0 β) : W 6 (mkL 14 [0, 1, 3, 4, 5, 7, 8, 9]) ac w := by
   refine o2 hW 2 12 ?_ (S.wq hW (fun b h => ⟨(hNN b h).1, (hNN b h).2.1⟩) hBB [] .nil fun _ _ _ S hB => hK350 _ _ q24 F25 q16 F17 _ _ _ S o23 o15 d398 hNN hB)
   refine id (S.k1 8 (c_impl_copyMem w h.mem ph.mem (S.rd (RHost.mem (d := h) (S.arg hh)))) fun ac w N q399 F400 S up o401 d402 => ?_)
   have hb403 := fun b h => (⟨(up b (hNN b h).1).1, (up b (hNN b h).1).2.trans (hNN b h).2.1, (hNN b h).2.2.1, (hNN b h).2.2.2⟩ : _ ∧ _ ∧ _ ∧ _)
   refine WD.sc S (fun b h => ⟨(hb403 b h).1, (hb403 b h).2.1⟩) hBB fun hC => ?_
   have d404 := Disj.w d402 o15.sub
   have d405 := Disj.w d402 o23.sub
   replace o15 := o15.up up
   replace o23 := o23.up up
   clear up d402
   exact S.wh hW [] hC fun _ S => hK313 _ _ q24 F25 q399 F400 q16 F17 _ _ _ S o23 o401 o15 d405 d398 (Disj.symm d404) hb403 hBB
  have hK406 ac w q16 F17 u N β (S : St Tryz.prog Tryz.f33.ntmps w0 NoB u N β (σ1.dl [] [(3, .p 2 0), (7, .v (slv h.mem.length ph.mem.1)), (9, .v (slv 0 q16.1)), (11, .v (slv h.buf.length ph.buf.1)), (15, .v (slv h.iobuf.length ph.iobuf.1))] 3 [(2, Zc THost)]) ac w) (o15 : Ow w0 NoB u N F17 ([] : List TEntry) q16) (hNN : ∀ b, N0 b → N b ∧ u.heap[b]? = u0.heap[b]? ∧ ¬ F17 b) (hBB : BB σ1.bx.length β0 β) : W 6 (mkL 14 [0, 1, 3, 4, 5, 8, 9, 12]) ac w := by
   refine o2 hW 2 7 ?_ ?_
   ·refine id (S.k1 8 (c_impl_copyMem w h.mem ph.mem (S.rd (RHost.mem (d := h) (S.arg hh)))) fun ac w N q407 F408 S up o409 d410 => ?_)
    have hb411 := fun b h => (⟨(up b (hNN b h).1).1, (up b (hNN b h).1).2.trans (hNN b h).2.1, (hNN b h).2.2⟩ : _ ∧ _ ∧ _)
    refine WD.sc S (fun b h => ⟨(hb411 b h).1, (hb411 b h).2.1⟩) hBB fun hC => ?_
    have d412 := Disj.w d410 o15.sub
    replace o15 := o15.up up
    clear up d410
    exact S.wh hW [] hC fun _ S => hK325 _ _ q407 F408 q16 F17 _ _ _ S o409 o15 (Disj.symm d412) hb411 hBB
   ·refine id (S.bs0 (α := TEntry) (d := 13) (by kernel_rfl) fun ac w N q413 F414 S up o415 d416 => ?_)
    have hb417 := fun b h => (⟨(up b (hNN b h).1).1, (up b (hNN b h).1).2.trans (hNN b h).2.1, (hNN b h).2.2, d416 b (hNN b h).1⟩ : _ ∧ _ ∧ _ ∧ _)
    refine WD.sc S (fun b h => ⟨(hb417 b h).1, (hb417 b h).2.1⟩) hBB fun hC => ?_
    have d418 := Disj.w d416 o15.sub
    replace o15 := o15.up up
    clear up d416
    exact S.wh hW [] hC fun _ S => hK350 _ _ q413 F414 q16 F17 _ _ _ S o415 o15 (Disj.symm d418) hb417 hBB
  have hK419 ac w q24 F25 u N β (S : St Tryz.prog Tryz.f33.ntmps w0 NoB u N β (σ1.dl [] [(3, .p 2 0), (7, .v (slv h.mem.length ph.mem.1)), (11, .v (slv h.buf.length ph.buf.1)), (13, .v (slv 0 q24.1)), (15, .v (slv h.iobuf.length ph.iobuf.1))] 3 [(2, Zc THost)]) ac w) (o23 : Ow w0 NoB u N F25 ([] : List TEntry) q24) (hNN : ∀ b, N0 b → N b ∧ u.heap[b]? = u0.heap[b]? ∧ ¬ F25 b) (hBB : BB σ1.bx.length β0 β) : W 6 (mkL 14 [0, 1, 4, 5, 7, 8, 9, 12]) ac w := by
   refine o2 hW 2 3 ?_ ?_
   ·refine id (S.k1 8 (c_impl_copyMem w h.mem ph.mem (S.rd (RHost.mem (d := h) (S.arg hh)))) fun ac w N q420 F421 S up o422 d423 => ?_)
    have hb424 := fun b h => (⟨(up b (hNN b h).1).1, (up b (hNN b h).1).2.trans (hNN b h).2.1, (hNN b h).2.2⟩ : _ ∧ _ ∧ _)
    refine WD.sc S (fun b h => ⟨(hb424 b h).1, (hb424 b h).2.1⟩) hBB fun hC => ?_
    have d425 := Disj.w d423 o23.sub
    replace o23 := o23.up up
    clear up d423
    exact S.wh hW [] hC fun _ S => hK341 _ _ q24 F25 q420 F421 _ _ _ S o23 o422 d425 hb424 hBB
   ·refine id (S.bs0 (α := TEntry) (d := 9) (by kernel_rfl) fun ac w N q426 F427 S up o428 d429 => ?_)
    have hb430 := fun b h => (⟨(up b (hNN b h).1).1, (up b (hNN b h).1).2.trans (hNN b h).2.1, d429 b (hNN b h).1, (hNN b h).2.2⟩ : _ ∧ _ ∧ _ ∧ _)
    refine WD.sc S (fun b h => ⟨(hb430 b h).1, (hb430 b h).2.1⟩) hBB fun hC => ?_
    have d431 := Disj.w d429 o23.sub
    replace o23 := o23.up up
    clear up d429
    exact S.wh hW [] hC fun _ S => hK350 _ _ q24 F25 q426 F427 _ _ _ S o23 o428 d431 hb430 hBB
  have hK432 ac w q8 F9 u N β (S : St Tryz.prog Tryz.f33.ntmps w0 NoB u N β (σ1.dl [] [(8, .v (slv h.mem.length q8.1)), (11, .v (slv h.buf.length ph.buf.1)), (15, .v (slv h.iobuf.length ph.iobuf.1))] 2 []) ac w) (o7 : Ow w0 NoB u N F9 h.mem q8) (hNN : NN N0 u0 N u) (hBB : BB σ1.bx.length β0 β) : W 7 (mkL 14 [0, 1, 2, 4, 5, 8, 9]) ac w := by
   refine o3 hW 3 7 12 ?_ ?_ (S.wq hW hNN hBB [] .nil fun _ _ _ S hB => hK384 _ _ q8 F9 _ _ _ S o7 hNN hB)
   ·refine id (S.bs0 (α := TEntry) (d := 9) (by kernel_rfl) fun ac w N q433 F434 S up o435 d436 => ?_)
    have hb437 := fun b h => (⟨(up b (hNN b h).1).1, (up b (hNN b h).1).2.trans (hNN b h).2, d436 b (hNN b h).1⟩ : _ ∧ _ ∧ _)
    refine WD.sc S (fun b h => ⟨(hb437 b h).1, (hb437 b h).2.1⟩) hBB fun hC => ?_
    have d438 := Disj.w d436 o7.sub
    replace o7 := o7.up up
    clear up d436
    exact S.wh hW [] hC fun _ S => hK359 _ _ q8 F9 q433 F434 _ _ _ S o7 o435 d438 hb437 hBB
   ·refine id (S.bs0 (α := TEntry) (d := 13) (by kernel_rfl) fun ac w N q439 F440 S up o441 d442 => ?_)
    have hb443 := fun b h => (⟨(up b (hNN b h).1).1, (up b (hNN b h).1).2.trans (hNN b h).2, d442 b (hNN b h).1⟩ : _ ∧ _ ∧ _)
    refine WD.sc S (fun b h => ⟨(hb443 b h).1, (hb443 b h).2.1⟩) hBB fun hC => ?_
    have d444 := Disj.w d442 o7.sub
    replace o7 := o7.up up
    clear up d442
    exact S.wh hW [] hC fun _ S => hK375 _ _ q439 F440 q8 F9 _ _ _ S o441 o7 (Disj.symm d444) hb443 hBB
  have hK445 ac w q16 F17 u N β (S : St Tryz.prog Tryz.f33.ntmps w0 NoB u N β (σ1.dl [] [(7, .v (slv h.mem.length ph.mem.1)), (9, .v (slv 0 q16.1)), (11, .v (slv h.buf.length ph.buf.1)), (15, .v (slv h.iobuf.length ph.iobuf.1))] 2 []) ac w) (o15 : Ow w0 NoB u N F17 ([] : List TEntry) q16) (hNN : ∀ b, N0 b → N b ∧ u.heap[b]? = u0.heap[b]? ∧ ¬ F17 b) (hBB : BB σ1.bx.length β0 β) : W 7 (mkL 14 [0, 1, 3, 4, 5, 8, 9]) ac w := by
   refine o3 hW 2 7 12 ?_ ?_ (S.wq hW (fun b h => ⟨(hNN b h).1, (hNN b h).2.1⟩) hBB [] .nil fun _ _ _ S hB => hK406 _ _ q16 F17 _ _ _ S o15 hNN hB)
   ·refine id (S.k1 8 (c_impl_copyMem w h.mem ph.mem (S.rd (RHost.mem (d := h) (S.arg hh)))) fun ac w N q446 F447 S up o448 d449 => ?_)
    have hb450 := fun b h => (⟨(up b (hNN b h).1).1, (up b (hNN b h).1).2.trans (hNN b h).2.1, (hNN b h).2.2⟩ : _ ∧ _ ∧ _)
    refine WD.sc S (fun b h => ⟨(hb450 b h).1, (hb450 b h).2.1⟩) hBB fun hC => ?_
    have d451 := Disj.w d449 o15.sub
    replace o15 := o15.up up
    clear up d449
    exact S.wh hW [] hC fun _ S => hK359 _ _ q446 F447 q16 F17 _ _ _ S o448 o15 (Disj.symm d451) hb450 hBB
   ·refine id (S.bs0 (α := TEntry) (d := 13) (by kernel_rfl) fun ac w N q452 F453 S up o454 d455 => ?_)
    have hb456 := fun b h => (⟨(up b (hNN b h).1).1, (up b (hNN b h).1).2.trans (hNN b h).2.1, (hNN b h).2.2, d455 b (hNN b h).1⟩ : _ ∧ _ ∧ _ ∧ _)
    refine WD.sc S (fun b h => ⟨(hb456 b h).1, (hb456 b h).2.1⟩) hBB fun hC => ?_
    have d457 := Disj.w d455 o15.sub
    replace o15 := o15.up up
    clear up d455
    exact S.wh hW [] hC fun _ S => hK397 _ _ q452 F453 q16 F17 _ _ _ S o454 o15 (Disj.symm d457) hb456 hBB
  have hK458 ac w q24 F25 u N β (S : St Tryz.prog Tryz.f33.ntmps w0 NoB u N β (σ1.dl [] [(7, .v (slv h.mem.length ph.mem.1)), (11, .v (slv h.buf.length ph.buf.1)), (13, .v (slv 0 q24.1)), (15, .v (slv h.iobuf.length ph.iobuf.1))] 2 []) ac w) (o23 : Ow w0 NoB u N F25 ([] : List TEntry) q24) (hNN : ∀ b, N0 b → N b ∧ u.heap[b]? = u0.heap[b]? ∧ ¬ F25 b) (hBB : BB σ1.bx.length β0 β) : W 7 (mkL 14 [0, 1, 4, 5, 7, 8, 9]) ac w := by
   refine o3 hW 2 3 12 ?_ ?_ (S.wq hW (fun b h => ⟨(hNN b h).1, (hNN b h).2.1⟩) hBB [] .nil fun _ _ _ S hB => hK419 _ _ q24 F25 _ _ _ S o23 hNN hB)
   ·refine id (S.k1 8 (c_impl_copyMem w h.mem ph.mem (S.rd (RHost.mem (d := h) (S.arg hh)))) fun ac w N q459 F460 S up o461 d462 => ?_)
    have hb463 := fun b h => (⟨(up b (hNN b h).1).1, (up b (hNN b h).1).2.trans (hNN b h).2.1, (hNN b h).2.2⟩ : _ ∧ _ ∧ _)
    refine WD.sc S (fun b h => ⟨(hb463 b h).1, (hb463 b h).2.1⟩) hBB fun hC => ?_
    have d464 := Disj.w d462 o23.sub
    replace o23 := o23.up up
    clear up d462
    exact S.wh hW [] hC fun _ S => hK375 _ _ q24 F25 q459 F460 _ _ _ S o23 o461 d464 hb463 hBB
   ·refine id (S.bs0 (α := TEntry) (d := 9) (by kernel_rfl) fun ac w N q465 F466 S up o467 d468 => ?_)
    have hb469 := fun b h => (⟨(up b (hNN b h).1).1, (up b (hNN b h).1).2.trans (hNN b h).2.1, d468 b (hNN b h).1, (hNN b h).2.2⟩ : _ ∧ _ ∧ _ ∧ _)
    refine WD.sc S (fun b h => ⟨(hb469 b h).1, (hb469 b h).2.1⟩) hBB fun hC => ?_
    have d470 := Disj.w d468 o23.sub
    replace o23 := o23.up up
    clear up d468
    exact S.wh hW [] hC fun _ S => hK397 _ _ q24 F25 q465 F466 _ _ _ S o23 o467 d470 hb469 hBB
  have hK471 ac w u N β (S : St Tryz.prog Tryz.f33.ntmps w0 NoB u N β (σ1.dl [] [(3, .p 2 0), (7, .v (slv h.mem.length ph.mem.1)), (11, .v (slv h.buf.length ph.buf.1)), (15, .v (slv h.iobuf.length ph.iobuf.1))] 3 [(2, Zc THost)]) ac w) (hNN : NN N0 u0 N u) (hBB : BB σ1.bx.length β0 β) : W 7 (mkL 14 [0, 1, 4, 5, 8, 9, 12]) ac w := by
   refine o3 hW 2 3 7 ?_ ?_ ?_
   ·refine id (S.k1 8 (c_impl_copyMem w h.mem ph.mem (S.rd (RHost.mem (d := h) (S.arg hh)))) fun ac w N q472 F473 S up o474 d475 => ?_)
    have hb476 := fun b h => (⟨(up b (hNN b h).1).1, (up b (hNN b h).1).2.trans (hNN b h).2⟩ : _ ∧ _)
    refine WD.sc S hb476 hBB fun hC => ?_
    clear up d475
    exact S.wh hW [] hC fun _ S => hK384 _ _ q472 F473 _ _ _ S o474 hb476 hBB
   ·refine id (S.bs0 (α := TEntry) (d := 9) (by kernel_rfl) fun ac w N q477 F478 S up o479 d480 => ?_)
    have hb481 := fun b h => (⟨(up b (hNN b h).1).1, (up b (hNN b h).1).2.trans (hNN b h).2, d480 b (hNN b h).1⟩ : _ ∧ _ ∧ _)
    refine WD.sc S (fun b h => ⟨(hb481 b h).1, (hb481 b h).2.1⟩) hBB fun hC => ?_
    clear up d480
    exact S.wh hW [] hC fun _ S => hK406 _ _ q477 F478 _ _ _ S o479 hb481 hBB
   ·refine id (S.bs0 (α := TEntry) (d := 13) (by kernel_rfl) fun ac w N q482 F483 S up o484 d485 => ?_)
    have hb486 := fun b h => (⟨(up b (hNN b h).1).1, (up b (hNN b h).1).2.trans (hNN b h).2, d485 b (hNN b h).1⟩ : _ ∧ _ ∧ _)
    refine WD.sc S (fun b h => ⟨(hb486 b h).1, (hb486 b h).2.1⟩) hBB fun hC => ?_
    clear up d485
    exact S.wh hW [] hC fun _ S => hK419 _ _ q482 F483 _ _ _ S o484 hb486 hBB
  have hNN : NN N0 u0 N0 u0 := fun b h => ⟨h, rfl⟩
  have hBB : BB σ1.bx.length β0 β0 := fun _ _ => rfl
  refine o4 hW 2 3 7 12 ?_ ?_ ?_ (S.wq hW hNN hBB [] .nil fun _ _ _ S hB => hK471 _ _ _ _ _ S hNN hB)
  ·refine id (S.k1 8 (c_impl_copyMem w h.mem ph.mem (S.rd (RHost.mem (d := h) (S.arg hh)))) fun ac w N q487 F488 S up o489 d490 => ?_)
   have hb491 := fun b h => (⟨(up b (hNN b h).1).1, (up b (hNN b h).1).2.trans (hNN b h).2⟩ : _ ∧ _)
   refine WD.sc S hb491 hBB fun hC => ?_
   clear up d490
   exact S.wh hW [] hC fun _ S => hK432 _ _ q487 F488 _ _ _ S o489 hb491 hBB
  ·refine id (S.bs0 (α := TEntry) (d := 9) (by kernel_rfl) fun ac w N q492 F493 S up o494 d495 => ?_)
   have hb496 := fun b h => (⟨(up b (hNN b h).1).1, (up b (hNN b h).1).2.trans (hNN b h).2, d495 b (hNN b h).1⟩ : _ ∧ _ ∧ _)
   refine WD.sc S (fun b h => ⟨(hb496 b h).1, (hb496 b h).2.1⟩) hBB fun hC => ?_
   clear up d495
   exact S.wh hW [] hC fun _ S => hK445 _ _ q492 F493 _ _ _ S o494 hb496 hBB
  ·refine id (S.bs0 (α := TEntry) (d := 13) (by kernel_rfl) fun ac w N q497 F498 S up o499 d500 => ?_)
   have hb501 := fun b h => (⟨(up b (hNN b h).1).1, (up b (hNN b h).1).2.trans (hNN b h).2, d500 b (hNN b h).1⟩ : _ ∧ _ ∧ _)
   refine WD.sc S (fun b h => ⟨(hb501 b h).1, (hb501 b h).2.1⟩) hBB fun hC => ?_
   clear up d500
   exact S.wh hW [] hC fun _ S => hK458 _ _ q497 F498 _ _ _ S o499 hb501 hBB
 clear S
 rintro ac w ⟨q234, F235, q237, F238, q231, F232, u, N, β, S, o233, o236, o230, d502, d503, d504⟩
 refine id (nt (ws (ws (rg ?_))))
 refine S.qe 4 [] [(19, .v (slv h.mons.length ph.mons.1)), (20, .v (I (h.mons.length : Int))), (21, .v (I 0))] fun ac w β S => ?_
 refine (nt (wp_block ?_))
 have o508 := S.nilOw (α := TMon)
 refine wp_loop_down (fun mm ac w => ∃ (i : Nat) (acc : List TMon) (q505 : _) (F506 : _) (u : _) (N : _) (β : _), mm = h.mons.length - i ∧ (i ≤ h.mons.length) ∧ (acc = h.mons.take i) ∧ St Tryz.prog Tryz.f33.ntmps w0 NoB u N β ⟨[(2, .p 1 0), (3, .p 2 0), (19, .v (slv h.mons.length ph.mons.1)), (20, .v (I (h.mons.length : Int))), (21, .v (I (i : Int)))], [GT.cells h ph, Zc THost, [slv h.mem.length q231.1, slv acc.length q505.1, slv h.buf.length q234.1, slv h.iobuf.length q237.1]]⟩ ac w ∧ Ow w0 NoB u N F506 acc q505 ∧ Ow w0 NoB u N F232 h.mem q231 ∧ Ow w0 NoB u N F235 h.buf q234 ∧ Ow w0 NoB u N F238 h.iobuf q237 ∧ Disj F506 F232 ∧ Disj F506 F235 ∧ Disj F506 F238) _ ⟨0, ([] : List TMon), (GT.pdflt (α := List TMon)), NoB, _, _, _, rfl, o0, (by rfl), S.z, o508, o230, o233, o236, (Disj.symm (fun b _ h => False.elim h)), (Disj.symm (fun b _ h => False.elim h)), (Disj.symm (fun b _ h => False.elim h))⟩ ?_
 clear S o230 o233 o236 o508
 rintro mm ac w ⟨i, acc, q505, F506, u, N, β, rfl, hi, hacc, S, o507, o230, o233, o236, d509, d510, d511⟩
 have hlacc : acc.length = i := by rw [hacc]; simp; omega
 refine ws (rg ?_)
 refine S.qe 1 [] [(22, .v (B (decide ((i : Int) < (h.mons.length : Int)))))] fun ac w β S => ?_
 refine (nt (ws (S.c (decide ((i : Int) < (h.mons.length : Int))) (fun h512 => ?_) (fun h512 => ?_))))
 ·have g513 := of_decide_eq_true h512
  refine wk (nt (ws (wp_block (ws (rg ?_)))))
  refine S.qgm 4 [] [(5, .p 3 0)] (.cons (qn (RHost.mons (d := h) (S.arg hh)) i Tryz.underlying28) (.cons (qs (RHost.mons (d := h) (S.arg hh)) 53 i) .nil)) 4 [(3, GT.cells (el h.mons i) (ph.mons.2 i))] fun ac w β S => ?_
  refine (nt ?_)
  refine S.draw0 (f := 8) 5 rfl rfl fun w S => ?_
  refine S.hq 0 [1, 0] [] [(25, .p 2 1)] .nil fun ac S => ?_
  refine S.hq 1 [1] [] [(26, .v (slv acc.length q505.1))] .nil fun ac S => ?_
  refine S.hq 2 [3, 2] [] [(27, .v (GT.val (el h.mons i) (ph.mons.2 i)))] .nil fun ac S => ?_
  refine WD.one (i := 3) (by kernel_rfl) ?_
  refine id (S.k1 28 (c_impl_copyMon w (el h.mons i) (ph.mons.2 i) (S.rd (LRd.el (RHost.mons (d := h) (S.arg hh)) i (by omega)))) fun ac w N q514 F515 S up o516 d517 => ?_)
  refine WD.next S up (by kernel_rfl) ?_
  have d518 := Disj.w d517 o507.sub
  have d519 := Disj.w d517 o230.sub
  have d520 := Disj.w d517 o233.sub
  have d521 := Disj.w d517 o236.sub
  replace o507 := o507.up up
  replace o230 := o230.up up
  replace o233 := o233.up up
  replace o236 := o236.up up
  clear up d517
  have i537 : In64 (el h.mons i).pend := RMon.pend (d := (el h.mons i)) o516.rn
  have i538 : In64 (el h.mons i).traps := RMon.traps (d := (el h.mons i)) o516.rn
  have i542 : In64 (el h.mons i).owned := RMon.owned (d := (el h.mons i)) o516.rn
  obtain ⟨F522, F525, F528, F531, F534, F539, o523, o526, o529, o532, o535, o540, s524, s527, s530, s533, s536, s541, d543, d544, d545, d546, d547, d548, d549, d550, d551, d552, d553, d554, d555, d556, d557⟩ := sp_Mon o516
  refine WD.one (i := 4) (by kernel_rfl) ?_
  have o562 := ow_Mon (x := (el h.mons i)) (p := q514) o523 o526 o529 o532 o535 o540 d543 d544 d545 d546 d547 d548 d549 d550 d551 d552 d553 d554 d555 d556 d557 i537 i538 i542
  refine id (S.bs1 (α := TMon) (x := (el h.mons i)) (p := q514) o562.own o562.sub o562.young (d := 29) (by kernel_rfl) fun ac w N q558 F559 S up o560 d561 => ?_)
  refine WD.next S up (by kernel_rfl) ?_
  have d563 := d561 _ (Disj.symm (Disj.or (Disj.part (Disj.symm d518) s524) (Disj.or (Disj.part (Disj.symm d518) s527) (Disj.or (Disj.part (Disj.symm d518) s530) (Disj.or (Disj.part (Disj.symm d518) s533) (Disj.or (Disj.part (Disj.symm d518) s536) (Disj.or (Disj.part (Disj.symm d518) s541) Disj.nob))))))) o507.sub
  have d564 := d561 _ (Disj.symm (Disj.or (Disj.part (Disj.symm d519) s524) (Disj.or (Disj.part (Disj.symm d519) s527) (Disj.or (Disj.part (Disj.symm d519) s530) (Disj.or (Disj.part (Disj.symm d519) s533) (Disj.or (Disj.part (Disj.symm d519) s536) (Disj.or (Disj.part (Disj.symm d519) s541) Disj.nob))))))) o230.sub
  have d565 := d561 _ (Disj.symm (Disj.or (Disj.part (Disj.symm d520) s524) (Disj.or (Disj.part (Disj.symm d520) s527) (Disj.or (Disj.part (Disj.symm d520) s530) (Disj.or (Disj.part (Disj.symm d520) s533) (Disj.or (Disj.part (Disj.symm d520) s536) (Disj.or (Disj.part (Disj.symm d520) s541) Disj.nob))))))) o233.sub
  have d566 := d561 _ (Disj.symm (Disj.or (Disj.part (Disj.symm d521) s524) (Disj.or (Disj.part (Disj.symm d521) s527) (Disj.or (Disj.part (Disj.symm d521) s530) (Disj.or (Disj.part (Disj.symm d521) s533) (Disj.or (Disj.part (Disj.symm d521) s536) (Disj.or (Disj.part (Disj.symm d521) s541) Disj.nob))))))) o236.sub
  replace o507 := o507.up up
  replace o230 := o230.up up
  replace o233 := o233.up up
  replace o236 := o236.up up
  clear up d561
  refine WD.one (i := 5) (by kernel_rfl) ?_
  refine id (S.appOwn (α := TMon) o507 o560 d563 (by' := 168) (d := 30) (lx := acc.length) (ly := 1) rfl rfl (by kernel_rfl) (show _ ≤ 4194304 by simp only [List.length_append, List.length_cons, List.length_nil]; omega) fun ac w N q567 F568 S up o569 d570 => ?_)
  refine WD.last (by kernel_rfl) ?_
  have d571 := d570 _ (Disj.symm d509) d564 o230.sub
  have d572 := d570 _ (Disj.symm d510) d565 o233.sub
  have d573 := d570 _ (Disj.symm d511) d566 o236.sub
  replace o230 := o230.upF (Disj.symm d509) up
  replace o233 := o233.upF (Disj.symm d510) up
  replace o236 := o236.upF (Disj.symm d511) up
  clear up d570
  refine WD.one (i := 6) (by kernel_rfl) ?_
  refine S.stepq (i := 6) (keep := [2, 3, 19, 20, 21, 30, 31]) (m := 4) (σ' := ⟨[(2, .p 1 0), (3, .p 2 0), (19, .v (slv h.mons.length ph.mons.1)), (20, .v (I (h.mons.length : Int))), (21, .v (I (i : Int))), (30, .v (slv (acc ++ [(el h.mons i)]).length q567.1)), (31, .p 2 1)], [GT.cells h ph, Zc THost, [slv h.mem.length q231.1, slv acc.length q505.1, slv h.buf.length q234.1, slv h.iobuf.length q237.1], GT.cells (el h.mons i) (ph.mons.2 i)]⟩) .nil (by kernel_rfl) fun ac w β S hβ => ?_
  refine WD.last (by kernel_rfl) ?_
  clear hβ
  refine WD.one (i := 7) (by kernel_rfl) ?_
  refine S.stepq (i := 7) (keep := [2, 3, 19, 20, 21]) (m := 4) (σ' := ⟨[(2, .p 1 0), (3, .p 2 0), (19, .v (slv h.mons.length ph.mons.1)), (20, .v (I (h.mons.length : Int))), (21, .v (I (i : Int)))], [GT.cells h ph, Zc THost, [slv h.mem.length q231.1, slv (acc ++ [(el h.mons i)]).length q567.1, slv h.buf.length q234.1, slv h.iobuf.length q237.1], GT.cells (el h.mons i) (ph.mons.2 i)]⟩) .nil (by kernel_rfl) fun ac w β S hβ => ?_
  refine WD.last (by kernel_rfl) ?_
  clear hβ
  refine WD.done (by kernel_rfl) ?_ _
  replace S := S.wt 3
  refine id (nb (nt (rg ?_)))
  refine S.qg 2 [] [(21, .v (I ((i : Int) + 1)))] (.cons (qp (i : Int) 1) .nil) fun ac w β S => ?_
  refine (nt ?_)
  refine ⟨h.mons.length - (i + 1), by omega, i + 1, (acc ++ [(el h.mons i)]), q567, F568, _, _, _, rfl, ?_, ?_, S.z, o569, o230, o233, o236, (Disj.symm d571), (Disj.symm d572), (Disj.symm d573)⟩
  ·exact oz
  ·clear S; (first | (rw [take_el (by omega), hacc]; done) | (rw [take_el (by omega), hacc]; simp; done))
 have g574 := of_decide_eq_false h512
 refine wp_exit (ex_then (ex_then (ex_hit (nt (ws (rg ?_))))))
 refine S.qem 2 [] [] 2 [(1, [slv h.mem.length q231.1, slv acc.length q505.1, slv h.buf.length q234.1, slv h.iobuf.length q237.1])] fun ac w β S => ?_
 refine (nt (wr (S.r [GT.val (⟨h.mem, acc, h.buf, h.iobuf⟩ : THost) (⟨q231, q505, q234, q237⟩ : PHost)] ?_)))
 have o575 := ow_Host (x := (⟨h.mem, acc, h.buf, h.iobuf⟩ : THost)) (p := (⟨q231, q505, q234, q237⟩ : PHost)) o230 o507 o233 o236 (Disj.symm d509) (Disj.symm d503) (Disj.symm d504) d510 d511 d502 
 exact ret1_of S (show h = (⟨h.mem, acc, h.buf, h.iobuf⟩ : THost) by clear S; (rw [hacc, take_all (by omega)]; first | done | rfl | (simp; done))) rfl o575

theorem k0_impl_BufferOk {p : Prop} (h : p := by clear S; (first | (unfold f_bufferOk; rw [show b.length = i by omega, he]; first | rfl | (simp [*]; done) | (simp; omega) | (rw [Bool.eq_iff_iff]; simp; omega)) | (unfold f_bufferOk; rw [rng_bad (k := i) (by omega) (rng_bad (k := k) (by omega) (by simp_all <;> fail))]; rfl))) : p := h
theorem c_impl_BufferOk (w0 : World) (b : List TEntry) (pb : LP TEntry) (hb : RD w0 b pb) : Calls Tryz.prog 121 [slv b.length pb.1].toArray w0 (fun e w' => e = .returned (B (f_bufferOk b)) ∧ Chg NoB w0 w') := by
 refine Calls.walk NoB Tryz.func121 rfl rfl ?_
 intro ac β S
 have hleb : b.length ≤ 4194304 := LRd.le hb
 refine ws (rg ?_)
 refine S.qe 1 [] [] fun ac w β S => ?_
 refine (nt (ws (ws (rg ?_))))
 refine S.qe 3 [] [(7, .v (slv b.length pb.1)), (8, .v (I (b.length : Int))), (9, .v (I 0))] fun ac w β S => ?_
 refine (nt (wp_block ?_))
 refine wp_loop_down (fun mm ac w => ∃ (i : Nat)  (u : _) (N : _) (β : _), mm = b.length - i ∧ (i ≤ b.length) ∧ ((List.range i).all (fun i => (List.range i).all fun k => !(decide ((el b i).tag = (el b k).tag) && decide ((el b i).page = (el b k).page))) = true) ∧ St Tryz.prog Tryz.f121.ntmps w0 NoB u N β ⟨[(0, .v (slv b.length pb.1)), (7, .v (slv b.length pb.1)), (8, .v (I (b.length : Int))), (9, .v (I (i : Int)))], []⟩ ac w) _ ⟨0, _, _, _, rfl, o0, (by rfl), S.z⟩ ?_
 clear S
 rintro mm ac w ⟨i, u, N, β, rfl, hi, he, S⟩
 refine ws (rg ?_)
 refine S.qe 1 [] [(10, .v (B (decide ((i : Int) < (b.length : Int)))))] fun ac w β S => ?_
 refine (nt (ws (S.c (decide ((i : Int) < (b.length : Int))) (fun h1 => ?_) (fun h1 => ?_))))
 ·have g2 := of_decide_eq_true h1
  refine wk (nt (ws (wp_block (ws (rg ?_)))))
  refine S.qgm 6 [] [(3, .v (I (i : Int))), (4, .p 0 0)] (.cons (qn (S.arg hb) i Tryz.underlying29) (.cons (qs (S.arg hb) 104 i) .nil)) 1 [(0, GT.cells (el b i) ())] fun ac w β S => ?_
  refine (nt (ws (rg ?_)))
  have l3 : (b.take i).length = i - 0 := by first | (simp; done) | (simp; omega)
  refine S.qg 5 [] [(16, .v (slv i (pb.1.sl 0 4))), (17, .v (I (i : Int))), (18, .v (I 0))] (.cons (Q_slice (S.arg hb) (l := b.length) (a := 0) (b := i) rfl (.inl ⟨rfl, rfl⟩) (.inr rfl) (by omega) (by omega) Tryz.underlying29 (by kernel_rfl)) .nil) fun ac w β S => ?_
  refine (nt (wp_block ?_))
  refine wp_loop_down (fun mm ac w => ∃ (k : Nat)  (u : _) (N : _) (β : _), mm = i - k ∧ (k ≤ i) ∧ ((List.range k).all (fun k => !(decide ((el b i).tag = (el b k).tag) && decide ((el b i).page = (el b k).page))) = true) ∧ St Tryz.prog Tryz.f121.ntmps w0 NoB u N β ⟨[(0, .v (slv b.length pb.1)), (4, .p 0 0), (7, .v (slv b.length pb.1)), (8, .v (I (b.length : Int))), (9, .v (I (i : Int))), (16, .v (slv i (pb.1.sl 0 4))), (17, .v (I (i : Int))), (18, .v (I (k : Int)))], [GT.cells (el b i) ()]⟩ ac w) _ ⟨0, _, _, _, rfl, o0, (by rfl), S.z⟩ ?_
  clear S
  rintro mm ac w ⟨k, u, N, β, rfl, hk, he2, S⟩
  have eltk : k < i → el (b.take i) k = el b k := fun h => el_take h
  refine ws (rg ?_)
  refine S.qe 1 [] [(19, .v (B (decide ((k : Int) < (i : Int)))))] fun ac w β S => ?_
  refine (nt (ws (S.c (decide ((k : Int) < (i : Int))) (fun h4 => ?_) (fun h4 => ?_))))
  ·have g5 := of_decide_eq_true h4
   refine wk (nt (ws (wp_block (ws (rg ?_)))))
   refine S.qgm 4 [] [(6, .p 1 0)] (.cons (Q_idx (show GT.rd KK _ _ (b.take i) ((pb.1.sl 0 4, fun i => pb.2 (0 + i)) : LP TEntry) from rd_sl (S.arg hb) (a := 0) (b := i) (by omega) (by omega)) (l := i) (k := k) (i := (k : Int)) (by omega) rfl (by omega) Tryz.underlying29 (by kernel_rfl)) (.cons (qs (show GT.rd KK _ _ (b.take i) ((pb.1.sl 0 4, fun i => pb.2 (0 + i)) : LP TEntry) from rd_sl (S.arg hb) (a := 0) (b := i) (by omega) (by omega)) 104 k) .nil)) 2 [(1, GT.cells (el (b.take i) k) ())] fun ac w β S => ?_
   refine (nt (ws (rg ?_)))
   refine S.qa 6 [] [(27, .v (B ((el b i).tag == (el (b.take i) k).tag)))] fun ac w β S => ?_
   rcases Bool.eq_false_or_eq_true ((el b i).tag == (el (b.take i) k).tag) with h6 | h6 <;> rw [h6] at S
   ·have g7 : (el b i).tag = (el (b.take i) k).tag := eq_of_beq h6
    refine S.qem 6 [27] [(33, .v (B ((el b i).page == (el (b.take i) k).page)))] 1 [] fun ac w β S => ?_
    refine (nt (S.c ((el b i).page == (el (b.take i) k).page) (fun h8 => ?_) (fun h8 => ?_)))
    ·have g9 : (el b i).page = (el (b.take i) k).page := eq_of_beq h8
     refine ws (rg ?_)
     refine S.qe 1 [] [(2, .v (B false))] fun ac w β S => ?_
     exact (nt (wr (rb (rt (rt (rb (rb (rt (rt (rb (rt (S.r [B false] ⟨retB k0_impl_BufferOk, S.chg⟩))))))))))))
    have g10 : ¬ ((el b i).page = (el (b.take i) k).page) := ne_of_beq_false h8
    refine wk (nb (nt (rg ?_)))
    refine S.qg 2 [] [(18, .v (I ((k : Int) + 1)))] (.cons (qp (k : Int) 1) .nil) fun ac w β S => ?_
    refine (nt ?_)
    refine ⟨i - (k + 1), by omega, k + 1, _, _, _, rfl, ?_, ?_, S.z⟩
    ·exact oz
    ·clear S; (refine rng_step he2 ?_; simp_all)
   ·have g11 : ¬ ((el b i).tag = (el (b.take i) k).tag) := ne_of_beq_false h6
    refine S.qem 6 [27] [(33, .v (B false))] 1 [] fun ac w β S => ?_
    refine (nt (S.c false (fun hx => by cases hx) (fun _ => ?_)))
    refine wk (nb (nt (rg ?_)))
    refine S.qg 2 [] [(18, .v (I ((k : Int) + 1)))] (.cons (qp (k : Int) 1) .nil) fun ac w β S => ?_
    refine (nt ?_)
    refine ⟨i - (k + 1), by omega, k + 1, _, _, _, rfl, ?_, ?_, S.z⟩
    ·exact oz
    ·clear S; (refine rng_step he2 ?_; simp_all)
  have g12 := of_decide_eq_false h4
  refine wp_exit (ex_then (ex_then (ex_hit (nb (nt (rg ?_))))))
  refine S.qgm 2 [] [(9, .v (I ((i : Int) + 1)))] (.cons (qp (i : Int) 1) .nil) 0 [] fun ac w β S => ?_
  refine (nt ?_)
  refine ⟨b.length - (i + 1), by omega, i + 1, _, _, _, rfl, ?_, ?_, S.z⟩
  ·exact oz
  ·clear S; (refine rng_step he ?_); (have e : k = i := (by omega)); rw [e] at he2; exact he2
 have g13 := of_decide_eq_false h1
 refine wp_exit (ex_then (ex_then (ex_hit (nt (ws (rg ?_))))))
 refine S.qe 4 [] [(2, .v (B (decide ((b.length : Int) ≤ 6))))] fun ac w β S => ?_
 exact (nt (wr (S.r [B (decide ((b.length : Int) ≤ 6))] ⟨retB k0_impl_BufferOk, S.chg⟩)))

theorem c_impl_RightsOk (w0 : World) (r : Int) : Calls Tryz.prog 136 [I r].toArray w0 (fun e w' => e = .returned (B (f_within r 0 3)) ∧ Chg NoB w0 w') := by
 refine Calls.walk NoB Tryz.func136 rfl rfl ?_
 intro ac β S
 refine ws (rg ?_)
 refine S.qe 1 [] [] fun ac w β S => ?_
 refine (nt (ws (rg ?_)))
 refine S.qg 3 [] [(2, .v (B (f_within r 0 3)))] (.cons (Q_call fun w hw => c_impl_within w r 0 3) .nil) fun ac w β S => ?_
 exact (nt (wr (S.r [B (f_within r 0 3)] ⟨retB (by clear S; first | rfl | (simp [f_within, *]; done) | (simp [f_within, *]; omega) | (simp_all [f_within]; done) | (simp_all [f_within]; omega)), S.chg⟩)))

theorem k0_impl_Enough {p : Prop} (h : p := by clear S; first | rfl | (simp [f_enough, *]; done) | (simp [f_enough, *]; omega) | (simp_all [f_enough]; done) | (simp_all [f_enough]; omega)) : p := h
theorem c_impl_Enough (w0 : World) (rights : Int) (need : Int) : Calls Tryz.prog 96 [I rights, I need].toArray w0 (fun e w' => e = .returned (B (f_enough rights need)) ∧ Chg NoB w0 w') := by
 refine Calls.walk NoB Tryz.func96 rfl rfl ?_
 intro ac β S
 refine ws (rg ?_)
 refine S.qe 1 [] [] fun ac w β S => ?_
 refine (nt (ws (rg ?_)))
 refine S.qb 3 [] [(7, .v (B (f_within rights 0 3)))] (.cons (Q_call fun w hw => c_impl_RightsOk w rights) .nil) fun ac w β S => ?_
 rcases Bool.eq_false_or_eq_true (f_within rights 0 3) with h1 | h1 <;> rw [h1] at S
 ·have g2 := within_t h1
  refine S.qb 4 [7] [(11, .v (B (f_within need 0 3)))] (.cons (Q_call fun w hw => c_impl_RightsOk w need) .nil) fun ac w β S => ?_
  rcases Bool.eq_false_or_eq_true (f_within need 0 3) with h3 | h3 <;> rw [h3] at S
  ·have g4 := within_t h3
   refine S.qg 7 [11] [(4, .v (B ((land64 rights need) == need)))] (.cons (Q_land64 (x := rights) (y := need)) .nil) fun ac w β S => ?_
   exact (nt (wr (S.r [B ((land64 rights need) == need)] ⟨retB k0_impl_Enough, S.chg⟩)))
  ·have g5 := within_f h3
   refine S.qe 7 [11] [(4, .v (B false))] fun ac w β S => ?_
   exact (nt (wr (S.r [B false] ⟨retB k0_impl_Enough, S.chg⟩)))
 ·have g6 := within_f h1
  refine S.qe 11 [7] [(4, .v (B false))] fun ac w β S => ?_
  exact (nt (wr (S.r [B false] ⟨retB k0_impl_Enough, S.chg⟩)))

theorem k0_impl_MonOk {p : Prop} (h : p := by clear S; (symm; rw [← Bool.not_eq_true]; intro hc; simp only [f_monOk, f_monHead, f_monTail, Bool.and_eq_true, decide_eq_true_eq, beq_iff_eq] at hc; first | omega | (simp_all; done) | (simp_all; omega) | (have hx := all_el (k := k) hc.1.2 (by omega); simp_all; done) | (have hx := rng_el (k := j) hc.2 (by omega); unfold f_pageSlot at hx; split at hx <;> first | (simp_all; done) | (simp_all; omega)))) : p := h
theorem c_impl_MonOk (w0 : World) (m : TMon) (pm : PMon) (hm : RD w0 m pm) : Calls Tryz.prog 122 [GT.val m pm].toArray w0 (fun e w' => e = .returned (B (f_monOk m)) ∧ Chg NoB w0 w') := by
 refine Calls.walk NoB Tryz.func122 rfl rfl ?_
 intro ac β S
 have hlem_outer : m.outer.length ≤ 4194304 := LRd.le (RMon.outer (d := m) hm)
 have hlem_out : m.out.length ≤ 4194304 := LRd.le (RMon.out (d := m) hm)
 have hlem_dirty : m.dirty.length ≤ 4194304 := LRd.le (RMon.dirty (d := m) hm)
 have hlem_guests : m.guests.length ≤ 4194304 := LRd.le (RMon.guests (d := m) hm)
 have hlem_outs : m.outs.length ≤ 4194304 := LRd.le (RMon.outs (d := m) hm)
 have hlem_tables : m.tables.length ≤ 4194304 := LRd.le (RMon.tables (d := m) hm)
 refine ws (rg ?_)
 refine S.qem 2 [] [(1, .p 0 0)] 1 [(0, GT.cells m pm)] fun ac w β S => ?_
 refine (nt (ws (ws (rg ?_))))
 refine S.qb 6 [] [(12, .v (B (!(f_within (m.guests.length : Int) 1 2))))] (.cons (Q_call fun w hw => c_impl_within w (m.guests.length : Int) 1 2) .nil) fun ac w β S => ?_
 rcases Bool.eq_false_or_eq_true (!(f_within (m.guests.length : Int) 1 2)) with h1 | h1 <;> rw [h1] at S
 ·have h2 := not_t h1
  have g3 := within_f h2
  refine S.qe 50 [12] [(62, .v (B true))] fun ac w β S => ?_
  refine (nt (S.c true (fun _ => ?_) (fun hx => by cases hx)))
  refine ws (rg ?_)
  refine S.qe 1 [] [(2, .v (B false))] fun ac w β S => ?_
  exact (nt (wr (rt (S.r [B false] ⟨retB k0_impl_MonOk, S.chg⟩))))
 ·have h4 := not_f h1
  have g5 := within_t h4
  refine S.qa 9 [12] [(21, .v (B ((m.tables.length : Int) != (m.guests.length : Int))))] fun ac w β S => ?_
  rcases Bool.eq_false_or_eq_true ((m.tables.length : Int) != (m.guests.length : Int)) with h6 | h6 <;> rw [h6] at S
  ·have g7 : ¬ ((m.tables.length : Int) = (m.guests.length : Int)) := bne_iff_ne.1 h6
   refine S.qe 41 [21] [(62, .v (B true))] fun ac w β S => ?_
   refine (nt (S.c true (fun _ => ?_) (fun hx => by cases hx)))
   refine ws (rg ?_)
   refine S.qe 1 [] [(2, .v (B false))] fun ac w β S => ?_
   exact (nt (wr (rt (S.r [B false] ⟨retB k0_impl_MonOk, S.chg⟩))))
  ·have g8 : (m.tables.length : Int) = (m.guests.length : Int) := ne_f h6
   refine S.qb 6 [21] [(27, .v (B (!(f_tableOk m.outer 8 12))))] (.cons (Q_call fun w hw => c_impl_TableOk w m.outer pm.outer (rd_of (RMon.outer (d := m) (S.arg hm)) hw) 8 12 (by omega) (by omega)) .nil) fun ac w β S => ?_
   rcases Bool.eq_false_or_eq_true (!(f_tableOk m.outer 8 12)) with h9 | h9 <;> rw [h9] at S
   ·have h10 := not_t h9
    refine S.qe 35 [27] [(62, .v (B true))] fun ac w β S => ?_
    refine (nt (S.c true (fun _ => ?_) (fun hx => by cases hx)))
    refine ws (rg ?_)
    refine S.qe 1 [] [(2, .v (B false))] fun ac w β S => ?_
    exact (nt (wr (rt (S.r [B false] ⟨retB k0_impl_MonOk, S.chg⟩))))
   ·have h11 := not_f h9
    have g12 := tableOk_t h11
    refine S.qa 6 [27] [(33, .v (B ((m.out.length : Int) != 8)))] fun ac w β S => ?_
    rcases Bool.eq_false_or_eq_true ((m.out.length : Int) != 8) with h13 | h13 <;> rw [h13] at S
    ·have g14 : ¬ ((m.out.length : Int) = 8) := bne_iff_ne.1 h13
     refine S.qe 29 [33] [(62, .v (B true))] fun ac w β S => ?_
     refine (nt (S.c true (fun _ => ?_) (fun hx => by cases hx)))
     refine ws (rg ?_)
     refine S.qe 1 [] [(2, .v (B false))] fun ac w β S => ?_
     exact (nt (wr (rt (S.r [B false] ⟨retB k0_impl_MonOk, S.chg⟩))))
    ·have g15 : (m.out.length : Int) = 8 := ne_f h13
     refine S.qa 6 [33] [(39, .v (B ((m.dirty.length : Int) != 8)))] fun ac w β S => ?_
     rcases Bool.eq_false_or_eq_true ((m.dirty.length : Int) != 8) with h16 | h16 <;> rw [h16] at S
     ·have g17 : ¬ ((m.dirty.length : Int) = 8) := bne_iff_ne.1 h16
      refine S.qe 23 [39] [(62, .v (B true))] fun ac w β S => ?_
      refine (nt (S.c true (fun _ => ?_) (fun hx => by cases hx)))
      refine ws (rg ?_)
      refine S.qe 1 [] [(2, .v (B false))] fun ac w β S => ?_
      exact (nt (wr (rt (S.r [B false] ⟨retB k0_impl_MonOk, S.chg⟩))))
     ·have g18 : (m.dirty.length : Int) = 8 := ne_f h16
      refine S.qa 6 [39] [(45, .v (B (decide ((m.outs.length : Int) > 40))))] fun ac w β S => ?_
      rcases Bool.eq_false_or_eq_true (decide ((m.outs.length : Int) > 40)) with h19 | h19 <;> rw [h19] at S
      ·have g20 := of_decide_eq_true h19
       refine S.qe 17 [45] [(62, .v (B true))] fun ac w β S => ?_
       refine (nt (S.c true (fun _ => ?_) (fun hx => by cases hx)))
       refine ws (rg ?_)
       refine S.qe 1 [] [(2, .v (B false))] fun ac w β S => ?_
       exact (nt (wr (rt (S.r [B false] ⟨retB k0_impl_MonOk, S.chg⟩))))
      ·have g21 := of_decide_eq_false h19
       refine S.qb 6 [45] [(51, .v (B (!(f_within m.pend 0 255))))] (.cons (Q_call fun w hw => c_impl_PendOk w m.pend) .nil) fun ac w β S => ?_
       rcases Bool.eq_false_or_eq_true (!(f_within m.pend 0 255)) with h22 | h22 <;> rw [h22] at S
       ·have h23 := not_t h22
        have g24 := within_f h23
        refine S.qe 11 [51] [(62, .v (B true))] fun ac w β S => ?_
        refine (nt (S.c true (fun _ => ?_) (fun hx => by cases hx)))
        refine ws (rg ?_)
        refine S.qe 1 [] [(2, .v (B false))] fun ac w β S => ?_
        exact (nt (wr (rt (S.r [B false] ⟨retB k0_impl_MonOk, S.chg⟩))))
       ·have h25 := not_f h22
        have g26 := within_t h25
        refine S.qb 6 [51] [(57, .v (B (!(f_within m.traps 0 3))))] (.cons (Q_call fun w hw => c_impl_within w m.traps 0 3) .nil) fun ac w β S => ?_
        rcases Bool.eq_false_or_eq_true (!(f_within m.traps 0 3)) with h27 | h27 <;> rw [h27] at S
        ·have h28 := not_t h27
         have g29 := within_f h28
         refine S.qe 5 [57] [(62, .v (B true))] fun ac w β S => ?_
         refine (nt (S.c true (fun _ => ?_) (fun hx => by cases hx)))
         refine ws (rg ?_)
         refine S.qe 1 [] [(2, .v (B false))] fun ac w β S => ?_
         exact (nt (wr (rt (S.r [B false] ⟨retB k0_impl_MonOk, S.chg⟩))))
        ·have h30 := not_f h27
         have g31 := within_t h30
         refine S.qg 5 [57] [(62, .v (B (!(f_within m.owned 0 1000000000))))] (.cons (Q_call fun w hw => c_impl_within w m.owned 0 1000000000) .nil) fun ac w β S => ?_
         refine (nt (S.c (!(f_within m.owned 0 1000000000)) (fun h32 => ?_) (fun h32 => ?_)))
         ·have h33 := not_t h32
          have g34 := within_f h33
          refine ws (rg ?_)
          refine S.qe 1 [] [(2, .v (B false))] fun ac w β S => ?_
          exact (nt (wr (rt (S.r [B false] ⟨retB k0_impl_MonOk, S.chg⟩))))
         have h35 := not_f h32
         have g36 := within_t h35
         refine wk (nt (ws (ws (rg ?_))))
         refine S.qe 4 [] [(64, .v (slv m.guests.length pm.guests.1)), (65, .v (I (m.guests.length : Int))), (66, .v (I 0))] fun ac w β S => ?_
         refine (nt (wp_block ?_))
         refine wp_loop_down (fun mm ac w => ∃ (k : Nat)  (u : _) (N : _) (β : _), mm = m.guests.length - k ∧ (k ≤ m.guests.length) ∧ ((m.guests.take k).all f_guestOk = true) ∧ St Tryz.prog Tryz.f122.ntmps w0 NoB u N β ⟨[(1, .p 0 0), (64, .v (slv m.guests.length pm.guests.1)), (65, .v (I (m.guests.length : Int))), (66, .v (I (k : Int)))], [GT.cells m pm]⟩ ac w) _ ⟨0, _, _, _, rfl, o0, (by simp), S.z⟩ ?_
         clear S
         rintro mm ac w ⟨k, u, N, β, rfl, hk, he, S⟩
         refine ws (rg ?_)
         refine S.qe 1 [] [(67, .v (B (decide ((k : Int) < (m.guests.length : Int)))))] fun ac w β S => ?_
         refine (nt (ws (S.c (decide ((k : Int) < (m.guests.length : Int))) (fun h37 => ?_) (fun h37 => ?_))))
         ·have g38 := of_decide_eq_true h37
          refine wk (nt (ws (wp_block (ws (rg ?_)))))
          refine S.qgm 4 [] [(4, .p 1 0)] (.cons (qn (RMon.guests (d := m) (S.arg hm)) k Tryz.underlying49) (.cons (qs (RMon.guests (d := m) (S.arg hm)) 99 k) .nil)) 2 [(1, GT.cells (el m.guests k) (pm.guests.2 k))] fun ac w β S => ?_
          refine (nt (ws (rg ?_)))
          refine S.qgm 3 [] [(72, .v (B (!(f_guestOk (el m.guests k)))))] (.cons (Q_call fun w hw => c_impl_GuestOk w (el m.guests k) (pm.guests.2 k) (rd_of (LRd.el (RMon.guests (d := m) (S.arg hm)) k (by omega)) hw)) .nil) 1 [] fun ac w β S => ?_
          refine (nt (S.c (!(f_guestOk (el m.guests k))) (fun h39 => ?_) (fun h39 => ?_)))
          ·have h40 := not_t h39
           refine ws (rg ?_)
           refine S.qe 1 [] [(2, .v (B false))] fun ac w β S => ?_
           exact (nt (wr (rb (rt (rt (rb (rt (S.r [B false] ⟨retB k0_impl_MonOk, S.chg⟩))))))))
          have h41 := not_f h39
          refine wk (nb (nt (rg ?_)))
          refine S.qg 2 [] [(66, .v (I ((k : Int) + 1)))] (.cons (qp (k : Int) 1) .nil) fun ac w β S => ?_
          refine (nt ?_)
          refine ⟨m.guests.length - (k + 1), by omega, k + 1, _, _, _, rfl, ?_, ?_, S.z⟩
          ·exact oz
          ·clear S; exact all_step (by omega) he (by first | assumption | (simp only [f_slotOk, f_within] at *; simp_all; done) | (simp_all; done) | (simp_all; omega))
         have g42 := of_decide_eq_false h37
         refine wp_exit (ex_then (ex_then (ex_hit (nt (ws (ws (rg ?_)))))))
         refine S.qe 4 [] [(75, .v (slv m.outer.length pm.outer.1)), (76, .v (I (m.outer.length : Int))), (77, .v (I 0))] fun ac w β S => ?_
         refine (nt (wp_block ?_))
         refine wp_loop_down (fun mm ac w => ∃ (j : Nat)  (u : _) (N : _) (β : _), mm = m.outer.length - j ∧ (j ≤ m.outer.length) ∧ ((List.range j).all (f_pageSlot m) = true) ∧ St Tryz.prog Tryz.f122.ntmps w0 NoB u N β ⟨[(1, .p 0 0), (75, .v (slv m.outer.length pm.outer.1)), (76, .v (I (m.outer.length : Int))), (77, .v (I (j : Int)))], [GT.cells m pm]⟩ ac w) _ ⟨0, _, _, _, rfl, o0, (by rfl), S.z⟩ ?_
         clear S
         rintro mm ac w ⟨j, u, N, β, rfl, hj, hp, S⟩
         have hlo : m.outer.length = 8 := by omega
         have hlu : m.out.length = 8 := by omega
         refine ws (rg ?_)
         refine S.qe 1 [] [(78, .v (B (decide ((j : Int) < (m.outer.length : Int)))))] fun ac w β S => ?_
         refine (nt (ws (S.c (decide ((j : Int) < (m.outer.length : Int))) (fun h43 => ?_) (fun h43 => ?_))))
         ·have g44 := of_decide_eq_true h43
          refine wk (nt (ws (wp_block (ws (rg ?_)))))
          refine S.qgm 6 [] [(5, .v (I (j : Int))), (6, .p 1 0)] (.cons (qn (RMon.outer (d := m) (S.arg hm)) j Tryz.underlying47) (.cons (qs (RMon.outer (d := m) (S.arg hm)) 55 j) .nil)) 2 [(1, GT.cells (el m.outer j) ())] fun ac w β S => ?_
          refine (nt (ws ?_))
          refine S.drawn (keep := [1, 5, 6, 75, 76, 77, 84]) (m := 2) (σ' := ⟨[(1, .p 0 0), (5, .v (I (j : Int))), (6, .p 1 0), (75, .v (slv m.outer.length pm.outer.1)), (76, .v (I (m.outer.length : Int))), (77, .v (I (j : Int))), (84, .v (B (decide ((el m.outer j) = (⟨-1, 0⟩ : TSlot)))))], [GT.cells m pm, GT.cells (el m.outer j) ()]⟩) (.cons (Q_call fun w hw => c_impl_NoSlot w ) (.cons (Eq_eq_Slot (t := 55) (el m.outer j) (⟨-1, 0⟩ : TSlot) (by kernel_rfl)) .nil)) rfl (by kernel_rfl) (by kernel_rfl) fun ac w S => ?_
          refine id (nt (S.c (decide ((el m.outer j) = (⟨-1, 0⟩ : TSlot))) (fun h45 => ?_) (fun h45 => ?_)))
          ·refine ws (rg ?_)
           refine S.qgm 7 [] [(91, .v (B (!(f_pageOk (el m.out j)))))] (.cons (qn (RMon.out (d := m) (S.arg hm)) j Tryz.underlying22) (.cons (qx (RMon.out (d := m) (S.arg hm)) 50 j) (.cons (Q_call fun w hw => c_impl_PageOk w (el m.out j) (pm.out.2 j) (rd_of (LRd.el (RMon.out (d := m) (S.arg hm)) j (by omega)) hw)) .nil))) 1 [] fun ac w β S => ?_
           refine (nt (S.c (!(f_pageOk (el m.out j))) (fun h46 => ?_) (fun h46 => ?_)))
           ·have h47 := not_t h46
            refine ws (rg ?_)
            refine S.qe 1 [] [(2, .v (B false))] fun ac w β S => ?_
            exact (nt (wr (rb (rt (rt (rb (rt (S.r [B false] ⟨retB k0_impl_MonOk, S.chg⟩))))))))
           have h48 := not_f h46
           refine wk (nb (nt (rg ?_)))
           refine S.qg 2 [] [(77, .v (I ((j : Int) + 1)))] (.cons (qp (j : Int) 1) .nil) fun ac w β S => ?_
           refine (nt ?_)
           refine ⟨m.outer.length - (j + 1), by omega, j + 1, _, _, _, rfl, ?_, ?_, S.z⟩
           ·exact oz
           ·clear S; (refine rng_step hp ?_; unfold f_pageSlot; (repeat' split) <;> first | (exfalso; simp_all; done) | (simp_all; done) | (simp_all; omega))
          refine ws (rg ?_)
          refine S.qbm 5 [] [(96, .v (B (!(f_enough (el m.outer j).rights 1))))] (.cons (Q_call fun w hw => c_impl_Enough w (el m.outer j).rights 1) .nil) 1 [] fun ac w β S => ?_
          rcases Bool.eq_false_or_eq_true (!(f_enough (el m.outer j).rights 1)) with h49 | h49 <;> rw [h49] at S
          ·have h50 := not_t h49
           refine S.qe 8 [96] [(104, .v (B true))] fun ac w β S => ?_
           refine (nt (S.c true (fun _ => ?_) (fun hx => by cases hx)))
           refine ws (rg ?_)
           refine S.qe 1 [] [(2, .v (B false))] fun ac w β S => ?_
           exact (nt (wr (rb (rt (rt (rb (rt (S.r [B false] ⟨retB k0_impl_MonOk, S.chg⟩))))))))
          ·have h51 := not_f h49
           have g52 := enough_t h51
           have b53 : (el m.out j).length ≤ 4194304 := LRd.le (LRd.el (RMon.out (d := m) (S.arg hm)) j (by omega))
           refine S.qg 8 [96] [(104, .v (B (decide (((el m.out j).length : Int) > 0))))] (.cons (qn (RMon.out (d := m) (S.arg hm)) j Tryz.underlying22) (.cons (qx (RMon.out (d := m) (S.arg hm)) 50 j) .nil)) fun ac w β S => ?_
           refine (nt (S.c (decide (((el m.out j).length : Int) > 0)) (fun h54 => ?_) (fun h54 => ?_)))
           ·have g55 := of_decide_eq_true h54
            refine ws (rg ?_)
            refine S.qe 1 [] [(2, .v (B false))] fun ac w β S => ?_
            exact (nt (wr (rb (rt (rt (rb (rt (S.r [B false] ⟨retB k0_impl_MonOk, S.chg⟩))))))))
           have g56 := of_decide_eq_false h54
           refine wk (nb (nt (rg ?_)))
           refine S.qg 2 [] [(77, .v (I ((j : Int) + 1)))] (.cons (qp (j : Int) 1) .nil) fun ac w β S => ?_
           refine (nt ?_)
           refine ⟨m.outer.length - (j + 1), by omega, j + 1, _, _, _, rfl, ?_, ?_, S.z⟩
           ·exact oz
           ·clear S; (refine rng_step hp ?_; unfold f_pageSlot; (repeat' split) <;> first | (exfalso; simp_all; done) | (simp_all; done) | (simp_all; omega))
         have g57 := of_decide_eq_false h43
         refine wp_exit (ex_then (ex_then (ex_hit (nt (ws (rg ?_))))))
         refine S.qe 1 [] [(2, .v (B true))] fun ac w β S => ?_
         exact (nt (wr (S.r [B true] ⟨retB (by clear S; (first | rfl | (symm; simp only [f_monOk, f_monHead, f_monTail, Bool.and_eq_true, decide_eq_true_eq, beq_iff_eq]; (repeat' apply And.intro); all_goals first | assumption | omega | (simp_all; done) | (simp_all; omega) | (exact all_end (by omega) he) | ((have e8 : j = 8 := (by omega)); subst e8; exact hp)))), S.chg⟩)))

theorem k0_impl_HostOk {p : Prop} (h : p := by clear S; (first | (symm; rw [← Bool.not_eq_true]; intro hc; simp only [f_hostOk, f_hostHead, Bool.and_eq_true] at hc; (first | (simp_all; done) | (simp_all; omega))) | (rw [hostOk_dead (fold_dead (k := i) (by omega) stepMon_none hu (stepMon_bad (by assumption)))]) | (rw [hostOk_dead (fold_dead (k := i) (by omega) stepMon_none hu ((stepMon_ok hmok).trans (fold_dead (k := k) (by omega) stepSlot_none hu2 (stepSlot_hit (by omega) (by assumption)))))]) | (unfold f_hostOk f_hostUsed f_hostHead; rw [take_all (by omega)] at hu; rw [hu]; simp_all; done))) : p := h
theorem c_impl_HostOk (w0 : World) (h : THost) (ph : PHost) (hh : RD w0 h ph) : Calls Tryz.prog 70 [GT.val h ph].toArray w0 (fun e w' => e = .returned (B (f_hostOk h)) ∧ Chg NoB w0 w') := by
 refine Calls.walk NoB Tryz.func70 rfl rfl ?_
 intro ac β S
 have hleh_mem : h.mem.length ≤ 4194304 := LRd.le (RHost.mem (d := h) hh)
 have hleh_mons : h.mons.length ≤ 4194304 := LRd.le (RHost.mons (d := h) hh)
 have hleh_buf : h.buf.length ≤ 4194304 := LRd.le (RHost.buf (d := h) hh)
 have hleh_iobuf : h.iobuf.length ≤ 4194304 := LRd.le (RHost.iobuf (d := h) hh)
 refine ws (rg ?_)
 refine S.qem 2 [] [(1, .p 0 0)] 1 [(0, GT.cells h ph)] fun ac w β S => ?_
 refine (nt (ws (ws (rg ?_))))
 refine S.qb 5 [] [(12, .v (B (!(f_memOk h.mem 12))))] (.cons (Q_call fun w hw => c_impl_MemOk w h.mem ph.mem (rd_of (RHost.mem (d := h) (S.arg hh)) hw) 12) .nil) fun ac w β S => ?_
 rcases Bool.eq_false_or_eq_true (!(f_memOk h.mem 12)) with h1 | h1 <;> rw [h1] at S
 ·have h2 := not_t h1
  refine S.qe 18 [12] [(30, .v (B true))] fun ac w β S => ?_
  refine (nt (S.c true (fun _ => ?_) (fun hx => by cases hx)))
  refine ws (rg ?_)
  refine S.qe 1 [] [(2, .v (B false))] fun ac w β S => ?_
  exact (nt (wr (rt (S.r [B false] ⟨retB k0_impl_HostOk, S.chg⟩))))
 ·have h3 := not_f h1
  refine S.qb 7 [12] [(19, .v (B (!(f_within (h.mons.length : Int) 1 3))))] (.cons (Q_call fun w hw => c_impl_within w (h.mons.length : Int) 1 3) .nil) fun ac w β S => ?_
  rcases Bool.eq_false_or_eq_true (!(f_within (h.mons.length : Int) 1 3)) with h4 | h4 <;> rw [h4] at S
  ·have h5 := not_t h4
   have g6 := within_f h5
   refine S.qe 11 [19] [(30, .v (B true))] fun ac w β S => ?_
   refine (nt (S.c true (fun _ => ?_) (fun hx => by cases hx)))
   refine ws (rg ?_)
   refine S.qe 1 [] [(2, .v (B false))] fun ac w β S => ?_
   exact (nt (wr (rt (S.r [B false] ⟨retB k0_impl_HostOk, S.chg⟩))))
  ·have h7 := not_f h4
   have g8 := within_t h7
   refine S.qb 6 [19] [(25, .v (B (!(f_bufferOk h.buf))))] (.cons (Q_call fun w hw => c_impl_BufferOk w h.buf ph.buf (rd_of (RHost.buf (d := h) (S.arg hh)) hw)) .nil) fun ac w β S => ?_
   rcases Bool.eq_false_or_eq_true (!(f_bufferOk h.buf)) with h9 | h9 <;> rw [h9] at S
   ·have h10 := not_t h9
    refine S.qe 5 [25] [(30, .v (B true))] fun ac w β S => ?_
    refine (nt (S.c true (fun _ => ?_) (fun hx => by cases hx)))
    refine ws (rg ?_)
    refine S.qe 1 [] [(2, .v (B false))] fun ac w β S => ?_
    exact (nt (wr (rt (S.r [B false] ⟨retB k0_impl_HostOk, S.chg⟩))))
   ·have h11 := not_f h9
    refine S.qg 5 [25] [(30, .v (B (!(f_bufferOk h.iobuf))))] (.cons (Q_call fun w hw => c_impl_BufferOk w h.iobuf ph.iobuf (rd_of (RHost.iobuf (d := h) (S.arg hh)) hw)) .nil) fun ac w β S => ?_
    refine (nt (S.c (!(f_bufferOk h.iobuf)) (fun h12 => ?_) (fun h12 => ?_)))
    ·have h13 := not_t h12
     refine ws (rg ?_)
     refine S.qe 1 [] [(2, .v (B false))] fun ac w β S => ?_
     exact (nt (wr (rt (S.r [B false] ⟨retB k0_impl_HostOk, S.chg⟩))))
    have h14 := not_f h12
    refine wk (nt (ws (rg ?_)))
    refine RG.op rfl (S.make (α := Bool) (m := 12) (by' := 1) (d := 31) (by kernel_rfl) (by omega) (show 12 ≤ 4194304 by omega) fun ac w N q15 F16 S up o17 d18 => ?_)
    clear up d18
    refine S.qe 1 [] [(3, .v (slv 12 q15.1))] fun ac w β S => ?_
    refine (nt (ws (ws (rg ?_))))
    refine S.qem 4 [] [(33, .v (slv h.mons.length ph.mons.1)), (34, .v (I (h.mons.length : Int))), (35, .v (I 0))] 0 [] fun ac w β S => ?_
    refine (nt (wp_block ?_))
    refine wp_loop_down (fun mm ac w => ∃ (i : Nat) (us : List Bool) (q19 : _) (F20 : _) (u : _) (N : _) (β : _), mm = h.mons.length - i ∧ (i ≤ h.mons.length) ∧ ((h.mons.take i).foldl stepMon (some (List.replicate 12 false)) = some us) ∧ (us.length = 12) ∧ St Tryz.prog Tryz.f70.ntmps w0 NoB u N β ⟨[(3, .v (slv 12 q19.1)), (33, .v (slv h.mons.length ph.mons.1)), (34, .v (I (h.mons.length : Int))), (35, .v (I (i : Int)))], []⟩ ac w ∧ Ow w0 NoB u N F20 us q19) _ ⟨0, (List.replicate 12 (GT.dflt : Bool)), q15, F16, _, _, _, rfl, o0, (by rfl), (by rfl), S.z, o17⟩ ?_
    clear S o17
    rintro mm ac w ⟨i, us, q19, F20, u, N, β, rfl, hi, hu, hul, S, o21⟩
    refine ws (rg ?_)
    refine S.qe 1 [] [(36, .v (B (decide ((i : Int) < (h.mons.length : Int)))))] fun ac w β S => ?_
    refine (nt (ws (S.c (decide ((i : Int) < (h.mons.length : Int))) (fun h22 => ?_) (fun h22 => ?_))))
    ·have g23 := of_decide_eq_true h22
     refine wk (nt (ws (wp_block (ws (rg ?_)))))
     refine S.qgm 4 [] [(5, .p 0 0)] (.cons (qn (RHost.mons (d := h) (S.arg hh)) i Tryz.underlying28) (.cons (qs (RHost.mons (d := h) (S.arg hh)) 53 i) .nil)) 1 [(0, GT.cells (el h.mons i) (ph.mons.2 i))] fun ac w β S => ?_
     refine (nt (ws (ws (rg ?_))))
     refine S.qg 3 [] [(41, .v (B (!(f_monOk (el h.mons i)))))] (.cons (Q_call fun w hw => c_impl_MonOk w (el h.mons i) (ph.mons.2 i) (rd_of (LRd.el (RHost.mons (d := h) (S.arg hh)) i (by omega)) hw)) .nil) fun ac w β S => ?_
     refine (nt (S.c (!(f_monOk (el h.mons i))) (fun h24 => ?_) (fun h24 => ?_)))
     ·have h25 := not_t h24
      refine ws (rg ?_)
      refine S.qe 1 [] [(2, .v (B false))] fun ac w β S => ?_
      exact (nt (wr (rt (rb (rt (rt (rb (rt (S.r [B false] ⟨retB k0_impl_HostOk, S.chg⟩)))))))))
     have h26 := not_f h24
     have g27 := monOk_t h26
     refine wk (nt (ws (rg ?_)))
     have b28 : (el h.mons i).outer.length ≤ 4194304 := LRd.le (RMon.outer (d := (el h.mons i)) (LRd.el (RHost.mons (d := h) (S.arg hh)) i (by omega)))
     refine S.qem 4 [] [(43, .v (slv (el h.mons i).outer.length (ph.mons.2 i).outer.1)), (44, .v (I ((el h.mons i).outer.length : Int))), (45, .v (I 0))] 0 [] fun ac w β S => ?_
     refine (nt (wp_block ?_))
     refine wp_loop_down (fun mm ac w => ∃ (k : Nat) (us2 : List Bool) (q29 : _) (F30 : _) (u : _) (N : _) (β : _), mm = (el h.mons i).outer.length - k ∧ (k ≤ (el h.mons i).outer.length) ∧ (((el h.mons i).outer.take k).foldl stepSlot (some us) = some us2) ∧ (us2.length = 12) ∧ St Tryz.prog Tryz.f70.ntmps w0 NoB u N β ⟨[(3, .v (slv 12 q29.1)), (33, .v (slv h.mons.length ph.mons.1)), (34, .v (I (h.mons.length : Int))), (35, .v (I (i : Int))), (43, .v (slv (el h.mons i).outer.length (ph.mons.2 i).outer.1)), (44, .v (I ((el h.mons i).outer.length : Int))), (45, .v (I (k : Int)))], []⟩ ac w ∧ Ow w0 NoB u N F30 us2 q29) _ ⟨0, us, q19, F20, _, _, _, rfl, o0, (by rfl), (by omega), S.z, o21⟩ ?_
     clear S o21
     rintro mm ac w ⟨k, us2, q29, F30, u, N, β, rfl, hk, hu2, hul2, S, o31⟩
     have hmok : f_monOk (el h.mons i) = true := by assumption
     have hpg := page_lt hmok k
     have hol := (monOk_t hmok).1
     refine ws (rg ?_)
     refine S.qe 1 [] [(46, .v (B (decide ((k : Int) < ((el h.mons i).outer.length : Int)))))] fun ac w β S => ?_
     refine (nt (ws (S.c (decide ((k : Int) < ((el h.mons i).outer.length : Int))) (fun h32 => ?_) (fun h32 => ?_))))
     ·have g33 := of_decide_eq_true h32
      refine wk (nt (ws (wp_block (ws (rg ?_)))))
      refine S.qgm 4 [] [(7, .p 0 0)] (.cons (qn (RMon.outer (d := (el h.mons i)) (LRd.el (RHost.mons (d := h) (S.arg hh)) i (by omega))) k Tryz.underlying47) (.cons (qs (RMon.outer (d := (el h.mons i)) (LRd.el (RHost.mons (d := h) (S.arg hh)) i (by omega))) 55 k) .nil)) 1 [(0, GT.cells (el (el h.mons i).outer k) ())] fun ac w β S => ?_
      refine (nt (ws (ws (rg ?_))))
      refine S.qe 3 [] [(51, .v (B (decide ((el (el h.mons i).outer k).page < 0))))] fun ac w β S => ?_
      refine (nt (S.c (decide ((el (el h.mons i).outer k).page < 0)) (fun h34 => ?_) (fun h34 => ?_)))
      ·have g35 := of_decide_eq_true h34
       refine wp_exit (ex_then (ex_hit (nt (rg ?_))))
       refine S.qgm 2 [] [(45, .v (I ((k : Int) + 1)))] (.cons (qp (k : Int) 1) .nil) 0 [] fun ac w β S => ?_
       refine (nt ?_)
       refine ⟨(el h.mons i).outer.length - (k + 1), by omega, k + 1, us2, q29, F30, _, _, _, rfl, ?_, ?_, ?_, S.z, o31⟩
       ·exact oz
       ·clear S; (rw [fold_step (by omega), hu2]; first | exact stepSlot_neg (by omega) | exact stepSlot_new (by omega) (by assumption) | exact stepSlot_new (by omega) (by simp_all))
       ·clear S; (first | omega | (simp; omega))
      have g36 := of_decide_eq_false h34
      refine wk (nt (ws (ws (rg ?_))))
      refine S.qg 5 [] [(56, .v (B (el us2 (el (el h.mons i).outer k).page.toNat)))] (.cons (Q_idx o31.rn (l := 12) (k := (el (el h.mons i).outer k).page.toNat) (i := (el (el h.mons i).outer k).page) (by omega) (by omega) (by omega) Tryz.underlying48 (by kernel_rfl)) (.cons (qx o31.rn 4 ((el (el h.mons i).outer k).page.toNat)) .nil)) fun ac w β S => ?_
      refine (nt (S.c (el us2 (el (el h.mons i).outer k).page.toNat) (fun h37 => ?_) (fun h37 => ?_)))
      ·refine ws (rg ?_)
       refine S.qe 1 [] [(2, .v (B false))] fun ac w β S => ?_
       exact (nt (wr (rt (rb (rt (rt (rb (rb (rt (rt (rb (rt (S.r [B false] ⟨retB k0_impl_HostOk, S.chg⟩)))))))))))))
      refine wk (nt (rg ?_))
      refine S.qbm 4 [] [(60, .v (pt q29.1.b (q29.1.off + (el (el h.mons i).outer k).page.toNat * 1)))] (.cons (Q_idx o31.rn (l := 12) (k := (el (el h.mons i).outer k).page.toNat) (i := (el (el h.mons i).outer k).page) (by omega) (by omega) (by omega) Tryz.underlying48 (by kernel_rfl)) .nil) 0 [] fun ac w β S => ?_
      refine RG.op rfl (S.sF (α := Bool) o31 (t := 4) (k := (el (el h.mons i).outer k).page.toNat) (j := 0) (off := q29.1.off + (el (el h.mons i).outer k).page.toNat * 1) (v := B true) (y := true) (q := ()) (fun _ _ _ => ⟨NoB, trivial, fun _ h => False.elim h⟩) fun w N F39 q40 S up o38 d41 s42 n43 => ?_)
      clear up d41 o31 n43
      have l44 : (us2.set (el (el h.mons i).outer k).page.toNat true).length = us2.length := List.length_set
      refine rd (nb (nt (rg ?_)))
      refine S.qg 2 [] [(45, .v (I ((k : Int) + 1)))] (.cons (qp (k : Int) 1) .nil) fun ac w β S => ?_
      refine (nt ?_)
      refine ⟨(el h.mons i).outer.length - (k + 1), by omega, k + 1, (us2.set (el (el h.mons i).outer k).page.toNat true), (q29.1, q40), F39, _, _, _, rfl, ?_, ?_, ?_, S.z, o38⟩
      ·exact oz
      ·clear S; (rw [fold_step (by omega), hu2]; first | exact stepSlot_neg (by omega) | exact stepSlot_new (by omega) (by assumption) | exact stepSlot_new (by omega) (by simp_all))
      ·clear S; (first | omega | (simp; omega))
     have g45 := of_decide_eq_false h32
     refine wp_exit (ex_then (ex_then (ex_hit (nb (nt (rg ?_))))))
     refine S.qg 2 [] [(35, .v (I ((i : Int) + 1)))] (.cons (qp (i : Int) 1) .nil) fun ac w β S => ?_
     refine (nt ?_)
     refine ⟨h.mons.length - (i + 1), by omega, i + 1, us2, q29, F30, _, _, _, rfl, ?_, ?_, ?_, S.z, o31⟩
     ·exact oz
     ·clear S; (rw [fold_step (by omega), hu, stepMon_ok (by assumption)]; rw [take_all (by omega)] at hu2; exact hu2)
     ·clear S; omega
    have g46 := of_decide_eq_false h22
    refine wp_exit (ex_then (ex_then (ex_hit (nt (ws (rg ?_))))))
    refine S.qe 1 [] [(2, .v (B true))] fun ac w β S => ?_
    exact (nt (wr (S.r [B true] ⟨retB k0_impl_HostOk, S.chg⟩)))

theorem k0_impl_MonAt {p : Prop} (h : p := by clear S; (first | (unfold f_monAt; rw [if_pos (by omega)]) | (unfold f_monAt; rw [if_neg (by omega)]))) : p := h
theorem c_impl_MonAt (w0 : World) (h : THost) (ph : PHost) (hh : RD w0 h ph) (m : Int) : Calls Tryz.prog 137 [GT.val h ph, I m].toArray w0 (Ret2 NoB w0 ((f_monAt h m).1 : TMon) ((f_monAt h m).2 : Bool)) := by
 refine Calls.walk NoB Tryz.func137 rfl rfl ?_
 intro ac β S
 have hleh_mem : h.mem.length ≤ 4194304 := LRd.le (RHost.mem (d := h) hh)
 have hleh_mons : h.mons.length ≤ 4194304 := LRd.le (RHost.mons (d := h) hh)
 have hleh_buf : h.buf.length ≤ 4194304 := LRd.le (RHost.buf (d := h) hh)
 have hleh_iobuf : h.iobuf.length ≤ 4194304 := LRd.le (RHost.iobuf (d := h) hh)
 refine ws (rg ?_)
 refine S.qem 3 [] [(2, .p 0 0), (4, .p 1 0)] 2 [(0, GT.cells h ph), (1, Zc TMon)] fun ac w β S => ?_
 refine (nt (ws (ws (rg ?_))))
 refine S.qg 6 [] [(11, .v (B (!(f_within m 0 ((h.mons.length : Int) - 1)))))] (.cons (Q_call fun w hw => c_impl_has w m (h.mons.length : Int) (by omega)) .nil) fun ac w β S => ?_
 refine (nt (S.c (!(f_within m 0 ((h.mons.length : Int) - 1))) (fun h1 => ?_) (fun h1 => ?_)))
 ·have h2 := not_t h1
  have g3 := within_f h2
  refine ws (rg ?_)
  refine S.qgm 3 [] [(5, .v (B false))] (.cons (Q_sem (s := Instr.build 53 [].toArray) (v := .agg [slv ([] : List TSlot).length (GT.pdflt (α := List TSlot)).1, slv ([] : List (List Int)).length (GT.pdflt (α := List (List Int))).1, slv ([] : List Bool).length (GT.pdflt (α := List Bool)).1, slv ([] : List TGuest).length (GT.pdflt (α := List TGuest)).1, slv ([] : List Int).length (GT.pdflt (α := List Int)).1, I 0, I 0, slv ([] : List TKept).length (GT.pdflt (α := List TKept)).1, I 0].toArray) (fun w => by kernel_rfl)) .nil) 2 [(1, [slv ([] : List TSlot).length (GT.pdflt (α := List TSlot)).1, slv ([] : List (List Int)).length (GT.pdflt (α := List (List Int))).1, slv ([] : List Bool).length (GT.pdflt (α := List Bool)).1, slv ([] : List TGuest).length (GT.pdflt (α := List TGuest)).1, slv ([] : List Int).length (GT.pdflt (α := List Int)).1, I 0, I 0, slv ([] : List TKept).length (GT.pdflt (α := List TKept)).1, I 0])] fun ac w β S => ?_
  refine (nt (wr (rt (S.r [GT.val (⟨([] : List TSlot), ([] : List (List Int)), ([] : List Bool), ([] : List TGuest), ([] : List Int), 0, 0, ([] : List TKept), 0⟩ : TMon) (⟨(GT.pdflt (α := List TSlot)), (GT.pdflt (α := List (List Int))), (GT.pdflt (α := List Bool)), (GT.pdflt (α := List TGuest)), (GT.pdflt (α := List Int)), (GT.pdflt (α := List TKept))⟩ : PMon), B false] ?_))))
  have o4 := S.nilOw (α := TSlot)
  have o5 := S.nilOw (α := List Int)
  have o6 := S.nilOw (α := Bool)
  have o7 := S.nilOw (α := TGuest)
  have o8 := S.nilOw (α := Int)
  have o9 := S.nilOw (α := TKept)
  have o10 := ow_Mon (x := (⟨([] : List TSlot), ([] : List (List Int)), ([] : List Bool), ([] : List TGuest), ([] : List Int), 0, 0, ([] : List TKept), 0⟩ : TMon)) (p := (⟨(GT.pdflt (α := List TSlot)), (GT.pdflt (α := List (List Int))), (GT.pdflt (α := List Bool)), (GT.pdflt (α := List TGuest)), (GT.pdflt (α := List Int)), (GT.pdflt (α := List TKept))⟩ : PMon)) o4 o5 o6 o7 o8 o9 (fun b _ h => False.elim h) (fun b _ h => False.elim h) (fun b _ h => False.elim h) (fun b _ h => False.elim h) (fun b _ h => False.elim h) (fun b _ h => False.elim h) (fun b _ h => False.elim h) (fun b _ h => False.elim h) (fun b _ h => False.elim h) (fun b _ h => False.elim h) (fun b _ h => False.elim h) (fun b _ h => False.elim h) (fun b _ h => False.elim h) (fun b _ h => False.elim h) (fun b _ h => False.elim h) (show In64 0 from ⟨by decide, by decide⟩) (show In64 0 from ⟨by decide, by decide⟩) (show In64 0 from ⟨by decide, by decide⟩)
  exact ret2_of (p' := ()) S (show (f_monAt h m).1 = (⟨([] : List TSlot), ([] : List (List Int)), ([] : List Bool), ([] : List TGuest), ([] : List Int), 0, 0, ([] : List TKept), 0⟩ : TMon) from k0_impl_MonAt) (show (f_monAt h m).2 = false from k0_impl_MonAt) rfl rfl o10 trivial
 have h11 := not_f h1
 have g12 := within_t h11
 refine wk (nt (ws (rg ?_)))
 refine S.qb 5 [] [(17, .v (GT.val (el h.mons m.toNat) (ph.mons.2 m.toNat)))] (.cons (qt (RHost.mons (d := h) (S.arg hh)) m Tryz.underlying28) (.cons (qs (RHost.mons (d := h) (S.arg hh)) 53 m.toNat) .nil)) fun ac w β S => ?_
 refine RG.op rfl (S.k1 18 (c_impl_copyMon w (el h.mons m.toNat) (ph.mons.2 m.toNat) (S.rd (LRd.el (RHost.mons (d := h) (S.arg hh)) m.toNat (by omega)))) fun ac w N q13 F14 S up o15 d16 => ?_)
 clear up d16
 have i32 : In64 (el h.mons m.toNat).pend := RMon.pend (d := (el h.mons m.toNat)) o15.rn
 have i33 : In64 (el h.mons m.toNat).traps := RMon.traps (d := (el h.mons m.toNat)) o15.rn
 have i37 : In64 (el h.mons m.toNat).owned := RMon.owned (d := (el h.mons m.toNat)) o15.rn
 obtain ⟨F17, F20, F23, F26, F29, F34, o18, o21, o24, o27, o30, o35, s19, s22, s25, s28, s31, s36, d38, d39, d40, d41, d42, d43, d44, d45, d46, d47, d48, d49, d50, d51, d52⟩ := sp_Mon o15
 refine S.qem 2 [] [(5, .v (B true))] 2 [(1, [slv (el h.mons m.toNat).outer.length q13.outer.1, slv (el h.mons m.toNat).out.length q13.out.1, slv (el h.mons m.toNat).dirty.length q13.dirty.1, slv (el h.mons m.toNat).guests.length q13.guests.1, slv (el h.mons m.toNat).outs.length q13.outs.1, I (el h.mons m.toNat).pend, I (el h.mons m.toNat).traps, slv (el h.mons m.toNat).tables.length q13.tables.1, I (el h.mons m.toNat).owned])] fun ac w β S => ?_
 refine (nt (wr (S.r [GT.val (el h.mons m.toNat) q13, B true] ?_)))
 have o53 := ow_Mon (x := (el h.mons m.toNat)) (p := q13) o18 o21 o24 o27 o30 o35 d38 d39 d40 d41 d42 d43 d44 d45 d46 d47 d48 d49 d50 d51 d52 i32 i33 i37
 exact ret2_of (p' := ()) S (show (f_monAt h m).1 = (el h.mons m.toNat) from k0_impl_MonAt) (show (f_monAt h m).2 = true from k0_impl_MonAt) rfl rfl o53 trivial

theorem k0_impl_SlotAt {p : Prop} (h : p := by clear S; (first | (unfold f_slotAt; rw [if_pos (by omega)]) | (unfold f_slotAt; rw [if_neg (by omega)]))) : p := h
theorem c_impl_SlotAt (w0 : World) (t : List TSlot) (pt : LP TSlot) (ht : RD w0 t pt) (page : Int) : Calls Tryz.prog 157 [slv t.length pt.1, I page].toArray w0 (fun e w' => e = .returned (GT.val (f_slotAt t page) ()) ∧ Chg NoB w0 w') := by
 refine Calls.walk NoB Tryz.func157 rfl rfl ?_
 intro ac β S
 have hlet : t.length ≤ 4194304 := LRd.le ht
 refine ws (rg ?_)
 refine S.qem 1 [] [(4, .p 0 0)] 1 [(0, Zc TSlot)] fun ac w β S => ?_
 refine (nt (ws (ws (rg ?_))))
 refine S.qg 5 [] [(9, .v (B (!(f_within page 0 ((t.length : Int) - 1)))))] (.cons (Q_call fun w hw => c_impl_has w page (t.length : Int) (by omega)) .nil) fun ac w β S => ?_
 refine (nt (S.c (!(f_within page 0 ((t.length : Int) - 1))) (fun h1 => ?_) (fun h1 => ?_)))
 ·have h2 := not_t h1
  have g3 := within_f h2
  refine ws (rg ?_)
  refine S.qgm 2 [] [] (.cons (Q_call fun w hw => c_impl_NoSlot w ) .nil) 1 [(0, GT.cells (⟨-1, 0⟩ : TSlot) ())] fun ac w β S => ?_
  exact (nt (wr (rt (S.r [GT.val (⟨-1, 0⟩ : TSlot) ()] ⟨retV (p := ()) k0_impl_SlotAt, S.chg⟩))))
 have h4 := not_f h1
 have g5 := within_t h4
 refine wk (nt (ws (rg ?_)))
 refine S.qgm 5 [] [] (.cons (qt (S.arg ht) page Tryz.underlying47) (.cons (qs (S.arg ht) 55 page.toNat) .nil)) 1 [(0, GT.cells (el t page.toNat) ())] fun ac w β S => ?_
 exact (nt (wr (S.r [GT.val (el t page.toNat) ()] ⟨retV (p := ()) k0_impl_SlotAt, S.chg⟩)))

theorem k0_impl_PageAt {p : Prop} (h : p := by clear S; (first | (unfold f_pageAt; rw [if_pos (by omega)]; done) | (unfold f_pageAt; rw [if_pos (by omega)]; first | rfl | (simp; done)) | (unfold f_pageAt; rw [if_neg (by omega)]; done) | (unfold f_pageAt; rw [if_neg (by omega)]; first | rfl | (simp; done)))) : p := h
theorem c_impl_PageAt (w0 : World) (m : List (List Int)) (pm : LP (List Int)) (hm : RD w0 m pm) (page : Int) : Calls Tryz.prog 88 [slv m.length pm.1, I page].toArray w0 (Ret1 NoB w0 (f_pageAt m page : List Int)) := by
 refine Calls.walk NoB Tryz.func88 rfl rfl ?_
 intro ac β S
 have hlem : m.length ≤ 4194304 := LRd.le hm
 refine ws (rg ?_)
 refine S.qe 1 [] [] fun ac w β S => ?_
 refine (nt (ws (ws (rg ?_))))
 refine S.qg 5 [] [(9, .v (B (!(f_within page 0 ((m.length : Int) - 1)))))] (.cons (Q_call fun w hw => c_impl_has w page (m.length : Int) (by omega)) .nil) fun ac w β S => ?_
 refine (nt (S.c (!(f_within page 0 ((m.length : Int) - 1))) (fun h1 => ?_) (fun h1 => ?_)))
 ·have h2 := not_t h1
  have g3 := within_f h2
  refine ws (rg ?_)
  refine RG.op rfl (S.make (α := Int) (m := 4) (by' := 8) (d := 10) (by kernel_rfl) (by omega) (show 4 ≤ 4194304 by omega) fun ac w N q4 F5 S up o6 d7 => ?_)
  clear up d7
  refine S.qe 1 [] [(4, .v (slv 4 q4.1))] fun ac w β S => ?_
  exact (nt (wr (rt (S.r [slv 4 q4.1] (ret1_of S (show f_pageAt m page = (List.replicate 4 (GT.dflt : Int)) from k0_impl_PageAt) (by rw [show 4 = (List.replicate 4 (GT.dflt : Int)).length from (by simp)]; rfl) o6)))))
 have h8 := not_f h1
 have g9 := within_t h8
 refine wk (nt (ws (rg ?_)))
 refine S.qb 4 [] [(14, .v (slv (el m page.toNat).length (pm.2 page.toNat).1))] (.cons (qt (S.arg hm) page Tryz.underlying22) (.cons (qx (S.arg hm) 50 page.toNat) .nil)) fun ac w β S => ?_
 refine RG.op rfl (S.k1 15 (c_impl_copyInts w (el m page.toNat) (pm.2 page.toNat) (S.rd (LRd.el (S.arg hm) page.toNat (by omega)))) fun ac w N q10 F11 S up o12 d13 => ?_)
 clear up d13
 refine S.qe 1 [] [(4, .v (slv (el m page.toNat).length q10.1))] fun ac w β S => ?_
 exact (nt (wr (S.r [slv (el m page.toNat).length q10.1] (ret1_of S (show f_pageAt m page = (el m page.toNat) from k0_impl_PageAt) rfl o12))))

theorem k0_impl_PageOf {p : Prop} (h : p := by clear S; (unfold f_pageOf; (repeat' split) <;> first | rfl | (exfalso; omega) | (exfalso; simp_all; done) | (exfalso; simp_all; omega))) : p := h
theorem c_impl_PageOf (w0 : World) (h : THost) (ph : PHost) (hh : RD w0 h ph) (m : Int) (page : Int) : Calls Tryz.prog 138 [GT.val h ph, I m, I page].toArray w0 (Ret1 NoB w0 (f_pageOf h m page : List Int)) := by
 refine Calls.walk NoB Tryz.func138 rfl rfl ?_
 intro ac β S
 have hleh_mem : h.mem.length ≤ 4194304 := LRd.le (RHost.mem (d := h) hh)
 have hleh_mons : h.mons.length ≤ 4194304 := LRd.le (RHost.mons (d := h) hh)
 have hleh_buf : h.buf.length ≤ 4194304 := LRd.le (RHost.buf (d := h) hh)
 have hleh_iobuf : h.iobuf.length ≤ 4194304 := LRd.le (RHost.iobuf (d := h) hh)
 refine ws (rg ?_)
 refine S.qem 2 [] [(3, .p 0 0)] 1 [(0, GT.cells h ph)] fun ac w β S => ?_
 refine (nt (ws (ws (rg ?_))))
 refine S.qb 7 [] [(15, .v (B (!(f_within m 0 ((h.mons.length : Int) - 1)))))] (.cons (Q_call fun w hw => c_impl_has w m (h.mons.length : Int) (by omega)) .nil) fun ac w β S => ?_
 rcases Bool.eq_false_or_eq_true (!(f_within m 0 ((h.mons.length : Int) - 1))) with h1 | h1 <;> rw [h1] at S
 ·have h2 := not_t h1
  have g3 := within_f h2
  refine S.qe 4 [15] [(19, .v (B true))] fun ac w β S => ?_
  refine (nt (S.c true (fun _ => ?_) (fun hx => by cases hx)))
  refine ws (rg ?_)
  refine RG.op rfl (S.make (α := Int) (m := 4) (by' := 8) (d := 20) (by kernel_rfl) (by omega) (show 4 ≤ 4194304 by omega) fun ac w N q4 F5 S up o6 d7 => ?_)
  clear up d7
  refine S.qe 1 [] [(6, .v (slv 4 q4.1))] fun ac w β S => ?_
  exact (nt (wr (rt (S.r [slv 4 q4.1] (ret1_of S (show f_pageOf h m page = (List.replicate 4 (GT.dflt : Int)) from k0_impl_PageOf) (by rw [show 4 = (List.replicate 4 (GT.dflt : Int)).length from (by simp)]; rfl) o6)))))
 ·have h8 := not_f h1
  have g9 := within_t h8
  refine S.qg 4 [15] [(19, .v (B (!(f_within page 0 (8 - 1)))))] (.cons (Q_call fun w hw => c_impl_has w page 8 (by omega)) .nil) fun ac w β S => ?_
  refine (nt (S.c (!(f_within page 0 (8 - 1))) (fun h10 => ?_) (fun h10 => ?_)))
  ·have h11 := not_t h10
   have g12 := within_f h11
   refine ws (rg ?_)
   refine RG.op rfl (S.make (α := Int) (m := 4) (by' := 8) (d := 20) (by kernel_rfl) (by omega) (show 4 ≤ 4194304 by omega) fun ac w N q13 F14 S up o15 d16 => ?_)
   clear up d16
   refine S.qe 1 [] [(6, .v (slv 4 q13.1))] fun ac w β S => ?_
   exact (nt (wr (rt (S.r [slv 4 q13.1] (ret1_of S (show f_pageOf h m page = (List.replicate 4 (GT.dflt : Int)) from k0_impl_PageOf) (by rw [show 4 = (List.replicate 4 (GT.dflt : Int)).length from (by simp)]; rfl) o15)))))
  have h17 := not_f h10
  have g18 := within_t h17
  refine wk (nt (ws (rg ?_)))
  refine S.qgm 7 [] [(7, .p 1 0)] (.cons (qt (RHost.mons (d := h) (S.arg hh)) m Tryz.underlying28) (.cons (qs (RHost.mons (d := h) (S.arg hh)) 53 m.toNat) .nil)) 2 [(1, GT.cells (el h.mons m.toNat) (ph.mons.2 m.toNat))] fun ac w β S => ?_
  refine (nt (ws (ws (rg ?_))))
  refine S.qgm 6 [] [(8, .p 2 0)] (.cons (Q_call fun w hw => c_impl_SlotAt w (el h.mons m.toNat).outer (ph.mons.2 m.toNat).outer (rd_of (RMon.outer (d := (el h.mons m.toNat)) (LRd.el (RHost.mons (d := h) (S.arg hh)) m.toNat (by omega))) hw) page) .nil) 3 [(2, GT.cells (f_slotAt (el h.mons m.toNat).outer page) ())] fun ac w β S => ?_
  refine (nt (ws (rg ?_)))
  refine S.qe 3 [] [(32, .v (B ((f_slotAt (el h.mons m.toNat).outer page).page != (-1))))] fun ac w β S => ?_
  refine (nt (S.c ((f_slotAt (el h.mons m.toNat).outer page).page != (-1)) (fun h19 => ?_) (fun h19 => ?_)))
  ·have g20 : ¬ ((f_slotAt (el h.mons m.toNat).outer page).page = (-1)) := bne_iff_ne.1 h19
   refine ws (rg ?_)
   refine S.qam 4 [] [(34, .v (slv h.mem.length ph.mem.1)), (36, .v (I (f_slotAt (el h.mons m.toNat).outer page).page))] 0 [] fun ac w β S => ?_
   refine RG.op rfl (S.k1 37 (c_impl_PageAt w h.mem ph.mem (S.rd (RHost.mem (d := h) (S.arg hh))) (f_slotAt (el h.mons m.toNat).outer page).page) fun ac w N q21 F22 S up o23 d24 => ?_)
   clear up d24
   refine S.qe 1 [] [(6, .v (slv (f_pageAt h.mem (f_slotAt (el h.mons m.toNat).outer page).page).length q21.1))] fun ac w β S => ?_
   exact (nt (wr (rt (S.r [slv (f_pageAt h.mem (f_slotAt (el h.mons m.toNat).outer page).page).length q21.1] (ret1_of S (show f_pageOf h m page = (f_pageAt h.mem (f_slotAt (el h.mons m.toNat).outer page).page) from k0_impl_PageOf) rfl o23)))))
  have g25 : (f_slotAt (el h.mons m.toNat).outer page).page = (-1) := ne_f h19
  refine wk (nt (ws (rg ?_)))
  refine S.qam 3 [] [(39, .v (slv (el h.mons m.toNat).out.length (ph.mons.2 m.toNat).out.1)), (40, .v (I page))] 0 [] fun ac w β S => ?_
  refine RG.op rfl (S.k1 41 (c_impl_PageAt w (el h.mons m.toNat).out (ph.mons.2 m.toNat).out (S.rd (RMon.out (d := (el h.mons m.toNat)) (LRd.el (RHost.mons (d := h) (S.arg hh)) m.toNat (by omega)))) page) fun ac w N q26 F27 S up o28 d29 => ?_)
  clear up d29
  refine S.qe 1 [] [(6, .v (slv (f_pageAt (el h.mons m.toNat).out page).length q26.1))] fun ac w β S => ?_
  exact (nt (wr (S.r [slv (f_pageAt (el h.mons m.toNat).out page).length q26.1] (ret1_of S (show f_pageOf h m page = (f_pageAt (el h.mons m.toNat).out page) from k0_impl_PageOf) rfl o28))))

theorem k0_impl_SeenAs {p : Prop} (h : p := by clear S; (first | (unfold f_seenAs; rw [if_neg (monAt_f (by assumption))]; done) | (unfold f_seenAs; rw [if_pos (monAt_t (by assumption)), monAt_1 (monAt_t (by assumption)), hacc, show i = 8 by omega]))) : p := h
theorem c_impl_SeenAs (w0 : World) (h : THost) (ph : PHost) (hh : RD w0 h ph) (m : Int) : Calls Tryz.prog 98 [GT.val h ph, I m].toArray w0 (Ret1 NoB w0 (f_seenAs h m : TBare)) := by
 refine Calls.walk NoB Tryz.func98 rfl rfl ?_
 intro ac β S
 have hleh_mem : h.mem.length ≤ 4194304 := LRd.le (RHost.mem (d := h) hh)
 have hleh_mons : h.mons.length ≤ 4194304 := LRd.le (RHost.mons (d := h) hh)
 have hleh_buf : h.buf.length ≤ 4194304 := LRd.le (RHost.buf (d := h) hh)
 have hleh_iobuf : h.iobuf.length ≤ 4194304 := LRd.le (RHost.iobuf (d := h) hh)
 refine ws (rg ?_)
 refine S.qem 2 [] [(2, .p 0 0), (4, .p 1 0)] 2 [(0, GT.cells h ph), (1, Zc TBare)] fun ac w β S => ?_
 refine (nt (ws (rg ?_)))
 refine S.qa 2 [] [(10, .v (GT.val h ph)), (11, .v (I m))] fun ac w β S => ?_
 refine RG.op rfl (S.call2 (r := (f_monAt h m).1) (r' := (f_monAt h m).2) (d := 12) (c_impl_MonAt w h ph (S.rd (S.arg hh)) m) (by kernel_rfl) rfl fun ac w N q1 q2 F3 F4 S up o5 o6 d7 d8 d9 => ?_)
 clear up d7
 clear d8
 have i25 : In64 (f_monAt h m).1.pend := RMon.pend (d := (f_monAt h m).1) o5.rn
 have i26 : In64 (f_monAt h m).1.traps := RMon.traps (d := (f_monAt h m).1) o5.rn
 have i30 : In64 (f_monAt h m).1.owned := RMon.owned (d := (f_monAt h m).1) o5.rn
 obtain ⟨F10, F13, F16, F19, F22, F27, o11, o14, o17, o20, o23, o28, s12, s15, s18, s21, s24, s29, d31, d32, d33, d34, d35, d36, d37, d38, d39, d40, d41, d42, d43, d44, d45⟩ := sp_Mon o5
 refine S.qem 6 [] [(5, .p 2 0), (6, .v (B (f_monAt h m).2))] 3 [(2, [slv (f_monAt h m).1.outer.length q1.outer.1, slv (f_monAt h m).1.out.length q1.out.1, slv (f_monAt h m).1.dirty.length q1.dirty.1, slv (f_monAt h m).1.guests.length q1.guests.1, slv (f_monAt h m).1.outs.length q1.outs.1, I (f_monAt h m).1.pend, I (f_monAt h m).1.traps, slv (f_monAt h m).1.tables.length q1.tables.1, I (f_monAt h m).1.owned])] fun ac w β S => ?_
 refine (nt (ws (ws (rg ?_))))
 refine S.qe 2 [] [(16, .v (B (!(f_monAt h m).2)))] fun ac w β S => ?_
 refine (nt (S.c (!(f_monAt h m).2) (fun h46 => ?_) (fun h46 => ?_)))
 ·have h47 := not_t h46
  refine ws (rg ?_)
  refine S.qgm 2 [] [] (.cons (Q_sem (s := Instr.build 77 [].toArray) (v := .agg [slv ([] : List (List Int)).length (GT.pdflt (α := List (List Int))).1, slv ([] : List TGuest).length (GT.pdflt (α := List TGuest)).1, slv ([] : List Int).length (GT.pdflt (α := List Int)).1, I 0].toArray) (fun w => by kernel_rfl)) .nil) 2 [(1, [slv ([] : List (List Int)).length (GT.pdflt (α := List (List Int))).1, slv ([] : List TGuest).length (GT.pdflt (α := List TGuest)).1, slv ([] : List Int).length (GT.pdflt (α := List Int)).1, I 0])] fun ac w β S => ?_
  refine (nt (wr (rt (S.r [GT.val (⟨([] : List (List Int)), ([] : List TGuest), ([] : List Int), 0⟩ : TBare) (⟨(GT.pdflt (α := List (List Int))), (GT.pdflt (α := List TGuest)), (GT.pdflt (α := List Int))⟩ : PBare)] ?_))))
  have o48 := S.nilOw (α := List Int)
  have o49 := S.nilOw (α := TGuest)
  have o50 := S.nilOw (α := Int)
  have o51 := ow_Bare (x := (⟨([] : List (List Int)), ([] : List TGuest), ([] : List Int), 0⟩ : TBare)) (p := (⟨(GT.pdflt (α := List (List Int))), (GT.pdflt (α := List TGuest)), (GT.pdflt (α := List Int))⟩ : PBare)) o48 o49 o50 (fun b _ h => False.elim h) (fun b _ h => False.elim h) (fun b _ h => False.elim h) (show In64 0 from ⟨by decide, by decide⟩)
  exact ret1_of S (show f_seenAs h m = (⟨([] : List (List Int)), ([] : List TGuest), ([] : List Int), 0⟩ : TBare) from k0_impl_SeenAs) rfl o51
 have h52 := not_f h46
 refine wk (nt (ws (rg ?_)))
 refine S.qgm 9 [] [(7, .p 3 0)] (.cons (Q_sem (s := Instr.build 77 [(1, slv (f_monAt h m).1.guests.length q1.guests.1), (2, slv (f_monAt h m).1.outs.length q1.outs.1), (3, I (f_monAt h m).1.pend)].toArray) (v := .agg [slv ([] : List (List Int)).length (GT.pdflt (α := List (List Int))).1, slv (f_monAt h m).1.guests.length q1.guests.1, slv (f_monAt h m).1.outs.length q1.outs.1, I (f_monAt h m).1.pend].toArray) (fun w => by kernel_rfl)) .nil) 4 [(3, [slv ([] : List (List Int)).length (GT.pdflt (α := List (List Int))).1, slv (f_monAt h m).1.guests.length q1.guests.1, slv (f_monAt h m).1.outs.length q1.outs.1, I (f_monAt h m).1.pend])] fun ac w β S => ?_
 refine (nt (ws (ws (rg ?_))))
 refine S.qe 1 [] [(8, .v (I 0))] fun ac w β S => ?_
 refine (nt (wp_block ?_))
 have o56 := S.nilOw (α := List Int)
 refine wp_loop_down (fun mm ac w => ∃ (i : Nat) (acc : List (List Int)) (q53 : _) (F54 : _) (u : _) (N : _) (β : _), mm = 8 - i ∧ (i ≤ 8) ∧ (acc = (List.range i).map (fun (j : Nat) => f_pageOf h m (j : Int))) ∧ St Tryz.prog Tryz.f98.ntmps w0 NoB u N β ⟨[(1, .v (I m)), (2, .p 0 0), (4, .p 1 0), (7, .p 3 0), (8, .v (I (i : Int)))], [GT.cells h ph, Zc TBare, [slv (f_monAt h m).1.outer.length q1.outer.1, slv (f_monAt h m).1.out.length q1.out.1, slv (f_monAt h m).1.dirty.length q1.dirty.1, slv (f_monAt h m).1.guests.length q1.guests.1, slv (f_monAt h m).1.outs.length q1.outs.1, I (f_monAt h m).1.pend, I (f_monAt h m).1.traps, slv (f_monAt h m).1.tables.length q1.tables.1, I (f_monAt h m).1.owned], [slv acc.length q53.1, slv (f_monAt h m).1.guests.length q1.guests.1, slv (f_monAt h m).1.outs.length q1.outs.1, I (f_monAt h m).1.pend]]⟩ ac w ∧ Ow w0 NoB u N F54 acc q53 ∧ Ow w0 NoB u N F10 (f_monAt h m).1.outer q1.outer ∧ Ow w0 NoB u N F13 (f_monAt h m).1.out q1.out ∧ Ow w0 NoB u N F16 (f_monAt h m).1.dirty q1.dirty ∧ Ow w0 NoB u N F19 (f_monAt h m).1.guests q1.guests ∧ Ow w0 NoB u N F22 (f_monAt h m).1.outs q1.outs ∧ Ow w0 NoB u N F27 (f_monAt h m).1.tables q1.tables ∧ Disj F54 F10 ∧ Disj F54 F13 ∧ Disj F54 F16 ∧ Disj F54 F19 ∧ Disj F54 F22 ∧ Disj F54 F27) _ ⟨0, ([] : List (List Int)), (GT.pdflt (α := List (List Int))), NoB, _, _, _, rfl, o0, (by rfl), S.z, o56, o11, o14, o17, o20, o23, o28, (Disj.symm (fun b _ h => False.elim h)), (Disj.symm (fun b _ h => False.elim h)), (Disj.symm (fun b _ h => False.elim h)), (Disj.symm (fun b _ h => False.elim h)), (Disj.symm (fun b _ h => False.elim h)), (Disj.symm (fun b _ h => False.elim h))⟩ ?_
 clear S o11 o14 o17 o20 o23 o28 o56 o6
 rintro mm ac w ⟨i, acc, q53, F54, u, N, β, rfl, hi, hacc, S, o55, o11, o14, o17, o20, o23, o28, d57, d58, d59, d60, d61, d62⟩
 have hlacc : acc.length = i := by rw [hacc]; simp
 refine ws (ws (rg ?_))
 refine S.qe 2 [] [(26, .v (B (decide ((i : Int) < 8))))] fun ac w β S => ?_
 refine (nt (S.c (decide ((i : Int) < 8)) (fun h63 => ?_) (fun h63 => ?_)))
 ·have g64 := of_decide_eq_true h63
  refine wk (nt (ws (wp_block ?_)))
  refine S.draw0 (f := 10) 7 rfl rfl fun w S => ?_
  refine S.hq 0 [1, 0] [] [(29, .p 3 0)] .nil fun ac S => ?_
  refine S.hq 1 [1] [] [(30, .v (slv acc.length q53.1))] .nil fun ac S => ?_
  refine S.hq 2 [5, 2] [] [(31, .v (GT.val h ph))] .nil fun ac S => ?_
  refine S.hq 3 [5, 3] [] [(32, .v (I m))] .nil fun ac S => ?_
  refine S.hq 4 [5, 4] [] [(33, .v (I (i : Int)))] .nil fun ac S => ?_
  refine WD.one (i := 5) (by kernel_rfl) ?_
  refine id (S.k1 34 (c_impl_PageOf w h ph (S.rd (S.arg hh)) m (i : Int)) fun ac w N q65 F66 S up o67 d68 => ?_)
  refine WD.next S up (by kernel_rfl) ?_
  have d69 := Disj.w d68 o55.sub
  have d70 := Disj.w d68 o11.sub
  have d71 := Disj.w d68 o14.sub
  have d72 := Disj.w d68 o17.sub
  have d73 := Disj.w d68 o20.sub
  have d74 := Disj.w d68 o23.sub
  have d75 := Disj.w d68 o28.sub
  replace o55 := o55.up up
  replace o11 := o11.up up
  replace o14 := o14.up up
  replace o17 := o17.up up
  replace o20 := o20.up up
  replace o23 := o23.up up
  replace o28 := o28.up up
  clear up d68
  refine WD.one (i := 6) (by kernel_rfl) ?_
  refine id (S.bs1 (α := List Int) (x := (f_pageOf h m (i : Int))) (p := q65) o67.own o67.sub o67.young (d := 35) (by kernel_rfl) fun ac w N q76 F77 S up o78 d79 => ?_)
  refine WD.next S up (by kernel_rfl) ?_
  have d80 := d79 _ d69 o55.sub
  have d81 := d79 _ d70 o11.sub
  have d82 := d79 _ d71 o14.sub
  have d83 := d79 _ d72 o17.sub
  have d84 := d79 _ d73 o20.sub
  have d85 := d79 _ d74 o23.sub
  have d86 := d79 _ d75 o28.sub
  replace o55 := o55.up up
  replace o11 := o11.up up
  replace o14 := o14.up up
  replace o17 := o17.up up
  replace o20 := o20.up up
  replace o23 := o23.up up
  replace o28 := o28.up up
  clear up d79
  refine WD.one (i := 7) (by kernel_rfl) ?_
  refine id (S.appOwn (α := List Int) o55 o78 d80 (by' := 24) (d := 36) (lx := acc.length) (ly := 1) rfl rfl (by kernel_rfl) (show _ ≤ 4194304 by simp only [List.length_append, List.length_cons, List.length_nil]; omega) fun ac w N q87 F88 S up o89 d90 => ?_)
  refine WD.last (by kernel_rfl) ?_
  have d91 := d90 _ (Disj.symm d57) d81 o11.sub
  have d92 := d90 _ (Disj.symm d58) d82 o14.sub
  have d93 := d90 _ (Disj.symm d59) d83 o17.sub
  have d94 := d90 _ (Disj.symm d60) d84 o20.sub
  have d95 := d90 _ (Disj.symm d61) d85 o23.sub
  have d96 := d90 _ (Disj.symm d62) d86 o28.sub
  replace o11 := o11.upF (Disj.symm d57) up
  replace o14 := o14.upF (Disj.symm d58) up
  replace o17 := o17.upF (Disj.symm d59) up
  replace o20 := o20.upF (Disj.symm d60) up
  replace o23 := o23.upF (Disj.symm d61) up
  replace o28 := o28.upF (Disj.symm d62) up
  clear up d90
  refine WD.one (i := 8) (by kernel_rfl) ?_
  refine S.stepq (i := 8) (keep := [1, 2, 4, 7, 8, 36, 37]) (m := 4) (σ' := ⟨[(1, .v (I m)), (2, .p 0 0), (4, .p 1 0), (7, .p 3 0), (8, .v (I (i : Int))), (36, .v (slv (acc ++ [(f_pageOf h m (i : Int))]).length q87.1)), (37, .p 3 0)], [GT.cells h ph, Zc TBare, [slv (f_monAt h m).1.outer.length q1.outer.1, slv (f_monAt h m).1.out.length q1.out.1, slv (f_monAt h m).1.dirty.length q1.dirty.1, slv (f_monAt h m).1.guests.length q1.guests.1, slv (f_monAt h m).1.outs.length q1.outs.1, I (f_monAt h m).1.pend, I (f_monAt h m).1.traps, slv (f_monAt h m).1.tables.length q1.tables.1, I (f_monAt h m).1.owned], [slv acc.length q53.1, slv (f_monAt h m).1.guests.length q1.guests.1, slv (f_monAt h m).1.outs.length q1.outs.1, I (f_monAt h m).1.pend]]⟩) .nil (by kernel_rfl) fun ac w β S hβ => ?_
  refine WD.last (by kernel_rfl) ?_
  clear hβ
  refine WD.one (i := 9) (by kernel_rfl) ?_
  refine S.stepq (i := 9) (keep := [1, 2, 4, 7, 8]) (m := 4) (σ' := ⟨[(1, .v (I m)), (2, .p 0 0), (4, .p 1 0), (7, .p 3 0), (8, .v (I (i : Int)))], [GT.cells h ph, Zc TBare, [slv (f_monAt h m).1.outer.length q1.outer.1, slv (f_monAt h m).1.out.length q1.out.1, slv (f_monAt h m).1.dirty.length q1.dirty.1, slv (f_monAt h m).1.guests.length q1.guests.1, slv (f_monAt h m).1.outs.length q1.outs.1, I (f_monAt h m).1.pend, I (f_monAt h m).1.traps, slv (f_monAt h m).1.tables.length q1.tables.1, I (f_monAt h m).1.owned], [slv (acc ++ [(f_pageOf h m (i : Int))]).length q87.1, slv (f_monAt h m).1.guests.length q1.guests.1, slv (f_monAt h m).1.outs.length q1.outs.1, I (f_monAt h m).1.pend]]⟩) .nil (by kernel_rfl) fun ac w β S hβ => ?_
  refine WD.last (by kernel_rfl) ?_
  clear hβ
  refine WD.done (by kernel_rfl) ?_ _
  refine id (nb (nt (rg ?_)))
  refine S.qg 3 [] [(8, .v (I ((i : Int) + 1)))] (.cons (qp (i : Int) 1) .nil) fun ac w β S => ?_
  refine (nt ?_)
  refine ⟨8 - (i + 1), by omega, i + 1, (acc ++ [(f_pageOf h m (i : Int))]), q87, F88, _, _, _, rfl, ?_, ?_, S.z, o89, o11, o14, o17, o20, o23, o28, (Disj.symm d91), (Disj.symm d92), (Disj.symm d93), (Disj.symm d94), (Disj.symm d95), (Disj.symm d96)⟩
  ·exact oz
  ·clear S; (rw [rmap_step, ← hacc])
 have g97 := of_decide_eq_false h63
 refine wp_exit (ex_then (ex_then (ex_hit (nt (ws (rg ?_))))))
 refine S.qem 2 [] [] 2 [(1, [slv acc.length q53.1, slv (f_monAt h m).1.guests.length q1.guests.1, slv (f_monAt h m).1.outs.length q1.outs.1, I (f_monAt h m).1.pend])] fun ac w β S => ?_
 refine (nt (wr (S.r [GT.val (⟨acc, (f_monAt h m).1.guests, (f_monAt h m).1.outs, (f_monAt h m).1.pend⟩ : TBare) (⟨q53, q1.guests, q1.outs⟩ : PBare)] ?_)))
 have o98 := ow_Bare (x := (⟨acc, (f_monAt h m).1.guests, (f_monAt h m).1.outs, (f_monAt h m).1.pend⟩ : TBare)) (p := (⟨q53, q1.guests, q1.outs⟩ : PBare)) o55 o20 o23 d60 d61 d43 i25
 exact ret1_of S (show f_seenAs h m = (⟨acc, (f_monAt h m).1.guests, (f_monAt h m).1.outs, (f_monAt h m).1.pend⟩ : TBare) from k0_impl_SeenAs) rfl o98

theorem k0_impl_reflected {p : Prop} (h : p := by clear S; (refine (congrArg Prod.fst (poke_refl h m page cell v)).symm.trans ?_; (first | (unfold f_reflected; rw [if_neg (by rintro ⟨⟨h1, h2, h3⟩, h4⟩; first | omega | simp_all)]; done) | (unfold f_reflected; rw [if_pos ⟨⟨by assumption, by omega, by omega⟩, by assumption⟩]; unfold f_back; rw [← back_two (by omega)]; done) | (unfold f_reflected; rw [if_pos ⟨⟨by assumption, by omega, by omega⟩, by assumption⟩]; done)))) : p := h
theorem k1_impl_reflected {p : Prop} (h : p := by clear S; (refine (congrArg Prod.snd (poke_refl h m page cell v)).symm.trans ?_; (first | (unfold f_reflected; rw [if_neg (by rintro ⟨⟨h1, h2, h3⟩, h4⟩; first | omega | simp_all)]; done) | (unfold f_reflected; rw [if_pos ⟨⟨by assumption, by omega, by omega⟩, by assumption⟩]; unfold f_back; rw [← back_two (by omega)]; done) | (unfold f_reflected; rw [if_pos ⟨⟨by assumption, by omega, by omega⟩, by assumption⟩]; done)))) : p := h
theorem c_impl_reflected (w0 : World) (h : THost) (ph : PHost) (hh : RD w0 h ph) (m : Int) (page : Int) (qpage : LP Int) (hpage : RD w0 [page] qpage) (cell : Int) (qcell : LP Int) (hcell : RD w0 [cell] qcell) (v : Int) (qv : LP Int) (hv : RD w0 [v] qv) : Calls Tryz.prog 54 [GT.val h ph, I m, .func (.func 55) #[] #[pt qpage.1.b (qpage.1.off + 0 * 1), pt qcell.1.b (qcell.1.off + 0 * 1), pt qv.1.b (qv.1.off + 0 * 1)]].toArray w0 (Ret2 NoB w0 (h : THost) (f_pokeOk h m page cell v : Bool)) := by
 refine Calls.walk NoB Tryz.func54 rfl rfl ?_
 intro ac β S
 have hleh_mem : h.mem.length ≤ 4194304 := LRd.le (RHost.mem (d := h) hh)
 have hleh_mons : h.mons.length ≤ 4194304 := LRd.le (RHost.mons (d := h) hh)
 have hleh_buf : h.buf.length ≤ 4194304 := LRd.le (RHost.buf (d := h) hh)
 have hleh_iobuf : h.iobuf.length ≤ 4194304 := LRd.le (RHost.iobuf (d := h) hh)
 refine ws (rg ?_)
 refine S.qem 3 [] [(3, .p 0 0), (6, .p 1 0)] 2 [(0, GT.cells h ph), (1, Zc THost)] fun ac w β S => ?_
 refine (nt (ws (rg ?_)))
 refine S.qa 1 [] [(11, .v (GT.val h ph))] fun ac w β S => ?_
 refine RG.op rfl (S.k1 12 (c_impl_copyHost w h ph (S.rd (S.arg hh))) fun ac w N q1 F2 S up o3 d4 => ?_)
 clear up d4
 obtain ⟨F5, F8, F11, F14, o6, o9, o12, o15, s7, s10, s13, s16, d17, d18, d19, d20, d21, d22⟩ := sp_Host o3
 refine S.qem 2 [] [(8, .p 2 0)] 3 [(2, [slv h.mem.length q1.mem.1, slv h.mons.length q1.mons.1, slv h.buf.length q1.buf.1, slv h.iobuf.length q1.iobuf.1])] fun ac w β S => ?_
 refine (nt (ws (ws (rg ?_))))
 refine S.qb 4 [] [(16, .v (B (!(f_hostOk h))))] (.cons (Q_call fun w hw => c_impl_HostOk w h ph (rd_of (S.arg hh) hw)) .nil) fun ac w β S => ?_
 rcases Bool.eq_false_or_eq_true (!(f_hostOk h)) with h23 | h23 <;> rw [h23] at S
 ·have h24 := not_t h23
  refine S.qe 7 [16] [(23, .v (B true))] fun ac w β S => ?_
  refine (nt (S.c true (fun _ => ?_) (fun hx => by cases hx)))
  refine ws (rg ?_)
  refine S.qem 3 [] [(7, .v (B false))] 2 [(1, [slv h.mem.length q1.mem.1, slv h.mons.length q1.mons.1, slv h.buf.length q1.buf.1, slv h.iobuf.length q1.iobuf.1])] fun ac w β S => ?_
  refine (nt (wr (rt (S.r [GT.val h q1, B false] ?_))))
  have o25 := ow_Host (x := h) (p := q1) o6 o9 o12 o15 d17 d18 d19 d20 d21 d22 
  exact ret2_of (p' := ()) S (show h = h from k0_impl_reflected) (show f_pokeOk h m page cell v = false from k1_impl_reflected) rfl rfl o25 trivial
 ·have h26 := not_f h23
  have g27 := hostOk_t h26
  refine S.qg 7 [16] [(23, .v (B (!(f_within m 0 ((h.mons.length : Int) - 1)))))] (.cons (Q_call fun w hw => c_impl_has w m (h.mons.length : Int) (by omega)) .nil) fun ac w β S => ?_
  refine (nt (S.c (!(f_within m 0 ((h.mons.length : Int) - 1))) (fun h28 => ?_) (fun h28 => ?_)))
  ·have h29 := not_t h28
   have g30 := within_f h29
   refine ws (rg ?_)
   refine S.qem 3 [] [(7, .v (B false))] 2 [(1, [slv h.mem.length q1.mem.1, slv h.mons.length q1.mons.1, slv h.buf.length q1.buf.1, slv h.iobuf.length q1.iobuf.1])] fun ac w β S => ?_
   refine (nt (wr (rt (S.r [GT.val h q1, B false] ?_))))
   have o31 := ow_Host (x := h) (p := q1) o6 o9 o12 o15 d17 d18 d19 d20 d21 d22 
   exact ret2_of (p' := ()) S (show h = h from k0_impl_reflected) (show f_pokeOk h m page cell v = false from k1_impl_reflected) rfl rfl o31 trivial
  have h32 := not_f h28
  have g33 := within_t h32
  refine wk (nt (ws (rg ?_)))
  refine S.qa 3 [] [(26, .v (.func (.func 55) #[] #[pt qpage.1.b (qpage.1.off + 0 * 1), pt qcell.1.b (qcell.1.off + 0 * 1), pt qv.1.b (qv.1.off + 0 * 1)])), (27, .v (GT.val h ph)), (28, .v (I m))] fun ac w β S => ?_
  refine RG.op rfl (S.k1 29 (c_impl_SeenAs w h ph (S.rd (S.arg hh)) m) fun ac w N q34 F35 S up o36 d37 => ?_)
  have d38 := Disj.w d37 o6.sub
  have d39 := Disj.w d37 o9.sub
  have d40 := Disj.w d37 o12.sub
  have d41 := Disj.w d37 o15.sub
  replace o6 := o6.up up
  replace o9 := o9.up up
  replace o12 := o12.up up
  replace o15 := o15.up up
  clear up d37
  have i51 : In64 (f_seenAs h m).pend := RBare.pend (d := (f_seenAs h m)) o36.rn
  obtain ⟨F42, F45, F48, o43, o46, o49, s44, s47, s50, d52, d53, d54⟩ := sp_Bare o36
  refine RG.op rfl (S.call2 (r := (f_barePoke (f_seenAs h m) page cell v).1) (r' := (f_barePoke (f_seenAs h m) page cell v).2) (d := 30) (c_impl_HostPoke_1 w (f_seenAs h m) q34 (S.rd (show GT.rd KK _ _ (f_seenAs h m) q34 from ⟨o43.rn, o46.rn, o49.rn, i51⟩)) page qpage (S.rd (S.arg hpage)) cell qcell (S.rd (S.arg hcell)) v qv (S.rd (S.arg hv))) (by kernel_rfl) rfl fun ac w N q55 q56 F57 F58 S up o59 o60 d61 d62 d63 => ?_)
  have d64 := Disj.w d62 o6.sub
  have d65 := Disj.w d62 o9.sub
  have d66 := Disj.w d62 o12.sub
  have d67 := Disj.w d62 o15.sub
  have d68 := Disj.w d62 o43.sub
  have d69 := Disj.w d62 o46.sub
  have d70 := Disj.w d62 o49.sub
  have d71 := Disj.w d61 o6.sub
  have d72 := Disj.w d61 o9.sub
  have d73 := Disj.w d61 o12.sub
  have d74 := Disj.w d61 o15.sub
  have d75 := Disj.w d61 o43.sub
  have d76 := Disj.w d61 o46.sub
  have d77 := Disj.w d61 o49.sub
  replace o6 := o6.up up
  replace o9 := o9.up up
  replace o12 := o12.up up
  replace o15 := o15.up up
  replace o43 := o43.up up
  replace o46 := o46.up up
  replace o49 := o49.up up
  clear up d61
  clear d62
  have i87 : In64 (f_barePoke (f_seenAs h m) page cell v).1.pend := RBare.pend (d := (f_barePoke (f_seenAs h m) page cell v).1) o59.rn
  obtain ⟨F78, F81, F84, o79, o82, o85, s80, s83, s86, d88, d89, d90⟩ := sp_Bare o59
  refine S.qem 6 [] [(9, .p 3 0), (10, .v (B (f_barePoke (f_seenAs h m) page cell v).2))] 4 [(3, [slv (f_barePoke (f_seenAs h m) page cell v).1.mem.length q55.mem.1, slv (f_barePoke (f_seenAs h m) page cell v).1.guests.length q55.guests.1, slv (f_barePoke (f_seenAs h m) page cell v).1.outs.length q55.outs.1, I (f_barePoke (f_seenAs h m) page cell v).1.pend])] fun ac w β S => ?_
  refine (nt (ws (ws (rg ?_))))
  refine S.qe 1 [] [(33, .v (B (f_barePoke (f_seenAs h m) page cell v).2))] fun ac w β S => ?_
  refine (nt (S.c (f_barePoke (f_seenAs h m) page cell v).2 (fun h91 => ?_) (fun h91 => ?_)))
  ·rw [h91] at S
   refine ws ?_
   refine S.draw0 (f := 9) 8 rfl rfl fun w S => ?_
   refine S.hq 0 [0] [] [(10, .v (B true)), (34, .p 2 1)] .nil fun ac S => ?_
   refine S.hq 1 [1] [] [(35, .v (slv h.mons.length q1.mons.1))] .nil fun ac S => ?_
   refine S.hq 2 [2] [] [(36, .v (I m))] .nil fun ac S => ?_
   refine S.hq 3 [3] [] [(37, .p 3 1)] .nil fun ac S => ?_
   refine S.hq 4 [4] [] [(38, .v (slv (f_barePoke (f_seenAs h m) page cell v).1.guests.length q55.guests.1))] .nil fun ac S => ?_
   refine WD.one (i := 5) (by kernel_rfl) ?_
   refine id (S.k1 39 (c_impl_copyGuests w (f_barePoke (f_seenAs h m) page cell v).1.guests q55.guests (S.rd o82.rn)) fun ac w N q92 F93 S up o94 d95 => ?_)
   refine WD.next S up (by kernel_rfl) ?_
   have d96 := Disj.w d95 o6.sub
   have d97 := Disj.w d95 o9.sub
   have d98 := Disj.w d95 o12.sub
   have d99 := Disj.w d95 o15.sub
   have d100 := Disj.w d95 o79.sub
   have d101 := Disj.w d95 o82.sub
   have d102 := Disj.w d95 o85.sub
   replace o6 := o6.up up
   replace o9 := o9.up up
   replace o12 := o12.up up
   replace o15 := o15.up up
   replace o79 := o79.up up
   replace o82 := o82.up up
   replace o85 := o85.up up
   clear up d95
   refine S.hq 6 [7, 6] [] [(39, .v (slv (f_barePoke (f_seenAs h m) page cell v).1.guests.length q92.1)), (40, .v (pt q1.mons.1.b (q1.mons.1.off + m.toNat * 9)))] (.cons (qt o9.rn m Tryz.underlying28) .nil) fun ac S => ?_
   refine S.hq 7 [7] [] [(41, .v (pt q1.mons.1.b (q1.mons.1.off + m.toNat * 9 + 3)))] .nil fun ac S => ?_
   refine WD.one (i := 8) (by kernel_rfl) ?_
   refine id (S.sE (α := TMon) o9 (t := 49) (k := m.toNat) (j := 3) (off := q1.mons.1.off + m.toNat * 9 + 3) (v := slv (f_barePoke (f_seenAs h m) page cell v).1.guests.length q92.1) (y := ({ el h.mons m.toNat with guests := (f_barePoke (f_seenAs h m) page cell v).1.guests } : TMon)) (q := ({ q1.mons.2 m.toNat with guests := q92 } : PMon)) (fun G g_ gF => ⟨_, owl_Mon_guests g_ o94.own (fun b h h2 => d97 b (gF b h) h2), fun _ h => h⟩) d97 o94.sub o94.young fun w N F104 q105 S up o103 d106 s107 n108 => ?_)
   refine WD.last (by kernel_rfl) ?_
   have d109 := d106 _ d17 d96 o6.sub
   have d110 := d106 _ (Disj.symm d20) d98 o12.sub
   have d111 := d106 _ (Disj.symm d21) d99 o15.sub
   have d112 := d106 _ (Disj.part (Disj.symm d72) s80) d100 o79.sub
   have d113 := d106 _ (Disj.part (Disj.symm d72) s83) d101 o82.sub
   have d114 := d106 _ (Disj.part (Disj.symm d72) s86) d102 o85.sub
   replace o6 := o6.upF d17 up
   replace o12 := o12.upF (Disj.symm d20) up
   replace o15 := o15.upF (Disj.symm d21) up
   replace o79 := o79.upF (Disj.part (Disj.symm d72) s80) up
   replace o82 := o82.upF (Disj.part (Disj.symm d72) s83) up
   replace o85 := o85.upF (Disj.part (Disj.symm d72) s86) up
   clear up d106 o9 n108
   have l115 : (h.mons.set m.toNat ({ el h.mons m.toNat with guests := (f_barePoke (f_seenAs h m) page cell v).1.guests })).length = h.mons.length := List.length_set
   replace S := S.z (σ' := ⟨[(1, .v (I m)), (6, .p 1 0), (8, .p 2 0), (9, .p 3 0), (10, .v (B true)), (39, .v (slv (f_barePoke (f_seenAs h m) page cell v).1.guests.length q92.1)), (41, .v (pt q1.mons.1.b (q1.mons.1.off + m.toNat * 9 + 3)))], [GT.cells h ph, Zc THost, [slv h.mem.length q1.mem.1, slv h.mons.length q1.mons.1, slv h.buf.length q1.buf.1, slv h.iobuf.length q1.iobuf.1], [slv (f_barePoke (f_seenAs h m) page cell v).1.mem.length q55.mem.1, slv (f_barePoke (f_seenAs h m) page cell v).1.guests.length q55.guests.1, slv (f_barePoke (f_seenAs h m) page cell v).1.outs.length q55.outs.1, I (f_barePoke (f_seenAs h m) page cell v).1.pend]]⟩)
   replace S := S.cast (σ' := ⟨[(1, .v (I m)), (6, .p 1 0), (8, .p 2 0), (9, .p 3 0), (10, .v (B true)), (39, .v (slv (f_barePoke (f_seenAs h m) page cell v).1.guests.length q92.1)), (41, .v (pt q1.mons.1.b (q1.mons.1.off + m.toNat * 9 + 3)))], [GT.cells h ph, Zc THost, [slv h.mem.length q1.mem.1, slv (h.mons.set m.toNat ({ el h.mons m.toNat with guests := (f_barePoke (f_seenAs h m) page cell v).1.guests })).length q1.mons.1, slv h.buf.length q1.buf.1, slv h.iobuf.length q1.iobuf.1], [slv (f_barePoke (f_seenAs h m) page cell v).1.mem.length q55.mem.1, slv (f_barePoke (f_seenAs h m) page cell v).1.guests.length q55.guests.1, slv (f_barePoke (f_seenAs h m) page cell v).1.outs.length q55.outs.1, I (f_barePoke (f_seenAs h m) page cell v).1.pend]]⟩) (by rw [show (h.mons.set m.toNat ({ el h.mons m.toNat with guests := (f_barePoke (f_seenAs h m) page cell v).1.guests })).length = h.mons.length by omega])
   refine WD.done (by kernel_rfl) ?_ _
   refine id (nt (rg ?_))
   refine S.qbm 7 [] [(46, .v (I (f_barePoke (f_seenAs h m) page cell v).1.pend)), (48, .v (pt q1.mons.1.b (q1.mons.1.off + m.toNat * 9 + 5)))] (.cons (qt o103.rn m Tryz.underlying28) .nil) 3 [] fun ac w β S => ?_
   refine RG.op rfl (S.sF (α := TMon) o103 (t := 3) (k := m.toNat) (j := 5) (off := q1.mons.1.off + m.toNat * 9 + 5) (v := I (f_barePoke (f_seenAs h m) page cell v).1.pend) (y := ({ el (h.mons.set m.toNat ({ el h.mons m.toNat with guests := (f_barePoke (f_seenAs h m) page cell v).1.guests })) m.toNat with pend := (f_barePoke (f_seenAs h m) page cell v).1.pend } : TMon)) (q := ((q1.mons.1, q105).2 m.toNat)) (fun G g_ _ => ⟨G, ows_Mon_pend g_ i87, fun _ h => .inl h⟩) fun w N F117 q118 S up o116 d119 s120 n121 => ?_)
   have d122 := d119 _ d109 (fun b _ h => False.elim h) o6.sub
   have d123 := d119 _ d110 (fun b _ h => False.elim h) o12.sub
   have d124 := d119 _ d111 (fun b _ h => False.elim h) o15.sub
   replace o6 := o6.upF d109 up
   replace o12 := o12.upF d110 up
   replace o15 := o15.upF d111 up
   clear up d119 o103 n121
   have l125 : ((h.mons.set m.toNat ({ el h.mons m.toNat with guests := (f_barePoke (f_seenAs h m) page cell v).1.guests })).set m.toNat ({ el (h.mons.set m.toNat ({ el h.mons m.toNat with guests := (f_barePoke (f_seenAs h m) page cell v).1.guests })) m.toNat with pend := (f_barePoke (f_seenAs h m) page cell v).1.pend })).length = (h.mons.set m.toNat ({ el h.mons m.toNat with guests := (f_barePoke (f_seenAs h m) page cell v).1.guests })).length := List.length_set
   replace S := S.z (σ' := ⟨[(6, .p 1 0), (8, .p 2 0), (10, .v (B true)), (46, .v (I (f_barePoke (f_seenAs h m) page cell v).1.pend)), (48, .v (pt q1.mons.1.b (q1.mons.1.off + m.toNat * 9 + 5)))], [GT.cells h ph, Zc THost, [slv h.mem.length q1.mem.1, slv (h.mons.set m.toNat ({ el h.mons m.toNat with guests := (f_barePoke (f_seenAs h m) page cell v).1.guests })).length q1.mons.1, slv h.buf.length q1.buf.1, slv h.iobuf.length q1.iobuf.1]]⟩)
   replace S := S.cast (σ' := ⟨[(6, .p 1 0), (8, .p 2 0), (10, .v (B true)), (46, .v (I (f_barePoke (f_seenAs h m) page cell v).1.pend)), (48, .v (pt q1.mons.1.b (q1.mons.1.off + m.toNat * 9 + 5)))], [GT.cells h ph, Zc THost, [slv h.mem.length q1.mem.1, slv ((h.mons.set m.toNat ({ el h.mons m.toNat with guests := (f_barePoke (f_seenAs h m) page cell v).1.guests })).set m.toNat ({ el (h.mons.set m.toNat ({ el h.mons m.toNat with guests := (f_barePoke (f_seenAs h m) page cell v).1.guests })) m.toNat with pend := (f_barePoke (f_seenAs h m) page cell v).1.pend })).length q1.mons.1, slv h.buf.length q1.buf.1, slv h.iobuf.length q1.iobuf.1]]⟩) (by rw [show ((h.mons.set m.toNat ({ el h.mons m.toNat with guests := (f_barePoke (f_seenAs h m) page cell v).1.guests })).set m.toNat ({ el (h.mons.set m.toNat ({ el h.mons m.toNat with guests := (f_barePoke (f_seenAs h m) page cell v).1.guests })) m.toNat with pend := (f_barePoke (f_seenAs h m) page cell v).1.pend })).length = (h.mons.set m.toNat ({ el h.mons m.toNat with guests := (f_barePoke (f_seenAs h m) page cell v).1.guests })).length by omega])
   refine rd (nt (ws (rg ?_)))
   refine S.qem 4 [] [(7, .v (B true))] 2 [(1, [slv h.mem.length q1.mem.1, slv ((h.mons.set m.toNat ({ el h.mons m.toNat with guests := (f_barePoke (f_seenAs h m) page cell v).1.guests })).set m.toNat ({ el (h.mons.set m.toNat ({ el h.mons m.toNat with guests := (f_barePoke (f_seenAs h m) page cell v).1.guests })) m.toNat with pend := (f_barePoke (f_seenAs h m) page cell v).1.pend })).length q1.mons.1, slv h.buf.length q1.buf.1, slv h.iobuf.length q1.iobuf.1])] fun ac w β S => ?_
   refine (nt (wr (S.r [GT.val (⟨h.mem, ((h.mons.set m.toNat ({ el h.mons m.toNat with guests := (f_barePoke (f_seenAs h m) page cell v).1.guests })).set m.toNat ({ el (h.mons.set m.toNat ({ el h.mons m.toNat with guests := (f_barePoke (f_seenAs h m) page cell v).1.guests })) m.toNat with pend := (f_barePoke (f_seenAs h m) page cell v).1.pend })), h.buf, h.iobuf⟩ : THost) (⟨q1.mem, (q1.mons.1, q118), q1.buf, q1.iobuf⟩ : PHost), B true] ?_)))
   have o126 := ow_Host (x := (⟨h.mem, ((h.mons.set m.toNat ({ el h.mons m.toNat with guests := (f_barePoke (f_seenAs h m) page cell v).1.guests })).set m.toNat ({ el (h.mons.set m.toNat ({ el h.mons m.toNat with guests := (f_barePoke (f_seenAs h m) page cell v).1.guests })) m.toNat with pend := (f_barePoke (f_seenAs h m) page cell v).1.pend })), h.buf, h.iobuf⟩ : THost)) (p := (⟨q1.mem, (q1.mons.1, q118), q1.buf, q1.iobuf⟩ : PHost)) o6 o116 o12 o15 d122 d18 d19 (Disj.symm d123) (Disj.symm d124) d22 
   exact ret2_of (p' := ()) S (show h = (⟨h.mem, ((h.mons.set m.toNat ({ el h.mons m.toNat with guests := (f_barePoke (f_seenAs h m) page cell v).1.guests })).set m.toNat ({ el (h.mons.set m.toNat ({ el h.mons m.toNat with guests := (f_barePoke (f_seenAs h m) page cell v).1.guests })) m.toNat with pend := (f_barePoke (f_seenAs h m) page cell v).1.pend })), h.buf, h.iobuf⟩ : THost) from k0_impl_reflected) (show f_pokeOk h m page cell v = true from k1_impl_reflected) rfl rfl o126 trivial
  rw [h91] at S
  refine wk (nt (ws (rg ?_)))
  refine S.qem 4 [0, 1, 2, 3, 8, 9, 10, 11, 23, 26, 27, 28, 33] [(7, .v (B false))] 2 [(1, [slv h.mem.length q1.mem.1, slv h.mons.length q1.mons.1, slv h.buf.length q1.buf.1, slv h.iobuf.length q1.iobuf.1])] fun ac w β S => ?_
  refine (nt (wr (S.r [GT.val h q1, B false] ?_)))
  have o127 := ow_Host (x := h) (p := q1) o6 o9 o12 o15 d17 d18 d19 d20 d21 d22 
  exact ret2_of (p' := ()) S (show h = h from k0_impl_reflected) (show f_pokeOk h m page cell v = false from k1_impl_reflected) rfl rfl o127 trivial

theorem k0_impl_OwnerOfPage {p : Prop} (h : p := by clear S; (first | rw [ownerOfPage_neg (by omega)] | rw [ownerOfPage_end (he.trans (own0_end (by omega)))] | rw [ownerOfPage_pos (by omega), he, own0_hit (by omega) (he2.trans (own1_hit (by omega) (by assumption)))])) : p := h
theorem c_impl_OwnerOfPage (w0 : World) (h : THost) (ph : PHost) (hh : RD w0 h ph) (page : Int) : Calls Tryz.prog 134 [GT.val h ph, I page].toArray w0 (fun e w' => e = .returned (.tuple #[I (f_ownerOfPage h page).1, I (f_ownerOfPage h page).2]) ∧ Chg NoB w0 w') := by
 refine Calls.walk NoB Tryz.func134 rfl rfl ?_
 intro ac β S
 have hleh_mem : h.mem.length ≤ 4194304 := LRd.le (RHost.mem (d := h) hh)
 have hleh_mons : h.mons.length ≤ 4194304 := LRd.le (RHost.mons (d := h) hh)
 have hleh_buf : h.buf.length ≤ 4194304 := LRd.le (RHost.buf (d := h) hh)
 have hleh_iobuf : h.iobuf.length ≤ 4194304 := LRd.le (RHost.iobuf (d := h) hh)
 refine ws (rg ?_)
 refine S.qem 3 [] [(2, .p 0 0)] 1 [(0, GT.cells h ph)] fun ac w β S => ?_
 refine (nt (ws (ws (rg ?_))))
 refine S.qe 2 [] [(11, .v (B (decide (page < 0))))] fun ac w β S => ?_
 refine (nt (S.c (decide (page < 0)) (fun h1 => ?_) (fun h1 => ?_)))
 ·have g2 := of_decide_eq_true h1
  refine ws (rg ?_)
  refine S.qe 2 [] [(4, .v (I (-1))), (5, .v (I (-1)))] fun ac w β S => ?_
  exact (nt (wr (rt (S.r [I (-1), I (-1)] ⟨ret2v (eqI (show (-1) = (f_ownerOfPage h page).1 from k0_impl_OwnerOfPage)) (eqI (show (-1) = (f_ownerOfPage h page).2 from k0_impl_OwnerOfPage)), S.chg⟩))))
 have g3 := of_decide_eq_false h1
 refine wk (nt (ws (ws (rg ?_))))
 refine S.qem 4 [] [(13, .v (slv h.mons.length ph.mons.1)), (14, .v (I (h.mons.length : Int))), (15, .v (I 0))] 0 [] fun ac w β S => ?_
 refine (nt (wp_block ?_))
 refine wp_loop_down (fun mm ac w => ∃ (i : Nat)  (u : _) (N : _) (β : _), mm = h.mons.length - i ∧ (i ≤ h.mons.length) ∧ (f_own0 h.mons page 0 = f_own0 h.mons page i) ∧ St Tryz.prog Tryz.f134.ntmps w0 NoB u N β ⟨[(1, .v (I page)), (13, .v (slv h.mons.length ph.mons.1)), (14, .v (I (h.mons.length : Int))), (15, .v (I (i : Int)))], []⟩ ac w) _ ⟨0, _, _, _, rfl, o0, o0, S.z⟩ ?_
 clear S
 rintro mm ac w ⟨i, u, N, β, rfl, hi, he, S⟩
 refine ws (rg ?_)
 refine S.qe 1 [] [(16, .v (B (decide ((i : Int) < (h.mons.length : Int)))))] fun ac w β S => ?_
 refine (nt (ws (S.c (decide ((i : Int) < (h.mons.length : Int))) (fun h4 => ?_) (fun h4 => ?_))))
 ·have g5 := of_decide_eq_true h4
  refine wk (nt (ws (wp_block (ws (rg ?_)))))
  refine S.qgm 6 [] [(6, .v (I (i : Int))), (7, .p 0 0)] (.cons (qn (RHost.mons (d := h) (S.arg hh)) i Tryz.underlying28) (.cons (qs (RHost.mons (d := h) (S.arg hh)) 53 i) .nil)) 1 [(0, GT.cells (el h.mons i) (ph.mons.2 i))] fun ac w β S => ?_
  refine (nt (ws (rg ?_)))
  have b6 : (el h.mons i).outer.length ≤ 4194304 := LRd.le (RMon.outer (d := (el h.mons i)) (LRd.el (RHost.mons (d := h) (S.arg hh)) i (by omega)))
  refine S.qem 4 [] [(21, .v (slv (el h.mons i).outer.length (ph.mons.2 i).outer.1)), (22, .v (I ((el h.mons i).outer.length : Int))), (23, .v (I 0))] 0 [] fun ac w β S => ?_
  refine (nt (wp_block ?_))
  refine wp_loop_down (fun mm ac w => ∃ (k : Nat)  (u : _) (N : _) (β : _), mm = (el h.mons i).outer.length - k ∧ (k ≤ (el h.mons i).outer.length) ∧ (f_own1 (el h.mons i).outer page 0 = f_own1 (el h.mons i).outer page k) ∧ St Tryz.prog Tryz.f134.ntmps w0 NoB u N β ⟨[(1, .v (I page)), (6, .v (I (i : Int))), (13, .v (slv h.mons.length ph.mons.1)), (14, .v (I (h.mons.length : Int))), (15, .v (I (i : Int))), (21, .v (slv (el h.mons i).outer.length (ph.mons.2 i).outer.1)), (22, .v (I ((el h.mons i).outer.length : Int))), (23, .v (I (k : Int)))], []⟩ ac w) _ ⟨0, _, _, _, rfl, o0, o0, S.z⟩ ?_
  clear S
  rintro mm ac w ⟨k, u, N, β, rfl, hk, he2, S⟩
  have hl2 : (el h.mons i).outer.length ≤ 4194304 := LRd.le (RMon.outer (d := el h.mons i) (LRd.el (RHost.mons (d := h) hh) i (by omega)))
  refine ws (rg ?_)
  refine S.qe 1 [] [(24, .v (B (decide ((k : Int) < ((el h.mons i).outer.length : Int)))))] fun ac w β S => ?_
  refine (nt (ws (S.c (decide ((k : Int) < ((el h.mons i).outer.length : Int))) (fun h7 => ?_) (fun h7 => ?_))))
  ·have g8 := of_decide_eq_true h7
   refine wk (nt (ws (wp_block (ws (rg ?_)))))
   refine S.qgm 6 [] [(8, .v (I (k : Int))), (9, .p 0 0)] (.cons (qn (RMon.outer (d := (el h.mons i)) (LRd.el (RHost.mons (d := h) (S.arg hh)) i (by omega))) k Tryz.underlying47) (.cons (qs (RMon.outer (d := (el h.mons i)) (LRd.el (RHost.mons (d := h) (S.arg hh)) i (by omega))) 55 k) .nil)) 1 [(0, GT.cells (el (el h.mons i).outer k) ())] fun ac w β S => ?_
   refine (nt (ws (rg ?_)))
   refine S.qem 4 [] [(31, .v (B ((el (el h.mons i).outer k).page == page)))] 0 [] fun ac w β S => ?_
   refine (nt (S.c ((el (el h.mons i).outer k).page == page) (fun h9 => ?_) (fun h9 => ?_)))
   ·have g10 : (el (el h.mons i).outer k).page = page := eq_of_beq h9
    refine ws (rg ?_)
    refine S.qe 4 [] [(4, .v (I (i : Int))), (5, .v (I (k : Int)))] fun ac w β S => ?_
    exact (nt (wr (rb (rt (rt (rb (rb (rt (rt (rb (rt (S.r [I (i : Int), I (k : Int)] ⟨ret2v (eqI (show (i : Int) = (f_ownerOfPage h page).1 from k0_impl_OwnerOfPage)) (eqI (show (k : Int) = (f_ownerOfPage h page).2 from k0_impl_OwnerOfPage)), S.chg⟩))))))))))))
   have g11 : ¬ ((el (el h.mons i).outer k).page = page) := ne_of_beq_false h9
   refine wk (nb (nt (rg ?_)))
   refine S.qg 2 [] [(23, .v (I ((k : Int) + 1)))] (.cons (qp (k : Int) 1) .nil) fun ac w β S => ?_
   refine (nt ?_)
   refine ⟨(el h.mons i).outer.length - (k + 1), by omega, k + 1, _, _, _, rfl, ?_, ?_, S.z⟩
   ·exact oz
   ·clear S; exact he2.trans (own1_next (by omega) (by assumption))
  have g12 := of_decide_eq_false h7
  refine wp_exit (ex_then (ex_then (ex_hit (nb (nt (rg ?_))))))
  refine S.qg 2 [] [(15, .v (I ((i : Int) + 1)))] (.cons (qp (i : Int) 1) .nil) fun ac w β S => ?_
  refine (nt ?_)
  refine ⟨h.mons.length - (i + 1), by omega, i + 1, _, _, _, rfl, ?_, ?_, S.z⟩
  ·exact oz
  ·clear S; exact he.trans (own0_next (by omega) (he2.trans (own1_end (by omega))))
 have g13 := of_decide_eq_false h4
 refine wp_exit (ex_then (ex_then (ex_hit (nt (ws (rg ?_))))))
 refine S.qe 2 [] [(4, .v (I (-1))), (5, .v (I (-1)))] fun ac w β S => ?_
 exact (nt (wr (S.r [I (-1), I (-1)] ⟨ret2v (eqI (show (-1) = (f_ownerOfPage h page).1 from k0_impl_OwnerOfPage)) (eqI (show (-1) = (f_ownerOfPage h page).2 from k0_impl_OwnerOfPage)), S.chg⟩)))

theorem c_impl_FreeIn (w0 : World) (h : THost) (ph : PHost) (hh : RD w0 h ph) : Calls Tryz.prog 93 [GT.val h ph].toArray w0 (Ret1 NoB w0 (f_freeIn h : List Int)) := by
 refine Calls.walk NoB Tryz.func93 rfl rfl ?_
 intro ac β S
 have hleh_mem : h.mem.length ≤ 4194304 := LRd.le (RHost.mem (d := h) hh)
 have hleh_mons : h.mons.length ≤ 4194304 := LRd.le (RHost.mons (d := h) hh)
 have hleh_buf : h.buf.length ≤ 4194304 := LRd.le (RHost.buf (d := h) hh)
 have hleh_iobuf : h.iobuf.length ≤ 4194304 := LRd.le (RHost.iobuf (d := h) hh)
 refine ws (rg ?_)
 refine S.qem 2 [] [(1, .p 0 0)] 1 [(0, GT.cells h ph)] fun ac w β S => ?_
 refine (nt (ws (rg ?_)))
 refine RG.op rfl (S.bs0 (α := Int) (d := 7) (by kernel_rfl) fun ac w N q1 F2 S up o3 d4 => ?_)
 clear up d4
 refine S.qe 1 [] [(3, .v (slv 0 q1.1))] fun ac w β S => ?_
 refine (nt (ws (ws (rg ?_))))
 refine S.qe 4 [] [(10, .v (I (h.mem.length : Int))), (11, .v (I 0))] fun ac w β S => ?_
 refine (nt (wp_block ?_))
 refine wp_loop_down (fun mm ac w => ∃ (k : Nat) (acc : List Int) (q5 : _) (F6 : _) (u : _) (N : _) (β : _), mm = h.mem.length - k ∧ (k ≤ h.mem.length) ∧ (acc = f_idx k (fun p => decide ((f_ownerOfPage h p).1 < 0))) ∧ St Tryz.prog Tryz.f93.ntmps w0 NoB u N β ⟨[(1, .p 0 0), (3, .v (slv acc.length q5.1)), (10, .v (I (h.mem.length : Int))), (11, .v (I (k : Int)))], [GT.cells h ph]⟩ ac w ∧ Ow w0 NoB u N F6 acc q5) _ ⟨0, ([] : List Int), q1, F2, _, _, _, rfl, o0, (by rfl), S.z, o3⟩ ?_
 clear S o3
 rintro mm ac w ⟨k, acc, q5, F6, u, N, β, rfl, hk, hacc, S, o7⟩
 have hlacc : acc.length ≤ k := by rw [hacc]; exact idx_len _ _
 refine ws (rg ?_)
 refine S.qe 1 [] [(12, .v (B (decide ((k : Int) < (h.mem.length : Int)))))] fun ac w β S => ?_
 refine (nt (ws (S.c (decide ((k : Int) < (h.mem.length : Int))) (fun h8 => ?_) (fun h8 => ?_))))
 ·have g9 := of_decide_eq_true h8
  refine wk (nt (ws (wp_block (ws (rg ?_)))))
  refine S.qe 2 [] [(4, .v (I (k : Int)))] fun ac w β S => ?_
  refine (nt (ws (rg ?_)))
  refine S.qg 8 [] [(5, .v (I (f_ownerOfPage h (k : Int)).1))] (.cons (Q_call fun w hw => c_impl_OwnerOfPage w h ph (rd_of (S.arg hh) hw) (k : Int)) .nil) fun ac w β S => ?_
  refine (nt (ws (rg ?_)))
  refine S.qe 2 [] [(21, .v (B (decide ((f_ownerOfPage h (k : Int)).1 < 0))))] fun ac w β S => ?_
  refine (nt (S.c (decide ((f_ownerOfPage h (k : Int)).1 < 0)) (fun h10 => ?_) (fun h10 => ?_)))
  ·have g11 := of_decide_eq_true h10
   refine rg ?_
   refine S.qa 2 [] [(22, .v (slv acc.length q5.1)), (23, .v (I (k : Int)))] fun ac w β S => ?_
   refine RG.op rfl (S.bs1 (α := Int) (x := (k : Int)) (p := ()) (F := NoB) ⟨by omega, by omega⟩ (fun b h => False.elim h) (fun b h => False.elim h) (d := 24) (by kernel_rfl) fun ac w N q12 F13 S up o14 d15 => ?_)
   have d16 := d15 _ (fun b _ h => False.elim h) o7.sub
   replace o7 := o7.up up
   clear up d15
   refine RG.op rfl (S.appFlat (α := Int) o7 o14.rn (fun _ _ h => h) (by' := 8) (d := 25) (lx := acc.length) (ly := 1) rfl rfl (by kernel_rfl) (show _ ≤ 4194304 by simp only [List.length_append, List.length_cons, List.length_nil]; omega) fun ac w N q17 F18 S up o19 d20 => ?_)
   have d21 := d20 _ (Disj.symm d16) o14.sub
   replace o14 := o14.upF (Disj.symm d16) up
   clear up d20
   refine S.qe 1 [] [(3, .v (slv (acc ++ [(k : Int)]).length q17.1))] fun ac w β S => ?_
   refine (nb (nt (rg ?_)))
   refine S.qg 2 [] [(11, .v (I ((k : Int) + 1)))] (.cons (qp (k : Int) 1) .nil) fun ac w β S => ?_
   refine (nt ?_)
   refine ⟨h.mem.length - (k + 1), by omega, k + 1, (acc ++ [(k : Int)]), q17, F18, _, _, _, rfl, ?_, ?_, S.z, o19⟩
   ·exact oz
   ·clear S; (first | (rw [idx_step_t (by first | assumption | (simp [*]; done) | (simp; omega)), hacc]; done) | (rw [idx_step_f (by first | assumption | (simp [*]; done) | (simp; omega)), hacc]; done) | (rw [idx_step_t (by simp_all <;> fail), hacc]; done) | (rw [idx_step_f (by simp_all <;> fail), hacc]; done))
  have g22 := of_decide_eq_false h10
  refine wk (nb (nt (rg ?_)))
  refine S.qg 2 [] [(11, .v (I ((k : Int) + 1)))] (.cons (qp (k : Int) 1) .nil) fun ac w β S => ?_
  refine (nt ?_)
  refine ⟨h.mem.length - (k + 1), by omega, k + 1, acc, q5, F6, _, _, _, rfl, ?_, ?_, S.z, o7⟩
  ·exact oz
  ·clear S; (first | (rw [idx_step_t (by first | assumption | (simp [*]; done) | (simp; omega)), hacc]; done) | (rw [idx_step_f (by first | assumption | (simp [*]; done) | (simp; omega)), hacc]; done) | (rw [idx_step_t (by simp_all <;> fail), hacc]; done) | (rw [idx_step_f (by simp_all <;> fail), hacc]; done))
 have g23 := of_decide_eq_false h8
 refine wp_exit (ex_then (ex_then (ex_hit (nt (ws (rg ?_))))))
 refine S.qe 2 [] [(2, .v (slv acc.length q5.1))] fun ac w β S => ?_
 exact (nt (wr (S.r [slv acc.length q5.1] (ret1_of S (show f_freeIn h = acc by clear S; (unfold f_freeIn; rw [hacc, show h.mem.length = k by omega])) rfl o7))))

theorem c_impl_UsesOf (w0 : World) (t : List TSlot) (pt : LP TSlot) (ht : RD w0 t pt) (page : Int) : Calls Tryz.prog 123 [slv t.length pt.1, I page].toArray w0 (Ret1 NoB w0 (f_usesOf t page : List Int)) := by
 refine Calls.walk NoB Tryz.func123 rfl rfl ?_
 intro ac β S
 have hlet : t.length ≤ 4194304 := LRd.le ht
 refine ws (rg ?_)
 refine S.qe 1 [] [] fun ac w β S => ?_
 refine (nt (ws (rg ?_)))
 refine RG.op rfl (S.bs0 (α := Int) (d := 8) (by kernel_rfl) fun ac w N q1 F2 S up o3 d4 => ?_)
 clear up d4
 refine S.qe 1 [] [(5, .v (slv 0 q1.1))] fun ac w β S => ?_
 refine (nt (ws (ws (rg ?_))))
 refine S.qe 3 [] [(9, .v (slv t.length pt.1)), (10, .v (I (t.length : Int))), (11, .v (I 0))] fun ac w β S => ?_
 refine (nt (wp_block ?_))
 refine wp_loop_down (fun mm ac w => ∃ (k : Nat) (acc : List Int) (q5 : _) (F6 : _) (u : _) (N : _) (β : _), mm = t.length - k ∧ (k ≤ t.length) ∧ (acc = f_idx k (fun i => decide ((el t i).page = page))) ∧ St Tryz.prog Tryz.f123.ntmps w0 NoB u N β ⟨[(1, .v (I page)), (5, .v (slv acc.length q5.1)), (9, .v (slv t.length pt.1)), (10, .v (I (t.length : Int))), (11, .v (I (k : Int)))], []⟩ ac w ∧ Ow w0 NoB u N F6 acc q5) _ ⟨0, ([] : List Int), q1, F2, _, _, _, rfl, o0, (by rfl), S.z, o3⟩ ?_
 clear S o3
 rintro mm ac w ⟨k, acc, q5, F6, u, N, β, rfl, hk, hacc, S, o7⟩
 have hlacc : acc.length ≤ k := by rw [hacc]; exact idx_len _ _
 refine ws (rg ?_)
 refine S.qe 1 [] [(12, .v (B (decide ((k : Int) < (t.length : Int)))))] fun ac w β S => ?_
 refine (nt (ws (S.c (decide ((k : Int) < (t.length : Int))) (fun h8 => ?_) (fun h8 => ?_))))
 ·have g9 := of_decide_eq_true h8
  refine wk (nt (ws (wp_block (ws (rg ?_)))))
  refine S.qgm 6 [] [(6, .v (I (k : Int))), (7, .p 0 0)] (.cons (qn (S.arg ht) k Tryz.underlying47) (.cons (qs (S.arg ht) 55 k) .nil)) 1 [(0, GT.cells (el t k) ())] fun ac w β S => ?_
  refine (nt (ws (rg ?_)))
  refine S.qem 4 [] [(19, .v (B ((el t k).page == page)))] 0 [] fun ac w β S => ?_
  refine (nt (S.c ((el t k).page == page) (fun h10 => ?_) (fun h10 => ?_)))
  ·have g11 : (el t k).page = page := eq_of_beq h10
   refine rg ?_
   refine S.qa 2 [] [(20, .v (slv acc.length q5.1)), (21, .v (I (k : Int)))] fun ac w β S => ?_
   refine RG.op rfl (S.bs1 (α := Int) (x := (k : Int)) (p := ()) (F := NoB) ⟨by omega, by omega⟩ (fun b h => False.elim h) (fun b h => False.elim h) (d := 22) (by kernel_rfl) fun ac w N q12 F13 S up o14 d15 => ?_)
   have d16 := d15 _ (fun b _ h => False.elim h) o7.sub
   replace o7 := o7.up up
   clear up d15
   refine RG.op rfl (S.appFlat (α := Int) o7 o14.rn (fun _ _ h => h) (by' := 8) (d := 23) (lx := acc.length) (ly := 1) rfl rfl (by kernel_rfl) (show _ ≤ 4194304 by simp only [List.length_append, List.length_cons, List.length_nil]; omega) fun ac w N q17 F18 S up o19 d20 => ?_)
   have d21 := d20 _ (Disj.symm d16) o14.sub
   replace o14 := o14.upF (Disj.symm d16) up
   clear up d20
   refine S.qe 1 [] [(5, .v (slv (acc ++ [(k : Int)]).length q17.1))] fun ac w β S => ?_
   refine (nb (nt (rg ?_)))
   refine S.qg 2 [] [(11, .v (I ((k : Int) + 1)))] (.cons (qp (k : Int) 1) .nil) fun ac w β S => ?_
   refine (nt ?_)
   refine ⟨t.length - (k + 1), by omega, k + 1, (acc ++ [(k : Int)]), q17, F18, _, _, _, rfl, ?_, ?_, S.z, o19⟩
   ·exact oz
   ·clear S; (first | (rw [idx_step_t (by first | assumption | (simp [*]; done) | (simp; omega)), hacc]; done) | (rw [idx_step_f (by first | assumption | (simp [*]; done) | (simp; omega)), hacc]; done) | (rw [idx_step_t (by simp_all <;> fail), hacc]; done) | (rw [idx_step_f (by simp_all <;> fail), hacc]; done))
  have g22 : ¬ ((el t k).page = page) := ne_of_beq_false h10
  refine wk (nb (nt (rg ?_)))
  refine S.qg 2 [] [(11, .v (I ((k : Int) + 1)))] (.cons (qp (k : Int) 1) .nil) fun ac w β S => ?_
  refine (nt ?_)
  refine ⟨t.length - (k + 1), by omega, k + 1, acc, q5, F6, _, _, _, rfl, ?_, ?_, S.z, o7⟩
  ·exact oz
  ·clear S; (first | (rw [idx_step_t (by first | assumption | (simp [*]; done) | (simp; omega)), hacc]; done) | (rw [idx_step_f (by first | assumption | (simp [*]; done) | (simp; omega)), hacc]; done) | (rw [idx_step_t (by simp_all <;> fail), hacc]; done) | (rw [idx_step_f (by simp_all <;> fail), hacc]; done))
 have g23 := of_decide_eq_false h8
 refine wp_exit (ex_then (ex_then (ex_hit (nt (ws (rg ?_))))))
 refine S.qe 2 [] [(4, .v (slv acc.length q5.1))] fun ac w β S => ?_
 exact (nt (wr (S.r [slv acc.length q5.1] (ret1_of S (show f_usesOf t page = acc by clear S; (unfold f_usesOf; rw [hacc, show t.length = k by omega])) rfl o7))))

theorem k0_impl_Forget {p : Prop} (h : p := by clear S; (unfold f_forget; (repeat' split) <;> first | rfl | (exfalso; omega) | (exfalso; simp_all; done))) : p := h
theorem c_impl_Forget (w0 : World) (k : TKept) (pk : PKept) (hk : RD w0 k pk) (page : Int) : Calls Tryz.prog 124 [GT.val k pk, I page].toArray w0 (Ret1 NoB w0 (f_forget k page : TKept)) := by
 refine Calls.walk NoB Tryz.func124 rfl rfl ?_
 intro ac β S
 have hlek_known : k.known.length ≤ 4194304 := LRd.le (RKept.known (d := k) hk)
 have hlek_slots : k.slots.length ≤ 4194304 := LRd.le (RKept.slots (d := k) hk)
 refine ws (rg ?_)
 refine S.qem 2 [] [(2, .p 0 0), (4, .p 1 0)] 2 [(0, GT.cells k pk), (1, Zc TKept)] fun ac w β S => ?_
 refine (nt (ws (rg ?_)))
 refine S.qa 1 [] [(6, .v (GT.val k pk))] fun ac w β S => ?_
 refine RG.op rfl (S.k1 7 (c_impl_copyKept w k pk (S.rd (S.arg hk))) fun ac w N q1 F2 S up o3 d4 => ?_)
 clear up d4
 obtain ⟨F5, F8, o6, o9, s7, s10, d11⟩ := sp_Kept o3
 refine S.qem 2 [] [(5, .p 2 0)] 3 [(2, [slv k.known.length q1.known.1, slv k.slots.length q1.slots.1])] fun ac w β S => ?_
 refine (nt (ws (ws (rg ?_))))
 refine S.qb 6 [] [(13, .v (B (f_within page 0 ((k.known.length : Int) - 1))))] (.cons (Q_call fun w hw => c_impl_has w page (k.known.length : Int) (by omega)) .nil) fun ac w β S => ?_
 rcases Bool.eq_false_or_eq_true (f_within page 0 ((k.known.length : Int) - 1)) with h12 | h12 <;> rw [h12] at S
 ·have g13 := within_t h12
  refine S.qg 6 [13] [(19, .v (B (f_within page 0 ((k.slots.length : Int) - 1))))] (.cons (Q_call fun w hw => c_impl_has w page (k.slots.length : Int) (by omega)) .nil) fun ac w β S => ?_
  refine (nt (S.c (f_within page 0 ((k.slots.length : Int) - 1)) (fun h14 => ?_) (fun h14 => ?_)))
  ·have g15 := within_t h14
   refine ws (rg ?_)
   refine S.qb 4 [] [(23, .v (pt q1.known.1.b (q1.known.1.off + page.toNat * 1)))] (.cons (qt o6.rn page Tryz.underlying48) .nil) fun ac w β S => ?_
   refine RG.op rfl (S.sF (α := Bool) o6 (t := 4) (k := page.toNat) (j := 0) (off := q1.known.1.off + page.toNat * 1) (v := B false) (y := false) (q := ()) (fun _ _ _ => ⟨NoB, trivial, fun _ h => False.elim h⟩) fun w N F17 q18 S up o16 d19 s20 n21 => ?_)
   have d22 := d19 _ (Disj.symm d11) (fun b _ h => False.elim h) o9.sub
   replace o9 := o9.upF (Disj.symm d11) up
   clear up d19 o6 n21
   have l23 : (k.known.set page.toNat false).length = k.known.length := List.length_set
   replace S := S.z (σ' := ⟨[(1, .v (I page)), (4, .p 1 0), (5, .p 2 0), (23, .v (pt q1.known.1.b (q1.known.1.off + page.toNat * 1)))], [GT.cells k pk, Zc TKept, [slv k.known.length q1.known.1, slv k.slots.length q1.slots.1]]⟩)
   replace S := S.cast (σ' := ⟨[(1, .v (I page)), (4, .p 1 0), (5, .p 2 0), (23, .v (pt q1.known.1.b (q1.known.1.off + page.toNat * 1)))], [GT.cells k pk, Zc TKept, [slv (k.known.set page.toNat false).length q1.known.1, slv k.slots.length q1.slots.1]]⟩) (by rw [show (k.known.set page.toNat false).length = k.known.length by omega])
   refine rd (nt ?_)
   refine S.draw0 (f := 6) 5 rfl rfl fun w S => ?_
   refine S.hq 0 [0] [] [(24, .p 2 1)] .nil fun ac S => ?_
   refine S.hq 1 [1] [] [(25, .v (slv k.slots.length q1.slots.1))] .nil fun ac S => ?_
   refine S.hq 2 [2] [] [(26, .v (I page))] .nil fun ac S => ?_
   refine WD.one (i := 3) (by kernel_rfl) ?_
   refine S.stepq (i := 3) (keep := [4, 5, 25, 26, 27]) (m := 3) (σ' := ⟨[(4, .p 1 0), (5, .p 2 0), (25, .v (slv k.slots.length q1.slots.1)), (26, .v (I page)), (27, .v (GT.val (⟨-1, 0⟩ : TSlot) ()))], [GT.cells k pk, Zc TKept, [slv (k.known.set page.toNat false).length q1.known.1, slv k.slots.length q1.slots.1]]⟩) (.cons (Q_call fun w hw => c_impl_NoSlot w ) .nil) (by kernel_rfl) fun ac w β S hβ => ?_
   refine WD.stayq S hβ ?_
   clear hβ
   refine S.hq 4 [4] [] [(28, .v (pt q1.slots.1.b (q1.slots.1.off + page.toNat * 2)))] (.cons (qt o9.rn page Tryz.underlying47) .nil) fun ac S => ?_
   refine WD.one (i := 5) (by kernel_rfl) ?_
   have e24 : RSlot (el k.slots page.toNat) := (LRd.el o9.rn page.toNat (by omega))
   refine id (S.sF (α := TSlot) o9 (t := 55) (k := page.toNat) (j := 0) (off := q1.slots.1.off + page.toNat * 2) (v := GT.val (⟨-1, 0⟩ : TSlot) ()) (y := (⟨-1, 0⟩ : TSlot)) (q := ()) (fun _ _ _ => ⟨NoB, (show RSlot ⟨-1, 0⟩ from ⟨⟨by decide, by decide⟩, ⟨by decide, by decide⟩⟩), fun _ h => False.elim h⟩) fun w N F26 q27 S up o25 d28 s29 n30 => ?_)
   refine WD.last (by kernel_rfl) ?_
   have d31 := d28 _ (Disj.symm d22) (fun b _ h => False.elim h) o16.sub
   replace o16 := o16.upF (Disj.symm d22) up
   clear up d28 o9 n30
   have l32 : (k.slots.set page.toNat (⟨-1, 0⟩ : TSlot)).length = k.slots.length := List.length_set
   replace S := S.z (σ' := ⟨[(4, .p 1 0), (5, .p 2 0), (27, .v (GT.val (⟨-1, 0⟩ : TSlot) ())), (28, .v (pt q1.slots.1.b (q1.slots.1.off + page.toNat * 2)))], [GT.cells k pk, Zc TKept, [slv (k.known.set page.toNat false).length q1.known.1, slv k.slots.length q1.slots.1]]⟩)
   replace S := S.cast (σ' := ⟨[(4, .p 1 0), (5, .p 2 0), (27, .v (GT.val (⟨-1, 0⟩ : TSlot) ())), (28, .v (pt q1.slots.1.b (q1.slots.1.off + page.toNat * 2)))], [GT.cells k pk, Zc TKept, [slv (k.known.set page.toNat false).length q1.known.1, slv (k.slots.set page.toNat (⟨-1, 0⟩ : TSlot)).length q1.slots.1]]⟩) (by rw [show (k.slots.set page.toNat (⟨-1, 0⟩ : TSlot)).length = k.slots.length by omega])
   refine WD.done (by kernel_rfl) ?_ _
   refine id (nt (ws (rg ?_)))
   refine S.qem 2 [] [] 2 [(1, [slv (k.known.set page.toNat false).length q1.known.1, slv (k.slots.set page.toNat (⟨-1, 0⟩ : TSlot)).length q1.slots.1])] fun ac w β S => ?_
   refine (nt (wr (S.r [GT.val (⟨(k.known.set page.toNat false), (k.slots.set page.toNat (⟨-1, 0⟩ : TSlot))⟩ : TKept) (⟨(q1.known.1, q18), (q1.slots.1, q27)⟩ : PKept)] ?_)))
   have o33 := ow_Kept (x := (⟨(k.known.set page.toNat false), (k.slots.set page.toNat (⟨-1, 0⟩ : TSlot))⟩ : TKept)) (p := (⟨(q1.known.1, q18), (q1.slots.1, q27)⟩ : PKept)) o16 o25 d31 
   exact ret1_of S (show f_forget k page = (⟨(k.known.set page.toNat false), (k.slots.set page.toNat (⟨-1, 0⟩ : TSlot))⟩ : TKept) from k0_impl_Forget) rfl o33
  have g34 := within_f h14
  refine wk (nt (ws (rg ?_)))
  refine S.qem 2 [] [] 2 [(1, [slv k.known.length q1.known.1, slv k.slots.length q1.slots.1])] fun ac w β S => ?_
  refine (nt (wr (S.r [GT.val k q1] ?_)))
  have o35 := ow_Kept (x := k) (p := q1) o6 o9 d11 
  exact ret1_of S (show f_forget k page = k from k0_impl_Forget) rfl o35
 ·have g36 := within_f h12
  refine S.qe 6 [13] [(19, .v (B false))] fun ac w β S => ?_
  refine (nt (S.c false (fun hx => by cases hx) (fun _ => ?_)))
  refine wk (nt (ws (rg ?_)))
  refine S.qem 2 [] [] 2 [(1, [slv k.known.length q1.known.1, slv k.slots.length q1.slots.1])] fun ac w β S => ?_
  refine (nt (wr (S.r [GT.val k q1] ?_)))
  have o37 := ow_Kept (x := k) (p := q1) o6 o9 d11 
  exact ret1_of S (show f_forget k page = k from k0_impl_Forget) rfl o37

theorem c_impl_ForgetUses (w0 : World) (k : TKept) (pk : PKept) (hk : RD w0 k pk) (inner : List TSlot) (pinner : LP TSlot) (hinner : RD w0 inner pinner) (page : Int) : Calls Tryz.prog 72 [GT.val k pk, slv inner.length pinner.1, I page].toArray w0 (Ret1 NoB w0 (f_forgetUses k inner page : TKept)) := by
 refine Calls.walk NoB Tryz.func72 rfl rfl ?_
 intro ac β S
 have hlek_known : k.known.length ≤ 4194304 := LRd.le (RKept.known (d := k) hk)
 have hlek_slots : k.slots.length ≤ 4194304 := LRd.le (RKept.slots (d := k) hk)
 have hleinner : inner.length ≤ 4194304 := LRd.le hinner
 refine ws (rg ?_)
 refine S.qem 2 [] [(3, .p 0 0), (6, .p 1 0)] 2 [(0, GT.cells k pk), (1, Zc TKept)] fun ac w β S => ?_
 refine (nt (ws (rg ?_)))
 refine S.qa 1 [] [(10, .v (GT.val k pk))] fun ac w β S => ?_
 refine RG.op rfl (S.k1 11 (c_impl_copyKept w k pk (S.rd (S.arg hk))) fun ac w N q1 F2 S up o3 d4 => ?_)
 clear up d4
 obtain ⟨F5, F8, o6, o9, s7, s10, d11⟩ := sp_Kept o3
 refine S.qem 2 [] [(7, .p 2 0)] 3 [(2, [slv k.known.length q1.known.1, slv k.slots.length q1.slots.1])] fun ac w β S => ?_
 refine (nt (ws (ws (rg ?_))))
 refine S.qa 2 [] [(12, .v (slv inner.length pinner.1)), (13, .v (I page))] fun ac w β S => ?_
 refine RG.op rfl (S.k1 14 (c_impl_UsesOf w inner pinner (S.rd (S.arg hinner)) page) fun ac w N q12 F13 S up o14 d15 => ?_)
 have d16 := Disj.w d15 o6.sub
 have d17 := Disj.w d15 o9.sub
 replace o6 := o6.up up
 replace o9 := o9.up up
 clear up d15
 refine S.qe 2 [] [(14, .v (slv (f_usesOf inner page).length q12.1)), (15, .v (I ((f_usesOf inner page).length : Int))), (16, .v (I 0))] fun ac w β S => ?_
 refine (nt (wp_block ?_))
 refine wp_loop_down (fun mm ac w => ∃ (i : Nat) (kn : List Bool) (sl : List TSlot) (q18 : _) (F19 : _) (q21 : _) (F22 : _) (u : _) (N : _) (β : _), mm = (f_usesOf inner page).length - i ∧ (i ≤ (f_usesOf inner page).length) ∧ ((⟨kn, sl⟩ : TKept) = ((f_usesOf inner page).take i).foldl f_forget k) ∧ St Tryz.prog Tryz.f72.ntmps w0 NoB u N β ⟨[(6, .p 1 0), (7, .p 2 0), (14, .v (slv (f_usesOf inner page).length q12.1)), (15, .v (I ((f_usesOf inner page).length : Int))), (16, .v (I (i : Int)))], [GT.cells k pk, Zc TKept, [slv kn.length q18.1, slv sl.length q21.1]]⟩ ac w ∧ Ow w0 NoB u N F19 kn q18 ∧ Ow w0 NoB u N F22 sl q21 ∧ Ow w0 NoB u N F13 (f_usesOf inner page) q12 ∧ Disj F19 F22 ∧ Disj F19 F13 ∧ Disj F22 F13) _ ⟨0, k.known, k.slots, q1.known, F5, q1.slots, F8, _, _, _, rfl, o0, (by rfl), S.z, o6, o9, o14, d11, d16, d17⟩ ?_
 clear S o14 o6 o9
 rintro mm ac w ⟨i, kn, sl, q18, F19, q21, F22, u, N, β, rfl, hi, hf, S, o20, o23, o14, d24, d25, d26⟩
 have hub : (f_usesOf inner page).length ≤ inner.length := idx_len _ _
 refine ws (rg ?_)
 refine S.qe 1 [] [(17, .v (B (decide ((i : Int) < ((f_usesOf inner page).length : Int)))))] fun ac w β S => ?_
 refine (nt (ws (S.c (decide ((i : Int) < ((f_usesOf inner page).length : Int))) (fun h27 => ?_) (fun h27 => ?_))))
 ·have g28 := of_decide_eq_true h27
  refine wk (nt (ws (wp_block (ws (rg ?_)))))
  refine S.qg 3 [] [(9, .v (I (el (f_usesOf inner page) i)))] (.cons (qn o14.rn i Tryz.underlying50) (.cons (qx o14.rn 3 i) .nil)) fun ac w β S => ?_
  refine (nt (rg ?_))
  refine S.qa 2 [] [(20, .v (GT.val (⟨kn, sl⟩ : TKept) (⟨q18, q21⟩ : PKept))), (21, .v (I (el (f_usesOf inner page) i)))] fun ac w β S => ?_
  refine RG.op rfl (S.k1 22 (c_impl_Forget w (⟨kn, sl⟩ : TKept) (⟨q18, q21⟩ : PKept) (S.rd (show GT.rd KK _ _ (⟨kn, sl⟩ : TKept) (⟨q18, q21⟩ : PKept) from ⟨o20.rn, o23.rn⟩)) (el (f_usesOf inner page) i)) fun ac w N q29 F30 S up o31 d32 => ?_)
  have d33 := Disj.w d32 o20.sub
  have d34 := Disj.w d32 o23.sub
  have d35 := Disj.w d32 o14.sub
  replace o20 := o20.up up
  replace o23 := o23.up up
  replace o14 := o14.up up
  clear up d32
  obtain ⟨F36, F39, o37, o40, s38, s41, d42⟩ := sp_Kept o31
  refine S.qem 1 [] [] 3 [(2, [slv (f_forget (⟨kn, sl⟩ : TKept) (el (f_usesOf inner page) i)).known.length q29.known.1, slv (f_forget (⟨kn, sl⟩ : TKept) (el (f_usesOf inner page) i)).slots.length q29.slots.1])] fun ac w β S => ?_
  refine (nb (nt (rg ?_)))
  refine S.qg 2 [] [(16, .v (I ((i : Int) + 1)))] (.cons (qp (i : Int) 1) .nil) fun ac w β S => ?_
  refine (nt ?_)
  refine ⟨(f_usesOf inner page).length - (i + 1), by omega, i + 1, (f_forget (⟨kn, sl⟩ : TKept) (el (f_usesOf inner page) i)).known, (f_forget (⟨kn, sl⟩ : TKept) (el (f_usesOf inner page) i)).slots, q29.known, F36, q29.slots, F39, _, _, _, rfl, ?_, ?_, S.z, o37, o40, o14, d42, (Disj.part (Disj.symm d35) s38), (Disj.part (Disj.symm d35) s41)⟩
  ·exact oz
  ·clear S; (rw [fold_step (by omega), ← hf])
 have g43 := of_decide_eq_false h27
 refine wp_exit (ex_then (ex_then (ex_hit (nt (ws (rg ?_))))))
 refine S.qem 2 [] [] 2 [(1, [slv kn.length q18.1, slv sl.length q21.1])] fun ac w β S => ?_
 refine (nt (wr (S.r [GT.val (⟨kn, sl⟩ : TKept) (⟨q18, q21⟩ : PKept)] ?_)))
 have o44 := ow_Kept (x := (⟨kn, sl⟩ : TKept)) (p := (⟨q18, q21⟩ : PKept)) o20 o23 d24 
 exact ret1_of S (show f_forgetUses k inner page = (⟨kn, sl⟩ : TKept) by clear S; (unfold f_forgetUses; rw [fold_end (by omega)] at hf; exact hf.symm)) rfl o44

theorem c_impl_FlushHost_1 (w0 : World) (en : TEntry) (host : Int) (qhost : LP Int) (hhost : RD w0 [host] qhost) : Calls Tryz.prog 126 [GT.val en (), pt qhost.1.b (qhost.1.off + 0 * 1)].toArray w0 (fun e w' => e = .returned (B (f_onHost en host)) ∧ Chg NoB w0 w') := by
 refine Calls.walk NoB Tryz.func126 rfl rfl ?_
 intro ac β S
 refine ws (rg ?_)
 refine S.qem 2 [] [(2, .p 0 0)] 1 [(0, GT.cells en ())] fun ac w β S => ?_
 refine (nt (ws (rg ?_)))
 refine S.qg 5 [] [(3, .v (B (en.host == host)))] (.cons (Q_el1 (S.arg hhost) (t := 3) (k := 0) (Nat.succ_pos 0) rfl (by kernel_rfl)) .nil) fun ac w β S => ?_
 exact (nt (wr (S.r [B (en.host == host)] ⟨retB (by clear S; rfl), S.chg⟩)))

theorem c_impl_without (w0 : World) (b : List TEntry) (pb : LP TEntry) (hb : RD w0 b pb) (host : Int) (qhost : LP Int) (hhost : RD w0 [host] qhost) : Calls Tryz.prog 125 [slv b.length pb.1, .func (.func 126) #[] #[pt qhost.1.b (qhost.1.off + 0 * 1)]].toArray w0 (Ret1 NoB w0 (f_without b (fun e => f_onHost e host) : List TEntry)) := by
 refine Calls.walk NoB Tryz.func125 rfl rfl ?_
 intro ac β S
 have hleb : b.length ≤ 4194304 := LRd.le hb
 refine ws (rg ?_)
 refine S.qe 1 [] [] fun ac w β S => ?_
 refine (nt (ws (rg ?_)))
 refine RG.op rfl (S.bs0 (α := TEntry) (d := 8) (by kernel_rfl) fun ac w N q1 F2 S up o3 d4 => ?_)
 clear up d4
 refine S.qe 1 [] [(5, .v (slv 0 q1.1))] fun ac w β S => ?_
 refine (nt (ws (ws (rg ?_))))
 refine S.qe 3 [] [(9, .v (slv b.length pb.1)), (10, .v (I (b.length : Int))), (11, .v (I 0))] fun ac w β S => ?_
 refine (nt (wp_block ?_))
 refine wp_loop_down (fun mm ac w => ∃ (k : Nat) (acc : List TEntry) (q5 : _) (F6 : _) (u : _) (N : _) (β : _), mm = b.length - k ∧ (k ≤ b.length) ∧ (acc = f_without (b.take k) (fun e => f_onHost e host)) ∧ St Tryz.prog Tryz.f125.ntmps w0 NoB u N β ⟨[(1, .v (.func (.func 126) #[] #[pt qhost.1.b (qhost.1.off + 0 * 1)])), (5, .v (slv acc.length q5.1)), (9, .v (slv b.length pb.1)), (10, .v (I (b.length : Int))), (11, .v (I (k : Int)))], []⟩ ac w ∧ Ow w0 NoB u N F6 acc q5) _ ⟨0, ([] : List TEntry), q1, F2, _, _, _, rfl, o0, (by rfl), S.z, o3⟩ ?_
 clear S o3
 rintro mm ac w ⟨k, acc, q5, F6, u, N, β, rfl, hk, hacc, S, o7⟩
 have hlacc : acc.length ≤ k := by rw [hacc]; exact Nat.le_trans (without_len _ _) (List.length_take_le _ _)
 refine ws (rg ?_)
 refine S.qe 1 [] [(12, .v (B (decide ((k : Int) < (b.length : Int)))))] fun ac w β S => ?_
 refine (nt (ws (S.c (decide ((k : Int) < (b.length : Int))) (fun h8 => ?_) (fun h8 => ?_))))
 ·have g9 := of_decide_eq_true h8
  refine wk (nt (ws (wp_block (ws (rg ?_)))))
  refine S.qgm 4 [] [(7, .p 0 0)] (.cons (qn (S.arg hb) k Tryz.underlying29) (.cons (qs (S.arg hb) 104 k) .nil)) 1 [(0, GT.cells (el b k) ())] fun ac w β S => ?_
  refine (nt (ws (rg ?_)))
  refine S.qg 4 [] [(18, .v (B (!(f_onHost (el b k) host))))] (.cons (Q_call fun w hw => c_impl_FlushHost_1 w (el b k) host qhost (rd_of (S.arg hhost) hw)) .nil) fun ac w β S => ?_
  refine (nt (S.c (!(f_onHost (el b k) host)) (fun h10 => ?_) (fun h10 => ?_)))
  ·have h11 := not_t h10
   refine rg ?_
   refine S.qam 2 [] [(19, .v (slv acc.length q5.1)), (20, .v (GT.val (el b k) ()))] 0 [] fun ac w β S => ?_
   refine RG.op rfl (S.bs1 (α := TEntry) (x := (el b k)) (p := ()) (F := NoB) (LRd.el (S.arg hb) k (by omega)) (fun b h => False.elim h) (fun b h => False.elim h) (d := 21) (by kernel_rfl) fun ac w N q12 F13 S up o14 d15 => ?_)
   have d16 := d15 _ (fun b _ h => False.elim h) o7.sub
   replace o7 := o7.up up
   clear up d15
   refine RG.op rfl (S.appFlat (α := TEntry) o7 o14.rn (fun _ _ h => h) (by' := 32) (d := 22) (lx := acc.length) (ly := 1) rfl rfl (by kernel_rfl) (show _ ≤ 4194304 by simp only [List.length_append, List.length_cons, List.length_nil]; omega) fun ac w N q17 F18 S up o19 d20 => ?_)
   have d21 := d20 _ (Disj.symm d16) o14.sub
   replace o14 := o14.upF (Disj.symm d16) up
   clear up d20
   refine S.qe 1 [] [(5, .v (slv (acc ++ [(el b k)]).length q17.1))] fun ac w β S => ?_
   refine (nb (nt (rg ?_)))
   refine S.qg 2 [] [(11, .v (I ((k : Int) + 1)))] (.cons (qp (k : Int) 1) .nil) fun ac w β S => ?_
   refine (nt ?_)
   refine ⟨b.length - (k + 1), by omega, k + 1, (acc ++ [(el b k)]), q17, F18, _, _, _, rfl, ?_, ?_, S.z, o19⟩
   ·exact oz
   ·clear S; (first | (rw [without_t (by omega) (by assumption), hacc]; done) | (rw [without_f (by omega) (by assumption), hacc]; done))
  have h22 := not_f h10
  refine wk (nb (nt (rg ?_)))
  refine S.qgm 2 [] [(11, .v (I ((k : Int) + 1)))] (.cons (qp (k : Int) 1) .nil) 0 [] fun ac w β S => ?_
  refine (nt ?_)
  refine ⟨b.length - (k + 1), by omega, k + 1, acc, q5, F6, _, _, _, rfl, ?_, ?_, S.z, o7⟩
  ·exact oz
  ·clear S; (first | (rw [without_t (by omega) (by assumption), hacc]; done) | (rw [without_f (by omega) (by assumption), hacc]; done))
 have g23 := of_decide_eq_false h8
 refine wp_exit (ex_then (ex_then (ex_hit (nt (ws (rg ?_))))))
 refine S.qe 2 [] [(4, .v (slv acc.length q5.1))] fun ac w β S => ?_
 exact (nt (wr (S.r [slv acc.length q5.1] (ret1_of S (show f_without b (fun e => f_onHost e host) = acc by clear S; (rw [hacc, take_all (by omega)])) rfl o7))))

theorem c_impl_FlushHost (w0 : World) (b : List TEntry) (pb : LP TEntry) (hb : RD w0 b pb) (host : Int) (hhost : In64 host) : Calls Tryz.prog 73 [slv b.length pb.1, I host].toArray w0 (Ret1 NoB w0 (f_flushHost b host : List TEntry)) := by
 refine Calls.walk NoB Tryz.func73 rfl rfl ?_
 intro ac β S
 have hleb : b.length ≤ 4194304 := LRd.le hb
 have hlohost := hhost.lo; have hhihost := hhost.hi
 refine ws (rg ?_)
 refine S.qem 2 [] [(3, .p 0 0)] 1 [(0, [I host])] fun ac w β S => ?_
 refine (nt (ws ?_))
 refine S.frz 0 host () hhost fun β N b1 F2 S up o3 d4 => ?_
 clear up d4
 refine rg ?_
 refine S.qa 2 [] [(5, .v (slv b.length pb.1)), (6, .v (.func (.func 126) #[] #[pt (cap1 b1 () : LP Int).1.b ((cap1 b1 () : LP Int).1.off + 0 * 1)]))] fun ac w β S => ?_
 refine RG.op rfl (S.k1 7 (c_impl_without w b pb (S.rd (S.arg hb)) host (cap1 b1 () : LP Int) (S.rd o3.rn)) fun ac w N q5 F6 S up o7 d8 => ?_)
 have d9 := Disj.w d8 o3.sub
 replace o3 := o3.up up
 clear up d8
 refine S.qe 1 [] [(4, .v (slv (f_without b (fun e => f_onHost e host)).length q5.1))] fun ac w β S => ?_
 exact (nt (wr (S.r [slv (f_without b (fun e => f_onHost e host)).length q5.1] (ret1_of S (show f_flushHost b host = (f_without b (fun e => f_onHost e host)) by clear S; rfl) rfl o7))))

theorem k0_impl_invalidate {p : Prop} (h : p := by clear S; ((have hke : k = (el h.mons m.toNat).guests.length := (by omega)); subst hke; subst hX; unfold f_inval; first | (rw [flushIf_yes (by assumption), flushIf_yes (by assumption)]; done) | (rw [flushIf_no (by assumption), flushIf_no (by assumption)]; done))) : p := h
theorem c_impl_invalidate (w0 : World) (h : THost) (qh : LP THost) (F : Bl) (hh : GT.own KK F w0 [h] qh) (hF : ∀ b, F b → b < w0.heap.size) (m : Int) (page : Int) (s : TSlot) (hs : RSlot s) (pre0 : (0 ≤ m ∧ m < h.mons.length) ∧ (el h.mons m.toNat).tables.length = (el h.mons m.toNat).guests.length) : Calls Tryz.prog 35 [pt qh.1.b (qh.1.off + 0 * 4), I m, I page, GT.val s ()].toArray w0 (RetC hdrH F qh w0 (packed []) (f_inval h m page s)) := by
 refine Calls.walk F Tryz.func35 rfl rfl ?_
 intro ac β S
 have oh : Ow w0 F w0 (Lt w0.heap.size) F [h] qh := ⟨hh, hF, fun b hb => .inr hb⟩
 refine ws (rg ?_)
 refine S.qem 1 [] [(7, .p 0 0)] 1 [(0, GT.cells s ())] fun ac w β S => ?_
 refine (nt (ws (rg ?_)))
 refine S.qg 7 [] [(8, .v (pt (qh.2 0).mons.1.b ((qh.2 0).mons.1.off + m.toNat * 9)))] (.cons (Q_cell oh.rn (t := 28) (k := 0) (j := 1) (v := slv h.mons.length (qh.2 0).mons.1) (Nat.succ_pos 0) (by kernel_rfl) (by kernel_rfl)) (.cons (qt (capx_mons oh.rn) m Tryz.underlying28) .nil)) fun ac w β S => ?_
 refine (nt (ws (ws (rg ?_))))
 have b1 : (el h.mons m.toNat).guests.length ≤ 4194304 := LRd.le (RMon.guests (d := (el h.mons m.toNat)) (LRd.el (capx_mons oh.rn) m.toNat (by omega)))
 refine S.qg 6 [] [(20, .v (I ((el h.mons m.toNat).guests.length : Int))), (21, .v (I 0))] (.cons (qc (capx_mons oh.rn) 49 m.toNat 3 (slv (el h.mons m.toNat).guests.length ((qh.2 0).mons.2 m.toNat).guests.1)) .nil) fun ac w β S => ?_
 refine (nt (wp_block ?_))
 refine wp_loop_down (fun mm ac w => ∃ (k : Nat) (X : List TMon) (q2 : Nat → PHost) (F3 : _) (u : _) (N : _) (β : _), mm = (el h.mons m.toNat).guests.length - k ∧ (k ≤ (el h.mons m.toNat).guests.length) ∧ (X = h.mons.set m.toNat { el h.mons m.toNat with tables := f_tabs (el h.mons m.toNat).tables (el h.mons m.toNat).guests page k }) ∧ St Tryz.prog Tryz.f35.ntmps w0 F u N β ⟨[(0, .v (pt qh.1.b (qh.1.off + 0 * 4))), (2, .v (I page)), (7, .p 0 0), (8, .v (pt (qh.2 0).mons.1.b ((qh.2 0).mons.1.off + m.toNat * 9))), (20, .v (I ((el h.mons m.toNat).guests.length : Int))), (21, .v (I (k : Int)))], [GT.cells s ()]⟩ ac w ∧ Ow w0 F u N F3 ([(⟨h.mem, X, h.buf, h.iobuf⟩ : THost)]) ((qh.1, q2) : LP THost) ∧ (q2 0).mons.1 = (qh.2 0).mons.1) _ ⟨0, h.mons, qh.2, F, _, _, _, rfl, o0, (by exact set_self.symm), S.z, oh, rfl⟩ ?_
 clear S oh
 rintro mm ac w ⟨k, X, q2, F3, u, N, β, rfl, hk, hX, S, o4, hq5⟩
 obtain ⟨hl, he⟩ := setm_tables hX (show m.toNat < h.mons.length by omega) (tabs_len _ _ _ _)
 refine ws (rg ?_)
 refine S.qe 1 [] [(22, .v (B (decide ((k : Int) < ((el h.mons m.toNat).guests.length : Int)))))] fun ac w β S => ?_
 refine (nt (ws (S.c (decide ((k : Int) < ((el h.mons m.toNat).guests.length : Int))) (fun h6 => ?_) (fun h6 => ?_))))
 ·have g7 := of_decide_eq_true h6
  refine wk (nt (ws (wp_block (ws (rg ?_)))))
  refine S.qe 2 [] [(9, .v (I (k : Int)))] fun ac w β S => ?_
  refine (nt ?_)
  refine S.draw0 (f := 24) 23 rfl rfl fun w S => ?_
  refine S.hq 0 [0] [] [(24, .v (pt (qh.2 0).mons.1.b ((qh.2 0).mons.1.off + m.toNat * 9)))] .nil fun ac S => ?_
  refine S.hq 1 [1] [] [(25, .v (pt (qh.2 0).mons.1.b ((qh.2 0).mons.1.off + m.toNat * 9)))] .nil fun ac S => ?_
  refine S.hq 2 [2] [] [(26, .v (pt (qh.2 0).mons.1.b ((qh.2 0).mons.1.off + m.toNat * 9 + 7)))] .nil fun ac S => ?_
  refine S.hq 3 [3] [] [(27, .v (slv (el X m.toNat).tables.length (((q2 0).mons.2) m.toNat).tables.1))] (.cons (qc (rd_hdr hq5 (cap_mons o4.rn)) 51 m.toNat 7 (slv (el X m.toNat).tables.length (((q2 0).mons.2) m.toNat).tables.1)) .nil) fun ac S => ?_
  refine S.hq 4 [4] [] [(28, .v (I (k : Int)))] .nil fun ac S => ?_
  refine S.hq 5 [5] [] [(29, .v (pt (qh.2 0).mons.1.b ((qh.2 0).mons.1.off + m.toNat * 9)))] .nil fun ac S => ?_
  refine S.hq 6 [6] [] [(30, .v (pt (qh.2 0).mons.1.b ((qh.2 0).mons.1.off + m.toNat * 9)))] .nil fun ac S => ?_
  refine S.hq 7 [7] [] [(31, .v (pt (qh.2 0).mons.1.b ((qh.2 0).mons.1.off + m.toNat * 9 + 7)))] .nil fun ac S => ?_
  refine S.hq 8 [8] [] [(32, .v (slv (el X m.toNat).tables.length (((q2 0).mons.2) m.toNat).tables.1))] (.cons (qc (rd_hdr hq5 (cap_mons o4.rn)) 51 m.toNat 7 (slv (el X m.toNat).tables.length (((q2 0).mons.2) m.toNat).tables.1)) .nil) fun ac S => ?_
  refine S.hq 9 [9] [] [(33, .v (I (k : Int)))] .nil fun ac S => ?_
  refine S.hq 10 [10] [] [(34, .v (pt (((q2 0).mons.2) m.toNat).tables.1.b ((((q2 0).mons.2) m.toNat).tables.1.off + k * 2)))] (.cons (qn (RMon.tables (d := (el X m.toNat)) (LRd.el (rd_hdr hq5 (cap_mons o4.rn)) m.toNat (by omega))) k Tryz.underlying51) .nil) fun ac S => ?_
  refine S.hq 11 [11] [] [(35, .v (GT.val (el (el X m.toNat).tables k) ((((q2 0).mons.2) m.toNat).tables.2 k)))] (.cons (qs (RMon.tables (d := (el X m.toNat)) (LRd.el (rd_hdr hq5 (cap_mons o4.rn)) m.toNat (by omega))) 91 k) .nil) fun ac S => ?_
  refine S.hq 12 [12] [] [(36, .v (pt (qh.2 0).mons.1.b ((qh.2 0).mons.1.off + m.toNat * 9)))] .nil fun ac S => ?_
  refine S.hq 13 [13] [] [(37, .v (pt (qh.2 0).mons.1.b ((qh.2 0).mons.1.off + m.toNat * 9)))] .nil fun ac S => ?_
  refine S.hq 14 [14] [] [(38, .v (pt (qh.2 0).mons.1.b ((qh.2 0).mons.1.off + m.toNat * 9 + 3)))] .nil fun ac S => ?_
  refine S.hq 15 [15] [] [(39, .v (slv (el X m.toNat).guests.length (((q2 0).mons.2) m.toNat).guests.1))] (.cons (qc (rd_hdr hq5 (cap_mons o4.rn)) 49 m.toNat 3 (slv (el X m.toNat).guests.length (((q2 0).mons.2) m.toNat).guests.1)) .nil) fun ac S => ?_
  refine S.hq 16 [16] [] [(40, .v (I (k : Int)))] .nil fun ac S => ?_
  refine S.hq 17 [17] [] [(41, .v (pt (((q2 0).mons.2) m.toNat).guests.1.b ((((q2 0).mons.2) m.toNat).guests.1.off + k * 15)))] (.cons (qn (RMon.guests (d := (el X m.toNat)) (LRd.el (rd_hdr hq5 (cap_mons o4.rn)) m.toNat (by omega))) k Tryz.underlying49) .nil) fun ac S => ?_
  refine S.hq 18 [18] [] [(42, .v (pt (((q2 0).mons.2) m.toNat).guests.1.b ((((q2 0).mons.2) m.toNat).guests.1.off + k * 15 + 4)))] .nil fun ac S => ?_
  refine S.hq 19 [19] [] [(43, .v (slv (el (el X m.toNat).guests k).live.length ((((q2 0).mons.2) m.toNat).guests.2 k).live.1))] (.cons (qc (RMon.guests (d := (el X m.toNat)) (LRd.el (rd_hdr hq5 (cap_mons o4.rn)) m.toNat (by omega))) 47 k 4 (slv (el (el X m.toNat).guests k).live.length ((((q2 0).mons.2) m.toNat).guests.2 k).live.1)) .nil) fun ac S => ?_
  refine S.hq 20 [20] [] [(44, .v (I page))] .nil fun ac S => ?_
  refine WD.one (i := 21) (by kernel_rfl) ?_
  refine id (S.k1 45 (c_impl_ForgetUses w (el (el X m.toNat).tables k) ((((q2 0).mons.2) m.toNat).tables.2 k) (S.rd (LRd.el (RMon.tables (d := (el X m.toNat)) (LRd.el (rd_hdr hq5 (cap_mons o4.rn)) m.toNat (by omega))) k (by omega))) (el (el X m.toNat).guests k).live ((((q2 0).mons.2) m.toNat).guests.2 k).live (S.rd (RGuest.live (d := (el (el X m.toNat).guests k)) (LRd.el (RMon.guests (d := (el X m.toNat)) (LRd.el (rd_hdr hq5 (cap_mons o4.rn)) m.toNat (by omega))) k (by omega)))) page) fun ac w N q8 F9 S up o10 d11 => ?_)
  refine WD.next S up (by kernel_rfl) ?_
  have d12 := Disj.w d11 o4.sub
  replace o4 := o4.up up
  clear up d11
  obtain ⟨F13, F16, o14, o17, s15, s18, d19⟩ := sp_Kept o10
  refine S.hq 22 [22] [] [(45, .v (GT.val (f_forgetUses (el (el X m.toNat).tables k) (el (el X m.toNat).guests k).live page) q8)), (46, .v (pt (((q2 0).mons.2) m.toNat).tables.1.b ((((q2 0).mons.2) m.toNat).tables.1.off + k * 2)))] (.cons (qn (RMon.tables (d := (el X m.toNat)) (LRd.el (rd_hdr hq5 (cap_mons o4.rn)) m.toNat (by omega))) k Tryz.underlying51) .nil) fun ac S => ?_
  refine WD.one (i := 23) (by kernel_rfl) ?_
  obtain ⟨F20, o21, s22, b23⟩ := foc_cap o4 (fun _ o => foc2_Mon_tables o (k := m.toNat) (show m.toNat < X.length by omega))
  change Ow w0 F _ _ F20 (el X m.toNat).tables (((q2 0).mons.2) m.toNat).tables at o21
  have l24 := LRd.le o21.rn
  have n25 := o21.sub
  have o30 := ow_Kept (x := (f_forgetUses (el (el X m.toNat).tables k) (el (el X m.toNat).guests k).live page)) (p := q8) o14 o17 d19 
  refine id (S.sV (α := TKept) o21 (t := 91) (k := k) (off := (((q2 0).mons.2) m.toNat).tables.1.off + k * 2) o30 (Disj.symm (Disj.or (Disj.symm (Disj.part (Disj.symm (Disj.part (Disj.symm d12) s15)) s22)) (Disj.or (Disj.symm (Disj.part (Disj.symm (Disj.part (Disj.symm d12) s18)) s22)) Disj.nob))) fun w N F27 q28 S up o26 d29 s31 n32 => ?_)
  refine WD.last (by kernel_rfl) ?_
  clear d29 o21
  obtain ⟨p33, o34, hq36⟩ := b23 _ _ _ _ _ (uniB [F13, F16]) up o26 s31 (Disj.symm (Disj.or (Disj.part (Disj.symm d12) s15) (Disj.or (Disj.part (Disj.symm d12) s18) Disj.nob))) List.length_set n32
  obtain ⟨X38, hX39⟩ : ∃ z, z = X.set m.toNat { el X m.toNat with tables := ((el X m.toNat).tables.set k (f_forgetUses (el (el X m.toNat).tables k) (el (el X m.toNat).guests k).live page)) } := ⟨_, rfl⟩
  have o37 : Ow w0 F w N (Or F3 F27) [(⟨h.mem, X38, h.buf, h.iobuf⟩ : THost)] ((qh.1, p33) : LP THost) := by rw [hX39]; exact o34
  obtain ⟨l40, e41⟩ := setm_tables hX39 (show m.toNat < X.length by omega) List.length_set
  change (p33 0).mons.1 = (q2 0).mons.1 at hq36
  clear up o26 n32 o34
  refine WD.done (by kernel_rfl) ?_ _
  refine id (nb (nt (rg ?_)))
  refine S.qg 2 [] [(0, .v (pt qh.1.b (qh.1.off + 0 * 4))), (21, .v (I ((k : Int) + 1)))] (.cons (qp (k : Int) 1) .nil) fun ac w β S => ?_
  refine (nt ?_)
  refine ⟨(el h.mons m.toNat).guests.length - (k + 1), by omega, k + 1, X38, p33, (Or F3 F27), _, _, _, rfl, ?_, ?_, S.z, o37, (hq36.trans hq5)⟩
  ·exact oz
  ·clear S; (subst_vars; rw [List.set_set]; simp only [el_set_self (show m.toNat < h.mons.length by omega), f_tabs, tabs_el _ _ _ (Nat.le_refl _)])
 have g42 := of_decide_eq_false h6
 refine wp_exit (ex_then (ex_then (ex_hit (nt (ws (rg ?_))))))
 refine S.qe 3 [] [(50, .v (B (s.page != (-1))))] fun ac w β S => ?_
 refine (nt (S.c (s.page != (-1)) (fun h43 => ?_) (fun h43 => ?_)))
 ·have g44 : ¬ (s.page = (-1)) := bne_iff_ne.1 h43
  refine ws ?_
  refine S.draw0 (f := 11) 10 rfl rfl fun w S => ?_
  refine S.hq 0 [0] [] [(51, .v (pt qh.1.b (qh.1.off + 0 * 4)))] .nil fun ac S => ?_
  refine S.hq 1 [1] [] [(52, .v (pt qh.1.b (qh.1.off + 0 * 4)))] .nil fun ac S => ?_
  refine S.hq 2 [2] [] [(53, .v (pt qh.1.b (qh.1.off + 0 * 4)))] .nil fun ac S => ?_
  refine S.hq 3 [3] [] [(54, .v (pt qh.1.b (qh.1.off + 0 * 4 + 2)))] .nil fun ac S => ?_
  refine S.hq 4 [4] [] [(55, .v (slv h.buf.length (q2 0).buf.1))] (.cons (Q_cell o4.rn (t := 29) (k := 0) (j := 2) (v := slv h.buf.length (q2 0).buf.1) (Nat.succ_pos 0) (by kernel_rfl) (by kernel_rfl)) .nil) fun ac S => ?_
  refine S.hq 5 [5] [] [(56, .p 0 0)] .nil fun ac S => ?_
  refine S.hq 6 [6] [] [(57, .v (I s.page))] .nil fun ac S => ?_
  refine WD.one (i := 7) (by kernel_rfl) ?_
  refine id (S.k1 58 (c_impl_FlushHost w h.buf (q2 0).buf (S.rd (cap_buf o4.rn)) s.page (RSlot.page (d := s) hs)) fun ac w N q45 F46 S up o47 d48 => ?_)
  refine WD.next S up (by kernel_rfl) ?_
  have d49 := Disj.w d48 o4.sub
  replace o4 := o4.up up
  clear up d48
  refine S.hq 8 [9, 8] [] [(58, .v (slv (f_flushHost h.buf s.page).length q45.1)), (59, .v (pt qh.1.b (qh.1.off + 0 * 4)))] .nil fun ac S => ?_
  refine S.hq 9 [9] [] [(60, .v (pt qh.1.b (qh.1.off + 0 * 4 + 2)))] .nil fun ac S => ?_
  refine WD.one (i := 10) (by kernel_rfl) ?_
  refine id (S.setElE (α := THost) o4 (t := 29) (v := slv (f_flushHost h.buf s.page).length q45.1) (k := 0) (j := 2) (off := qh.1.off + 0 * 4 + 2) (y := (⟨h.mem, X, (f_flushHost h.buf s.page), h.iobuf⟩ : THost)) (q := ({ (q2 0) with buf := q45 } : PHost)) (Fy := F46) (by kernel_rfl) (by kernel_rfl) (Nat.succ_pos 0) (by kernel_rfl) (by kernel_rfl) (Nat.le_of_ble_eq_true (by kernel_rfl)) (by kernel_rfl) (fun G g_ gF => ⟨_, owl_Host_buf g_ o47.own (fun b h h2 => d49 b (gF b h) h2), fun _ h => h⟩) d49 o47.sub o47.young fun w N F51 S up o50 d53 s54 n55 => ?_)
  refine WD.last (by kernel_rfl) ?_
  obtain ⟨q52, o56, hq57⟩ : ∃ q52 : Nat → PHost, Ow w0 F _ _ F51 [(⟨h.mem, X, (f_flushHost h.buf s.page), h.iobuf⟩ : THost)] ((qh.1, q52) : LP THost) ∧ (q52 0).mons.1 = (q2 0).mons.1 := ⟨_, o50, rfl⟩
  clear up d53 o4 o50 s54 n55
  refine WD.done (by kernel_rfl) ?_ _
  refine id (nt ?_)
  refine S.draw0 (f := 11) 10 rfl rfl fun w S => ?_
  refine S.hq 0 [0] [] [(0, .v (pt qh.1.b (qh.1.off + 0 * 4))), (61, .v (pt qh.1.b (qh.1.off + 0 * 4)))] .nil fun ac S => ?_
  refine S.hq 1 [1] [] [(62, .v (pt qh.1.b (qh.1.off + 0 * 4)))] .nil fun ac S => ?_
  refine S.hq 2 [2] [] [(63, .v (pt qh.1.b (qh.1.off + 0 * 4)))] .nil fun ac S => ?_
  refine S.hq 3 [3] [] [(64, .v (pt qh.1.b (qh.1.off + 0 * 4 + 3)))] .nil fun ac S => ?_
  refine S.hq 4 [4] [] [(65, .v (slv h.iobuf.length (q52 0).iobuf.1))] (.cons (Q_cell o56.rn (t := 29) (k := 0) (j := 3) (v := slv h.iobuf.length (q52 0).iobuf.1) (Nat.succ_pos 0) (by kernel_rfl) (by kernel_rfl)) .nil) fun ac S => ?_
  refine S.hq 5 [5] [] [(66, .p 0 0)] .nil fun ac S => ?_
  refine S.hq 6 [6] [] [(67, .v (I s.page))] .nil fun ac S => ?_
  refine WD.one (i := 7) (by kernel_rfl) ?_
  refine id (S.k1 68 (c_impl_FlushHost w h.iobuf (q52 0).iobuf (S.rd (cap_iobuf o56.rn)) s.page (RSlot.page (d := s) hs)) fun ac w N q58 F59 S up o60 d61 => ?_)
  refine WD.next S up (by kernel_rfl) ?_
  have d62 := Disj.w d61 o56.sub
  replace o56 := o56.up up
  clear up d61
  refine S.hq 8 [9, 8] [] [(68, .v (slv (f_flushHost h.iobuf s.page).length q58.1)), (69, .v (pt qh.1.b (qh.1.off + 0 * 4)))] .nil fun ac S => ?_
  refine S.hq 9 [9] [] [(70, .v (pt qh.1.b (qh.1.off + 0 * 4 + 3)))] .nil fun ac S => ?_
  refine WD.one (i := 10) (by kernel_rfl) ?_
  refine id (S.setElE (α := THost) o56 (t := 29) (v := slv (f_flushHost h.iobuf s.page).length q58.1) (k := 0) (j := 3) (off := qh.1.off + 0 * 4 + 3) (y := (⟨h.mem, X, (f_flushHost h.buf s.page), (f_flushHost h.iobuf s.page)⟩ : THost)) (q := ({ (q52 0) with iobuf := q58 } : PHost)) (Fy := F59) (by kernel_rfl) (by kernel_rfl) (Nat.succ_pos 0) (by kernel_rfl) (by kernel_rfl) (Nat.le_of_ble_eq_true (by kernel_rfl)) (by kernel_rfl) (fun G g_ gF => ⟨_, owl_Host_iobuf g_ o60.own (fun b h h2 => d62 b (gF b h) h2), fun _ h => h⟩) d62 o60.sub o60.young fun w N F64 S up o63 d66 s67 n68 => ?_)
  refine WD.last (by kernel_rfl) ?_
  obtain ⟨q65, o69, hq70⟩ : ∃ q65 : Nat → PHost, Ow w0 F _ _ F64 [(⟨h.mem, X, (f_flushHost h.buf s.page), (f_flushHost h.iobuf s.page)⟩ : THost)] ((qh.1, q65) : LP THost) ∧ (q65 0).mons.1 = (q52 0).mons.1 := ⟨_, o63, rfl⟩
  clear up d66 o56 o63 s67 n68
  refine WD.done (by kernel_rfl) ?_ _
  replace S := S.wt 0
  refine id (S.f [] ?_)
  exact retC_of S (show f_inval h m page s = (⟨h.mem, X, (f_flushHost h.buf s.page), (f_flushHost h.iobuf s.page)⟩ : THost) from k0_impl_invalidate) (show hdrH _ _ from (hq70.trans (hq57.trans hq5))) o69
 have g71 : s.page = (-1) := ne_f h43
 refine wk (S.f [] ?_)
 exact retC_of S (show f_inval h m page s = (⟨h.mem, X, h.buf, h.iobuf⟩ : THost) from k0_impl_invalidate) (show hdrH _ _ from hq5) o4

theorem c_impl_send (w0 : World) (h : THost) (qh : LP THost) (F : Bl) (hh : GT.own KK F w0 [h] qh) (hF : ∀ b, F b → b < w0.heap.size) (m : Int) (page : Int) (pre0 : (0 ≤ m ∧ m < h.mons.length) ∧ (el h.mons m.toNat).tables.length = (el h.mons m.toNat).guests.length ∧ (0 ≤ page ∧ page ≤ 7) ∧ (el h.mons m.toNat).outer.length = 8 ∧ (el h.mons m.toNat).out.length = 8) : Calls Tryz.prog 46 [pt qh.1.b (qh.1.off + 0 * 4), I m, I page].toArray w0 (RetC hdrH F qh w0 (packed []) (f_send h m page)) := by
 refine Calls.walk F Tryz.func46 rfl rfl ?_
 intro ac β S
 have oh : Ow w0 F w0 (Lt w0.heap.size) F [h] qh := ⟨hh, hF, fun b hb => .inr hb⟩
 refine ws (rg ?_)
 refine S.qg 7 [] [(6, .v (pt (qh.2 0).mons.1.b ((qh.2 0).mons.1.off + m.toNat * 9)))] (.cons (Q_cell oh.rn (t := 28) (k := 0) (j := 1) (v := slv h.mons.length (qh.2 0).mons.1) (Nat.succ_pos 0) (by kernel_rfl) (by kernel_rfl)) (.cons (qt (capx_mons oh.rn) m Tryz.underlying28) .nil)) fun ac w β S => ?_
 refine (nt (ws (rg ?_)))
 refine S.qgm 9 [] [(7, .p 0 0)] (.cons (qc (capx_mons oh.rn) 47 m.toNat 0 (slv (el h.mons m.toNat).outer.length ((qh.2 0).mons.2 m.toNat).outer.1)) (.cons (qt (RMon.outer (d := (el h.mons m.toNat)) (LRd.el (capx_mons oh.rn) m.toNat (by omega))) page Tryz.underlying47) (.cons (qs (RMon.outer (d := (el h.mons m.toNat)) (LRd.el (capx_mons oh.rn) m.toNat (by omega))) 55 page.toNat) .nil))) 1 [(0, GT.cells (el (el h.mons m.toNat).outer page.toNat) ())] fun ac w β S => ?_
 refine (nt (ws ?_))
 refine S.draw0 (f := 14) 13 rfl rfl fun w S => ?_
 refine S.hq 0 [0] [] [(21, .v (pt (qh.2 0).mons.1.b ((qh.2 0).mons.1.off + m.toNat * 9)))] .nil fun ac S => ?_
 refine S.hq 1 [1] [] [(22, .v (pt (qh.2 0).mons.1.b ((qh.2 0).mons.1.off + m.toNat * 9)))] .nil fun ac S => ?_
 refine S.hq 2 [2] [] [(23, .v (pt (qh.2 0).mons.1.b ((qh.2 0).mons.1.off + m.toNat * 9 + 1)))] .nil fun ac S => ?_
 refine S.hq 3 [3] [] [(24, .v (slv (el h.mons m.toNat).out.length ((qh.2 0).mons.2 m.toNat).out.1))] (.cons (qc (capx_mons oh.rn) 22 m.toNat 1 (slv (el h.mons m.toNat).out.length ((qh.2 0).mons.2 m.toNat).out.1)) .nil) fun ac S => ?_
 refine S.hq 4 [4] [] [(25, .v (I page))] .nil fun ac S => ?_
 refine S.hq 5 [5] [] [(26, .v (pt qh.1.b (qh.1.off + 0 * 4)))] .nil fun ac S => ?_
 refine S.hq 6 [6] [] [(27, .v (pt qh.1.b (qh.1.off + 0 * 4)))] .nil fun ac S => ?_
 refine S.hq 7 [7] [] [(28, .v (pt qh.1.b (qh.1.off + 0 * 4)))] .nil fun ac S => ?_
 refine S.hq 8 [8] [] [(29, .v (slv h.mem.length (qh.2 0).mem.1))] (.cons (Q_cell oh.rn (t := 22) (k := 0) (j := 0) (v := slv h.mem.length (qh.2 0).mem.1) (Nat.succ_pos 0) (by kernel_rfl) (by kernel_rfl)) .nil) fun ac S => ?_
 refine S.hq 9 [9] [] [(30, .p 0 0)] .nil fun ac S => ?_
 refine S.hq 10 [10] [] [(31, .v (I (el (el h.mons m.toNat).outer page.toNat).page))] .nil fun ac S => ?_
 refine WD.one (i := 11) (by kernel_rfl) ?_
 refine id (S.k1 32 (c_impl_PageAt w h.mem (qh.2 0).mem (S.rd (capx_mem oh.rn)) (el (el h.mons m.toNat).outer page.toNat).page) fun ac w N q1 F2 S up o3 d4 => ?_)
 refine WD.next S up (by kernel_rfl) ?_
 have d5 := Disj.w d4 oh.sub
 replace oh := oh.up up
 clear up d4
 refine S.hq 12 [12] [] [(32, .v (slv (f_pageAt h.mem (el (el h.mons m.toNat).outer page.toNat).page).length q1.1)), (33, .v (pt ((qh.2 0).mons.2 m.toNat).out.1.b (((qh.2 0).mons.2 m.toNat).out.1.off + page.toNat * 1)))] (.cons (qt (RMon.out (d := (el h.mons m.toNat)) (LRd.el (capx_mons oh.rn) m.toNat (by omega))) page Tryz.underlying22) .nil) fun ac S => ?_
 refine WD.one (i := 13) (by kernel_rfl) ?_
 obtain ⟨F6, o7, s8, b9⟩ := foc_cap oh (fun _ o => foc2_Mon_out o (k := m.toNat) (show m.toNat < h.mons.length by omega))
 change Ow w0 F _ _ F6 (el h.mons m.toNat).out ((qh.2 0).mons.2 m.toNat).out at o7
 have l10 := LRd.le o7.rn
 have n11 := o7.sub
 refine id (S.sV (α := List Int) o7 (t := 50) (k := page.toNat) (off := ((qh.2 0).mons.2 m.toNat).out.1.off + page.toNat * 1) o3 (Disj.symm (Disj.symm (Disj.part d5 s8))) fun w N F13 q14 S up o12 d15 s16 n17 => ?_)
 refine WD.last (by kernel_rfl) ?_
 clear d15 o7
 obtain ⟨p18, o19, hq21⟩ := b9 _ _ _ _ _ F2 up o12 s16 d5 List.length_set n17
 obtain ⟨X23, hX24⟩ : ∃ z, z = h.mons.set m.toNat { el h.mons m.toNat with out := ((el h.mons m.toNat).out.set page.toNat (f_pageAt h.mem (el (el h.mons m.toNat).outer page.toNat).page)) } := ⟨_, rfl⟩
 have o22 : Ow w0 F w N (Or F F13) [(⟨h.mem, X23, h.buf, h.iobuf⟩ : THost)] ((qh.1, p18) : LP THost) := by rw [hX24]; exact o19
 obtain ⟨l25, e26⟩ := setm_out hX24 (show m.toNat < h.mons.length by omega) List.length_set
 change (p18 0).mons.1 = (qh.2 0).mons.1 at hq21
 clear up o12 n17 o19
 refine WD.done (by kernel_rfl) ?_ _
 refine id (nt (ws ?_))
 refine S.draw0 (f := 8) 7 rfl rfl fun w S => ?_
 refine S.hq 0 [0] [] [(0, .v (pt qh.1.b (qh.1.off + 0 * 4))), (34, .v (pt (qh.2 0).mons.1.b ((qh.2 0).mons.1.off + m.toNat * 9)))] .nil fun ac S => ?_
 refine S.hq 1 [1] [] [(35, .v (pt (qh.2 0).mons.1.b ((qh.2 0).mons.1.off + m.toNat * 9)))] .nil fun ac S => ?_
 refine S.hq 2 [2] [] [(36, .v (pt (qh.2 0).mons.1.b ((qh.2 0).mons.1.off + m.toNat * 9)))] .nil fun ac S => ?_
 refine S.hq 3 [3] [] [(37, .v (slv (el X23 m.toNat).outer.length (((p18 0).mons.2) m.toNat).outer.1))] (.cons (qc (rd_hdr hq21 (cap_mons o22.rn)) 47 m.toNat 0 (slv (el X23 m.toNat).outer.length (((p18 0).mons.2) m.toNat).outer.1)) .nil) fun ac S => ?_
 refine S.hq 4 [4] [] [(38, .v (I page))] .nil fun ac S => ?_
 refine WD.one (i := 5) (by kernel_rfl) ?_
 refine S.stepq (i := 5) (keep := [0, 1, 2, 7, 37, 38, 39]) (m := 1) (σ' := ⟨[(0, .v (pt qh.1.b (qh.1.off + 0 * 4))), (1, .v (I m)), (2, .v (I page)), (7, .p 0 0), (37, .v (slv (el X23 m.toNat).outer.length (((p18 0).mons.2) m.toNat).outer.1)), (38, .v (I page)), (39, .v (GT.val (⟨-1, 0⟩ : TSlot) ()))], [GT.cells (el (el h.mons m.toNat).outer page.toNat) ()]⟩) (.cons (Q_call fun w hw => c_impl_NoSlot w ) .nil) (by kernel_rfl) fun ac w β S hβ => ?_
 refine WD.stayq S hβ ?_
 clear hβ
 refine S.hq 6 [6] [] [(40, .v (pt (((p18 0).mons.2) m.toNat).outer.1.b ((((p18 0).mons.2) m.toNat).outer.1.off + page.toNat * 2)))] (.cons (qt (RMon.outer (d := (el X23 m.toNat)) (LRd.el (rd_hdr hq21 (cap_mons o22.rn)) m.toNat (by omega))) page Tryz.underlying47) .nil) fun ac S => ?_
 refine WD.one (i := 7) (by kernel_rfl) ?_
 obtain ⟨F27, o28, s29, b30⟩ := foc_cap o22 (fun _ o => foc2_Mon_outer o (k := m.toNat) (show m.toNat < X23.length by omega))
 change Ow w0 F _ _ F27 (el X23 m.toNat).outer (((p18 0).mons.2) m.toNat).outer at o28
 have l31 := LRd.le o28.rn
 have n32 := o28.sub
 have e33 : RSlot (el (el X23 m.toNat).outer page.toNat) := (LRd.el o28.rn page.toNat (by omega))
 refine id (S.sF (α := TSlot) o28 (t := 55) (k := page.toNat) (j := 0) (off := (((p18 0).mons.2) m.toNat).outer.1.off + page.toNat * 2) (v := GT.val (⟨-1, 0⟩ : TSlot) ()) (y := (⟨-1, 0⟩ : TSlot)) (q := ()) (fun _ _ _ => ⟨NoB, (show RSlot ⟨-1, 0⟩ from ⟨⟨by decide, by decide⟩, ⟨by decide, by decide⟩⟩), fun _ h => False.elim h⟩) fun w N F35 q36 S up o34 d37 s38 n39 => ?_)
 refine WD.last (by kernel_rfl) ?_
 clear d37 o28
 obtain ⟨p40, o41, hq43⟩ := b30 _ _ _ _ _ NoB up o34 s38 (fun b _ h => False.elim h) List.length_set n39
 obtain ⟨X45, hX46⟩ : ∃ z, z = X23.set m.toNat { el X23 m.toNat with outer := ((el X23 m.toNat).outer.set page.toNat (⟨-1, 0⟩ : TSlot)) } := ⟨_, rfl⟩
 have o44 : Ow w0 F w N (Or (Or F F13) F35) [(⟨h.mem, X45, h.buf, h.iobuf⟩ : THost)] ((qh.1, p40) : LP THost) := by rw [hX46]; exact o41
 obtain ⟨l47, e48⟩ := setm_outer hX46 (show m.toNat < X23.length by omega) List.length_set
 change (p40 0).mons.1 = (p18 0).mons.1 at hq43
 clear up o34 n39 o41
 refine WD.done (by kernel_rfl) ?_ _
 refine id (nt (rg ?_))
 refine S.qam 4 [0] [(41, .v (pt qh.1.b (qh.1.off + 0 * 4))), (42, .v (I m)), (43, .v (I page)), (44, .v (GT.val (el (el h.mons m.toNat).outer page.toNat) ()))] 0 [] fun ac w β S => ?_
 refine RG.op rfl (S.callCv (d := 45) o44 (c_impl_invalidate w (⟨h.mem, X45, h.buf, h.iobuf⟩ : THost) ((qh.1, p40) : LP THost) (Or (Or F F13) F35) (S.ownw o44) (fun b hb => (S.sep b (o44.sub b hb)).1) m page (el (el h.mons m.toNat).outer page.toNat) (LRd.el (RMon.outer (d := (el h.mons m.toNat)) (LRd.el (capx_mons oh.rn) m.toNat (by omega))) page.toNat (by omega)) (by (first | omega | (dsimp only; omega)))) fun ac w N p49 F50 S up o51 d53 hq52 => ?_)
 change (p49 0).mons.1 = (p40 0).mons.1 at hq52
 clear up d53 o44
 obtain ⟨Y54, hY55⟩ : ∃ z, z = (f_inval (⟨h.mem, X45, h.buf, h.iobuf⟩ : THost) m page (el (el h.mons m.toNat).outer page.toNat)) := ⟨_, rfl⟩
 have o56 : Ow w0 F w N F50 [Y54] ((qh.1, p49) : LP THost) := by rw [hY55]; exact o51
 clear o51
 have l57 := inval_bd hY55 (by first | omega | (dsimp only; omega))
 try dsimp only at l57
 refine rd (S.f [] ?_)
 exact retC_of S (show f_send h m page = Y54 by clear S; (first | (subst_vars; rfl) | (subst_vars; simp [f_send, f_setM, f_slotTo, f_inval, el_set_self, *]; done))) (show hdrH _ _ from (hq52.trans (hq43.trans hq21))) o56

theorem c_impl_sendFirst (w0 : World) (h : THost) (qh : LP THost) (F : Bl) (hh : GT.own KK F w0 [h] qh) (hF : ∀ b, F b → b < w0.heap.size) (pre0 : f_hostOk h = true) (pre1 : ¬ 0 < (f_freeIn h).length) : Calls Tryz.prog 94 [pt qh.1.b (qh.1.off + 0 * 4)].toArray w0 (RetC hdrH F qh w0 (packed []) (f_sendFirst h)) := by
 refine Calls.walk F Tryz.func94 rfl rfl ?_
 intro ac β S
 have oh : Ow w0 F w0 (Lt w0.heap.size) F [h] qh := ⟨hh, hF, fun b hb => .inr hb⟩
 have hsp := sendFirst_pre (h := h) (by assumption) (by assumption)
 refine ws (rg ?_)
 refine S.qg 9 [] [(2, .v (I (f_ownerOfPage h 0).1)), (3, .v (I (f_ownerOfPage h 0).2))] (.cons (Q_el oh.rn (t := 31) (k := 0) (Nat.succ_pos 0) rfl (by kernel_rfl) (by kernel_rfl)) (.cons (Q_call fun w hw => c_impl_OwnerOfPage w h (qh.2 0) (rd_of (show GT.rd KK _ _ h (qh.2 0) from LRd.el oh.rn 0 (Nat.succ_pos 0)) hw) 0) .nil)) fun ac w β S => ?_
 refine (nt (rg ?_))
 refine S.qa 3 [] [(11, .v (pt qh.1.b (qh.1.off + 0 * 4))), (12, .v (I (f_ownerOfPage h 0).1)), (13, .v (I (f_ownerOfPage h 0).2))] fun ac w β S => ?_
 refine RG.op rfl (S.callCv (d := 14) oh (c_impl_send w h qh F (S.ownw oh) (fun b hb => (S.sep b (oh.sub b hb)).1) (f_ownerOfPage h 0).1 (f_ownerOfPage h 0).2 (by (first | omega | (dsimp only; omega)))) fun ac w N p1 F2 S up o3 d5 hq4 => ?_)
 change (p1 0).mons.1 = (qh.2 0).mons.1 at hq4
 clear up d5 oh
 obtain ⟨Y6, hY7⟩ : ∃ z, z = (f_send h (f_ownerOfPage h 0).1 (f_ownerOfPage h 0).2) := ⟨_, rfl⟩
 have o8 : Ow w0 F w N F2 [Y6] ((qh.1, p1) : LP THost) := by rw [hY7]; exact o3
 clear o3
 refine rd (S.f [] ?_)
 exact retC_of S (show f_sendFirst h = Y6 by clear S; (subst_vars; rfl)) (show hdrH _ _ from hq4) o8

theorem k0_impl_WithPage {p : Prop} (h : p := by clear S; (unfold f_withPage; (repeat' split) <;> first | rfl | (simp; done) | (exfalso; omega) | (exfalso; simp_all; done) | (exfalso; simp_all; omega))) : p := h
theorem c_impl_WithPage (w0 : World) (m : List (List Int)) (pm : LP (List Int)) (hm : RD w0 m pm) (page : Int) (cells : List Int) (pcells : LP Int) (hcells : RD w0 cells pcells) : Calls Tryz.prog 95 [slv m.length pm.1, I page, slv cells.length pcells.1].toArray w0 (Ret1 NoB w0 (f_withPage m page cells : List (List Int))) := by
 refine Calls.walk NoB Tryz.func95 rfl rfl ?_
 intro ac β S
 have hlem : m.length ≤ 4194304 := LRd.le hm
 have hlecells : cells.length ≤ 4194304 := LRd.le hcells
 refine ws (rg ?_)
 refine S.qe 1 [] [] fun ac w β S => ?_
 refine (nt (ws (rg ?_)))
 refine S.qa 1 [] [(8, .v (slv m.length pm.1))] fun ac w β S => ?_
 refine RG.op rfl (S.k1 9 (c_impl_copyMem w m pm (S.rd (S.arg hm))) fun ac w N q1 F2 S up o3 d4 => ?_)
 clear up d4
 refine S.qe 1 [] [(7, .v (slv m.length q1.1))] fun ac w β S => ?_
 refine (nt (ws (ws (rg ?_))))
 refine S.qb 5 [] [(14, .v (B (f_within page 0 ((m.length : Int) - 1))))] (.cons (Q_call fun w hw => c_impl_has w page (m.length : Int) (by omega)) .nil) fun ac w β S => ?_
 rcases Bool.eq_false_or_eq_true (f_within page 0 ((m.length : Int) - 1)) with h5 | h5 <;> rw [h5] at S
 ·have g6 := within_t h5
  refine S.qg 3 [14] [(17, .v (B (f_pageOk cells)))] (.cons (Q_call fun w hw => c_impl_PageOk w cells pcells (rd_of (S.arg hcells) hw)) .nil) fun ac w β S => ?_
  refine (nt (S.c (f_pageOk cells) (fun h7 => ?_) (fun h7 => ?_)))
  ·refine rg ?_
   refine S.qa 3 [] [(18, .v (slv m.length q1.1)), (19, .v (I page)), (20, .v (slv cells.length pcells.1))] fun ac w β S => ?_
   refine RG.op rfl (S.k1 21 (c_impl_copyInts w cells pcells (S.rd (S.arg hcells))) fun ac w N q8 F9 S up o10 d11 => ?_)
   have d12 := Disj.w d11 o3.sub
   replace o3 := o3.up up
   clear up d11
   refine S.qb 1 [] [(21, .v (slv cells.length q8.1)), (22, .v (pt q1.1.b (q1.1.off + page.toNat * 1)))] (.cons (qt o3.rn page Tryz.underlying22) .nil) fun ac w β S => ?_
   refine RG.op rfl (S.sV (α := List Int) o3 (t := 50) (k := page.toNat) (off := q1.1.off + page.toNat * 1) o10 d12 fun w N F14 q15 S up o13 d16 s17 n18 => ?_)
   clear up d16 o3 n18
   have l19 : (m.set page.toNat cells).length = m.length := List.length_set
   refine rd (nt (ws (rg ?_)))
   refine S.qe 2 [] [(6, .v (slv m.length q1.1))] fun ac w β S => ?_
   exact (nt (wr (S.r [slv m.length q1.1] (ret1_of S (show f_withPage m page cells = (m.set page.toNat cells) from k0_impl_WithPage) (by rw [show m.length = (m.set page.toNat cells).length from (by rw [List.length_set])]; rfl) o13))))
  refine wk (nt (ws (rg ?_)))
  refine S.qe 2 [] [(6, .v (slv m.length q1.1))] fun ac w β S => ?_
  exact (nt (wr (S.r [slv m.length q1.1] (ret1_of S (show f_withPage m page cells = m from k0_impl_WithPage) rfl o3))))
 ·have g20 := within_f h5
  refine S.qe 3 [14] [(17, .v (B false))] fun ac w β S => ?_
  refine (nt (S.c false (fun hx => by cases hx) (fun _ => ?_)))
  refine wk (nt (ws (rg ?_)))
  refine S.qe 2 [] [(6, .v (slv m.length q1.1))] fun ac w β S => ?_
  exact (nt (wr (S.r [slv m.length q1.1] (ret1_of S (show f_withPage m page cells = m from k0_impl_WithPage) rfl o3))))

end Go.Proofs.YtklppedmchbdmaaGreat
