/- The walks: what each function that the laws reach computes (part 2). -/
import Derived.Test.YtpjhamcanhnfjaaW1
import Derived.Test.YtpjhamcanhnfjaaProg
import Derived.KernelRfl
namespace Go.Proofs.Ytpjhamcanhnfjaa
open Go
set_option linter.unusedVariables false
set_option linter.unusedSimpArgs false

set_option maxRecDepth 100000 in
theorem c_spec_PostedTo (w0 : World) (b : TBare) (pb : PBare) (hb : GT.rd KK (Lt w0.heap.size) w0 b pb) (n : Int) : Calls Try.prog 77 [GT.val b pb, I n].toArray w0 (Ret1 NoB w0 (f_postedTo b n : List Int)) := by
  refine Calls.walk (args := [GT.val b pb, I n]) NoB Try.func77 rfl rfl ?_
  intro ac β S
  have hleb_mem : b.mem.length ≤ 4194304 := LRd.le (RBare.mem (d := b) hb)
  have hleb_guests : b.guests.length ≤ 4194304 := LRd.le (RBare.guests (d := b) hb)
  have hleb_outs : b.outs.length ≤ 4194304 := LRd.le (RBare.outs (d := b) hb)
  refine wp_seq (RG.start ?_)
  refine S.quiet (k := 2) (keep := [1, 2]) (m := 1) (σ' := ⟨[(1, .v (I n)), (2, .p 0 0)], [GT.cells b pb]⟩) .nil (by kernel_rfl) ?_
  clear S; intro ac w β S
  refine RG.done rfl (nx_then (wp_seq (RG.start ?_)))
  refine RG.op rfl (S.bs0 (α := Int) (d := 7) (by kernel_rfl) ?_)
  clear S; intro ac w N q1 F2 S up o3 d4
  clear up d4
  refine S.quiet (k := 1) (keep := [1, 2, 5]) (m := 1) (σ' := ⟨[(1, .v (I n)), (2, .p 0 0), (5, .v (slv 0 q1.1))], [GT.cells b pb]⟩) .nil (by kernel_rfl) ?_
  clear S; intro ac w β S
  refine RG.done rfl (nx_then (wp_seq (wp_seq (RG.start ?_))))
  refine S.quiet (k := 1) (keep := [1, 2, 5, 6]) (m := 1) (σ' := ⟨[(1, .v (I n)), (2, .p 0 0), (5, .v (slv 0 q1.1)), (6, .v (I 0))], [GT.cells b pb]⟩) .nil (by kernel_rfl) ?_
  clear S; intro ac w β S
  refine RG.done rfl (nx_then (wp_block ?_))
  replace S := S.prune (keep := [1, 2, 5, 6]) (m := 1) (σ' := ⟨[(1, .v (I n)), (2, .p 0 0), (5, .v (slv 0 q1.1)), (6, .v (I 0))], [GT.cells b pb]⟩) (by kernel_rfl)
  refine wp_loop_down (fun mm ac w => ∃ (k : Nat) (acc : List Int) (q5 : GT.Ptr (List Int)) (F6 : Bl) (u : World) (N : Bl) (β : Nat → Nat), mm = (b.guests).length - k ∧ (k ≤ (b.guests).length) ∧ (acc = f_idx k (fun i => f_posts (el b.guests i).ctl n)) ∧ St Try.prog Try.f77.ntmps w0 NoB u N β ⟨[(1, .v (I n)), (2, .p 0 0), (5, .v (slv (acc).length q5.1)), (6, .v (I (k : Int)))], [GT.cells b pb]⟩ ac w ∧ Ow w0 NoB u N F6 acc q5) _ ⟨0, ([] : List Int), q1, F2, _, _, _, rfl, (by first | omega | (simp; done) | (simp; omega)), (by rfl), S.cast (by kernel_rfl), o3⟩ ?_
  clear S o3
  rintro mm ac w ⟨k, acc, q5, F6, u, N, β, rfl, hk, hacc, S, o7⟩
  have hlacc : acc.length ≤ k := by rw [hacc]; exact idx_len _ _
  refine wp_seq (wp_seq (RG.start ?_))
  refine S.quiet (k := 5) (keep := [1, 2, 5, 6, 12]) (m := 1) (σ' := ⟨[(1, .v (I n)), (2, .p 0 0), (5, .v (slv (acc).length q5.1)), (6, .v (I (k : Int))), (12, .v (B (decide ((k : Int) < ((b.guests).length : Int)))))], [GT.cells b pb]⟩) .nil (by kernel_rfl) ?_
  clear S; intro ac w β S
  refine RG.done rfl (nx_then ?_)
  refine S.cond (e := (decide ((k : Int) < ((b.guests).length : Int)))) (by kernel_rfl) (fun h8 => ?_) (fun h8 => ?_)
  · have g9 : (k : Int) < ((b.guests).length : Int) := of_decide_eq_true h8
    refine wp_skip (nx_then (wp_seq (wp_block (wp_seq (RG.start ?_)))))
    refine S.quiet (k := 8) (keep := [1, 2, 5, 6, 22]) (m := 1) (σ' := ⟨[(1, .v (I n)), (2, .p 0 0), (5, .v (slv (acc).length q5.1)), (6, .v (I (k : Int))), (22, .v (B (f_posts ((el b.guests k).ctl) n)))], [GT.cells b pb]⟩) (.cons (Q_idx (RBare.guests (d := b) (S.arg hb)) (l := (b.guests).length) (k := k) (i := (k : Int)) rfl rfl (by omega) Try.underlying39 (by kernel_rfl)) (.cons (Q_sub_el (RBare.guests (d := b) (S.arg hb)) (t := 113) (k := k) (j := 5) (s := 3) (by omega) (by kernel_rfl) (by kernel_rfl) (by decide)) (.cons (Q_call fun w hw => c_spec_Posts w ((el b.guests k).ctl) n) .nil))) (by kernel_rfl) ?_
    clear S; intro ac w β S
    refine RG.done rfl (nx_then ?_)
    refine S.cond (e := (f_posts ((el b.guests k).ctl) n)) (by kernel_rfl) (fun h10 => ?_) (fun h10 => ?_)
    · refine RG.start ?_
      refine S.quiet (k := 2) (keep := [1, 2, 6, 23, 24]) (m := 1) (σ' := ⟨[(1, .v (I n)), (2, .p 0 0), (6, .v (I (k : Int))), (23, .v (slv (acc).length q5.1)), (24, .v (I (k : Int)))], [GT.cells b pb]⟩) .nil (by kernel_rfl) ?_
      clear S; intro ac w β S
      refine RG.op rfl (S.bs1 (α := Int) (x := (k : Int)) (p := ()) (F := NoB) ⟨by omega, by omega⟩ (fun b h => False.elim h) (fun b h => False.elim h) (d := 25) (by kernel_rfl) ?_)
      clear S; intro ac w N q11 F12 S up o13 d14
      have d15 : Disj F6 F12 := d14 _ (fun b _ h => False.elim h) o7.sub
      replace o7 := o7.up up
      clear up d14
      refine RG.op rfl (S.appFlat (α := Int) o7 (o13.rn) (fun _ _ h => h) (by' := 8) (d := 26) (lx := (acc).length) (ly := 1) rfl rfl (by kernel_rfl) (show _ ≤ 4194304 by simp only [List.length_append, List.length_cons, List.length_nil]; omega) ?_)
      clear S; intro ac w N q16 F17 S up o18 d19
      have d20 : Disj F12 F17 := d19 _ (Disj.symm d15) o13.sub
      replace o13 := o13.upF (Disj.symm d15) up
      clear up d19
      refine S.quiet (k := 1) (keep := [1, 2, 5, 6]) (m := 1) (σ' := ⟨[(1, .v (I n)), (2, .p 0 0), (5, .v (slv ((acc ++ [(k : Int)])).length q16.1)), (6, .v (I (k : Int)))], [GT.cells b pb]⟩) .nil (by kernel_rfl) ?_
      clear S; intro ac w β S
      refine RG.done rfl (nx_block (nx_then (RG.start ?_)))
      refine S.quiet (k := 3) (keep := [1, 2, 5, 6]) (m := 1) (σ' := ⟨[(1, .v (I n)), (2, .p 0 0), (5, .v (slv ((acc ++ [(k : Int)])).length q16.1)), (6, .v (I ((k : Int) + 1)))], [GT.cells b pb]⟩) (.cons (Q_add (x := (k : Int)) (y := 1) ⟨by omega, by omega⟩) .nil) (by kernel_rfl) ?_
      clear S; intro ac w β S
      refine RG.done rfl (nx_then ?_)
      replace S := S.prune (keep := [1, 2, 5, 6]) (m := 1) (σ' := ⟨[(1, .v (I n)), (2, .p 0 0), (5, .v (slv ((acc ++ [(k : Int)])).length q16.1)), (6, .v (I ((k : Int) + 1)))], [GT.cells b pb]⟩) (by kernel_rfl)
      refine ⟨(b.guests).length - (k + 1), by omega, k + 1, (acc ++ [(k : Int)]), q16, F17, _, _, _, rfl, ?_, ?_, S.cast (by kernel_rfl), o18⟩
      · clear S; first | omega | (simp [*]; done) | (simp [*]; omega)
      · clear S; (first | (rw [idx_step_t (by first | assumption | (simp [*]; done) | (simp; omega)), hacc]; done) | (rw [idx_step_f (by first | assumption | (simp [*]; done) | (simp; omega)), hacc]; done) | (rw [idx_step_t (by simp_all <;> fail), hacc]; done) | (rw [idx_step_f (by simp_all <;> fail), hacc]; done))
    · refine wp_skip (nx_block (nx_then (RG.start ?_)))
      refine S.quiet (k := 3) (keep := [1, 2, 5, 6]) (m := 1) (σ' := ⟨[(1, .v (I n)), (2, .p 0 0), (5, .v (slv (acc).length q5.1)), (6, .v (I ((k : Int) + 1)))], [GT.cells b pb]⟩) (.cons (Q_add (x := (k : Int)) (y := 1) ⟨by omega, by omega⟩) .nil) (by kernel_rfl) ?_
      clear S; intro ac w β S
      refine RG.done rfl (nx_then ?_)
      replace S := S.prune (keep := [1, 2, 5, 6]) (m := 1) (σ' := ⟨[(1, .v (I n)), (2, .p 0 0), (5, .v (slv (acc).length q5.1)), (6, .v (I ((k : Int) + 1)))], [GT.cells b pb]⟩) (by kernel_rfl)
      refine ⟨(b.guests).length - (k + 1), by omega, k + 1, acc, q5, F6, _, _, _, rfl, ?_, ?_, S.cast (by kernel_rfl), o7⟩
      · clear S; first | omega | (simp [*]; done) | (simp [*]; omega)
      · clear S; (first | (rw [idx_step_t (by first | assumption | (simp [*]; done) | (simp; omega)), hacc]; done) | (rw [idx_step_f (by first | assumption | (simp [*]; done) | (simp; omega)), hacc]; done) | (rw [idx_step_t (by simp_all <;> fail), hacc]; done) | (rw [idx_step_f (by simp_all <;> fail), hacc]; done))
  · have g21 : ¬ ((k : Int) < ((b.guests).length : Int)) := of_decide_eq_false h8
    refine wp_exit (ex_then (ex_then (ex_hit (nx_then (wp_seq (RG.start ?_))))))
    refine S.quiet (k := 2) (keep := [4]) (m := 0) (σ' := ⟨[(4, .v (slv (acc).length q5.1))], []⟩) .nil (by kernel_rfl) ?_
    clear S; intro ac w β S
    refine RG.done rfl (nx_then (wp_ret ?_))
    refine S.ret (vs := [slv (acc).length q5.1]) (by kernel_rfl) ?_
    exact ret1_of S (show f_postedTo b n = acc by clear S; (unfold f_postedTo; rw [hacc, show b.guests.length = k by omega])) rfl o7

set_option maxRecDepth 100000 in
theorem c_spec_PostIrq (w0 : World) (p : Int) (hp : In64 p) (n : Int) : Calls Try.prog 78 [I p, I n].toArray w0 (fun e w' => e = .returned (.tuple #[I ((f_postIrq p n).1), B ((f_postIrq p n).2)]) ∧ Chg NoB w0 w') := by
  refine Calls.walk (args := [I p, I n]) NoB Try.func78 rfl rfl ?_
  intro ac β S
  have hlop := hp.lo; have hhip := hp.hi
  refine wp_seq (RG.start ?_)
  refine S.quiet (k := 2) (keep := [0, 1]) (m := 0) (σ' := ⟨[(0, .v (I p)), (1, .v (I n))], []⟩) .nil (by kernel_rfl) ?_
  clear S; intro ac w β S
  refine RG.done rfl (nx_then (wp_seq (wp_seq (RG.start ?_))))
  refine S.quiet (k := 4) (keep := [0, 1, 9]) (m := 0) (σ' := ⟨[(0, .v (I p)), (1, .v (I n)), (9, .v (B (!(f_within p 0 255))))], []⟩) (.cons (Q_call fun w hw => c_spec_PendOk w p) .nil) (by kernel_rfl) ?_
  clear S; intro ac w β S
  rcases Bool.eq_false_or_eq_true (!(f_within p 0 255)) with h1 | h1 <;> rw [h1] at S
  · have h2 : (f_within p 0 255) = false := not_t h1
    have g3 := within_f h2
    refine S.quiet (k := 4) (keep := [0, 1, 13]) (m := 0) (σ' := ⟨[(0, .v (I p)), (1, .v (I n)), (13, .v (B true))], []⟩) .nil (by kernel_rfl) ?_
    clear S; intro ac w β S
    refine RG.done rfl (nx_then ?_)
    refine S.cond (e := true) (by kernel_rfl) (fun _ => ?_) (fun hx => by cases hx)
    refine wp_seq (RG.start ?_)
    refine S.quiet (k := 3) (keep := [4, 5]) (m := 0) (σ' := ⟨[(4, .v (I p)), (5, .v (B false))], []⟩) .nil (by kernel_rfl) ?_
    clear S; intro ac w β S
    refine RG.done rfl (nx_then (wp_ret (rt_then ?_)))
    refine S.ret (vs := [I p, B false]) (by kernel_rfl) ?_
    exact ⟨ret2v (eqI (show p = (f_postIrq p n).1 by clear S; (unfold f_postIrq; (repeat' split) <;> first | rfl | (exfalso; omega) | (exfalso; simp_all; done) | (exfalso; simp_all; omega)))) (eqB (show false = (f_postIrq p n).2 by clear S; (unfold f_postIrq; (repeat' split) <;> first | rfl | (exfalso; omega) | (exfalso; simp_all; done) | (exfalso; simp_all; omega)))), S.chg⟩
  · have h4 : (f_within p 0 255) = true := not_f h1
    have g5 := within_t h4
    refine S.quiet (k := 4) (keep := [0, 1, 13]) (m := 0) (σ' := ⟨[(0, .v (I p)), (1, .v (I n)), (13, .v (B (!(f_within n 0 7))))], []⟩) (.cons (Q_call fun w hw => c_spec_l01In w n 0 7) .nil) (by kernel_rfl) ?_
    clear S; intro ac w β S
    refine RG.done rfl (nx_then ?_)
    refine S.cond (e := (!(f_within n 0 7))) (by kernel_rfl) (fun h6 => ?_) (fun h6 => ?_)
    · have h7 : (f_within n 0 7) = false := not_t h6
      have g8 := within_f h7
      refine wp_seq (RG.start ?_)
      refine S.quiet (k := 3) (keep := [4, 5]) (m := 0) (σ' := ⟨[(4, .v (I p)), (5, .v (B false))], []⟩) .nil (by kernel_rfl) ?_
      clear S; intro ac w β S
      refine RG.done rfl (nx_then (wp_ret (rt_then ?_)))
      refine S.ret (vs := [I p, B false]) (by kernel_rfl) ?_
      exact ⟨ret2v (eqI (show p = (f_postIrq p n).1 by clear S; (unfold f_postIrq; (repeat' split) <;> first | rfl | (exfalso; omega) | (exfalso; simp_all; done) | (exfalso; simp_all; omega)))) (eqB (show false = (f_postIrq p n).2 by clear S; (unfold f_postIrq; (repeat' split) <;> first | rfl | (exfalso; omega) | (exfalso; simp_all; done) | (exfalso; simp_all; omega)))), S.chg⟩
    · have h9 : (f_within n 0 7) = true := not_f h6
      have g10 := within_t h9
      refine wp_skip (nx_then (wp_seq (RG.start ?_)))
      refine S.quiet (k := 7) (keep := [4, 5]) (m := 0) (σ' := ⟨[(4, .v (I (lor64 p (shl64 1 n)))), (5, .v (B true))], []⟩) (.cons (Q_convu (s := 3) (d := 150) (x := n) Try.underlying3 Try.underlying150 (by omega) (by omega)) (.cons (Q_shl (yk := .u64) (x := 1) (y := n) (by omega)) (.cons (Q_lor64 (x := p) (y := (shl64 1 n))) .nil))) (by kernel_rfl) ?_
      clear S; intro ac w β S
      refine RG.done rfl (nx_then (wp_ret ?_))
      refine S.ret (vs := [I (lor64 p (shl64 1 n)), B true]) (by kernel_rfl) ?_
      exact ⟨ret2v (eqI (show (lor64 p (shl64 1 n)) = (f_postIrq p n).1 by clear S; (unfold f_postIrq; (repeat' split) <;> first | rfl | (exfalso; omega) | (exfalso; simp_all; done) | (exfalso; simp_all; omega)))) (eqB (show true = (f_postIrq p n).2 by clear S; (unfold f_postIrq; (repeat' split) <;> first | rfl | (exfalso; omega) | (exfalso; simp_all; done) | (exfalso; simp_all; omega)))), S.chg⟩

set_option maxRecDepth 100000 in
theorem c_spec_BarePost (w0 : World) (b : TBare) (pb : PBare) (hb : GT.rd KK (Lt w0.heap.size) w0 b pb) (n : Int) : Calls Try.prog 37 [GT.val b pb, I n].toArray w0 (Ret2 NoB w0 ((f_barePost b n).1 : TBare) ((f_barePost b n).2 : Bool)) := by
  refine Calls.walk (args := [GT.val b pb, I n]) NoB Try.func37 rfl rfl ?_
  intro ac β S
  have hleb_mem : b.mem.length ≤ 4194304 := LRd.le (RBare.mem (d := b) hb)
  have hleb_guests : b.guests.length ≤ 4194304 := LRd.le (RBare.guests (d := b) hb)
  have hleb_outs : b.outs.length ≤ 4194304 := LRd.le (RBare.outs (d := b) hb)
  refine wp_seq (RG.start ?_)
  refine S.quiet (k := 3) (keep := [1, 2, 4]) (m := 2) (σ' := ⟨[(1, .v (I n)), (2, .p 0 0), (4, .p 1 0)], [GT.cells b pb, Zc TBare]⟩) .nil (by kernel_rfl) ?_
  clear S; intro ac w β S
  refine RG.done rfl (nx_then (wp_seq (RG.start ?_)))
  refine S.quiet (k := 1) (keep := [1, 2, 4, 8]) (m := 2) (σ' := ⟨[(1, .v (I n)), (2, .p 0 0), (4, .p 1 0), (8, .v (GT.val b pb))], [GT.cells b pb, Zc TBare]⟩) .nil (by kernel_rfl) ?_
  clear S; intro ac w β S
  refine RG.op rfl (S.call1 (r := b) (d := 9) (c_spec_l17Copy w b pb (S.rd (S.arg hb))) (by kernel_rfl) rfl ?_)
  clear S; intro ac w N q1 F2 S up o3 d4
  clear up d4
  have i14 : In64 b.pend := RBare.pend (d := b) o3.rn
  obtain ⟨F5, F8, F11, o6, o9, o12, s7, s10, s13, d15, d16, d17⟩ := sp_Bare o3
  refine S.quiet (k := 1) (keep := [1, 2, 4]) (m := 2) (σ' := ⟨[(1, .v (I n)), (2, .p 0 0), (4, .p 1 0)], [[slv (b.mem).length q1.mem.1, slv (b.guests).length q1.guests.1, slv (b.outs).length q1.outs.1, I b.pend], Zc TBare]⟩) .nil (by kernel_rfl) ?_
  clear S; intro ac w β S
  refine RG.done rfl (nx_then (wp_seq (wp_seq (RG.start ?_))))
  refine S.quiet (k := 4) (keep := [1, 2, 4, 13]) (m := 2) (σ' := ⟨[(1, .v (I n)), (2, .p 0 0), (4, .p 1 0), (13, .v (B (!(f_bareOk b))))], [[slv (b.mem).length q1.mem.1, slv (b.guests).length q1.guests.1, slv (b.outs).length q1.outs.1, I b.pend], Zc TBare]⟩) (.cons (Q_call fun w hw => c_spec_BareOk w b q1 (rd_of (show GT.rd KK _ _ b q1 from ⟨o6.rn, o9.rn, o12.rn, i14⟩) hw)) .nil) (by kernel_rfl) ?_
  clear S; intro ac w β S
  rcases Bool.eq_false_or_eq_true (!(f_bareOk b)) with h18 | h18 <;> rw [h18] at S
  · have h19 : (f_bareOk b) = false := not_t h18
    refine S.quiet (k := 4) (keep := [1, 2, 4, 17]) (m := 2) (σ' := ⟨[(1, .v (I n)), (2, .p 0 0), (4, .p 1 0), (17, .v (B true))], [[slv (b.mem).length q1.mem.1, slv (b.guests).length q1.guests.1, slv (b.outs).length q1.outs.1, I b.pend], Zc TBare]⟩) .nil (by kernel_rfl) ?_
    clear S; intro ac w β S
    refine RG.done rfl (nx_then ?_)
    refine S.cond (e := true) (by kernel_rfl) (fun _ => ?_) (fun hx => by cases hx)
    refine wp_seq (RG.start ?_)
    refine S.quiet (k := 3) (keep := [4, 5]) (m := 2) (σ' := ⟨[(4, .p 1 0), (5, .v (B false))], [[slv (b.mem).length q1.mem.1, slv (b.guests).length q1.guests.1, slv (b.outs).length q1.outs.1, I b.pend], [slv (b.mem).length q1.mem.1, slv (b.guests).length q1.guests.1, slv (b.outs).length q1.outs.1, I b.pend]]⟩) .nil (by kernel_rfl) ?_
    clear S; intro ac w β S
    refine RG.done rfl (nx_then (wp_ret (rt_then ?_)))
    refine S.ret (vs := [GT.val b q1, B false]) (by kernel_rfl) ?_
    have o20 := ow_Bare (x := b) (p := q1) o6 o9 o12 d15 d16 d17 i14
    exact ret2_of (p' := ()) S (show (f_barePost b n).1 = b by clear S; (first | (unfold f_barePost; rw [if_neg (by simp_all)]; done) | (unfold f_barePost; rw [if_pos ⟨by assumption, by omega, by omega⟩]; done) | (unfold f_barePost; rw [if_pos ⟨by assumption, by omega, by omega⟩, show (f_postedTo b n).foldl (stepPost n) b.guests = gs by rw [hg, take_all (by omega)], if_pos (by omega)]; done) | (unfold f_barePost; rw [if_pos ⟨by assumption, by omega, by omega⟩, show (f_postedTo b n).foldl (stepPost n) b.guests = gs by rw [hg, take_all (by omega)], if_neg (by omega)]; done))) (show (f_barePost b n).2 = false by clear S; (first | (unfold f_barePost; rw [if_neg (by simp_all)]; done) | (unfold f_barePost; rw [if_pos ⟨by assumption, by omega, by omega⟩]; done) | (unfold f_barePost; rw [if_pos ⟨by assumption, by omega, by omega⟩, show (f_postedTo b n).foldl (stepPost n) b.guests = gs by rw [hg, take_all (by omega)], if_pos (by omega)]; done) | (unfold f_barePost; rw [if_pos ⟨by assumption, by omega, by omega⟩, show (f_postedTo b n).foldl (stepPost n) b.guests = gs by rw [hg, take_all (by omega)], if_neg (by omega)]; done))) rfl rfl o20 trivial
  · have h21 : (f_bareOk b) = true := not_f h18
    have g22 := bareOk_t h21
    refine S.quiet (k := 4) (keep := [1, 2, 4, 17]) (m := 2) (σ' := ⟨[(1, .v (I n)), (2, .p 0 0), (4, .p 1 0), (17, .v (B (!(f_within n 0 7))))], [[slv (b.mem).length q1.mem.1, slv (b.guests).length q1.guests.1, slv (b.outs).length q1.outs.1, I b.pend], Zc TBare]⟩) (.cons (Q_call fun w hw => c_spec_l01In w n 0 7) .nil) (by kernel_rfl) ?_
    clear S; intro ac w β S
    refine RG.done rfl (nx_then ?_)
    refine S.cond (e := (!(f_within n 0 7))) (by kernel_rfl) (fun h23 => ?_) (fun h23 => ?_)
    · have h24 : (f_within n 0 7) = false := not_t h23
      have g25 := within_f h24
      refine wp_seq (RG.start ?_)
      refine S.quiet (k := 3) (keep := [4, 5]) (m := 2) (σ' := ⟨[(4, .p 1 0), (5, .v (B false))], [[slv (b.mem).length q1.mem.1, slv (b.guests).length q1.guests.1, slv (b.outs).length q1.outs.1, I b.pend], [slv (b.mem).length q1.mem.1, slv (b.guests).length q1.guests.1, slv (b.outs).length q1.outs.1, I b.pend]]⟩) .nil (by kernel_rfl) ?_
      clear S; intro ac w β S
      refine RG.done rfl (nx_then (wp_ret (rt_then ?_)))
      refine S.ret (vs := [GT.val b q1, B false]) (by kernel_rfl) ?_
      have o26 := ow_Bare (x := b) (p := q1) o6 o9 o12 d15 d16 d17 i14
      exact ret2_of (p' := ()) S (show (f_barePost b n).1 = b by clear S; (first | (unfold f_barePost; rw [if_neg (by simp_all)]; done) | (unfold f_barePost; rw [if_pos ⟨by assumption, by omega, by omega⟩]; done) | (unfold f_barePost; rw [if_pos ⟨by assumption, by omega, by omega⟩, show (f_postedTo b n).foldl (stepPost n) b.guests = gs by rw [hg, take_all (by omega)], if_pos (by omega)]; done) | (unfold f_barePost; rw [if_pos ⟨by assumption, by omega, by omega⟩, show (f_postedTo b n).foldl (stepPost n) b.guests = gs by rw [hg, take_all (by omega)], if_neg (by omega)]; done))) (show (f_barePost b n).2 = false by clear S; (first | (unfold f_barePost; rw [if_neg (by simp_all)]; done) | (unfold f_barePost; rw [if_pos ⟨by assumption, by omega, by omega⟩]; done) | (unfold f_barePost; rw [if_pos ⟨by assumption, by omega, by omega⟩, show (f_postedTo b n).foldl (stepPost n) b.guests = gs by rw [hg, take_all (by omega)], if_pos (by omega)]; done) | (unfold f_barePost; rw [if_pos ⟨by assumption, by omega, by omega⟩, show (f_postedTo b n).foldl (stepPost n) b.guests = gs by rw [hg, take_all (by omega)], if_neg (by omega)]; done))) rfl rfl o26 trivial
    · have h27 : (f_within n 0 7) = true := not_f h23
      have g28 := within_t h27
      refine wp_skip (nx_then (wp_seq (RG.start ?_)))
      refine S.quiet (k := 2) (keep := [1, 2, 4, 19, 20]) (m := 2) (σ' := ⟨[(1, .v (I n)), (2, .p 0 0), (4, .p 1 0), (19, .v (GT.val b q1)), (20, .v (I n))], [[slv (b.mem).length q1.mem.1, slv (b.guests).length q1.guests.1, slv (b.outs).length q1.outs.1, I b.pend], Zc TBare]⟩) .nil (by kernel_rfl) ?_
      clear S; intro ac w β S
      refine RG.op rfl (S.call1 (r := f_postedTo b n) (d := 21) (c_spec_PostedTo w b q1 (S.rd (show GT.rd KK _ _ b q1 from ⟨o6.rn, o9.rn, o12.rn, i14⟩)) n) (by kernel_rfl) rfl ?_)
      clear S; intro ac w N q29 F30 S up o31 d32
      have d33 : Disj F5 F30 := fun b x y => d32 b (o6.sub b x) y
      have d34 : Disj F8 F30 := fun b x y => d32 b (o9.sub b x) y
      have d35 : Disj F11 F30 := fun b x y => d32 b (o12.sub b x) y
      replace o6 := o6.up up
      replace o9 := o9.up up
      replace o12 := o12.up up
      clear up d32
      refine S.quiet (k := 1) (keep := [1, 2, 4, 6]) (m := 2) (σ' := ⟨[(1, .v (I n)), (2, .p 0 0), (4, .p 1 0), (6, .v (slv ((f_postedTo b n)).length q29.1))], [[slv (b.mem).length q1.mem.1, slv (b.guests).length q1.guests.1, slv (b.outs).length q1.outs.1, I b.pend], Zc TBare]⟩) .nil (by kernel_rfl) ?_
      clear S; intro ac w β S
      refine RG.done rfl (nx_then (wp_seq (wp_seq (RG.start ?_))))
      refine S.quiet (k := 1) (keep := [1, 2, 4, 6, 7]) (m := 2) (σ' := ⟨[(1, .v (I n)), (2, .p 0 0), (4, .p 1 0), (6, .v (slv ((f_postedTo b n)).length q29.1)), (7, .v (I 0))], [[slv (b.mem).length q1.mem.1, slv (b.guests).length q1.guests.1, slv (b.outs).length q1.outs.1, I b.pend], Zc TBare]⟩) .nil (by kernel_rfl) ?_
      clear S; intro ac w β S
      refine RG.done rfl (nx_then (wp_block ?_))
      replace S := S.prune (keep := [1, 2, 4, 6, 7]) (m := 2) (σ' := ⟨[(1, .v (I n)), (2, .p 0 0), (4, .p 1 0), (6, .v (slv ((f_postedTo b n)).length q29.1)), (7, .v (I 0))], [[slv (b.mem).length q1.mem.1, slv (b.guests).length q1.guests.1, slv (b.outs).length q1.outs.1, I b.pend], Zc TBare]⟩) (by kernel_rfl)
      refine wp_loop_down (fun mm ac w => ∃ (k : Nat) (gs : List TGuest) (q36 : GT.Ptr (List TGuest)) (F37 : Bl) (u : World) (N : Bl) (β : Nat → Nat), mm = (f_postedTo b n).length - k ∧ (k ≤ (f_postedTo b n).length) ∧ (gs = ((f_postedTo b n).take k).foldl (stepPost n) b.guests) ∧ (gs.length = b.guests.length) ∧ St Try.prog Try.f37.ntmps w0 NoB u N β ⟨[(1, .v (I n)), (2, .p 0 0), (4, .p 1 0), (6, .v (slv ((f_postedTo b n)).length q29.1)), (7, .v (I (k : Int)))], [[slv (b.mem).length q1.mem.1, slv (gs).length q36.1, slv (b.outs).length q1.outs.1, I b.pend], Zc TBare]⟩ ac w ∧ Ow w0 NoB u N F37 gs q36 ∧ Ow w0 NoB u N F5 b.mem q1.mem ∧ Ow w0 NoB u N F11 b.outs q1.outs ∧ Ow w0 NoB u N F30 (f_postedTo b n) q29 ∧ Disj F37 F5 ∧ Disj F37 F11 ∧ Disj F37 F30) _ ⟨0, b.guests, q1.guests, F8, _, _, _, rfl, (by first | omega | (simp; done) | (simp; omega)), (by rfl), (by rfl), S.cast (by kernel_rfl), o9, o6, o12, o31, (Disj.symm d15), d17, d34⟩ ?_
      clear S o12 o31 o6 o9
      rintro mm ac w ⟨k, gs, q36, F37, u, N, β, rfl, hk, hg, hgl, S, o38, o6, o12, o31, d39, d40, d41⟩
      have hix := postedTo_bd (b := b) (n := n) (k := k) (by omega)
      have hpl : (f_postedTo b n).length ≤ b.guests.length := idx_len _ _
      refine wp_seq (wp_seq (RG.start ?_))
      refine S.quiet (k := 4) (keep := [1, 2, 4, 6, 7, 25]) (m := 2) (σ' := ⟨[(1, .v (I n)), (2, .p 0 0), (4, .p 1 0), (6, .v (slv ((f_postedTo b n)).length q29.1)), (7, .v (I (k : Int))), (25, .v (B (decide ((k : Int) < (((f_postedTo b n)).length : Int)))))], [[slv (b.mem).length q1.mem.1, slv (gs).length q36.1, slv (b.outs).length q1.outs.1, I b.pend], Zc TBare]⟩) .nil (by kernel_rfl) ?_
      clear S; intro ac w β S
      refine RG.done rfl (nx_then ?_)
      refine S.cond (e := (decide ((k : Int) < (((f_postedTo b n)).length : Int)))) (by kernel_rfl) (fun h42 => ?_) (fun h42 => ?_)
      · have g43 : (k : Int) < (((f_postedTo b n)).length : Int) := of_decide_eq_true h42
        refine wp_skip (nx_then (wp_seq (wp_block ?_)))
        replace S := S.prune (keep := [1, 2, 4, 6, 7, 25]) (m := 2) (σ' := ⟨[(1, .v (I n)), (2, .p 0 0), (4, .p 1 0), (6, .v (slv ((f_postedTo b n)).length q29.1)), (7, .v (I (k : Int))), (25, .v (B (decide ((k : Int) < (((f_postedTo b n)).length : Int)))))], [[slv (b.mem).length q1.mem.1, slv (gs).length q36.1, slv (b.outs).length q1.outs.1, I b.pend], Zc TBare]⟩) (by kernel_rfl)
        obtain ⟨u0, N0, β0, S, o38, o6, o12, o31⟩ : ∃ (u0 : World) (N0 : Bl) (β0 : Nat → Nat), St Try.prog Try.f37.ntmps w0 NoB u0 N0 β0 ⟨[(1, .v (I n)), (2, .p 0 0), (4, .p 1 0), (6, .v (slv ((f_postedTo b n)).length q29.1)), (7, .v (I (k : Int))), (25, .v (B (decide ((k : Int) < (((f_postedTo b n)).length : Int)))))], [[slv (b.mem).length q1.mem.1, slv (gs).length q36.1, slv (b.outs).length q1.outs.1, I b.pend], Zc TBare]⟩ ac w ∧ Ow w0 NoB u0 N0 F37 gs q36 ∧ Ow w0 NoB u0 N0 F5 b.mem q1.mem ∧ Ow w0 NoB u0 N0 F11 b.outs q1.outs ∧ Ow w0 NoB u0 N0 F30 (f_postedTo b n) q29 := ⟨_, _, _, S.cast (by kernel_rfl), o38, o6, o12, o31⟩
        refine wp_region_cut (fun ac w => ∃ (q55 : GT.Ptr (List TGuest)) (F56 : Bl) (u : World) (N : Bl) (β : Nat → Nat), St Try.prog Try.f37.ntmps w0 NoB u N β ⟨[(1, .v (I n)), (2, .p 0 0), (4, .p 1 0), (6, .v (slv ((f_postedTo b n)).length q29.1)), (7, .v (I (k : Int)))], [[slv (b.mem).length q1.mem.1, slv (((gs).set (((el (f_postedTo b n) k)).toNat) ({ el gs (((el (f_postedTo b n) k)).toNat) with pend := ((f_postIrq ((el gs (((el (f_postedTo b n) k)).toNat)).pend) n).1) }))).length q55.1, slv (b.outs).length q1.outs.1, I b.pend], Zc TBare]⟩ ac w ∧ Ow w0 NoB u N F5 b.mem q1.mem ∧ Ow w0 NoB u N F11 b.outs q1.outs ∧ Ow w0 NoB u N F30 (f_postedTo b n) q29 ∧ Ow w0 NoB u N F56 ((gs).set (((el (f_postedTo b n) k)).toNat) ({ el gs (((el (f_postedTo b n) k)).toNat) with pend := ((f_postIrq ((el gs (((el (f_postedTo b n) k)).toNat)).pend) n).1) })) q55 ∧ Disj F5 F56 ∧ Disj F11 F56 ∧ Disj F30 F56 ∧ In64 b.pend) ?_ ?_
        · refine S.draw0 (f := 23) 22 rfl rfl ?_
          clear S; intro w S
          refine S.hoist (i := 0) (path := [0]) (keep := [1, 2, 4, 6, 7, 29]) (m := 2) (σ' := ⟨[(1, .v (I n)), (2, .p 0 0), (4, .p 1 0), (6, .v (slv ((f_postedTo b n)).length q29.1)), (7, .v (I (k : Int))), (29, .p 0 1)], [[slv (b.mem).length q1.mem.1, slv (gs).length q36.1, slv (b.outs).length q1.outs.1, I b.pend], Zc TBare]⟩) (by kernel_rfl) (by kernel_rfl) .nil (by kernel_rfl) ?_
          clear S; intro ac S
          refine S.hoist (i := 1) (path := [1]) (keep := [1, 2, 4, 6, 7, 30]) (m := 2) (σ' := ⟨[(1, .v (I n)), (2, .p 0 0), (4, .p 1 0), (6, .v (slv ((f_postedTo b n)).length q29.1)), (7, .v (I (k : Int))), (30, .v (slv (gs).length q36.1))], [[slv (b.mem).length q1.mem.1, slv (gs).length q36.1, slv (b.outs).length q1.outs.1, I b.pend], Zc TBare]⟩) (by kernel_rfl) (by kernel_rfl) .nil (by kernel_rfl) ?_
          clear S; intro ac S
          refine S.hoist (i := 2) (path := [2]) (keep := [1, 2, 4, 6, 7, 30, 31]) (m := 2) (σ' := ⟨[(1, .v (I n)), (2, .p 0 0), (4, .p 1 0), (6, .v (slv ((f_postedTo b n)).length q29.1)), (7, .v (I (k : Int))), (30, .v (slv (gs).length q36.1)), (31, .v (slv ((f_postedTo b n)).length q29.1))], [[slv (b.mem).length q1.mem.1, slv (gs).length q36.1, slv (b.outs).length q1.outs.1, I b.pend], Zc TBare]⟩) (by kernel_rfl) (by kernel_rfl) .nil (by kernel_rfl) ?_
          clear S; intro ac S
          refine S.hoist (i := 3) (path := [3]) (keep := [1, 2, 4, 6, 7, 30, 31, 32]) (m := 2) (σ' := ⟨[(1, .v (I n)), (2, .p 0 0), (4, .p 1 0), (6, .v (slv ((f_postedTo b n)).length q29.1)), (7, .v (I (k : Int))), (30, .v (slv (gs).length q36.1)), (31, .v (slv ((f_postedTo b n)).length q29.1)), (32, .v (I (k : Int)))], [[slv (b.mem).length q1.mem.1, slv (gs).length q36.1, slv (b.outs).length q1.outs.1, I b.pend], Zc TBare]⟩) (by kernel_rfl) (by kernel_rfl) .nil (by kernel_rfl) ?_
          clear S; intro ac S
          refine S.hoist (i := 4) (path := [4]) (keep := [1, 2, 4, 6, 7, 30, 33]) (m := 2) (σ' := ⟨[(1, .v (I n)), (2, .p 0 0), (4, .p 1 0), (6, .v (slv ((f_postedTo b n)).length q29.1)), (7, .v (I (k : Int))), (30, .v (slv (gs).length q36.1)), (33, .v (pt q29.1.b (q29.1.off + k * 1)))], [[slv (b.mem).length q1.mem.1, slv (gs).length q36.1, slv (b.outs).length q1.outs.1, I b.pend], Zc TBare]⟩) (by kernel_rfl) (by kernel_rfl) (.cons (Q_idx o31.rn (l := ((f_postedTo b n)).length) (k := k) (i := (k : Int)) rfl rfl (by omega) Try.underlying24 (by kernel_rfl)) .nil) (by kernel_rfl) ?_
          clear S; intro ac S
          refine S.hoist (i := 5) (path := [5]) (keep := [1, 2, 4, 6, 7, 30, 34]) (m := 2) (σ' := ⟨[(1, .v (I n)), (2, .p 0 0), (4, .p 1 0), (6, .v (slv ((f_postedTo b n)).length q29.1)), (7, .v (I (k : Int))), (30, .v (slv (gs).length q36.1)), (34, .v (I (el (f_postedTo b n) k)))], [[slv (b.mem).length q1.mem.1, slv (gs).length q36.1, slv (b.outs).length q1.outs.1, I b.pend], Zc TBare]⟩) (by kernel_rfl) (by kernel_rfl) (.cons (Q_el1 o31.rn (t := 3) (k := k) (by omega) rfl (by kernel_rfl)) .nil) (by kernel_rfl) ?_
          clear S; intro ac S
          refine S.hoist (i := 6) (path := [6]) (keep := [1, 2, 4, 6, 7, 30, 34, 35]) (m := 2) (σ' := ⟨[(1, .v (I n)), (2, .p 0 0), (4, .p 1 0), (6, .v (slv ((f_postedTo b n)).length q29.1)), (7, .v (I (k : Int))), (30, .v (slv (gs).length q36.1)), (34, .v (I (el (f_postedTo b n) k))), (35, .p 0 1)], [[slv (b.mem).length q1.mem.1, slv (gs).length q36.1, slv (b.outs).length q1.outs.1, I b.pend], Zc TBare]⟩) (by kernel_rfl) (by kernel_rfl) .nil (by kernel_rfl) ?_
          clear S; intro ac S
          refine S.hoist (i := 7) (path := [7]) (keep := [1, 2, 4, 6, 7, 30, 34, 36]) (m := 2) (σ' := ⟨[(1, .v (I n)), (2, .p 0 0), (4, .p 1 0), (6, .v (slv ((f_postedTo b n)).length q29.1)), (7, .v (I (k : Int))), (30, .v (slv (gs).length q36.1)), (34, .v (I (el (f_postedTo b n) k))), (36, .v (slv (gs).length q36.1))], [[slv (b.mem).length q1.mem.1, slv (gs).length q36.1, slv (b.outs).length q1.outs.1, I b.pend], Zc TBare]⟩) (by kernel_rfl) (by kernel_rfl) .nil (by kernel_rfl) ?_
          clear S; intro ac S
          refine S.hoist (i := 8) (path := [8]) (keep := [1, 2, 4, 6, 7, 30, 34, 36, 37]) (m := 2) (σ' := ⟨[(1, .v (I n)), (2, .p 0 0), (4, .p 1 0), (6, .v (slv ((f_postedTo b n)).length q29.1)), (7, .v (I (k : Int))), (30, .v (slv (gs).length q36.1)), (34, .v (I (el (f_postedTo b n) k))), (36, .v (slv (gs).length q36.1)), (37, .v (slv ((f_postedTo b n)).length q29.1))], [[slv (b.mem).length q1.mem.1, slv (gs).length q36.1, slv (b.outs).length q1.outs.1, I b.pend], Zc TBare]⟩) (by kernel_rfl) (by kernel_rfl) .nil (by kernel_rfl) ?_
          clear S; intro ac S
          refine S.hoist (i := 9) (path := [9]) (keep := [1, 2, 4, 6, 7, 30, 34, 36, 37, 38]) (m := 2) (σ' := ⟨[(1, .v (I n)), (2, .p 0 0), (4, .p 1 0), (6, .v (slv ((f_postedTo b n)).length q29.1)), (7, .v (I (k : Int))), (30, .v (slv (gs).length q36.1)), (34, .v (I (el (f_postedTo b n) k))), (36, .v (slv (gs).length q36.1)), (37, .v (slv ((f_postedTo b n)).length q29.1)), (38, .v (I (k : Int)))], [[slv (b.mem).length q1.mem.1, slv (gs).length q36.1, slv (b.outs).length q1.outs.1, I b.pend], Zc TBare]⟩) (by kernel_rfl) (by kernel_rfl) .nil (by kernel_rfl) ?_
          clear S; intro ac S
          refine S.hoist (i := 10) (path := [10]) (keep := [1, 2, 4, 6, 7, 30, 34, 36, 39]) (m := 2) (σ' := ⟨[(1, .v (I n)), (2, .p 0 0), (4, .p 1 0), (6, .v (slv ((f_postedTo b n)).length q29.1)), (7, .v (I (k : Int))), (30, .v (slv (gs).length q36.1)), (34, .v (I (el (f_postedTo b n) k))), (36, .v (slv (gs).length q36.1)), (39, .v (pt q29.1.b (q29.1.off + k * 1)))], [[slv (b.mem).length q1.mem.1, slv (gs).length q36.1, slv (b.outs).length q1.outs.1, I b.pend], Zc TBare]⟩) (by kernel_rfl) (by kernel_rfl) (.cons (Q_idx o31.rn (l := ((f_postedTo b n)).length) (k := k) (i := (k : Int)) rfl rfl (by omega) Try.underlying24 (by kernel_rfl)) .nil) (by kernel_rfl) ?_
          clear S; intro ac S
          refine S.hoist (i := 11) (path := [11]) (keep := [1, 2, 4, 6, 7, 30, 34, 36, 40]) (m := 2) (σ' := ⟨[(1, .v (I n)), (2, .p 0 0), (4, .p 1 0), (6, .v (slv ((f_postedTo b n)).length q29.1)), (7, .v (I (k : Int))), (30, .v (slv (gs).length q36.1)), (34, .v (I (el (f_postedTo b n) k))), (36, .v (slv (gs).length q36.1)), (40, .v (I (el (f_postedTo b n) k)))], [[slv (b.mem).length q1.mem.1, slv (gs).length q36.1, slv (b.outs).length q1.outs.1, I b.pend], Zc TBare]⟩) (by kernel_rfl) (by kernel_rfl) (.cons (Q_el1 o31.rn (t := 3) (k := k) (by omega) rfl (by kernel_rfl)) .nil) (by kernel_rfl) ?_
          clear S; intro ac S
          refine S.hoist (i := 12) (path := [12]) (keep := [1, 2, 4, 6, 7, 30, 34, 41]) (m := 2) (σ' := ⟨[(1, .v (I n)), (2, .p 0 0), (4, .p 1 0), (6, .v (slv ((f_postedTo b n)).length q29.1)), (7, .v (I (k : Int))), (30, .v (slv (gs).length q36.1)), (34, .v (I (el (f_postedTo b n) k))), (41, .v (pt q36.1.b (q36.1.off + (((el (f_postedTo b n) k)).toNat) * 15)))], [[slv (b.mem).length q1.mem.1, slv (gs).length q36.1, slv (b.outs).length q1.outs.1, I b.pend], Zc TBare]⟩) (by kernel_rfl) (by kernel_rfl) (.cons (Q_idx o38.rn (l := (gs).length) (k := ((el (f_postedTo b n) k)).toNat) (i := (el (f_postedTo b n) k)) rfl (by omega) (by omega) Try.underlying39 (by kernel_rfl)) .nil) (by kernel_rfl) ?_
          clear S; intro ac S
          refine S.hoist (i := 13) (path := [13]) (keep := [1, 2, 4, 6, 7, 30, 34, 42]) (m := 2) (σ' := ⟨[(1, .v (I n)), (2, .p 0 0), (4, .p 1 0), (6, .v (slv ((f_postedTo b n)).length q29.1)), (7, .v (I (k : Int))), (30, .v (slv (gs).length q36.1)), (34, .v (I (el (f_postedTo b n) k))), (42, .v (pt q36.1.b (q36.1.off + (((el (f_postedTo b n) k)).toNat) * 15 + 8)))], [[slv (b.mem).length q1.mem.1, slv (gs).length q36.1, slv (b.outs).length q1.outs.1, I b.pend], Zc TBare]⟩) (by kernel_rfl) (by kernel_rfl) .nil (by kernel_rfl) ?_
          clear S; intro ac S
          refine S.hoist (i := 14) (path := [14]) (keep := [1, 2, 4, 6, 7, 30, 34, 43]) (m := 2) (σ' := ⟨[(1, .v (I n)), (2, .p 0 0), (4, .p 1 0), (6, .v (slv ((f_postedTo b n)).length q29.1)), (7, .v (I (k : Int))), (30, .v (slv (gs).length q36.1)), (34, .v (I (el (f_postedTo b n) k))), (43, .v (I ((el gs (((el (f_postedTo b n) k)).toNat)).pend)))], [[slv (b.mem).length q1.mem.1, slv (gs).length q36.1, slv (b.outs).length q1.outs.1, I b.pend], Zc TBare]⟩) (by kernel_rfl) (by kernel_rfl) (.cons (Q_cell o38.rn (t := 3) (k := ((el (f_postedTo b n) k)).toNat) (j := 8) (v := I ((el gs (((el (f_postedTo b n) k)).toNat)).pend)) (by omega) (by kernel_rfl) (by kernel_rfl)) .nil) (by kernel_rfl) ?_
          clear S; intro ac S
          refine S.hoist (i := 15) (path := [15]) (keep := [1, 2, 4, 6, 7, 30, 34, 43, 44]) (m := 2) (σ' := ⟨[(1, .v (I n)), (2, .p 0 0), (4, .p 1 0), (6, .v (slv ((f_postedTo b n)).length q29.1)), (7, .v (I (k : Int))), (30, .v (slv (gs).length q36.1)), (34, .v (I (el (f_postedTo b n) k))), (43, .v (I ((el gs (((el (f_postedTo b n) k)).toNat)).pend))), (44, .v (I n))], [[slv (b.mem).length q1.mem.1, slv (gs).length q36.1, slv (b.outs).length q1.outs.1, I b.pend], Zc TBare]⟩) (by kernel_rfl) (by kernel_rfl) .nil (by kernel_rfl) ?_
          clear S; intro ac S
          refine WD.nameW fun W hW => ?_
          refine WD.castW (l' := mkL 23 [0, 1, 2, 3, 4, 5, 6, 7, 8, 9, 10, 11, 12, 13, 14, 15]) (by kernel_rfl) ?_
          have hK66 : ∀ (ac : Act) (w : World) (q55 : GT.Ptr (List TGuest)) (F56 : Bl) (u : World) (N : Bl) (β : Nat → Nat) (S : St Try.prog Try.f37.ntmps w0 NoB u N β ⟨[(1, .v (I n)), (2, .p 0 0), (4, .p 1 0), (6, .v (slv ((f_postedTo b n)).length q29.1)), (7, .v (I (k : Int)))], [[slv (b.mem).length q1.mem.1, slv (((gs).set (((el (f_postedTo b n) k)).toNat) ({ el gs (((el (f_postedTo b n) k)).toNat) with pend := ((f_postIrq ((el gs (((el (f_postedTo b n) k)).toNat)).pend) n).1) }))).length q55.1, slv (b.outs).length q1.outs.1, I b.pend], Zc TBare]⟩ ac w) (o6 : Ow w0 NoB u N F5 b.mem q1.mem) (o12 : Ow w0 NoB u N F11 b.outs q1.outs) (o31 : Ow w0 NoB u N F30 (f_postedTo b n) q29) (o54 : Ow w0 NoB u N F56 ((gs).set (((el (f_postedTo b n) k)).toNat) ({ el gs (((el (f_postedTo b n) k)).toNat) with pend := ((f_postIrq ((el gs (((el (f_postedTo b n) k)).toNat)).pend) n).1) })) q55) (d67 : Disj F5 F56) (d68 : Disj F11 F56) (d69 : Disj F30 F56) (i44 : In64 b.pend) (hNN : True) (hBB : True), W 0 (mkL 23 [0, 1, 2, 3, 4, 5, 6, 7, 8, 9, 10, 11, 12, 13, 14, 15, 16, 17, 18, 19, 20, 21, 22]) ac w := by
            intro ac w q55 F56 u N β S o6 o12 o31 o54 d67 d68 d69 i44 hNN hBB
            rw [hW]
            refine WD.done (by kernel_rfl) ?_ _
            replace S := S.prune (keep := [1, 2, 4, 6, 7]) (m := 2) (σ' := ⟨[(1, .v (I n)), (2, .p 0 0), (4, .p 1 0), (6, .v (slv ((f_postedTo b n)).length q29.1)), (7, .v (I (k : Int)))], [[slv (b.mem).length q1.mem.1, slv (((gs).set (((el (f_postedTo b n) k)).toNat) ({ el gs (((el (f_postedTo b n) k)).toNat) with pend := ((f_postIrq ((el gs (((el (f_postedTo b n) k)).toNat)).pend) n).1) }))).length q55.1, slv (b.outs).length q1.outs.1, I b.pend], Zc TBare]⟩) (by kernel_rfl)
            exact ⟨rfl, q55, F56, _, _, _, S.cast (by kernel_rfl), o6, o12, o31, o54, d67, d68, d69, i44⟩
          have hK70 : ∀ (ac : Act) (w : World)  (u : World) (N : Bl) (β : Nat → Nat) (S : St Try.prog Try.f37.ntmps w0 NoB u N β ⟨[(1, .v (I n)), (2, .p 0 0), (4, .p 1 0), (6, .v (slv ((f_postedTo b n)).length q29.1)), (7, .v (I (k : Int))), (46, .v (I ((f_postIrq ((el gs (((el (f_postedTo b n) k)).toNat)).pend) n).1))), (49, .v (pt q36.1.b (q36.1.off + (((el (f_postedTo b n) k)).toNat) * 15 + 8)))], [[slv (b.mem).length q1.mem.1, slv (gs).length q36.1, slv (b.outs).length q1.outs.1, I b.pend], Zc TBare]⟩ ac w) (o38 : Ow w0 NoB u N F37 gs q36) (o6 : Ow w0 NoB u N F5 b.mem q1.mem) (o12 : Ow w0 NoB u N F11 b.outs q1.outs) (o31 : Ow w0 NoB u N F30 (f_postedTo b n) q29) (i44 : In64 b.pend) (hNN : ∀ b, N0 b → N b ∧ u.heap[b]? = u0.heap[b]?) (hBB : ∀ k, k < 2 → β k = β0 k), W 1 (mkL 23 [0, 1, 2, 3, 4, 5, 6, 7, 8, 9, 10, 11, 12, 13, 14, 15, 16, 17, 18, 19, 20, 21]) ac w := by
            intro ac w  u N β S o38 o6 o12 o31 i44 hNN hBB
            rw [hW]
            refine WD.one (i := 22) (by kernel_rfl) ?_
            refine id (S.setEl (α := TGuest) o38 (t := 3) (v := I ((f_postIrq ((el gs (((el (f_postedTo b n) k)).toNat)).pend) n).1)) (k := ((el (f_postedTo b n) k)).toNat) (j := 8) (off := q36.1.off + (((el (f_postedTo b n) k)).toNat) * 15 + 8) (y := ({ el gs (((el (f_postedTo b n) k)).toNat) with pend := ((f_postIrq ((el gs (((el (f_postedTo b n) k)).toNat)).pend) n).1) } : TGuest)) (q := (q36.2 (((el (f_postedTo b n) k)).toNat))) (Fy := NoB) (by kernel_rfl) (by kernel_rfl) (by omega) (by kernel_rfl) (by kernel_rfl) (Nat.le_of_ble_eq_true (by kernel_rfl)) (by kernel_rfl) (fun G g _ => ⟨G, ows_Guest_pend g ((postIrq_in64 (RGuest.pend (d := (el gs (((el (f_postedTo b n) k)).toNat))) (LRd.el o38.rn (((el (f_postedTo b n) k)).toNat) (by omega))))), fun _ h => .inl h⟩) (fun b _ h => False.elim h) (fun b h => False.elim h) (fun b h => False.elim h) ?_)
            clear S; intro w N F72 q73 S up o71 d74 s75
            refine WD.last (by kernel_rfl) ?_
            have d76 : Disj F5 F72 := d74 _ (Disj.symm d39) (fun b _ h => False.elim h) o6.sub
            have d77 : Disj F11 F72 := d74 _ (Disj.symm d40) (fun b _ h => False.elim h) o12.sub
            have d78 : Disj F30 F72 := d74 _ (Disj.symm d41) (fun b _ h => False.elim h) o31.sub
            replace o6 := o6.upF (Disj.symm d39) up
            replace o12 := o12.upF (Disj.symm d40) up
            replace o31 := o31.upF (Disj.symm d41) up
            clear up d74 o38
            have l79 : ((gs).set (((el (f_postedTo b n) k)).toNat) ({ el gs (((el (f_postedTo b n) k)).toNat) with pend := ((f_postIrq ((el gs (((el (f_postedTo b n) k)).toNat)).pend) n).1) })).length = (gs).length := List.length_set
            replace S := S.prune (keep := [1, 2, 4, 6, 7, 46, 49]) (m := 2) (σ' := ⟨[(1, .v (I n)), (2, .p 0 0), (4, .p 1 0), (6, .v (slv ((f_postedTo b n)).length q29.1)), (7, .v (I (k : Int))), (46, .v (I ((f_postIrq ((el gs (((el (f_postedTo b n) k)).toNat)).pend) n).1))), (49, .v (pt q36.1.b (q36.1.off + (((el (f_postedTo b n) k)).toNat) * 15 + 8)))], [[slv (b.mem).length q1.mem.1, slv (gs).length q36.1, slv (b.outs).length q1.outs.1, I b.pend], Zc TBare]⟩) (by kernel_rfl)
            replace S := S.cast (σ' := ⟨[(1, .v (I n)), (2, .p 0 0), (4, .p 1 0), (6, .v (slv ((f_postedTo b n)).length q29.1)), (7, .v (I (k : Int))), (46, .v (I ((f_postIrq ((el gs (((el (f_postedTo b n) k)).toNat)).pend) n).1))), (49, .v (pt q36.1.b (q36.1.off + (((el (f_postedTo b n) k)).toNat) * 15 + 8)))], [[slv (b.mem).length q1.mem.1, slv (((gs).set (((el (f_postedTo b n) k)).toNat) ({ el gs (((el (f_postedTo b n) k)).toNat) with pend := ((f_postIrq ((el gs (((el (f_postedTo b n) k)).toNat)).pend) n).1) }))).length q36.1, slv (b.outs).length q1.outs.1, I b.pend], Zc TBare]⟩) (by rw [show (((gs).set (((el (f_postedTo b n) k)).toNat) ({ el gs (((el (f_postedTo b n) k)).toNat) with pend := ((f_postIrq ((el gs (((el (f_postedTo b n) k)).toNat)).pend) n).1) }))).length = (gs).length by omega])
            exact WD.ofW hW (by kernel_rfl) (hK66 ac w (q36.1, q73) F72 _ _ _ (S.prune (keep := [1, 2, 4, 6, 7]) (m := 2) (by kernel_rfl)) o6 o12 o31 o71 d76 d77 d78 i44 trivial trivial)
          have hK80 : ∀ (ac : Act) (w : World) (q55 : GT.Ptr (List TGuest)) (F56 : Bl) (u : World) (N : Bl) (β : Nat → Nat) (S : St Try.prog Try.f37.ntmps w0 NoB u N β ⟨[(1, .v (I n)), (2, .p 0 0), (4, .p 1 0), (6, .v (slv ((f_postedTo b n)).length q29.1)), (7, .v (I (k : Int))), (28, .v (.tuple #[I ((f_postIrq ((el gs (((el (f_postedTo b n) k)).toNat)).pend) n).1), B ((f_postIrq ((el gs (((el (f_postedTo b n) k)).toNat)).pend) n).2)]))], [[slv (b.mem).length q1.mem.1, slv (((gs).set (((el (f_postedTo b n) k)).toNat) ({ el gs (((el (f_postedTo b n) k)).toNat) with pend := ((f_postIrq ((el gs (((el (f_postedTo b n) k)).toNat)).pend) n).1) }))).length q55.1, slv (b.outs).length q1.outs.1, I b.pend], Zc TBare]⟩ ac w) (o6 : Ow w0 NoB u N F5 b.mem q1.mem) (o12 : Ow w0 NoB u N F11 b.outs q1.outs) (o31 : Ow w0 NoB u N F30 (f_postedTo b n) q29) (o54 : Ow w0 NoB u N F56 ((gs).set (((el (f_postedTo b n) k)).toNat) ({ el gs (((el (f_postedTo b n) k)).toNat) with pend := ((f_postIrq ((el gs (((el (f_postedTo b n) k)).toNat)).pend) n).1) })) q55) (d81 : Disj F5 F56) (d82 : Disj F11 F56) (d83 : Disj F30 F56) (i44 : In64 b.pend) (hNN : True) (hBB : True), W 1 (mkL 23 [0, 1, 2, 3, 4, 5, 6, 7, 8, 9, 10, 11, 12, 13, 14, 15, 16, 17, 18, 20, 21, 22]) ac w := by
            intro ac w q55 F56 u N β S o6 o12 o31 o54 d81 d82 d83 i44 hNN hBB
            rw [hW]
            refine WD.one (i := 19) (by kernel_rfl) ?_
            refine S.stepq (i := 19) (keep := [1, 2, 4, 6, 7]) (m := 2) (σ' := ⟨[(1, .v (I n)), (2, .p 0 0), (4, .p 1 0), (6, .v (slv ((f_postedTo b n)).length q29.1)), (7, .v (I (k : Int)))], [[slv (b.mem).length q1.mem.1, slv (((gs).set (((el (f_postedTo b n) k)).toNat) ({ el gs (((el (f_postedTo b n) k)).toNat) with pend := ((f_postIrq ((el gs (((el (f_postedTo b n) k)).toNat)).pend) n).1) }))).length q55.1, slv (b.outs).length q1.outs.1, I b.pend], Zc TBare]⟩) .nil (by kernel_rfl) ?_
            clear S; intro ac w β S hβ
            refine WD.last (by kernel_rfl) ?_
            clear hβ
            exact WD.ofW hW (by kernel_rfl) (hK66 ac w q55 F56 _ _ _ (S.prune (keep := [1, 2, 4, 6, 7]) (m := 2) (by kernel_rfl)) o6 o12 o31 o54 d81 d82 d83 i44 trivial trivial)
          have hK84 : ∀ (ac : Act) (w : World)  (u : World) (N : Bl) (β : Nat → Nat) (S : St Try.prog Try.f37.ntmps w0 NoB u N β ⟨[(1, .v (I n)), (2, .p 0 0), (4, .p 1 0), (6, .v (slv ((f_postedTo b n)).length q29.1)), (7, .v (I (k : Int))), (46, .v (I ((f_postIrq ((el gs (((el (f_postedTo b n) k)).toNat)).pend) n).1))), (48, .v (pt q36.1.b (q36.1.off + (((el (f_postedTo b n) k)).toNat) * 15)))], [[slv (b.mem).length q1.mem.1, slv (gs).length q36.1, slv (b.outs).length q1.outs.1, I b.pend], Zc TBare]⟩ ac w) (o38 : Ow w0 NoB u N F37 gs q36) (o6 : Ow w0 NoB u N F5 b.mem q1.mem) (o12 : Ow w0 NoB u N F11 b.outs q1.outs) (o31 : Ow w0 NoB u N F30 (f_postedTo b n) q29) (i44 : In64 b.pend) (hNN : ∀ b, N0 b → N b ∧ u.heap[b]? = u0.heap[b]?) (hBB : ∀ k, k < 2 → β k = β0 k), W 2 (mkL 23 [0, 1, 2, 3, 4, 5, 6, 7, 8, 9, 10, 11, 12, 13, 14, 15, 16, 17, 18, 19, 20]) ac w := by
            intro ac w  u N β S o38 o6 o12 o31 i44 hNN hBB
            rw [hW]
            refine WD.one (i := 21) (by kernel_rfl) ?_
            refine S.stepq (i := 21) (keep := [1, 2, 4, 6, 7, 46, 49]) (m := 2) (σ' := ⟨[(1, .v (I n)), (2, .p 0 0), (4, .p 1 0), (6, .v (slv ((f_postedTo b n)).length q29.1)), (7, .v (I (k : Int))), (46, .v (I ((f_postIrq ((el gs (((el (f_postedTo b n) k)).toNat)).pend) n).1))), (49, .v (pt q36.1.b (q36.1.off + (((el (f_postedTo b n) k)).toNat) * 15 + 8)))], [[slv (b.mem).length q1.mem.1, slv (gs).length q36.1, slv (b.outs).length q1.outs.1, I b.pend], Zc TBare]⟩) .nil (by kernel_rfl) ?_
            clear S; intro ac w β S hβ
            have hB2 := fun k (hk : k < 2) => (hβ k (Nat.lt_of_lt_of_le hk (Nat.le_of_ble_eq_true rfl))).trans (hBB k hk)
            refine WD.stayK S (fun b h => ⟨(hNN b h).1, (hNN b h).2⟩) hB2 (fun _ _ h => h) ?_
            clear hβ
            exact WD.ofW hW (by kernel_rfl) (hK70 ac w  _ _ _ (S.prune (keep := [1, 2, 4, 6, 7, 46, 49]) (m := 2) (by kernel_rfl)) o38 o6 o12 o31 i44 hNN hB2)
          have hK85 : ∀ (ac : Act) (w : World)  (u : World) (N : Bl) (β : Nat → Nat) (S : St Try.prog Try.f37.ntmps w0 NoB u N β ⟨[(1, .v (I n)), (2, .p 0 0), (4, .p 1 0), (6, .v (slv ((f_postedTo b n)).length q29.1)), (7, .v (I (k : Int))), (28, .v (.tuple #[I ((f_postIrq ((el gs (((el (f_postedTo b n) k)).toNat)).pend) n).1), B ((f_postIrq ((el gs (((el (f_postedTo b n) k)).toNat)).pend) n).2)])), (46, .v (I ((f_postIrq ((el gs (((el (f_postedTo b n) k)).toNat)).pend) n).1))), (49, .v (pt q36.1.b (q36.1.off + (((el (f_postedTo b n) k)).toNat) * 15 + 8)))], [[slv (b.mem).length q1.mem.1, slv (gs).length q36.1, slv (b.outs).length q1.outs.1, I b.pend], Zc TBare]⟩ ac w) (o38 : Ow w0 NoB u N F37 gs q36) (o6 : Ow w0 NoB u N F5 b.mem q1.mem) (o12 : Ow w0 NoB u N F11 b.outs q1.outs) (o31 : Ow w0 NoB u N F30 (f_postedTo b n) q29) (i44 : In64 b.pend) (hNN : ∀ b, N0 b → N b ∧ u.heap[b]? = u0.heap[b]?) (hBB : ∀ k, k < 2 → β k = β0 k), W 2 (mkL 23 [0, 1, 2, 3, 4, 5, 6, 7, 8, 9, 10, 11, 12, 13, 14, 15, 16, 17, 18, 20, 21]) ac w := by
            intro ac w  u N β S o38 o6 o12 o31 i44 hNN hBB
            rw [hW]
            refine WD.many (rs := [19, 22]) (by kernel_rfl) rfl (List.forall_mem_cons.2 ⟨?_, List.forall_mem_cons.2 ⟨?_, List.forall_mem_nil _⟩⟩)
            · refine S.stepq (i := 19) (keep := [1, 2, 4, 6, 7, 46, 49]) (m := 2) (σ' := ⟨[(1, .v (I n)), (2, .p 0 0), (4, .p 1 0), (6, .v (slv ((f_postedTo b n)).length q29.1)), (7, .v (I (k : Int))), (46, .v (I ((f_postIrq ((el gs (((el (f_postedTo b n) k)).toNat)).pend) n).1))), (49, .v (pt q36.1.b (q36.1.off + (((el (f_postedTo b n) k)).toNat) * 15 + 8)))], [[slv (b.mem).length q1.mem.1, slv (gs).length q36.1, slv (b.outs).length q1.outs.1, I b.pend], Zc TBare]⟩) .nil (by kernel_rfl) ?_
              clear S; intro ac w β S hβ
              have hB2 := fun k (hk : k < 2) => (hβ k (Nat.lt_of_lt_of_le hk (Nat.le_of_ble_eq_true rfl))).trans (hBB k hk)
              refine WD.stayK S (fun b h => ⟨(hNN b h).1, (hNN b h).2⟩) hB2 (fun _ _ h => h) ?_
              clear hβ
              exact WD.ofW hW (by kernel_rfl) (hK70 ac w  _ _ _ (S.prune (keep := [1, 2, 4, 6, 7, 46, 49]) (m := 2) (by kernel_rfl)) o38 o6 o12 o31 i44 hNN hB2)
            · refine id (S.setEl (α := TGuest) o38 (t := 3) (v := I ((f_postIrq ((el gs (((el (f_postedTo b n) k)).toNat)).pend) n).1)) (k := ((el (f_postedTo b n) k)).toNat) (j := 8) (off := q36.1.off + (((el (f_postedTo b n) k)).toNat) * 15 + 8) (y := ({ el gs (((el (f_postedTo b n) k)).toNat) with pend := ((f_postIrq ((el gs (((el (f_postedTo b n) k)).toNat)).pend) n).1) } : TGuest)) (q := (q36.2 (((el (f_postedTo b n) k)).toNat))) (Fy := NoB) (by kernel_rfl) (by kernel_rfl) (by omega) (by kernel_rfl) (by kernel_rfl) (Nat.le_of_ble_eq_true (by kernel_rfl)) (by kernel_rfl) (fun G g _ => ⟨G, ows_Guest_pend g ((postIrq_in64 (RGuest.pend (d := (el gs (((el (f_postedTo b n) k)).toNat))) (LRd.el o38.rn (((el (f_postedTo b n) k)).toNat) (by omega))))), fun _ h => .inl h⟩) (fun b _ h => False.elim h) (fun b h => False.elim h) (fun b h => False.elim h) ?_)
              clear S; intro w N F87 q88 S up o86 d89 s90
              refine WD.last (by kernel_rfl) ?_
              have d91 : Disj F5 F87 := d89 _ (Disj.symm d39) (fun b _ h => False.elim h) o6.sub
              have d92 : Disj F11 F87 := d89 _ (Disj.symm d40) (fun b _ h => False.elim h) o12.sub
              have d93 : Disj F30 F87 := d89 _ (Disj.symm d41) (fun b _ h => False.elim h) o31.sub
              replace o6 := o6.upF (Disj.symm d39) up
              replace o12 := o12.upF (Disj.symm d40) up
              replace o31 := o31.upF (Disj.symm d41) up
              clear up d89 o38
              have l94 : ((gs).set (((el (f_postedTo b n) k)).toNat) ({ el gs (((el (f_postedTo b n) k)).toNat) with pend := ((f_postIrq ((el gs (((el (f_postedTo b n) k)).toNat)).pend) n).1) })).length = (gs).length := List.length_set
              replace S := S.prune (keep := [1, 2, 4, 6, 7, 28, 46, 49]) (m := 2) (σ' := ⟨[(1, .v (I n)), (2, .p 0 0), (4, .p 1 0), (6, .v (slv ((f_postedTo b n)).length q29.1)), (7, .v (I (k : Int))), (28, .v (.tuple #[I ((f_postIrq ((el gs (((el (f_postedTo b n) k)).toNat)).pend) n).1), B ((f_postIrq ((el gs (((el (f_postedTo b n) k)).toNat)).pend) n).2)])), (46, .v (I ((f_postIrq ((el gs (((el (f_postedTo b n) k)).toNat)).pend) n).1))), (49, .v (pt q36.1.b (q36.1.off + (((el (f_postedTo b n) k)).toNat) * 15 + 8)))], [[slv (b.mem).length q1.mem.1, slv (gs).length q36.1, slv (b.outs).length q1.outs.1, I b.pend], Zc TBare]⟩) (by kernel_rfl)
              replace S := S.cast (σ' := ⟨[(1, .v (I n)), (2, .p 0 0), (4, .p 1 0), (6, .v (slv ((f_postedTo b n)).length q29.1)), (7, .v (I (k : Int))), (28, .v (.tuple #[I ((f_postIrq ((el gs (((el (f_postedTo b n) k)).toNat)).pend) n).1), B ((f_postIrq ((el gs (((el (f_postedTo b n) k)).toNat)).pend) n).2)])), (46, .v (I ((f_postIrq ((el gs (((el (f_postedTo b n) k)).toNat)).pend) n).1))), (49, .v (pt q36.1.b (q36.1.off + (((el (f_postedTo b n) k)).toNat) * 15 + 8)))], [[slv (b.mem).length q1.mem.1, slv (((gs).set (((el (f_postedTo b n) k)).toNat) ({ el gs (((el (f_postedTo b n) k)).toNat) with pend := ((f_postIrq ((el gs (((el (f_postedTo b n) k)).toNat)).pend) n).1) }))).length q36.1, slv (b.outs).length q1.outs.1, I b.pend], Zc TBare]⟩) (by rw [show (((gs).set (((el (f_postedTo b n) k)).toNat) ({ el gs (((el (f_postedTo b n) k)).toNat) with pend := ((f_postIrq ((el gs (((el (f_postedTo b n) k)).toNat)).pend) n).1) }))).length = (gs).length by omega])
              exact WD.ofW hW (by kernel_rfl) (hK80 ac w (q36.1, q88) F87 _ _ _ (S.prune (keep := [1, 2, 4, 6, 7, 28]) (m := 2) (by kernel_rfl)) o6 o12 o31 o86 d91 d92 d93 i44 trivial trivial)
          have hK95 : ∀ (ac : Act) (w : World)  (u : World) (N : Bl) (β : Nat → Nat) (S : St Try.prog Try.f37.ntmps w0 NoB u N β ⟨[(1, .v (I n)), (2, .p 0 0), (4, .p 1 0), (6, .v (slv ((f_postedTo b n)).length q29.1)), (7, .v (I (k : Int))), (30, .v (slv (gs).length q36.1)), (34, .v (I (el (f_postedTo b n) k))), (46, .v (I ((f_postIrq ((el gs (((el (f_postedTo b n) k)).toNat)).pend) n).1)))], [[slv (b.mem).length q1.mem.1, slv (gs).length q36.1, slv (b.outs).length q1.outs.1, I b.pend], Zc TBare]⟩ ac w) (o38 : Ow w0 NoB u N F37 gs q36) (o6 : Ow w0 NoB u N F5 b.mem q1.mem) (o12 : Ow w0 NoB u N F11 b.outs q1.outs) (o31 : Ow w0 NoB u N F30 (f_postedTo b n) q29) (i44 : In64 b.pend) (hNN : ∀ b, N0 b → N b ∧ u.heap[b]? = u0.heap[b]?) (hBB : ∀ k, k < 2 → β k = β0 k), W 3 (mkL 23 [0, 1, 2, 3, 4, 5, 6, 7, 8, 9, 10, 11, 12, 13, 14, 15, 16, 17, 18, 19]) ac w := by
            intro ac w  u N β S o38 o6 o12 o31 i44 hNN hBB
            rw [hW]
            refine WD.one (i := 20) (by kernel_rfl) ?_
            refine S.stepq (i := 20) (keep := [1, 2, 4, 6, 7, 46, 48]) (m := 2) (σ' := ⟨[(1, .v (I n)), (2, .p 0 0), (4, .p 1 0), (6, .v (slv ((f_postedTo b n)).length q29.1)), (7, .v (I (k : Int))), (46, .v (I ((f_postIrq ((el gs (((el (f_postedTo b n) k)).toNat)).pend) n).1))), (48, .v (pt q36.1.b (q36.1.off + (((el (f_postedTo b n) k)).toNat) * 15)))], [[slv (b.mem).length q1.mem.1, slv (gs).length q36.1, slv (b.outs).length q1.outs.1, I b.pend], Zc TBare]⟩) (.cons (Q_idx o38.rn (l := (gs).length) (k := ((el (f_postedTo b n) k)).toNat) (i := (el (f_postedTo b n) k)) rfl (by omega) (by omega) Try.underlying39 (by kernel_rfl)) .nil) (by kernel_rfl) ?_
            clear S; intro ac w β S hβ
            have hB2 := fun k (hk : k < 2) => (hβ k (Nat.lt_of_lt_of_le hk (Nat.le_of_ble_eq_true rfl))).trans (hBB k hk)
            refine WD.stayK S (fun b h => ⟨(hNN b h).1, (hNN b h).2⟩) hB2 (fun _ _ h => h) ?_
            clear hβ
            exact WD.ofW hW (by kernel_rfl) (hK84 ac w  _ _ _ (S.prune (keep := [1, 2, 4, 6, 7, 46, 48]) (m := 2) (by kernel_rfl)) o38 o6 o12 o31 i44 hNN hB2)
          have hK96 : ∀ (ac : Act) (w : World)  (u : World) (N : Bl) (β : Nat → Nat) (S : St Try.prog Try.f37.ntmps w0 NoB u N β ⟨[(1, .v (I n)), (2, .p 0 0), (4, .p 1 0), (6, .v (slv ((f_postedTo b n)).length q29.1)), (7, .v (I (k : Int))), (28, .v (.tuple #[I ((f_postIrq ((el gs (((el (f_postedTo b n) k)).toNat)).pend) n).1), B ((f_postIrq ((el gs (((el (f_postedTo b n) k)).toNat)).pend) n).2)])), (46, .v (I ((f_postIrq ((el gs (((el (f_postedTo b n) k)).toNat)).pend) n).1))), (48, .v (pt q36.1.b (q36.1.off + (((el (f_postedTo b n) k)).toNat) * 15)))], [[slv (b.mem).length q1.mem.1, slv (gs).length q36.1, slv (b.outs).length q1.outs.1, I b.pend], Zc TBare]⟩ ac w) (o38 : Ow w0 NoB u N F37 gs q36) (o6 : Ow w0 NoB u N F5 b.mem q1.mem) (o12 : Ow w0 NoB u N F11 b.outs q1.outs) (o31 : Ow w0 NoB u N F30 (f_postedTo b n) q29) (i44 : In64 b.pend) (hNN : ∀ b, N0 b → N b ∧ u.heap[b]? = u0.heap[b]?) (hBB : ∀ k, k < 2 → β k = β0 k), W 3 (mkL 23 [0, 1, 2, 3, 4, 5, 6, 7, 8, 9, 10, 11, 12, 13, 14, 15, 16, 17, 18, 20]) ac w := by
            intro ac w  u N β S o38 o6 o12 o31 i44 hNN hBB
            rw [hW]
            refine WD.many (rs := [19, 21]) (by kernel_rfl) rfl (List.forall_mem_cons.2 ⟨?_, List.forall_mem_cons.2 ⟨?_, List.forall_mem_nil _⟩⟩)
            · refine S.stepq (i := 19) (keep := [1, 2, 4, 6, 7, 46, 48]) (m := 2) (σ' := ⟨[(1, .v (I n)), (2, .p 0 0), (4, .p 1 0), (6, .v (slv ((f_postedTo b n)).length q29.1)), (7, .v (I (k : Int))), (46, .v (I ((f_postIrq ((el gs (((el (f_postedTo b n) k)).toNat)).pend) n).1))), (48, .v (pt q36.1.b (q36.1.off + (((el (f_postedTo b n) k)).toNat) * 15)))], [[slv (b.mem).length q1.mem.1, slv (gs).length q36.1, slv (b.outs).length q1.outs.1, I b.pend], Zc TBare]⟩) .nil (by kernel_rfl) ?_
              clear S; intro ac w β S hβ
              have hB2 := fun k (hk : k < 2) => (hβ k (Nat.lt_of_lt_of_le hk (Nat.le_of_ble_eq_true rfl))).trans (hBB k hk)
              refine WD.stayK S (fun b h => ⟨(hNN b h).1, (hNN b h).2⟩) hB2 (fun _ _ h => h) ?_
              clear hβ
              exact WD.ofW hW (by kernel_rfl) (hK84 ac w  _ _ _ (S.prune (keep := [1, 2, 4, 6, 7, 46, 48]) (m := 2) (by kernel_rfl)) o38 o6 o12 o31 i44 hNN hB2)
            · refine S.stepq (i := 21) (keep := [1, 2, 4, 6, 7, 28, 46, 49]) (m := 2) (σ' := ⟨[(1, .v (I n)), (2, .p 0 0), (4, .p 1 0), (6, .v (slv ((f_postedTo b n)).length q29.1)), (7, .v (I (k : Int))), (28, .v (.tuple #[I ((f_postIrq ((el gs (((el (f_postedTo b n) k)).toNat)).pend) n).1), B ((f_postIrq ((el gs (((el (f_postedTo b n) k)).toNat)).pend) n).2)])), (46, .v (I ((f_postIrq ((el gs (((el (f_postedTo b n) k)).toNat)).pend) n).1))), (49, .v (pt q36.1.b (q36.1.off + (((el (f_postedTo b n) k)).toNat) * 15 + 8)))], [[slv (b.mem).length q1.mem.1, slv (gs).length q36.1, slv (b.outs).length q1.outs.1, I b.pend], Zc TBare]⟩) .nil (by kernel_rfl) ?_
              clear S; intro ac w β S hβ
              have hB2 := fun k (hk : k < 2) => (hβ k (Nat.lt_of_lt_of_le hk (Nat.le_of_ble_eq_true rfl))).trans (hBB k hk)
              refine WD.stayK S (fun b h => ⟨(hNN b h).1, (hNN b h).2⟩) hB2 (fun _ _ h => h) ?_
              clear hβ
              exact WD.ofW hW (by kernel_rfl) (hK85 ac w  _ _ _ (S.prune (keep := [1, 2, 4, 6, 7, 28, 46, 49]) (m := 2) (by kernel_rfl)) o38 o6 o12 o31 i44 hNN hB2)
          have hK97 : ∀ (ac : Act) (w : World)  (u : World) (N : Bl) (β : Nat → Nat) (S : St Try.prog Try.f37.ntmps w0 NoB u N β ⟨[(1, .v (I n)), (2, .p 0 0), (4, .p 1 0), (6, .v (slv ((f_postedTo b n)).length q29.1)), (7, .v (I (k : Int))), (28, .v (.tuple #[I ((f_postIrq ((el gs (((el (f_postedTo b n) k)).toNat)).pend) n).1), B ((f_postIrq ((el gs (((el (f_postedTo b n) k)).toNat)).pend) n).2)])), (30, .v (slv (gs).length q36.1)), (34, .v (I (el (f_postedTo b n) k))), (46, .v (I ((f_postIrq ((el gs (((el (f_postedTo b n) k)).toNat)).pend) n).1)))], [[slv (b.mem).length q1.mem.1, slv (gs).length q36.1, slv (b.outs).length q1.outs.1, I b.pend], Zc TBare]⟩ ac w) (o38 : Ow w0 NoB u N F37 gs q36) (o6 : Ow w0 NoB u N F5 b.mem q1.mem) (o12 : Ow w0 NoB u N F11 b.outs q1.outs) (o31 : Ow w0 NoB u N F30 (f_postedTo b n) q29) (i44 : In64 b.pend) (hNN : ∀ b, N0 b → N b ∧ u.heap[b]? = u0.heap[b]?) (hBB : ∀ k, k < 2 → β k = β0 k), W 4 (mkL 23 [0, 1, 2, 3, 4, 5, 6, 7, 8, 9, 10, 11, 12, 13, 14, 15, 16, 17, 18]) ac w := by
            intro ac w  u N β S o38 o6 o12 o31 i44 hNN hBB
            rw [hW]
            refine WD.many (rs := [19, 20]) (by kernel_rfl) rfl (List.forall_mem_cons.2 ⟨?_, List.forall_mem_cons.2 ⟨?_, List.forall_mem_nil _⟩⟩)
            · refine S.stepq (i := 19) (keep := [1, 2, 4, 6, 7, 30, 34, 46]) (m := 2) (σ' := ⟨[(1, .v (I n)), (2, .p 0 0), (4, .p 1 0), (6, .v (slv ((f_postedTo b n)).length q29.1)), (7, .v (I (k : Int))), (30, .v (slv (gs).length q36.1)), (34, .v (I (el (f_postedTo b n) k))), (46, .v (I ((f_postIrq ((el gs (((el (f_postedTo b n) k)).toNat)).pend) n).1)))], [[slv (b.mem).length q1.mem.1, slv (gs).length q36.1, slv (b.outs).length q1.outs.1, I b.pend], Zc TBare]⟩) .nil (by kernel_rfl) ?_
              clear S; intro ac w β S hβ
              have hB2 := fun k (hk : k < 2) => (hβ k (Nat.lt_of_lt_of_le hk (Nat.le_of_ble_eq_true rfl))).trans (hBB k hk)
              refine WD.stayK S (fun b h => ⟨(hNN b h).1, (hNN b h).2⟩) hB2 (fun _ _ h => h) ?_
              clear hβ
              exact WD.ofW hW (by kernel_rfl) (hK95 ac w  _ _ _ (S.prune (keep := [1, 2, 4, 6, 7, 30, 34, 46]) (m := 2) (by kernel_rfl)) o38 o6 o12 o31 i44 hNN hB2)
            · refine S.stepq (i := 20) (keep := [1, 2, 4, 6, 7, 28, 46, 48]) (m := 2) (σ' := ⟨[(1, .v (I n)), (2, .p 0 0), (4, .p 1 0), (6, .v (slv ((f_postedTo b n)).length q29.1)), (7, .v (I (k : Int))), (28, .v (.tuple #[I ((f_postIrq ((el gs (((el (f_postedTo b n) k)).toNat)).pend) n).1), B ((f_postIrq ((el gs (((el (f_postedTo b n) k)).toNat)).pend) n).2)])), (46, .v (I ((f_postIrq ((el gs (((el (f_postedTo b n) k)).toNat)).pend) n).1))), (48, .v (pt q36.1.b (q36.1.off + (((el (f_postedTo b n) k)).toNat) * 15)))], [[slv (b.mem).length q1.mem.1, slv (gs).length q36.1, slv (b.outs).length q1.outs.1, I b.pend], Zc TBare]⟩) (.cons (Q_idx o38.rn (l := (gs).length) (k := ((el (f_postedTo b n) k)).toNat) (i := (el (f_postedTo b n) k)) rfl (by omega) (by omega) Try.underlying39 (by kernel_rfl)) .nil) (by kernel_rfl) ?_
              clear S; intro ac w β S hβ
              have hB2 := fun k (hk : k < 2) => (hβ k (Nat.lt_of_lt_of_le hk (Nat.le_of_ble_eq_true rfl))).trans (hBB k hk)
              refine WD.stayK S (fun b h => ⟨(hNN b h).1, (hNN b h).2⟩) hB2 (fun _ _ h => h) ?_
              clear hβ
              exact WD.ofW hW (by kernel_rfl) (hK96 ac w  _ _ _ (S.prune (keep := [1, 2, 4, 6, 7, 28, 46, 48]) (m := 2) (by kernel_rfl)) o38 o6 o12 o31 i44 hNN hB2)
          have hK98 : ∀ (ac : Act) (w : World)  (u : World) (N : Bl) (β : Nat → Nat) (S : St Try.prog Try.f37.ntmps w0 NoB u N β ⟨[(1, .v (I n)), (2, .p 0 0), (4, .p 1 0), (6, .v (slv ((f_postedTo b n)).length q29.1)), (7, .v (I (k : Int))), (28, .v (.tuple #[I ((f_postIrq ((el gs (((el (f_postedTo b n) k)).toNat)).pend) n).1), B ((f_postIrq ((el gs (((el (f_postedTo b n) k)).toNat)).pend) n).2)])), (30, .v (slv (gs).length q36.1)), (34, .v (I (el (f_postedTo b n) k)))], [[slv (b.mem).length q1.mem.1, slv (gs).length q36.1, slv (b.outs).length q1.outs.1, I b.pend], Zc TBare]⟩ ac w) (o38 : Ow w0 NoB u N F37 gs q36) (o6 : Ow w0 NoB u N F5 b.mem q1.mem) (o12 : Ow w0 NoB u N F11 b.outs q1.outs) (o31 : Ow w0 NoB u N F30 (f_postedTo b n) q29) (i44 : In64 b.pend) (hNN : ∀ b, N0 b → N b ∧ u.heap[b]? = u0.heap[b]?) (hBB : ∀ k, k < 2 → β k = β0 k), W 4 (mkL 23 [0, 1, 2, 3, 4, 5, 6, 7, 8, 9, 10, 11, 12, 13, 14, 15, 16, 17, 19]) ac w := by
            intro ac w  u N β S o38 o6 o12 o31 i44 hNN hBB
            rw [hW]
            refine WD.one (i := 18) (by kernel_rfl) ?_
            refine S.stepq (i := 18) (keep := [1, 2, 4, 6, 7, 30, 34, 46]) (m := 2) (σ' := ⟨[(1, .v (I n)), (2, .p 0 0), (4, .p 1 0), (6, .v (slv ((f_postedTo b n)).length q29.1)), (7, .v (I (k : Int))), (30, .v (slv (gs).length q36.1)), (34, .v (I (el (f_postedTo b n) k))), (46, .v (I ((f_postIrq ((el gs (((el (f_postedTo b n) k)).toNat)).pend) n).1)))], [[slv (b.mem).length q1.mem.1, slv (gs).length q36.1, slv (b.outs).length q1.outs.1, I b.pend], Zc TBare]⟩) .nil (by kernel_rfl) ?_
            clear S; intro ac w β S hβ
            have hB2 := fun k (hk : k < 2) => (hβ k (Nat.lt_of_lt_of_le hk (Nat.le_of_ble_eq_true rfl))).trans (hBB k hk)
            refine WD.stayK S (fun b h => ⟨(hNN b h).1, (hNN b h).2⟩) hB2 (fun _ _ h => h) ?_
            clear hβ
            exact WD.ofW hW (by kernel_rfl) (hK95 ac w  _ _ _ (S.prune (keep := [1, 2, 4, 6, 7, 30, 34, 46]) (m := 2) (by kernel_rfl)) o38 o6 o12 o31 i44 hNN hB2)
          have hK99 : ∀ (ac : Act) (w : World)  (u : World) (N : Bl) (β : Nat → Nat) (S : St Try.prog Try.f37.ntmps w0 NoB u N β ⟨[(1, .v (I n)), (2, .p 0 0), (4, .p 1 0), (6, .v (slv ((f_postedTo b n)).length q29.1)), (7, .v (I (k : Int))), (28, .v (.tuple #[I ((f_postIrq ((el gs (((el (f_postedTo b n) k)).toNat)).pend) n).1), B ((f_postIrq ((el gs (((el (f_postedTo b n) k)).toNat)).pend) n).2)])), (30, .v (slv (gs).length q36.1)), (34, .v (I (el (f_postedTo b n) k)))], [[slv (b.mem).length q1.mem.1, slv (gs).length q36.1, slv (b.outs).length q1.outs.1, I b.pend], Zc TBare]⟩ ac w) (o38 : Ow w0 NoB u N F37 gs q36) (o6 : Ow w0 NoB u N F5 b.mem q1.mem) (o12 : Ow w0 NoB u N F11 b.outs q1.outs) (o31 : Ow w0 NoB u N F30 (f_postedTo b n) q29) (i44 : In64 b.pend) (hNN : ∀ b, N0 b → N b ∧ u.heap[b]? = u0.heap[b]?) (hBB : ∀ k, k < 2 → β k = β0 k), W 5 (mkL 23 [0, 1, 2, 3, 4, 5, 6, 7, 8, 9, 10, 11, 12, 13, 14, 15, 16, 17]) ac w := by
            intro ac w  u N β S o38 o6 o12 o31 i44 hNN hBB
            rw [hW]
            refine WD.many (rs := [18, 19]) (by kernel_rfl) rfl (List.forall_mem_cons.2 ⟨?_, List.forall_mem_cons.2 ⟨?_, List.forall_mem_nil _⟩⟩)
            · refine S.stepq (i := 18) (keep := [1, 2, 4, 6, 7, 28, 30, 34, 46]) (m := 2) (σ' := ⟨[(1, .v (I n)), (2, .p 0 0), (4, .p 1 0), (6, .v (slv ((f_postedTo b n)).length q29.1)), (7, .v (I (k : Int))), (28, .v (.tuple #[I ((f_postIrq ((el gs (((el (f_postedTo b n) k)).toNat)).pend) n).1), B ((f_postIrq ((el gs (((el (f_postedTo b n) k)).toNat)).pend) n).2)])), (30, .v (slv (gs).length q36.1)), (34, .v (I (el (f_postedTo b n) k))), (46, .v (I ((f_postIrq ((el gs (((el (f_postedTo b n) k)).toNat)).pend) n).1)))], [[slv (b.mem).length q1.mem.1, slv (gs).length q36.1, slv (b.outs).length q1.outs.1, I b.pend], Zc TBare]⟩) .nil (by kernel_rfl) ?_
              clear S; intro ac w β S hβ
              have hB2 := fun k (hk : k < 2) => (hβ k (Nat.lt_of_lt_of_le hk (Nat.le_of_ble_eq_true rfl))).trans (hBB k hk)
              refine WD.stayK S (fun b h => ⟨(hNN b h).1, (hNN b h).2⟩) hB2 (fun _ _ h => h) ?_
              clear hβ
              exact WD.ofW hW (by kernel_rfl) (hK97 ac w  _ _ _ (S.prune (keep := [1, 2, 4, 6, 7, 28, 30, 34, 46]) (m := 2) (by kernel_rfl)) o38 o6 o12 o31 i44 hNN hB2)
            · refine S.stepq (i := 19) (keep := [1, 2, 4, 6, 7, 28, 30, 34]) (m := 2) (σ' := ⟨[(1, .v (I n)), (2, .p 0 0), (4, .p 1 0), (6, .v (slv ((f_postedTo b n)).length q29.1)), (7, .v (I (k : Int))), (28, .v (.tuple #[I ((f_postIrq ((el gs (((el (f_postedTo b n) k)).toNat)).pend) n).1), B ((f_postIrq ((el gs (((el (f_postedTo b n) k)).toNat)).pend) n).2)])), (30, .v (slv (gs).length q36.1)), (34, .v (I (el (f_postedTo b n) k)))], [[slv (b.mem).length q1.mem.1, slv (gs).length q36.1, slv (b.outs).length q1.outs.1, I b.pend], Zc TBare]⟩) .nil (by kernel_rfl) ?_
              clear S; intro ac w β S hβ
              have hB2 := fun k (hk : k < 2) => (hβ k (Nat.lt_of_lt_of_le hk (Nat.le_of_ble_eq_true rfl))).trans (hBB k hk)
              refine WD.stayK S (fun b h => ⟨(hNN b h).1, (hNN b h).2⟩) hB2 (fun _ _ h => h) ?_
              clear hβ
              exact WD.ofW hW (by kernel_rfl) (hK98 ac w  _ _ _ (S.prune (keep := [1, 2, 4, 6, 7, 28, 30, 34]) (m := 2) (by kernel_rfl)) o38 o6 o12 o31 i44 hNN hB2)
          have hK100 : ∀ (ac : Act) (w : World)  (u : World) (N : Bl) (β : Nat → Nat) (S : St Try.prog Try.f37.ntmps w0 NoB u N β ⟨[(1, .v (I n)), (2, .p 0 0), (4, .p 1 0), (6, .v (slv ((f_postedTo b n)).length q29.1)), (7, .v (I (k : Int))), (30, .v (slv (gs).length q36.1)), (34, .v (I (el (f_postedTo b n) k))), (45, .v (.tuple #[I ((f_postIrq ((el gs (((el (f_postedTo b n) k)).toNat)).pend) n).1), B ((f_postIrq ((el gs (((el (f_postedTo b n) k)).toNat)).pend) n).2)]))], [[slv (b.mem).length q1.mem.1, slv (gs).length q36.1, slv (b.outs).length q1.outs.1, I b.pend], Zc TBare]⟩ ac w) (o38 : Ow w0 NoB u N F37 gs q36) (o6 : Ow w0 NoB u N F5 b.mem q1.mem) (o12 : Ow w0 NoB u N F11 b.outs q1.outs) (o31 : Ow w0 NoB u N F30 (f_postedTo b n) q29) (i44 : In64 b.pend) (hNN : ∀ b, N0 b → N b ∧ u.heap[b]? = u0.heap[b]?) (hBB : ∀ k, k < 2 → β k = β0 k), W 6 (mkL 23 [0, 1, 2, 3, 4, 5, 6, 7, 8, 9, 10, 11, 12, 13, 14, 15, 16]) ac w := by
            intro ac w  u N β S o38 o6 o12 o31 i44 hNN hBB
            rw [hW]
            refine WD.one (i := 17) (by kernel_rfl) ?_
            refine S.stepq (i := 17) (keep := [1, 2, 4, 6, 7, 28, 30, 34]) (m := 2) (σ' := ⟨[(1, .v (I n)), (2, .p 0 0), (4, .p 1 0), (6, .v (slv ((f_postedTo b n)).length q29.1)), (7, .v (I (k : Int))), (28, .v (.tuple #[I ((f_postIrq ((el gs (((el (f_postedTo b n) k)).toNat)).pend) n).1), B ((f_postIrq ((el gs (((el (f_postedTo b n) k)).toNat)).pend) n).2)])), (30, .v (slv (gs).length q36.1)), (34, .v (I (el (f_postedTo b n) k)))], [[slv (b.mem).length q1.mem.1, slv (gs).length q36.1, slv (b.outs).length q1.outs.1, I b.pend], Zc TBare]⟩) .nil (by kernel_rfl) ?_
            clear S; intro ac w β S hβ
            have hB2 := fun k (hk : k < 2) => (hβ k (Nat.lt_of_lt_of_le hk (Nat.le_of_ble_eq_true rfl))).trans (hBB k hk)
            refine WD.stayK S (fun b h => ⟨(hNN b h).1, (hNN b h).2⟩) hB2 (fun _ _ h => h) ?_
            clear hβ
            exact WD.ofW hW (by kernel_rfl) (hK99 ac w  _ _ _ (S.prune (keep := [1, 2, 4, 6, 7, 28, 30, 34]) (m := 2) (by kernel_rfl)) o38 o6 o12 o31 i44 hNN hB2)
          have hNN : ∀ b, N0 b → N0 b ∧ u0.heap[b]? = u0.heap[b]? := fun b h => ⟨h, rfl⟩
          have hBB : ∀ k, k < 2 → β0 k = β0 k := fun _ _ => rfl
          rw [hW]
          refine WD.one (i := 16) (by kernel_rfl) ?_
          refine S.stepq (i := 16) (keep := [1, 2, 4, 6, 7, 30, 34, 45]) (m := 2) (σ' := ⟨[(1, .v (I n)), (2, .p 0 0), (4, .p 1 0), (6, .v (slv ((f_postedTo b n)).length q29.1)), (7, .v (I (k : Int))), (30, .v (slv (gs).length q36.1)), (34, .v (I (el (f_postedTo b n) k))), (45, .v (.tuple #[I ((f_postIrq ((el gs (((el (f_postedTo b n) k)).toNat)).pend) n).1), B ((f_postIrq ((el gs (((el (f_postedTo b n) k)).toNat)).pend) n).2)]))], [[slv (b.mem).length q1.mem.1, slv (gs).length q36.1, slv (b.outs).length q1.outs.1, I b.pend], Zc TBare]⟩) (.cons (Q_call fun w hw => c_spec_PostIrq w ((el gs (((el (f_postedTo b n) k)).toNat)).pend) (RGuest.pend (d := (el gs (((el (f_postedTo b n) k)).toNat))) (LRd.el o38.rn (((el (f_postedTo b n) k)).toNat) (by omega))) n) .nil) (by kernel_rfl) ?_
          clear S; intro ac w β S hβ
          have hB2 := fun k (hk : k < 2) => (hβ k (Nat.lt_of_lt_of_le hk (Nat.le_of_ble_eq_true rfl))).trans (hBB k hk)
          refine WD.stayK S (fun b h => ⟨(hNN b h).1, (hNN b h).2⟩) hB2 (fun _ _ h => h) ?_
          clear hβ
          exact WD.ofW hW (by kernel_rfl) (hK100 ac w  _ _ _ (S.prune (keep := [1, 2, 4, 6, 7, 30, 34, 45]) (m := 2) (by kernel_rfl)) o38 o6 o12 o31 i14 hNN hB2)
        clear S o38 o6 o12 o31
        rintro ac w ⟨q55, F56, u, N, β, S, o6, o12, o31, o54, d101, d102, d103, i44⟩
        refine id (nx_block (nx_then (RG.start ?_)))
        refine S.quiet (k := 3) (keep := [1, 2, 4, 6, 7]) (m := 2) (σ' := ⟨[(1, .v (I n)), (2, .p 0 0), (4, .p 1 0), (6, .v (slv ((f_postedTo b n)).length q29.1)), (7, .v (I ((k : Int) + 1)))], [[slv (b.mem).length q1.mem.1, slv (((gs).set (((el (f_postedTo b n) k)).toNat) ({ el gs (((el (f_postedTo b n) k)).toNat) with pend := ((f_postIrq ((el gs (((el (f_postedTo b n) k)).toNat)).pend) n).1) }))).length q55.1, slv (b.outs).length q1.outs.1, I b.pend], Zc TBare]⟩) (.cons (Q_add (x := (k : Int)) (y := 1) ⟨by omega, by omega⟩) .nil) (by kernel_rfl) ?_
        clear S; intro ac w β S
        refine RG.done rfl (nx_then ?_)
        replace S := S.prune (keep := [1, 2, 4, 6, 7]) (m := 2) (σ' := ⟨[(1, .v (I n)), (2, .p 0 0), (4, .p 1 0), (6, .v (slv ((f_postedTo b n)).length q29.1)), (7, .v (I ((k : Int) + 1)))], [[slv (b.mem).length q1.mem.1, slv (((gs).set (((el (f_postedTo b n) k)).toNat) ({ el gs (((el (f_postedTo b n) k)).toNat) with pend := ((f_postIrq ((el gs (((el (f_postedTo b n) k)).toNat)).pend) n).1) }))).length q55.1, slv (b.outs).length q1.outs.1, I b.pend], Zc TBare]⟩) (by kernel_rfl)
        refine ⟨(f_postedTo b n).length - (k + 1), by omega, k + 1, ((gs).set (((el (f_postedTo b n) k)).toNat) ({ el gs (((el (f_postedTo b n) k)).toNat) with pend := ((f_postIrq ((el gs (((el (f_postedTo b n) k)).toNat)).pend) n).1) })), q55, F56, _, _, _, rfl, ?_, ?_, ?_, S.cast (by kernel_rfl), o54, o6, o12, o31, (Disj.symm d101), (Disj.symm d102), (Disj.symm d103)⟩
        · clear S; first | omega | (simp [*]; done) | (simp [*]; omega)
        · clear S; (rw [fold_step (by omega), ← hg]; rfl)
        · clear S; (first | omega | (simp; omega))
      · have g104 : ¬ ((k : Int) < (((f_postedTo b n)).length : Int)) := of_decide_eq_false h42
        refine wp_exit (ex_then (ex_then (ex_hit (nx_then (wp_seq (wp_seq (RG.start ?_)))))))
        refine S.quiet (k := 3) (keep := [1, 2, 4, 52]) (m := 2) (σ' := ⟨[(1, .v (I n)), (2, .p 0 0), (4, .p 1 0), (52, .v (B ((((f_postedTo b n)).length : Int) == 0)))], [[slv (b.mem).length q1.mem.1, slv (gs).length q36.1, slv (b.outs).length q1.outs.1, I b.pend], Zc TBare]⟩) .nil (by kernel_rfl) ?_
        clear S; intro ac w β S
        refine RG.done rfl (nx_then ?_)
        refine S.cond (e := ((((f_postedTo b n)).length : Int) == 0)) (by kernel_rfl) (fun h105 => ?_) (fun h105 => ?_)
        · have g106 : (((f_postedTo b n)).length : Int) = 0 := eq_of_beq h105
          refine RG.start ?_
          refine S.quiet (k := 9) (keep := [2, 4]) (m := 2) (σ' := ⟨[(2, .p 0 0), (4, .p 1 0)], [[slv (b.mem).length q1.mem.1, slv (gs).length q36.1, slv (b.outs).length q1.outs.1, I ((f_postIrq b.pend n).1)], Zc TBare]⟩) (.cons (Q_call fun w hw => c_spec_PostIrq w b.pend i14 n) .nil) (by kernel_rfl) ?_
          clear S; intro ac w β S
          refine RG.done rfl (nx_then (wp_seq (RG.start ?_)))
          refine S.quiet (k := 3) (keep := [4, 5]) (m := 2) (σ' := ⟨[(4, .p 1 0), (5, .v (B true))], [[slv (b.mem).length q1.mem.1, slv (gs).length q36.1, slv (b.outs).length q1.outs.1, I ((f_postIrq b.pend n).1)], [slv (b.mem).length q1.mem.1, slv (gs).length q36.1, slv (b.outs).length q1.outs.1, I ((f_postIrq b.pend n).1)]]⟩) .nil (by kernel_rfl) ?_
          clear S; intro ac w β S
          refine RG.done rfl (nx_then (wp_ret ?_))
          refine S.ret (vs := [GT.val (⟨b.mem, gs, b.outs, ((f_postIrq b.pend n).1)⟩ : TBare) (⟨q1.mem, q36, q1.outs⟩ : PBare), B true]) (by kernel_rfl) ?_
          have o107 := ow_Bare (x := (⟨b.mem, gs, b.outs, ((f_postIrq b.pend n).1)⟩ : TBare)) (p := (⟨q1.mem, q36, q1.outs⟩ : PBare)) o6 o38 o12 (Disj.symm d39) d16 d40 (postIrq_in64 i14)
          exact ret2_of (p' := ()) S (show (f_barePost b n).1 = (⟨b.mem, gs, b.outs, ((f_postIrq b.pend n).1)⟩ : TBare) by clear S; (first | (unfold f_barePost; rw [if_neg (by simp_all)]; done) | (unfold f_barePost; rw [if_pos ⟨by assumption, by omega, by omega⟩]; done) | (unfold f_barePost; rw [if_pos ⟨by assumption, by omega, by omega⟩, show (f_postedTo b n).foldl (stepPost n) b.guests = gs by rw [hg, take_all (by omega)], if_pos (by omega)]; done) | (unfold f_barePost; rw [if_pos ⟨by assumption, by omega, by omega⟩, show (f_postedTo b n).foldl (stepPost n) b.guests = gs by rw [hg, take_all (by omega)], if_neg (by omega)]; done))) (show (f_barePost b n).2 = true by clear S; (first | (unfold f_barePost; rw [if_neg (by simp_all)]; done) | (unfold f_barePost; rw [if_pos ⟨by assumption, by omega, by omega⟩]; done) | (unfold f_barePost; rw [if_pos ⟨by assumption, by omega, by omega⟩, show (f_postedTo b n).foldl (stepPost n) b.guests = gs by rw [hg, take_all (by omega)], if_pos (by omega)]; done) | (unfold f_barePost; rw [if_pos ⟨by assumption, by omega, by omega⟩, show (f_postedTo b n).foldl (stepPost n) b.guests = gs by rw [hg, take_all (by omega)], if_neg (by omega)]; done))) rfl rfl o107 trivial
        · have g108 : ¬ ((((f_postedTo b n)).length : Int) = 0) := ne_of_beq_false h105
          refine wp_skip (nx_then (wp_seq (RG.start ?_)))
          refine S.quiet (k := 3) (keep := [4, 5]) (m := 2) (σ' := ⟨[(4, .p 1 0), (5, .v (B true))], [[slv (b.mem).length q1.mem.1, slv (gs).length q36.1, slv (b.outs).length q1.outs.1, I b.pend], [slv (b.mem).length q1.mem.1, slv (gs).length q36.1, slv (b.outs).length q1.outs.1, I b.pend]]⟩) .nil (by kernel_rfl) ?_
          clear S; intro ac w β S
          refine RG.done rfl (nx_then (wp_ret ?_))
          refine S.ret (vs := [GT.val (⟨b.mem, gs, b.outs, b.pend⟩ : TBare) (⟨q1.mem, q36, q1.outs⟩ : PBare), B true]) (by kernel_rfl) ?_
          have o109 := ow_Bare (x := (⟨b.mem, gs, b.outs, b.pend⟩ : TBare)) (p := (⟨q1.mem, q36, q1.outs⟩ : PBare)) o6 o38 o12 (Disj.symm d39) d16 d40 i14
          exact ret2_of (p' := ()) S (show (f_barePost b n).1 = (⟨b.mem, gs, b.outs, b.pend⟩ : TBare) by clear S; (first | (unfold f_barePost; rw [if_neg (by simp_all)]; done) | (unfold f_barePost; rw [if_pos ⟨by assumption, by omega, by omega⟩]; done) | (unfold f_barePost; rw [if_pos ⟨by assumption, by omega, by omega⟩, show (f_postedTo b n).foldl (stepPost n) b.guests = gs by rw [hg, take_all (by omega)], if_pos (by omega)]; done) | (unfold f_barePost; rw [if_pos ⟨by assumption, by omega, by omega⟩, show (f_postedTo b n).foldl (stepPost n) b.guests = gs by rw [hg, take_all (by omega)], if_neg (by omega)]; done))) (show (f_barePost b n).2 = true by clear S; (first | (unfold f_barePost; rw [if_neg (by simp_all)]; done) | (unfold f_barePost; rw [if_pos ⟨by assumption, by omega, by omega⟩]; done) | (unfold f_barePost; rw [if_pos ⟨by assumption, by omega, by omega⟩, show (f_postedTo b n).foldl (stepPost n) b.guests = gs by rw [hg, take_all (by omega)], if_pos (by omega)]; done) | (unfold f_barePost; rw [if_pos ⟨by assumption, by omega, by omega⟩, show (f_postedTo b n).foldl (stepPost n) b.guests = gs by rw [hg, take_all (by omega)], if_neg (by omega)]; done))) rfl rfl o109 trivial

set_option maxRecDepth 100000 in
theorem c_impl_copyInts (w0 : World) (l : List Int) (pl : LP Int) (hl : GT.rd KK (Lt w0.heap.size) w0 l pl) : Calls Try.prog 124 [slv (l).length pl.1].toArray w0 (Ret1 NoB w0 (l : List Int)) := by
  refine Calls.walk (args := [slv (l).length pl.1]) NoB Try.func124 rfl rfl ?_
  intro ac β S
  have hlel : l.length ≤ 4194304 := LRd.le hl
  refine wp_seq (RG.start ?_)
  refine S.quiet (k := 1) (keep := [0]) (m := 0) (σ' := ⟨[(0, .v (slv (l).length pl.1))], []⟩) .nil (by kernel_rfl) ?_
  clear S; intro ac w β S
  refine RG.done rfl (nx_then (wp_seq (RG.start ?_)))
  refine RG.op rfl (S.bs0 (α := Int) (d := 3) (by kernel_rfl) ?_)
  clear S; intro ac w N q1 F2 S up o3 d4
  clear up d4
  refine S.quiet (k := 1) (keep := [3, 4]) (m := 0) (σ' := ⟨[(3, .v (slv 0 q1.1)), (4, .v (slv (l).length pl.1))], []⟩) .nil (by kernel_rfl) ?_
  clear S; intro ac w β S
  have b9 : (l).length ≤ 4194304 := LRd.le (S.arg hl)
  refine RG.op rfl (S.appFlat (α := Int) o3 ((S.arg hl)) (fun _ _ h => h) (by' := 8) (d := 5) (lx := 0) (ly := (l).length) rfl rfl (by kernel_rfl) (show _ ≤ 4194304 by simp only [List.length_append, List.length_cons, List.length_nil]; omega) ?_)
  clear S; intro ac w N q5 F6 S up o7 d8
  clear up d8
  refine S.quiet (k := 1) (keep := [2]) (m := 0) (σ' := ⟨[(2, .v (slv ((([] : List Int) ++ l)).length q5.1))], []⟩) .nil (by kernel_rfl) ?_
  clear S; intro ac w β S
  refine RG.done rfl (nx_then (wp_ret ?_))
  refine S.ret (vs := [slv ((([] : List Int) ++ l)).length q5.1]) (by kernel_rfl) ?_
  exact ret1_of S (show l = (([] : List Int) ++ l) by clear S; simp) rfl o7

set_option maxRecDepth 100000 in
theorem c_impl_copyMem (w0 : World) (l : List (List Int)) (pl : LP (List Int)) (hl : GT.rd KK (Lt w0.heap.size) w0 l pl) : Calls Try.prog 122 [slv (l).length pl.1].toArray w0 (Ret1 NoB w0 (l : List (List Int))) := by
  refine Calls.walk (args := [slv (l).length pl.1]) NoB Try.func122 rfl rfl ?_
  intro ac β S
  have hlel : l.length ≤ 4194304 := LRd.le hl
  refine wp_seq (RG.start ?_)
  refine S.quiet (k := 1) (keep := [0]) (m := 0) (σ' := ⟨[(0, .v (slv (l).length pl.1))], []⟩) .nil (by kernel_rfl) ?_
  clear S; intro ac w β S
  refine RG.done rfl (nx_then (wp_seq (RG.start ?_)))
  refine RG.op rfl (S.bs0 (α := List Int) (d := 6) (by kernel_rfl) ?_)
  clear S; intro ac w N q1 F2 S up o3 d4
  clear up d4
  refine S.quiet (k := 1) (keep := [0, 3]) (m := 0) (σ' := ⟨[(0, .v (slv (l).length pl.1)), (3, .v (slv 0 q1.1))], []⟩) .nil (by kernel_rfl) ?_
  clear S; intro ac w β S
  refine RG.done rfl (nx_then (wp_seq (wp_seq (RG.start ?_))))
  refine S.quiet (k := 3) (keep := [3, 7, 8, 9]) (m := 0) (σ' := ⟨[(3, .v (slv 0 q1.1)), (7, .v (slv (l).length pl.1)), (8, .v (I ((l).length : Int))), (9, .v (I 0))], []⟩) .nil (by kernel_rfl) ?_
  clear S; intro ac w β S
  refine RG.done rfl (nx_then (wp_block ?_))
  replace S := S.prune (keep := [3, 7, 8, 9]) (m := 0) (σ' := ⟨[(3, .v (slv 0 q1.1)), (7, .v (slv (l).length pl.1)), (8, .v (I ((l).length : Int))), (9, .v (I 0))], []⟩) (by kernel_rfl)
  refine wp_loop_down (fun mm ac w => ∃ (k : Nat) (acc : List (List Int)) (q5 : GT.Ptr (List (List Int))) (F6 : Bl) (u : World) (N : Bl) (β : Nat → Nat), mm = (l).length - k ∧ (k ≤ (l).length) ∧ (acc = (l).take k) ∧ St Try.prog Try.f122.ntmps w0 NoB u N β ⟨[(3, .v (slv (acc).length q5.1)), (7, .v (slv (l).length pl.1)), (8, .v (I ((l).length : Int))), (9, .v (I (k : Int)))], []⟩ ac w ∧ Ow w0 NoB u N F6 acc q5) _ ⟨0, ([] : List (List Int)), q1, F2, _, _, _, rfl, (by first | omega | (simp; done) | (simp; omega)), (by simp), S.cast (by kernel_rfl), o3⟩ ?_
  clear S o3
  rintro mm ac w ⟨k, acc, q5, F6, u, N, β, rfl, hk, hacc, S, o7⟩
  have hlacc : acc.length = k := by rw [hacc]; simp; omega
  refine wp_seq (RG.start ?_)
  refine S.quiet (k := 1) (keep := [3, 7, 8, 9, 10]) (m := 0) (σ' := ⟨[(3, .v (slv (acc).length q5.1)), (7, .v (slv (l).length pl.1)), (8, .v (I ((l).length : Int))), (9, .v (I (k : Int))), (10, .v (B (decide ((k : Int) < ((l).length : Int)))))], []⟩) .nil (by kernel_rfl) ?_
  clear S; intro ac w β S
  refine RG.done rfl (nx_then (wp_seq ?_))
  refine S.cond (e := (decide ((k : Int) < ((l).length : Int)))) (by kernel_rfl) (fun h8 => ?_) (fun h8 => ?_)
  · have g9 : (k : Int) < ((l).length : Int) := of_decide_eq_true h8
    refine wp_skip (nx_then (wp_seq (wp_block (wp_seq (RG.start ?_)))))
    refine S.quiet (k := 3) (keep := [3, 5, 7, 8, 9]) (m := 0) (σ' := ⟨[(3, .v (slv (acc).length q5.1)), (5, .v (slv ((el l k)).length (pl.2 k).1)), (7, .v (slv (l).length pl.1)), (8, .v (I ((l).length : Int))), (9, .v (I (k : Int)))], []⟩) (.cons (Q_idx (S.arg hl) (l := (l).length) (k := k) (i := (k : Int)) rfl rfl (by omega) Try.underlying31 (by kernel_rfl)) (.cons (Q_el1 (S.arg hl) (t := 24) (k := k) (by omega) rfl (by kernel_rfl)) .nil)) (by kernel_rfl) ?_
    clear S; intro ac w β S
    refine RG.done rfl (nx_then (RG.start ?_))
    refine S.quiet (k := 2) (keep := [7, 8, 9, 13, 14]) (m := 0) (σ' := ⟨[(7, .v (slv (l).length pl.1)), (8, .v (I ((l).length : Int))), (9, .v (I (k : Int))), (13, .v (slv (acc).length q5.1)), (14, .v (slv ((el l k)).length (pl.2 k).1))], []⟩) .nil (by kernel_rfl) ?_
    clear S; intro ac w β S
    refine RG.op rfl (S.call1 (r := (el l k)) (d := 15) (c_impl_copyInts w (el l k) (pl.2 k) (S.rd (LRd.el (S.arg hl) k (by omega)))) (by kernel_rfl) rfl ?_)
    clear S; intro ac w N q10 F11 S up o12 d13
    have d14 : Disj F6 F11 := fun b x y => d13 b (o7.sub b x) y
    replace o7 := o7.up up
    clear up d13
    refine RG.op rfl (S.bs1 (α := List Int) (x := (el l k)) (p := q10) o12.own o12.sub o12.young (d := 16) (by kernel_rfl) ?_)
    clear S; intro ac w N q15 F16 S up o17 d18
    have d19 : Disj F6 F16 := d18 _ d14 o7.sub
    replace o7 := o7.up up
    clear up d18
    refine RG.op rfl (S.appOwn (α := List Int) o7 o17 d19 (by' := 24) (d := 17) (lx := (acc).length) (ly := 1) rfl rfl (by kernel_rfl) (show _ ≤ 4194304 by simp only [List.length_append, List.length_cons, List.length_nil]; omega) ?_)
    clear S; intro ac w N q20 F21 S up o22 d23
    clear up d23
    refine S.quiet (k := 1) (keep := [3, 7, 8, 9]) (m := 0) (σ' := ⟨[(3, .v (slv ((acc ++ [(el l k)])).length q20.1)), (7, .v (slv (l).length pl.1)), (8, .v (I ((l).length : Int))), (9, .v (I (k : Int)))], []⟩) .nil (by kernel_rfl) ?_
    clear S; intro ac w β S
    refine RG.done rfl (nx_block (nx_then (RG.start ?_)))
    refine S.quiet (k := 2) (keep := [3, 7, 8, 9]) (m := 0) (σ' := ⟨[(3, .v (slv ((acc ++ [(el l k)])).length q20.1)), (7, .v (slv (l).length pl.1)), (8, .v (I ((l).length : Int))), (9, .v (I ((k : Int) + 1)))], []⟩) (.cons (Q_add (x := (k : Int)) (y := 1) ⟨by omega, by omega⟩) .nil) (by kernel_rfl) ?_
    clear S; intro ac w β S
    refine RG.done rfl (nx_then ?_)
    replace S := S.prune (keep := [3, 7, 8, 9]) (m := 0) (σ' := ⟨[(3, .v (slv ((acc ++ [(el l k)])).length q20.1)), (7, .v (slv (l).length pl.1)), (8, .v (I ((l).length : Int))), (9, .v (I ((k : Int) + 1)))], []⟩) (by kernel_rfl)
    refine ⟨(l).length - (k + 1), by omega, k + 1, (acc ++ [(el l k)]), q20, F21, _, _, _, rfl, ?_, ?_, S.cast (by kernel_rfl), o22⟩
    · clear S; first | omega | (simp [*]; done) | (simp [*]; omega)
    · clear S; (first | (rw [take_el (by omega), hacc]; done) | (rw [take_el (by omega), hacc]; simp; done))
  · have g24 : ¬ ((k : Int) < ((l).length : Int)) := of_decide_eq_false h8
    refine wp_exit (ex_then (ex_then (ex_hit (nx_then (wp_seq (RG.start ?_))))))
    refine S.quiet (k := 2) (keep := [2]) (m := 0) (σ' := ⟨[(2, .v (slv (acc).length q5.1))], []⟩) .nil (by kernel_rfl) ?_
    clear S; intro ac w β S
    refine RG.done rfl (nx_then (wp_ret ?_))
    refine S.ret (vs := [slv (acc).length q5.1]) (by kernel_rfl) ?_
    exact ret1_of S (show l = acc by clear S; (rw [hacc, take_all (by omega)])) rfl o7

set_option maxRecDepth 100000 in
theorem c_impl_copyProg (w0 : World) (l : List TIns) (pl : LP TIns) (hl : GT.rd KK (Lt w0.heap.size) w0 l pl) : Calls Try.prog 133 [slv (l).length pl.1].toArray w0 (Ret1 NoB w0 (l : List TIns)) := by
  refine Calls.walk (args := [slv (l).length pl.1]) NoB Try.func133 rfl rfl ?_
  intro ac β S
  have hlel : l.length ≤ 4194304 := LRd.le hl
  refine wp_seq (RG.start ?_)
  refine S.quiet (k := 1) (keep := [0]) (m := 0) (σ' := ⟨[(0, .v (slv (l).length pl.1))], []⟩) .nil (by kernel_rfl) ?_
  clear S; intro ac w β S
  refine RG.done rfl (nx_then (wp_seq (RG.start ?_)))
  refine RG.op rfl (S.bs0 (α := TIns) (d := 3) (by kernel_rfl) ?_)
  clear S; intro ac w N q1 F2 S up o3 d4
  clear up d4
  refine S.quiet (k := 1) (keep := [3, 4]) (m := 0) (σ' := ⟨[(3, .v (slv 0 q1.1)), (4, .v (slv (l).length pl.1))], []⟩) .nil (by kernel_rfl) ?_
  clear S; intro ac w β S
  have b9 : (l).length ≤ 4194304 := LRd.le (S.arg hl)
  refine RG.op rfl (S.appFlat (α := TIns) o3 ((S.arg hl)) (fun _ _ h => h) (by' := 16) (d := 5) (lx := 0) (ly := (l).length) rfl rfl (by kernel_rfl) (show _ ≤ 4194304 by simp only [List.length_append, List.length_cons, List.length_nil]; omega) ?_)
  clear S; intro ac w N q5 F6 S up o7 d8
  clear up d8
  refine S.quiet (k := 1) (keep := [2]) (m := 0) (σ' := ⟨[(2, .v (slv ((([] : List TIns) ++ l)).length q5.1))], []⟩) .nil (by kernel_rfl) ?_
  clear S; intro ac w β S
  refine RG.done rfl (nx_then (wp_ret ?_))
  refine S.ret (vs := [slv ((([] : List TIns) ++ l)).length q5.1]) (by kernel_rfl) ?_
  exact ret1_of S (show l = (([] : List TIns) ++ l) by clear S; simp) rfl o7

set_option maxRecDepth 100000 in
theorem c_impl_copyTable (w0 : World) (l : List TSlot) (pl : LP TSlot) (hl : GT.rd KK (Lt w0.heap.size) w0 l pl) : Calls Try.prog 108 [slv (l).length pl.1].toArray w0 (Ret1 NoB w0 (l : List TSlot)) := by
  refine Calls.walk (args := [slv (l).length pl.1]) NoB Try.func108 rfl rfl ?_
  intro ac β S
  have hlel : l.length ≤ 4194304 := LRd.le hl
  refine wp_seq (RG.start ?_)
  refine S.quiet (k := 1) (keep := [0]) (m := 0) (σ' := ⟨[(0, .v (slv (l).length pl.1))], []⟩) .nil (by kernel_rfl) ?_
  clear S; intro ac w β S
  refine RG.done rfl (nx_then (wp_seq (RG.start ?_)))
  refine RG.op rfl (S.bs0 (α := TSlot) (d := 3) (by kernel_rfl) ?_)
  clear S; intro ac w N q1 F2 S up o3 d4
  clear up d4
  refine S.quiet (k := 1) (keep := [3, 4]) (m := 0) (σ' := ⟨[(3, .v (slv 0 q1.1)), (4, .v (slv (l).length pl.1))], []⟩) .nil (by kernel_rfl) ?_
  clear S; intro ac w β S
  have b9 : (l).length ≤ 4194304 := LRd.le (S.arg hl)
  refine RG.op rfl (S.appFlat (α := TSlot) o3 ((S.arg hl)) (fun _ _ h => h) (by' := 16) (d := 5) (lx := 0) (ly := (l).length) rfl rfl (by kernel_rfl) (show _ ≤ 4194304 by simp only [List.length_append, List.length_cons, List.length_nil]; omega) ?_)
  clear S; intro ac w N q5 F6 S up o7 d8
  clear up d8
  refine S.quiet (k := 1) (keep := [2]) (m := 0) (σ' := ⟨[(2, .v (slv ((([] : List TSlot) ++ l)).length q5.1))], []⟩) .nil (by kernel_rfl) ?_
  clear S; intro ac w β S
  refine RG.done rfl (nx_then (wp_ret ?_))
  refine S.ret (vs := [slv ((([] : List TSlot) ++ l)).length q5.1]) (by kernel_rfl) ?_
  exact ret1_of S (show l = (([] : List TSlot) ++ l) by clear S; simp) rfl o7

set_option maxRecDepth 100000 in
theorem c_impl_copyGuest (w0 : World) (g : TGuest) (pg : PGuest) (hg : GT.rd KK (Lt w0.heap.size) w0 g pg) : Calls Try.prog 154 [GT.val g pg].toArray w0 (Ret1 NoB w0 (g : TGuest)) := by
  refine Calls.walk (args := [GT.val g pg]) NoB Try.func154 rfl rfl ?_
  intro ac β S
  have hleg_prog : g.prog.length ≤ 4194304 := LRd.le (RGuest.prog (d := g) hg)
  have hleg_written : g.written.length ≤ 4194304 := LRd.le (RGuest.written (d := g) hg)
  have hleg_live : g.live.length ≤ 4194304 := LRd.le (RGuest.live (d := g) hg)
  have hleg_seen : g.seen.length ≤ 4194304 := LRd.le (RGuest.seen (d := g) hg)
  refine wp_seq (RG.start ?_)
  refine S.quiet (k := 2) (keep := [1, 2]) (m := 2) (σ' := ⟨[(1, .p 0 0), (2, .p 1 0)], [GT.cells g pg, Zc TGuest]⟩) .nil (by kernel_rfl) ?_
  clear S; intro ac w β S
  refine RG.done rfl (nx_then (wp_seq (RG.start ?_)))
  refine S.quiet (k := 2) (keep := [1, 2, 4]) (m := 2) (σ' := ⟨[(1, .p 0 0), (2, .p 1 0), (4, .v (slv (g.prog).length pg.prog.1))], [GT.cells g pg, Zc TGuest]⟩) .nil (by kernel_rfl) ?_
  clear S; intro ac w β S
  refine RG.op rfl (S.call1 (r := g.prog) (d := 5) (c_impl_copyProg w g.prog pg.prog (S.rd (RGuest.prog (d := g) (S.arg hg)))) (by kernel_rfl) rfl ?_)
  clear S; intro ac w N q1 F2 S up o3 d4
  clear up d4
  refine S.quiet (k := 2) (keep := [1, 2]) (m := 2) (σ' := ⟨[(1, .p 0 0), (2, .p 1 0)], [[slv (g.prog).length q1.1, I g.acc, I g.pc, slv (g.written).length pg.written.1, slv (g.live).length pg.live.1, I g.ctl.traps, I g.ctl.post, B g.ctl.opn, I g.pend, I g.exit.kind, I g.exit.page, B g.exit.wr, I g.exit.n, B g.halted, slv (g.seen).length pg.seen.1], Zc TGuest]⟩) .nil (by kernel_rfl) ?_
  clear S; intro ac w β S
  refine RG.done rfl (nx_then (wp_seq (RG.start ?_)))
  refine S.quiet (k := 2) (keep := [1, 2, 8]) (m := 2) (σ' := ⟨[(1, .p 0 0), (2, .p 1 0), (8, .v (slv (g.written).length pg.written.1))], [[slv (g.prog).length q1.1, I g.acc, I g.pc, slv (g.written).length pg.written.1, slv (g.live).length pg.live.1, I g.ctl.traps, I g.ctl.post, B g.ctl.opn, I g.pend, I g.exit.kind, I g.exit.page, B g.exit.wr, I g.exit.n, B g.halted, slv (g.seen).length pg.seen.1], Zc TGuest]⟩) .nil (by kernel_rfl) ?_
  clear S; intro ac w β S
  refine RG.op rfl (S.call1 (r := g.written) (d := 9) (c_impl_copyTable w g.written pg.written (S.rd (RGuest.written (d := g) (S.arg hg)))) (by kernel_rfl) rfl ?_)
  clear S; intro ac w N q5 F6 S up o7 d8
  have d9 : Disj F2 F6 := fun b x y => d8 b (o3.sub b x) y
  replace o3 := o3.up up
  clear up d8
  refine S.quiet (k := 2) (keep := [1, 2]) (m := 2) (σ' := ⟨[(1, .p 0 0), (2, .p 1 0)], [[slv (g.prog).length q1.1, I g.acc, I g.pc, slv (g.written).length q5.1, slv (g.live).length pg.live.1, I g.ctl.traps, I g.ctl.post, B g.ctl.opn, I g.pend, I g.exit.kind, I g.exit.page, B g.exit.wr, I g.exit.n, B g.halted, slv (g.seen).length pg.seen.1], Zc TGuest]⟩) .nil (by kernel_rfl) ?_
  clear S; intro ac w β S
  refine RG.done rfl (nx_then (wp_seq (RG.start ?_)))
  refine S.quiet (k := 2) (keep := [1, 2, 12]) (m := 2) (σ' := ⟨[(1, .p 0 0), (2, .p 1 0), (12, .v (slv (g.live).length pg.live.1))], [[slv (g.prog).length q1.1, I g.acc, I g.pc, slv (g.written).length q5.1, slv (g.live).length pg.live.1, I g.ctl.traps, I g.ctl.post, B g.ctl.opn, I g.pend, I g.exit.kind, I g.exit.page, B g.exit.wr, I g.exit.n, B g.halted, slv (g.seen).length pg.seen.1], Zc TGuest]⟩) .nil (by kernel_rfl) ?_
  clear S; intro ac w β S
  refine RG.op rfl (S.call1 (r := g.live) (d := 13) (c_impl_copyTable w g.live pg.live (S.rd (RGuest.live (d := g) (S.arg hg)))) (by kernel_rfl) rfl ?_)
  clear S; intro ac w N q10 F11 S up o12 d13
  have d14 : Disj F2 F11 := fun b x y => d13 b (o3.sub b x) y
  have d15 : Disj F6 F11 := fun b x y => d13 b (o7.sub b x) y
  replace o3 := o3.up up
  replace o7 := o7.up up
  clear up d13
  refine S.quiet (k := 2) (keep := [1, 2]) (m := 2) (σ' := ⟨[(1, .p 0 0), (2, .p 1 0)], [[slv (g.prog).length q1.1, I g.acc, I g.pc, slv (g.written).length q5.1, slv (g.live).length q10.1, I g.ctl.traps, I g.ctl.post, B g.ctl.opn, I g.pend, I g.exit.kind, I g.exit.page, B g.exit.wr, I g.exit.n, B g.halted, slv (g.seen).length pg.seen.1], Zc TGuest]⟩) .nil (by kernel_rfl) ?_
  clear S; intro ac w β S
  refine RG.done rfl (nx_then (wp_seq (RG.start ?_)))
  refine S.quiet (k := 2) (keep := [1, 2, 16]) (m := 2) (σ' := ⟨[(1, .p 0 0), (2, .p 1 0), (16, .v (slv (g.seen).length pg.seen.1))], [[slv (g.prog).length q1.1, I g.acc, I g.pc, slv (g.written).length q5.1, slv (g.live).length q10.1, I g.ctl.traps, I g.ctl.post, B g.ctl.opn, I g.pend, I g.exit.kind, I g.exit.page, B g.exit.wr, I g.exit.n, B g.halted, slv (g.seen).length pg.seen.1], Zc TGuest]⟩) .nil (by kernel_rfl) ?_
  clear S; intro ac w β S
  refine RG.op rfl (S.call1 (r := g.seen) (d := 17) (c_impl_copyInts w g.seen pg.seen (S.rd (RGuest.seen (d := g) (S.arg hg)))) (by kernel_rfl) rfl ?_)
  clear S; intro ac w N q16 F17 S up o18 d19
  have d20 : Disj F2 F17 := fun b x y => d19 b (o3.sub b x) y
  have d21 : Disj F6 F17 := fun b x y => d19 b (o7.sub b x) y
  have d22 : Disj F11 F17 := fun b x y => d19 b (o12.sub b x) y
  replace o3 := o3.up up
  replace o7 := o7.up up
  replace o12 := o12.up up
  clear up d19
  refine S.quiet (k := 2) (keep := [1, 2]) (m := 2) (σ' := ⟨[(1, .p 0 0), (2, .p 1 0)], [[slv (g.prog).length q1.1, I g.acc, I g.pc, slv (g.written).length q5.1, slv (g.live).length q10.1, I g.ctl.traps, I g.ctl.post, B g.ctl.opn, I g.pend, I g.exit.kind, I g.exit.page, B g.exit.wr, I g.exit.n, B g.halted, slv (g.seen).length q16.1], Zc TGuest]⟩) .nil (by kernel_rfl) ?_
  clear S; intro ac w β S
  refine RG.done rfl (nx_then (wp_seq (RG.start ?_)))
  refine S.quiet (k := 2) (keep := [2]) (m := 2) (σ' := ⟨[(2, .p 1 0)], [[slv (g.prog).length q1.1, I g.acc, I g.pc, slv (g.written).length q5.1, slv (g.live).length q10.1, I g.ctl.traps, I g.ctl.post, B g.ctl.opn, I g.pend, I g.exit.kind, I g.exit.page, B g.exit.wr, I g.exit.n, B g.halted, slv (g.seen).length q16.1], [slv (g.prog).length q1.1, I g.acc, I g.pc, slv (g.written).length q5.1, slv (g.live).length q10.1, I g.ctl.traps, I g.ctl.post, B g.ctl.opn, I g.pend, I g.exit.kind, I g.exit.page, B g.exit.wr, I g.exit.n, B g.halted, slv (g.seen).length q16.1]]⟩) .nil (by kernel_rfl) ?_
  clear S; intro ac w β S
  refine RG.done rfl (nx_then (wp_ret ?_))
  refine S.ret (vs := [GT.val (⟨g.prog, g.acc, g.pc, g.written, g.live, g.ctl, g.pend, g.exit, g.halted, g.seen⟩ : TGuest) (⟨q1, q5, q10, q16⟩ : PGuest)]) (by kernel_rfl) ?_
  have o23 := ow_Guest (x := (⟨g.prog, g.acc, g.pc, g.written, g.live, g.ctl, g.pend, g.exit, g.halted, g.seen⟩ : TGuest)) (p := (⟨q1, q5, q10, q16⟩ : PGuest)) o3 o7 o12 o18 d9 d14 d20 d15 d21 d22 (RGuest.acc (d := g) (S.arg hg)) (RGuest.pc (d := g) (S.arg hg)) (RGuest.ctl (d := g) (S.arg hg)) (RGuest.pend (d := g) (S.arg hg)) (RGuest.exit (d := g) (S.arg hg))
  exact ret1_of S (show g = (⟨g.prog, g.acc, g.pc, g.written, g.live, g.ctl, g.pend, g.exit, g.halted, g.seen⟩ : TGuest) by clear S; (first | rfl | simp)) rfl o23

set_option maxRecDepth 100000 in
theorem c_impl_copyGuests (w0 : World) (l : List TGuest) (pl : LP TGuest) (hl : GT.rd KK (Lt w0.heap.size) w0 l pl) : Calls Try.prog 123 [slv (l).length pl.1].toArray w0 (Ret1 NoB w0 (l : List TGuest)) := by
  refine Calls.walk (args := [slv (l).length pl.1]) NoB Try.func123 rfl rfl ?_
  intro ac β S
  have hlel : l.length ≤ 4194304 := LRd.le hl
  refine wp_seq (RG.start ?_)
  refine S.quiet (k := 1) (keep := [0]) (m := 0) (σ' := ⟨[(0, .v (slv (l).length pl.1))], []⟩) .nil (by kernel_rfl) ?_
  clear S; intro ac w β S
  refine RG.done rfl (nx_then (wp_seq (RG.start ?_)))
  refine RG.op rfl (S.bs0 (α := TGuest) (d := 6) (by kernel_rfl) ?_)
  clear S; intro ac w N q1 F2 S up o3 d4
  clear up d4
  refine S.quiet (k := 1) (keep := [0, 3]) (m := 0) (σ' := ⟨[(0, .v (slv (l).length pl.1)), (3, .v (slv 0 q1.1))], []⟩) .nil (by kernel_rfl) ?_
  clear S; intro ac w β S
  refine RG.done rfl (nx_then (wp_seq (wp_seq (RG.start ?_))))
  refine S.quiet (k := 3) (keep := [3, 7, 8, 9]) (m := 0) (σ' := ⟨[(3, .v (slv 0 q1.1)), (7, .v (slv (l).length pl.1)), (8, .v (I ((l).length : Int))), (9, .v (I 0))], []⟩) .nil (by kernel_rfl) ?_
  clear S; intro ac w β S
  refine RG.done rfl (nx_then (wp_block ?_))
  replace S := S.prune (keep := [3, 7, 8, 9]) (m := 0) (σ' := ⟨[(3, .v (slv 0 q1.1)), (7, .v (slv (l).length pl.1)), (8, .v (I ((l).length : Int))), (9, .v (I 0))], []⟩) (by kernel_rfl)
  refine wp_loop_down (fun mm ac w => ∃ (k : Nat) (acc : List TGuest) (q5 : GT.Ptr (List TGuest)) (F6 : Bl) (u : World) (N : Bl) (β : Nat → Nat), mm = (l).length - k ∧ (k ≤ (l).length) ∧ (acc = (l).take k) ∧ St Try.prog Try.f123.ntmps w0 NoB u N β ⟨[(3, .v (slv (acc).length q5.1)), (7, .v (slv (l).length pl.1)), (8, .v (I ((l).length : Int))), (9, .v (I (k : Int)))], []⟩ ac w ∧ Ow w0 NoB u N F6 acc q5) _ ⟨0, ([] : List TGuest), q1, F2, _, _, _, rfl, (by first | omega | (simp; done) | (simp; omega)), (by simp), S.cast (by kernel_rfl), o3⟩ ?_
  clear S o3
  rintro mm ac w ⟨k, acc, q5, F6, u, N, β, rfl, hk, hacc, S, o7⟩
  have hlacc : acc.length = k := by rw [hacc]; simp; omega
  refine wp_seq (RG.start ?_)
  refine S.quiet (k := 1) (keep := [3, 7, 8, 9, 10]) (m := 0) (σ' := ⟨[(3, .v (slv (acc).length q5.1)), (7, .v (slv (l).length pl.1)), (8, .v (I ((l).length : Int))), (9, .v (I (k : Int))), (10, .v (B (decide ((k : Int) < ((l).length : Int)))))], []⟩) .nil (by kernel_rfl) ?_
  clear S; intro ac w β S
  refine RG.done rfl (nx_then (wp_seq ?_))
  refine S.cond (e := (decide ((k : Int) < ((l).length : Int)))) (by kernel_rfl) (fun h8 => ?_) (fun h8 => ?_)
  · have g9 : (k : Int) < ((l).length : Int) := of_decide_eq_true h8
    refine wp_skip (nx_then (wp_seq (wp_block (wp_seq (RG.start ?_)))))
    refine S.quiet (k := 4) (keep := [3, 5, 7, 8, 9]) (m := 1) (σ' := ⟨[(3, .v (slv (acc).length q5.1)), (5, .p 0 0), (7, .v (slv (l).length pl.1)), (8, .v (I ((l).length : Int))), (9, .v (I (k : Int)))], [GT.cells (el l k) (pl.2 k)]⟩) (.cons (Q_idx (S.arg hl) (l := (l).length) (k := k) (i := (k : Int)) rfl rfl (by omega) Try.underlying39 (by kernel_rfl)) (.cons (Q_el (S.arg hl) (t := 117) (k := k) (by omega) rfl (by kernel_rfl) (by kernel_rfl)) .nil)) (by kernel_rfl) ?_
    clear S; intro ac w β S
    refine RG.done rfl (nx_then (RG.start ?_))
    refine S.quiet (k := 2) (keep := [7, 8, 9, 13, 14]) (m := 0) (σ' := ⟨[(7, .v (slv (l).length pl.1)), (8, .v (I ((l).length : Int))), (9, .v (I (k : Int))), (13, .v (slv (acc).length q5.1)), (14, .v (GT.val (el l k) (pl.2 k)))], []⟩) .nil (by kernel_rfl) ?_
    clear S; intro ac w β S
    refine RG.op rfl (S.call1 (r := (el l k)) (d := 15) (c_impl_copyGuest w (el l k) (pl.2 k) (S.rd (LRd.el (S.arg hl) k (by omega)))) (by kernel_rfl) rfl ?_)
    clear S; intro ac w N q10 F11 S up o12 d13
    have d14 : Disj F6 F11 := fun b x y => d13 b (o7.sub b x) y
    replace o7 := o7.up up
    clear up d13
    have i18 : In64 (el l k).acc := RGuest.acc (d := (el l k)) o12.rn
    have i19 : In64 (el l k).pc := RGuest.pc (d := (el l k)) o12.rn
    have i26 : RCtl (el l k).ctl := RGuest.ctl (d := (el l k)) o12.rn
    have i27 : In64 (el l k).pend := RGuest.pend (d := (el l k)) o12.rn
    have i28 : RExit (el l k).exit := RGuest.exit (d := (el l k)) o12.rn
    obtain ⟨F15, F20, F23, F29, o16, o21, o24, o30, s17, s22, s25, s31, d32, d33, d34, d35, d36, d37⟩ := sp_Guest o12
    have o42 := ow_Guest (x := (el l k)) (p := q10) o16 o21 o24 o30 d32 d33 d34 d35 d36 d37 i18 i19 i26 i27 i28
    refine RG.op rfl (S.bs1 (α := TGuest) (x := (el l k)) (p := q10) o42.own o42.sub o42.young (d := 16) (by kernel_rfl) ?_)
    clear S; intro ac w N q38 F39 S up o40 d41
    have d43 : Disj F6 F39 := d41 _ (Disj.symm (Disj.or (Disj.part (Disj.symm d14) s17) (Disj.or (Disj.part (Disj.symm d14) s22) (Disj.or (Disj.part (Disj.symm d14) s25) (Disj.or (Disj.part (Disj.symm d14) s31) Disj.nob))))) o7.sub
    replace o7 := o7.up up
    clear up d41
    refine RG.op rfl (S.appOwn (α := TGuest) o7 o40 d43 (by' := 184) (d := 17) (lx := (acc).length) (ly := 1) rfl rfl (by kernel_rfl) (show _ ≤ 4194304 by simp only [List.length_append, List.length_cons, List.length_nil]; omega) ?_)
    clear S; intro ac w N q44 F45 S up o46 d47
    clear up d47
    refine S.quiet (k := 1) (keep := [3, 7, 8, 9]) (m := 0) (σ' := ⟨[(3, .v (slv ((acc ++ [(el l k)])).length q44.1)), (7, .v (slv (l).length pl.1)), (8, .v (I ((l).length : Int))), (9, .v (I (k : Int)))], []⟩) .nil (by kernel_rfl) ?_
    clear S; intro ac w β S
    refine RG.done rfl (nx_block (nx_then (RG.start ?_)))
    refine S.quiet (k := 2) (keep := [3, 7, 8, 9]) (m := 0) (σ' := ⟨[(3, .v (slv ((acc ++ [(el l k)])).length q44.1)), (7, .v (slv (l).length pl.1)), (8, .v (I ((l).length : Int))), (9, .v (I ((k : Int) + 1)))], []⟩) (.cons (Q_add (x := (k : Int)) (y := 1) ⟨by omega, by omega⟩) .nil) (by kernel_rfl) ?_
    clear S; intro ac w β S
    refine RG.done rfl (nx_then ?_)
    replace S := S.prune (keep := [3, 7, 8, 9]) (m := 0) (σ' := ⟨[(3, .v (slv ((acc ++ [(el l k)])).length q44.1)), (7, .v (slv (l).length pl.1)), (8, .v (I ((l).length : Int))), (9, .v (I ((k : Int) + 1)))], []⟩) (by kernel_rfl)
    refine ⟨(l).length - (k + 1), by omega, k + 1, (acc ++ [(el l k)]), q44, F45, _, _, _, rfl, ?_, ?_, S.cast (by kernel_rfl), o46⟩
    · clear S; first | omega | (simp [*]; done) | (simp [*]; omega)
    · clear S; (first | (rw [take_el (by omega), hacc]; done) | (rw [take_el (by omega), hacc]; simp; done))
  · have g48 : ¬ ((k : Int) < ((l).length : Int)) := of_decide_eq_false h8
    refine wp_exit (ex_then (ex_then (ex_hit (nx_then (wp_seq (RG.start ?_))))))
    refine S.quiet (k := 2) (keep := [2]) (m := 0) (σ' := ⟨[(2, .v (slv (acc).length q5.1))], []⟩) .nil (by kernel_rfl) ?_
    clear S; intro ac w β S
    refine RG.done rfl (nx_then (wp_ret ?_))
    refine S.ret (vs := [slv (acc).length q5.1]) (by kernel_rfl) ?_
    exact ret1_of S (show l = acc by clear S; (rw [hacc, take_all (by omega)])) rfl o7

set_option maxRecDepth 100000 in
theorem c_impl_copyBare (w0 : World) (b : TBare) (pb : PBare) (hb : GT.rd KK (Lt w0.heap.size) w0 b pb) : Calls Try.prog 82 [GT.val b pb].toArray w0 (Ret1 NoB w0 (b : TBare)) := by
  refine Calls.walk (args := [GT.val b pb]) NoB Try.func82 rfl rfl ?_
  intro ac β S
  have hleb_mem : b.mem.length ≤ 4194304 := LRd.le (RBare.mem (d := b) hb)
  have hleb_guests : b.guests.length ≤ 4194304 := LRd.le (RBare.guests (d := b) hb)
  have hleb_outs : b.outs.length ≤ 4194304 := LRd.le (RBare.outs (d := b) hb)
  refine wp_seq (RG.start ?_)
  refine S.quiet (k := 2) (keep := [1, 2]) (m := 2) (σ' := ⟨[(1, .p 0 0), (2, .p 1 0)], [GT.cells b pb, Zc TBare]⟩) .nil (by kernel_rfl) ?_
  clear S; intro ac w β S
  refine RG.done rfl (nx_then (wp_seq ?_))
  refine S.draw0 (f := 13) 12 rfl rfl ?_
  clear S; intro w S
  refine S.hoist (i := 0) (path := [0]) (keep := [1, 2, 3]) (m := 2) (σ' := ⟨[(1, .p 0 0), (2, .p 1 0), (3, .p 0 0)], [GT.cells b pb, Zc TBare]⟩) (by kernel_rfl) (by kernel_rfl) .nil (by kernel_rfl) ?_
  clear S; intro ac S
  refine S.hoist (i := 1) (path := [1]) (keep := [1, 2, 4]) (m := 2) (σ' := ⟨[(1, .p 0 0), (2, .p 1 0), (4, .v (slv (b.mem).length pb.mem.1))], [GT.cells b pb, Zc TBare]⟩) (by kernel_rfl) (by kernel_rfl) .nil (by kernel_rfl) ?_
  clear S; intro ac S
  refine S.hoist (i := 3) (path := [3]) (keep := [1, 2, 4, 6]) (m := 2) (σ' := ⟨[(1, .p 0 0), (2, .p 1 0), (4, .v (slv (b.mem).length pb.mem.1)), (6, .p 0 1)], [GT.cells b pb, Zc TBare]⟩) (by kernel_rfl) (by kernel_rfl) .nil (by kernel_rfl) ?_
  clear S; intro ac S
  refine S.hoist (i := 4) (path := [4]) (keep := [1, 2, 4, 7]) (m := 2) (σ' := ⟨[(1, .p 0 0), (2, .p 1 0), (4, .v (slv (b.mem).length pb.mem.1)), (7, .v (slv (b.guests).length pb.guests.1))], [GT.cells b pb, Zc TBare]⟩) (by kernel_rfl) (by kernel_rfl) .nil (by kernel_rfl) ?_
  clear S; intro ac S
  refine S.hoist (i := 6) (path := [6]) (keep := [1, 2, 4, 7, 9]) (m := 2) (σ' := ⟨[(1, .p 0 0), (2, .p 1 0), (4, .v (slv (b.mem).length pb.mem.1)), (7, .v (slv (b.guests).length pb.guests.1)), (9, .p 0 2)], [GT.cells b pb, Zc TBare]⟩) (by kernel_rfl) (by kernel_rfl) .nil (by kernel_rfl) ?_
  clear S; intro ac S
  refine S.hoist (i := 7) (path := [7]) (keep := [1, 2, 4, 7, 10]) (m := 2) (σ' := ⟨[(1, .p 0 0), (2, .p 1 0), (4, .v (slv (b.mem).length pb.mem.1)), (7, .v (slv (b.guests).length pb.guests.1)), (10, .v (slv (b.outs).length pb.outs.1))], [GT.cells b pb, Zc TBare]⟩) (by kernel_rfl) (by kernel_rfl) .nil (by kernel_rfl) ?_
  clear S; intro ac S
  refine S.hoist (i := 9) (path := [9]) (keep := [2, 4, 7, 10, 12]) (m := 2) (σ' := ⟨[(2, .p 1 0), (4, .v (slv (b.mem).length pb.mem.1)), (7, .v (slv (b.guests).length pb.guests.1)), (10, .v (slv (b.outs).length pb.outs.1)), (12, .p 0 3)], [GT.cells b pb, Zc TBare]⟩) (by kernel_rfl) (by kernel_rfl) .nil (by kernel_rfl) ?_
  clear S; intro ac S
  refine S.hoist (i := 10) (path := [10]) (keep := [2, 4, 7, 10, 13]) (m := 2) (σ' := ⟨[(2, .p 1 0), (4, .v (slv (b.mem).length pb.mem.1)), (7, .v (slv (b.guests).length pb.guests.1)), (10, .v (slv (b.outs).length pb.outs.1)), (13, .v (I b.pend))], [GT.cells b pb, Zc TBare]⟩) (by kernel_rfl) (by kernel_rfl) .nil (by kernel_rfl) ?_
  clear S; intro ac S
  refine WD.one (i := 2) (by kernel_rfl) ?_
  refine id (S.call1 (r := b.mem) (d := 5) (c_impl_copyMem w b.mem pb.mem (S.rd (RBare.mem (d := b) (S.arg hb)))) (by kernel_rfl) rfl ?_)
  clear S; intro ac w N q1 F2 S up o3 d4
  refine WD.next S up rfl ?_
  clear up d4
  refine WD.one (i := 5) (by kernel_rfl) ?_
  refine id (S.call1 (r := b.guests) (d := 8) (c_impl_copyGuests w b.guests pb.guests (S.rd (RBare.guests (d := b) (S.arg hb)))) (by kernel_rfl) rfl ?_)
  clear S; intro ac w N q5 F6 S up o7 d8
  refine WD.next S up rfl ?_
  have d9 : Disj F2 F6 := fun b x y => d8 b (o3.sub b x) y
  replace o3 := o3.up up
  clear up d8
  refine WD.one (i := 8) (by kernel_rfl) ?_
  refine id (S.call1 (r := b.outs) (d := 11) (c_impl_copyInts w b.outs pb.outs (S.rd (RBare.outs (d := b) (S.arg hb)))) (by kernel_rfl) rfl ?_)
  clear S; intro ac w N q10 F11 S up o12 d13
  refine WD.next S up rfl ?_
  have d14 : Disj F2 F11 := fun b x y => d13 b (o3.sub b x) y
  have d15 : Disj F6 F11 := fun b x y => d13 b (o7.sub b x) y
  replace o3 := o3.up up
  replace o7 := o7.up up
  clear up d13
  refine S.hoist (i := 11) (path := [11]) (keep := [2, 14]) (m := 2) (σ' := ⟨[(2, .p 1 0), (14, .v (GT.val (⟨b.mem, b.guests, b.outs, b.pend⟩ : TBare) (⟨q1, q5, q10⟩ : PBare)))], [GT.cells b pb, Zc TBare]⟩) (by kernel_rfl) (by kernel_rfl) (.cons (Q_sem (s := Instr.build 73 [(0, slv (b.mem).length q1.1), (1, slv (b.guests).length q5.1), (2, slv (b.outs).length q10.1), (3, I b.pend)].toArray) (v := .agg [slv (b.mem).length q1.1, slv (b.guests).length q5.1, slv (b.outs).length q10.1, I b.pend].toArray) (fun w => by kernel_rfl)) .nil) (by kernel_rfl) ?_
  clear S; intro ac S
  refine WD.one (i := 12) (by kernel_rfl) ?_
  refine S.stepq (i := 12) (keep := [2]) (m := 2) (σ' := ⟨[(2, .p 1 0)], [GT.cells b pb, [slv (b.mem).length q1.1, slv (b.guests).length q5.1, slv (b.outs).length q10.1, I b.pend]]⟩) .nil (by kernel_rfl) ?_
  clear S; intro ac w β S hβ
  refine WD.last (by kernel_rfl) ?_
  clear hβ
  refine WD.done (by kernel_rfl) ?_ _
  replace S := S.prune (keep := [2]) (m := 2) (σ' := ⟨[(2, .p 1 0)], [GT.cells b pb, [slv (b.mem).length q1.1, slv (b.guests).length q5.1, slv (b.outs).length q10.1, I b.pend]]⟩) (by kernel_rfl)
  refine id (nx_then (wp_ret ?_))
  refine S.ret (vs := [GT.val (⟨b.mem, b.guests, b.outs, b.pend⟩ : TBare) (⟨q1, q5, q10⟩ : PBare)]) (by kernel_rfl) ?_
  have o16 := ow_Bare (x := (⟨b.mem, b.guests, b.outs, b.pend⟩ : TBare)) (p := (⟨q1, q5, q10⟩ : PBare)) o3 o7 o12 d9 d14 d15 (RBare.pend (d := b) (S.arg hb))
  exact ret1_of S (show b = (⟨b.mem, b.guests, b.outs, b.pend⟩ : TBare) by clear S; (first | rfl | simp)) rfl o16

set_option maxRecDepth 100000 in
theorem c_impl_within (w0 : World) (n : Int) (a : Int) (b : Int) : Calls Try.prog 50 [I n, I a, I b].toArray w0 (fun e w' => e = .returned (B (f_within n a b)) ∧ Chg NoB w0 w') := by
  refine Calls.walk (args := [I n, I a, I b]) NoB Try.func50 rfl rfl ?_
  intro ac β S
  refine wp_seq (RG.start ?_)
  refine S.quiet (k := 1) (keep := [0, 1, 2]) (m := 0) (σ' := ⟨[(0, .v (I n)), (1, .v (I a)), (2, .v (I b))], []⟩) .nil (by kernel_rfl) ?_
  clear S; intro ac w β S
  refine RG.done rfl (nx_then (wp_seq (RG.start ?_)))
  refine S.quiet (k := 4) (keep := [0, 2, 10]) (m := 0) (σ' := ⟨[(0, .v (I n)), (2, .v (I b)), (10, .v (B (decide (n ≥ a))))], []⟩) .nil (by kernel_rfl) ?_
  clear S; intro ac w β S
  rcases Bool.eq_false_or_eq_true (decide (n ≥ a)) with h1 | h1 <;> rw [h1] at S
  · have g2 : n ≥ a := of_decide_eq_true h1
    refine S.quiet (k := 5) (keep := [6]) (m := 0) (σ' := ⟨[(6, .v (B (decide (n ≤ b))))], []⟩) .nil (by kernel_rfl) ?_
    clear S; intro ac w β S
    refine RG.done rfl (nx_then (wp_ret ?_))
    refine S.ret (vs := [B (decide (n ≤ b))]) (by kernel_rfl) ?_
    exact ⟨retB (show (decide (n ≤ b)) = f_within n a b by clear S; first | rfl | (simp [f_within, *]; done) | (simp [f_within, *]; omega) | (simp_all [f_within]; done) | (simp_all [f_within]; omega)), S.chg⟩
  · have g3 : ¬ (n ≥ a) := of_decide_eq_false h1
    refine S.quiet (k := 5) (keep := [6]) (m := 0) (σ' := ⟨[(6, .v (B false))], []⟩) .nil (by kernel_rfl) ?_
    clear S; intro ac w β S
    refine RG.done rfl (nx_then (wp_ret ?_))
    refine S.ret (vs := [B false]) (by kernel_rfl) ?_
    exact ⟨retB (show false = f_within n a b by clear S; first | rfl | (simp [f_within, *]; done) | (simp [f_within, *]; omega) | (simp_all [f_within]; done) | (simp_all [f_within]; omega)), S.chg⟩

set_option maxRecDepth 100000 in
theorem c_impl_InsOk (w0 : World) (i : TIns) : Calls Try.prog 160 [GT.val i ()].toArray w0 (fun e w' => e = .returned (B (f_insOk i)) ∧ Chg NoB w0 w') := by
  refine Calls.walk (args := [GT.val i ()]) NoB Try.func160 rfl rfl ?_
  intro ac β S
  refine wp_seq (RG.start ?_)
  refine S.quiet (k := 2) (keep := [1]) (m := 1) (σ' := ⟨[(1, .p 0 0)], [GT.cells i ()]⟩) .nil (by kernel_rfl) ?_
  clear S; intro ac w β S
  refine RG.done rfl (nx_then (wp_seq (wp_seq (RG.start ?_))))
  refine S.quiet (k := 2) (keep := [1, 4]) (m := 1) (σ' := ⟨[(1, .p 0 0), (4, .v (I i.opc))], [GT.cells i ()]⟩) .nil (by kernel_rfl) ?_
  clear S; intro ac w β S
  refine RG.done rfl (nx_then (wp_block (wp_seq (wp_seq (RG.start ?_)))))
  refine S.quiet (k := 2) (keep := [1, 4, 5]) (m := 1) (σ' := ⟨[(1, .p 0 0), (4, .v (I i.opc)), (5, .v (B (i.opc == 1)))], [GT.cells i ()]⟩) .nil (by kernel_rfl) ?_
  clear S; intro ac w β S
  refine RG.done rfl (nx_then ?_)
  refine S.cond (e := (i.opc == 1)) (by kernel_rfl) (fun h1 => ?_) (fun h1 => ?_)
  · rw [h1] at S
    have g2 : i.opc = 1 := eq_of_beq h1
    refine wp_skip (nx_then ?_)
    refine S.cond (e := true) (by kernel_rfl) (fun _ => ?_) (fun hx => by cases hx)
    refine wp_seq (RG.start ?_)
    refine S.quiet (k := 4) (keep := [2]) (m := 0) (σ' := ⟨[(2, .v (B (f_within i.x 0 99)))], []⟩) (.cons (Q_call fun w hw => c_impl_within w i.x 0 99) .nil) (by kernel_rfl) ?_
    clear S; intro ac w β S
    refine RG.done rfl (nx_then (wp_ret (rt_block (rt_then ?_))))
    refine S.ret (vs := [B (f_within i.x 0 99)]) (by kernel_rfl) ?_
    exact ⟨retB (show (f_within i.x 0 99) = f_insOk i by clear S; first | rfl | (simp [f_insOk, *]; done) | (simp [f_insOk, *]; omega) | (simp_all [f_insOk]; done) | (simp_all [f_insOk]; omega)), S.chg⟩
  · have g3 : ¬ (i.opc = 1) := ne_of_beq_false h1
    refine wp_seq (RG.start ?_)
    refine S.quiet (k := 2) (keep := [1, 4, 5]) (m := 1) (σ' := ⟨[(1, .p 0 0), (4, .v (I i.opc)), (5, .v (B (i.opc == 2)))], [GT.cells i ()]⟩) .nil (by kernel_rfl) ?_
    clear S; intro ac w β S
    refine RG.done rfl (nx_then ?_)
    refine S.cond (e := (i.opc == 2)) (by kernel_rfl) (fun h4 => ?_) (fun h4 => ?_)
    · rw [h4] at S
      have g5 : i.opc = 2 := eq_of_beq h4
      refine wp_skip (nx_then ?_)
      refine S.cond (e := true) (by kernel_rfl) (fun _ => ?_) (fun hx => by cases hx)
      refine wp_seq (RG.start ?_)
      refine S.quiet (k := 4) (keep := [2]) (m := 0) (σ' := ⟨[(2, .v (B (f_within i.x 0 99)))], []⟩) (.cons (Q_call fun w hw => c_impl_within w i.x 0 99) .nil) (by kernel_rfl) ?_
      clear S; intro ac w β S
      refine RG.done rfl (nx_then (wp_ret (rt_block (rt_then ?_))))
      refine S.ret (vs := [B (f_within i.x 0 99)]) (by kernel_rfl) ?_
      exact ⟨retB (show (f_within i.x 0 99) = f_insOk i by clear S; first | rfl | (simp [f_insOk, *]; done) | (simp [f_insOk, *]; omega) | (simp_all [f_insOk]; done) | (simp_all [f_insOk]; omega)), S.chg⟩
    · have g6 : ¬ (i.opc = 2) := ne_of_beq_false h4
      refine wp_seq (RG.start ?_)
      refine S.quiet (k := 2) (keep := [1, 4, 5]) (m := 1) (σ' := ⟨[(1, .p 0 0), (4, .v (I i.opc)), (5, .v (B (i.opc == 5)))], [GT.cells i ()]⟩) .nil (by kernel_rfl) ?_
      clear S; intro ac w β S
      refine RG.done rfl (nx_then ?_)
      refine S.cond (e := (i.opc == 5)) (by kernel_rfl) (fun h7 => ?_) (fun h7 => ?_)
      · rw [h7] at S
        have g8 : i.opc = 5 := eq_of_beq h7
        refine wp_skip (nx_then ?_)
        refine S.cond (e := true) (by kernel_rfl) (fun _ => ?_) (fun hx => by cases hx)
        refine wp_seq (RG.start ?_)
        refine S.quiet (k := 4) (keep := [2]) (m := 0) (σ' := ⟨[(2, .v (B (f_within i.x 0 99)))], []⟩) (.cons (Q_call fun w hw => c_impl_within w i.x 0 99) .nil) (by kernel_rfl) ?_
        clear S; intro ac w β S
        refine RG.done rfl (nx_then (wp_ret (rt_block (rt_then ?_))))
        refine S.ret (vs := [B (f_within i.x 0 99)]) (by kernel_rfl) ?_
        exact ⟨retB (show (f_within i.x 0 99) = f_insOk i by clear S; first | rfl | (simp [f_insOk, *]; done) | (simp [f_insOk, *]; omega) | (simp_all [f_insOk]; done) | (simp_all [f_insOk]; omega)), S.chg⟩
      · have g9 : ¬ (i.opc = 5) := ne_of_beq_false h7
        refine RG.start ?_
        refine S.quiet (k := 2) (keep := [1, 4, 5]) (m := 1) (σ' := ⟨[(1, .p 0 0), (4, .v (I i.opc)), (5, .v (B (i.opc == 6)))], [GT.cells i ()]⟩) .nil (by kernel_rfl) ?_
        clear S; intro ac w β S
        refine RG.done rfl (nx_then ?_)
        refine S.cond (e := (i.opc == 6)) (by kernel_rfl) (fun h10 => ?_) (fun h10 => ?_)
        · have g11 : i.opc = 6 := eq_of_beq h10
          refine wp_seq (RG.start ?_)
          refine S.quiet (k := 4) (keep := [2]) (m := 0) (σ' := ⟨[(2, .v (B (f_within i.x 0 99)))], []⟩) (.cons (Q_call fun w hw => c_impl_within w i.x 0 99) .nil) (by kernel_rfl) ?_
          clear S; intro ac w β S
          refine RG.done rfl (nx_then (wp_ret (rt_block (rt_then ?_))))
          refine S.ret (vs := [B (f_within i.x 0 99)]) (by kernel_rfl) ?_
          exact ⟨retB (show (f_within i.x 0 99) = f_insOk i by clear S; first | rfl | (simp [f_insOk, *]; done) | (simp [f_insOk, *]; omega) | (simp_all [f_insOk]; done) | (simp_all [f_insOk]; omega)), S.chg⟩
        · have g12 : ¬ (i.opc = 6) := ne_of_beq_false h10
          refine wp_seq (wp_seq (RG.start ?_))
          refine S.quiet (k := 2) (keep := [1, 4, 13]) (m := 1) (σ' := ⟨[(1, .p 0 0), (4, .v (I i.opc)), (13, .v (B (i.opc == 3)))], [GT.cells i ()]⟩) .nil (by kernel_rfl) ?_
          clear S; intro ac w β S
          refine RG.done rfl (nx_then ?_)
          refine S.cond (e := (i.opc == 3)) (by kernel_rfl) (fun h13 => ?_) (fun h13 => ?_)
          · rw [h13] at S
            have g14 : i.opc = 3 := eq_of_beq h13
            refine wp_skip (nx_then ?_)
            refine S.cond (e := true) (by kernel_rfl) (fun _ => ?_) (fun hx => by cases hx)
            refine wp_seq (RG.start ?_)
            refine S.quiet (k := 4) (keep := [2]) (m := 0) (σ' := ⟨[(2, .v (B (f_within i.x 0 15)))], []⟩) (.cons (Q_call fun w hw => c_impl_within w i.x 0 15) .nil) (by kernel_rfl) ?_
            clear S; intro ac w β S
            refine RG.done rfl (nx_then (wp_ret (rt_block (rt_then ?_))))
            refine S.ret (vs := [B (f_within i.x 0 15)]) (by kernel_rfl) ?_
            exact ⟨retB (show (f_within i.x 0 15) = f_insOk i by clear S; first | rfl | (simp [f_insOk, *]; done) | (simp [f_insOk, *]; omega) | (simp_all [f_insOk]; done) | (simp_all [f_insOk]; omega)), S.chg⟩
          · have g15 : ¬ (i.opc = 3) := ne_of_beq_false h13
            refine RG.start ?_
            refine S.quiet (k := 2) (keep := [1, 4, 13]) (m := 1) (σ' := ⟨[(1, .p 0 0), (4, .v (I i.opc)), (13, .v (B (i.opc == 4)))], [GT.cells i ()]⟩) .nil (by kernel_rfl) ?_
            clear S; intro ac w β S
            refine RG.done rfl (nx_then ?_)
            refine S.cond (e := (i.opc == 4)) (by kernel_rfl) (fun h16 => ?_) (fun h16 => ?_)
            · have g17 : i.opc = 4 := eq_of_beq h16
              refine wp_seq (RG.start ?_)
              refine S.quiet (k := 4) (keep := [2]) (m := 0) (σ' := ⟨[(2, .v (B (f_within i.x 0 15)))], []⟩) (.cons (Q_call fun w hw => c_impl_within w i.x 0 15) .nil) (by kernel_rfl) ?_
              clear S; intro ac w β S
              refine RG.done rfl (nx_then (wp_ret (rt_block (rt_then ?_))))
              refine S.ret (vs := [B (f_within i.x 0 15)]) (by kernel_rfl) ?_
              exact ⟨retB (show (f_within i.x 0 15) = f_insOk i by clear S; first | rfl | (simp [f_insOk, *]; done) | (simp [f_insOk, *]; omega) | (simp_all [f_insOk]; done) | (simp_all [f_insOk]; omega)), S.chg⟩
            · have g18 : ¬ (i.opc = 4) := ne_of_beq_false h16
              refine wp_seq (RG.start ?_)
              refine S.quiet (k := 2) (keep := [1, 4, 19]) (m := 1) (σ' := ⟨[(1, .p 0 0), (4, .v (I i.opc)), (19, .v (B (i.opc == 7)))], [GT.cells i ()]⟩) .nil (by kernel_rfl) ?_
              clear S; intro ac w β S
              refine RG.done rfl (nx_then ?_)
              refine S.cond (e := (i.opc == 7)) (by kernel_rfl) (fun h19 => ?_) (fun h19 => ?_)
              · have g20 : i.opc = 7 := eq_of_beq h19
                refine wp_seq (RG.start ?_)
                refine S.quiet (k := 4) (keep := [2]) (m := 0) (σ' := ⟨[(2, .v (B (i.x == 0)))], []⟩) .nil (by kernel_rfl) ?_
                clear S; intro ac w β S
                refine RG.done rfl (nx_then (wp_ret (rt_block (rt_then ?_))))
                refine S.ret (vs := [B (i.x == 0)]) (by kernel_rfl) ?_
                exact ⟨retB (show (i.x == 0) = f_insOk i by clear S; first | rfl | (simp [f_insOk, *]; done) | (simp [f_insOk, *]; omega) | (simp_all [f_insOk]; done) | (simp_all [f_insOk]; omega)), S.chg⟩
              · have g21 : ¬ (i.opc = 7) := ne_of_beq_false h19
                refine wp_seq (RG.start ?_)
                refine S.quiet (k := 2) (keep := [1, 24]) (m := 1) (σ' := ⟨[(1, .p 0 0), (24, .v (B (i.opc == 8)))], [GT.cells i ()]⟩) .nil (by kernel_rfl) ?_
                clear S; intro ac w β S
                refine RG.done rfl (nx_then ?_)
                refine S.cond (e := (i.opc == 8)) (by kernel_rfl) (fun h22 => ?_) (fun h22 => ?_)
                · have g23 : i.opc = 8 := eq_of_beq h22
                  refine wp_seq (RG.start ?_)
                  refine S.quiet (k := 4) (keep := [2]) (m := 0) (σ' := ⟨[(2, .v (B (f_within i.x 0 11)))], []⟩) (.cons (Q_call fun w hw => c_impl_within w i.x 0 11) .nil) (by kernel_rfl) ?_
                  clear S; intro ac w β S
                  refine RG.done rfl (nx_then (wp_ret (rt_block (rt_then ?_))))
                  refine S.ret (vs := [B (f_within i.x 0 11)]) (by kernel_rfl) ?_
                  exact ⟨retB (show (f_within i.x 0 11) = f_insOk i by clear S; first | rfl | (simp [f_insOk, *]; done) | (simp [f_insOk, *]; omega) | (simp_all [f_insOk]; done) | (simp_all [f_insOk]; omega)), S.chg⟩
                · have g24 : ¬ (i.opc = 8) := ne_of_beq_false h22
                  refine wp_skip (nx_block (nx_then (wp_seq (RG.start ?_))))
                  refine S.quiet (k := 1) (keep := [2]) (m := 0) (σ' := ⟨[(2, .v (B false))], []⟩) .nil (by kernel_rfl) ?_
                  clear S; intro ac w β S
                  refine RG.done rfl (nx_then (wp_ret ?_))
                  refine S.ret (vs := [B false]) (by kernel_rfl) ?_
                  exact ⟨retB (show false = f_insOk i by clear S; first | rfl | (simp [f_insOk, *]; done) | (simp [f_insOk, *]; omega) | (simp_all [f_insOk]; done) | (simp_all [f_insOk]; omega)), S.chg⟩

set_option maxRecDepth 100000 in
theorem c_impl_ProgOk (w0 : World) (p : List TIns) (pp : LP TIns) (hp : GT.rd KK (Lt w0.heap.size) w0 p pp) : Calls Try.prog 135 [slv (p).length pp.1].toArray w0 (fun e w' => e = .returned (B (f_progOk p)) ∧ Chg NoB w0 w') := by
  refine Calls.walk (args := [slv (p).length pp.1]) NoB Try.func135 rfl rfl ?_
  intro ac β S
  have hlep : p.length ≤ 4194304 := LRd.le hp
  refine wp_seq (RG.start ?_)
  refine S.quiet (k := 1) (keep := [0]) (m := 0) (σ' := ⟨[(0, .v (slv (p).length pp.1))], []⟩) .nil (by kernel_rfl) ?_
  clear S; intro ac w β S
  refine RG.done rfl (nx_then (wp_seq (wp_seq (RG.start ?_))))
  refine S.quiet (k := 3) (keep := [0, 5, 6, 7]) (m := 0) (σ' := ⟨[(0, .v (slv (p).length pp.1)), (5, .v (slv (p).length pp.1)), (6, .v (I ((p).length : Int))), (7, .v (I 0))], []⟩) .nil (by kernel_rfl) ?_
  clear S; intro ac w β S
  refine RG.done rfl (nx_then (wp_block ?_))
  replace S := S.prune (keep := [0, 5, 6, 7]) (m := 0) (σ' := ⟨[(0, .v (slv (p).length pp.1)), (5, .v (slv (p).length pp.1)), (6, .v (I ((p).length : Int))), (7, .v (I 0))], []⟩) (by kernel_rfl)
  refine wp_loop_down (fun mm ac w => ∃ (k : Nat)  (u : World) (N : Bl) (β : Nat → Nat), mm = (p).length - k ∧ (k ≤ (p).length) ∧ (((p).take k).all f_insOk = true) ∧ St Try.prog Try.f135.ntmps w0 NoB u N β ⟨[(0, .v (slv (p).length pp.1)), (5, .v (slv (p).length pp.1)), (6, .v (I ((p).length : Int))), (7, .v (I (k : Int)))], []⟩ ac w) _ ⟨0, _, _, _, rfl, (by first | omega | (simp; done) | (simp; omega)), (by simp), S.cast (by kernel_rfl)⟩ ?_
  clear S
  rintro mm ac w ⟨k, u, N, β, rfl, hk, he, S⟩
  refine wp_seq (RG.start ?_)
  refine S.quiet (k := 1) (keep := [0, 5, 6, 7, 8]) (m := 0) (σ' := ⟨[(0, .v (slv (p).length pp.1)), (5, .v (slv (p).length pp.1)), (6, .v (I ((p).length : Int))), (7, .v (I (k : Int))), (8, .v (B (decide ((k : Int) < ((p).length : Int)))))], []⟩) .nil (by kernel_rfl) ?_
  clear S; intro ac w β S
  refine RG.done rfl (nx_then (wp_seq ?_))
  refine S.cond (e := (decide ((k : Int) < ((p).length : Int)))) (by kernel_rfl) (fun h1 => ?_) (fun h1 => ?_)
  · have g2 : (k : Int) < ((p).length : Int) := of_decide_eq_true h1
    refine wp_skip (nx_then (wp_seq (wp_block (wp_seq (RG.start ?_)))))
    refine S.quiet (k := 4) (keep := [0, 4, 5, 6, 7]) (m := 1) (σ' := ⟨[(0, .v (slv (p).length pp.1)), (4, .p 0 0), (5, .v (slv (p).length pp.1)), (6, .v (I ((p).length : Int))), (7, .v (I (k : Int)))], [GT.cells (el p k) ()]⟩) (.cons (Q_idx (S.arg hp) (l := (p).length) (k := k) (i := (k : Int)) rfl rfl (by omega) Try.underlying28 (by kernel_rfl)) (.cons (Q_el (S.arg hp) (t := 27) (k := k) (by omega) rfl (by kernel_rfl) (by kernel_rfl)) .nil)) (by kernel_rfl) ?_
    clear S; intro ac w β S
    refine RG.done rfl (nx_then (wp_seq (RG.start ?_)))
    refine S.quiet (k := 3) (keep := [0, 5, 6, 7, 13]) (m := 0) (σ' := ⟨[(0, .v (slv (p).length pp.1)), (5, .v (slv (p).length pp.1)), (6, .v (I ((p).length : Int))), (7, .v (I (k : Int))), (13, .v (B (!(f_insOk (el p k)))))], []⟩) (.cons (Q_call fun w hw => c_impl_InsOk w (el p k)) .nil) (by kernel_rfl) ?_
    clear S; intro ac w β S
    refine RG.done rfl (nx_then ?_)
    refine S.cond (e := (!(f_insOk (el p k)))) (by kernel_rfl) (fun h3 => ?_) (fun h3 => ?_)
    · have h4 : (f_insOk (el p k)) = false := not_t h3
      refine wp_seq (RG.start ?_)
      refine S.quiet (k := 1) (keep := [2]) (m := 0) (σ' := ⟨[(2, .v (B false))], []⟩) .nil (by kernel_rfl) ?_
      clear S; intro ac w β S
      refine RG.done rfl (nx_then (wp_ret (rt_block (rt_then (rt_then (rt_block (rt_then ?_)))))))
      refine S.ret (vs := [B false]) (by kernel_rfl) ?_
      exact ⟨retB (show false = f_progOk p by clear S; (first | rfl | (unfold f_progOk; rw [all_end (by omega) he]; simp; done) | (unfold f_progOk; rw [all_bad (k := k) (by omega) (by first | assumption | (simp_all <;> fail))]; simp; done) | (unfold f_progOk; rw [all_end (by omega) he]; simp [*]; done) | (unfold f_progOk; rw [all_end (by omega) he]; simp; omega))), S.chg⟩
    · have h5 : (f_insOk (el p k)) = true := not_f h3
      refine wp_skip (nx_block (nx_then (RG.start ?_)))
      refine S.quiet (k := 2) (keep := [0, 5, 6, 7]) (m := 0) (σ' := ⟨[(0, .v (slv (p).length pp.1)), (5, .v (slv (p).length pp.1)), (6, .v (I ((p).length : Int))), (7, .v (I ((k : Int) + 1)))], []⟩) (.cons (Q_add (x := (k : Int)) (y := 1) ⟨by omega, by omega⟩) .nil) (by kernel_rfl) ?_
      clear S; intro ac w β S
      refine RG.done rfl (nx_then ?_)
      replace S := S.prune (keep := [0, 5, 6, 7]) (m := 0) (σ' := ⟨[(0, .v (slv (p).length pp.1)), (5, .v (slv (p).length pp.1)), (6, .v (I ((p).length : Int))), (7, .v (I ((k : Int) + 1)))], []⟩) (by kernel_rfl)
      refine ⟨(p).length - (k + 1), by omega, k + 1, _, _, _, rfl, ?_, ?_, S.cast (by kernel_rfl)⟩
      · clear S; first | omega | (simp [*]; done) | (simp [*]; omega)
      · clear S; exact all_step (by omega) he (by first | assumption | (simp only [f_slotOk, f_within] at *; simp_all; done) | (simp_all; done) | (simp_all; omega))
  · have g6 : ¬ ((k : Int) < ((p).length : Int)) := of_decide_eq_false h1
    refine wp_exit (ex_then (ex_then (ex_hit (nx_then (wp_seq (RG.start ?_))))))
    refine S.quiet (k := 4) (keep := [2]) (m := 0) (σ' := ⟨[(2, .v (B (f_within ((p).length : Int) 1 12)))], []⟩) (.cons (Q_call fun w hw => c_impl_within w ((p).length : Int) 1 12) .nil) (by kernel_rfl) ?_
    clear S; intro ac w β S
    refine RG.done rfl (nx_then (wp_ret ?_))
    refine S.ret (vs := [B (f_within ((p).length : Int) 1 12)]) (by kernel_rfl) ?_
    exact ⟨retB (show (f_within ((p).length : Int) 1 12) = f_progOk p by clear S; (first | rfl | (unfold f_progOk; rw [all_end (by omega) he]; simp; done) | (unfold f_progOk; rw [all_bad (k := k) (by omega) (by first | assumption | (simp_all <;> fail))]; simp; done) | (unfold f_progOk; rw [all_end (by omega) he]; simp [*]; done) | (unfold f_progOk; rw [all_end (by omega) he]; simp; omega))), S.chg⟩

set_option maxRecDepth 100000 in
theorem c_impl_NoSlot (w0 : World)  : Calls Try.prog 62 [].toArray w0 (fun e w' => e = .returned (GT.val (⟨-1, 0⟩ : TSlot) ()) ∧ Chg NoB w0 w') := by
  refine Calls.walk (args := []) NoB Try.func62 rfl rfl ?_
  intro ac β S
  refine wp_seq (RG.start ?_)
  refine S.quiet (k := 1) (keep := [0]) (m := 1) (σ' := ⟨[(0, .p 0 0)], [Zc TSlot]⟩) .nil (by kernel_rfl) ?_
  clear S; intro ac w β S
  refine RG.done rfl (nx_then (wp_seq (RG.start ?_)))
  refine S.quiet (k := 2) (keep := [0]) (m := 1) (σ' := ⟨[(0, .p 0 0)], [[I (-1), I 0]]⟩) (.cons (Q_sem (s := Instr.build 54 [(0, I (-1))].toArray) (v := .agg [I (-1), I 0].toArray) (fun w => by kernel_rfl)) .nil) (by kernel_rfl) ?_
  clear S; intro ac w β S
  refine RG.done rfl (nx_then (wp_ret ?_))
  refine S.ret (vs := [GT.val (⟨(-1), 0⟩ : TSlot) ()]) (by kernel_rfl) ?_
  exact ⟨retV (p := ()) (show (⟨(-1), 0⟩ : TSlot) = (⟨-1, 0⟩ : TSlot) by clear S; first | rfl | (simp [id, *]; done) | (simp [id, *]; omega) | (simp_all [id]; done) | (simp_all [id]; omega)), S.chg⟩

set_option maxRecDepth 100000 in
theorem c_impl_SlotOk (w0 : World) (s : TSlot) (pages : Int) (pre0 : 0 ≤ pages) (pre1 : pages ≤ 1000) : Calls Try.prog 134 [GT.val s (), I pages].toArray w0 (fun e w' => e = .returned (B (f_slotOk s pages)) ∧ Chg NoB w0 w') := by
  refine Calls.walk (args := [GT.val s (), I pages]) NoB Try.func134 rfl rfl ?_
  intro ac β S
  refine wp_seq (RG.start ?_)
  refine S.quiet (k := 2) (keep := [1, 2]) (m := 1) (σ' := ⟨[(1, .v (I pages)), (2, .p 0 0)], [GT.cells s ()]⟩) .nil (by kernel_rfl) ?_
  clear S; intro ac w β S
  refine RG.done rfl (nx_then (wp_seq ?_))
  rcases Bool.eq_false_or_eq_true (decide (s = ((⟨-1, 0⟩ : TSlot)))) with h1 | h1
  · refine S.drawnO [(3, true)] (keep := [4]) (m := 0) (σ' := ⟨[(4, .v (B true))], []⟩) (.cons (Q_call fun w hw => c_impl_NoSlot w ) (.cons (Eq_eq_Slot (t := 54) s ((⟨-1, 0⟩ : TSlot)) (by kernel_rfl)) .nil)) rfl (by kernel_rfl) (by kernel_rfl) (.cons h1 .nil) ?_
    clear S; intro ac w S
    refine id (nx_then (wp_ret ?_))
    refine S.ret (vs := [B true]) (by kernel_rfl) ?_
    exact ⟨retB (show true = f_slotOk s pages by clear S; first | rfl | (simp [f_slotOk, *]; done) | (simp [f_slotOk, *]; omega) | (simp_all [f_slotOk]; done) | (simp_all [f_slotOk]; omega)), S.chg⟩
  · rcases Bool.eq_false_or_eq_true (decide (pages > 0)) with h2 | h2
    · have g3 : pages > 0 := of_decide_eq_true h2
      rcases Bool.eq_false_or_eq_true (f_within s.page 0 (pages - 1)) with h4 | h4
      · have g5 := within_t h4
        refine S.drawnO [(3, false), (6, true), (13, true)] (keep := [4]) (m := 0) (σ' := ⟨[(4, .v (B (f_within s.rights 1 3)))], []⟩) (.cons (Q_call fun w hw => c_impl_NoSlot w ) (.cons (Eq_eq_Slot (t := 54) s ((⟨-1, 0⟩ : TSlot)) (by kernel_rfl)) (.cons (Q_sub (x := pages) (y := 1) ⟨by omega, by omega⟩) (.cons (Q_call fun w hw => c_impl_within w s.page 0 (pages - 1)) (.cons (Q_call fun w hw => c_impl_within w s.rights 1 3) .nil))))) rfl (by kernel_rfl) (by kernel_rfl) (.cons h1 (.cons h2 (.cons h4 .nil))) ?_
        clear S; intro ac w S
        refine id (nx_then (wp_ret ?_))
        refine S.ret (vs := [B (f_within s.rights 1 3)]) (by kernel_rfl) ?_
        exact ⟨retB (show (f_within s.rights 1 3) = f_slotOk s pages by clear S; first | rfl | (simp [f_slotOk, *]; done) | (simp [f_slotOk, *]; omega) | (simp_all [f_slotOk]; done) | (simp_all [f_slotOk]; omega)), S.chg⟩
      · have g6 := within_f h4
        refine S.drawnO [(3, false), (6, true), (13, false)] (keep := [4]) (m := 0) (σ' := ⟨[(4, .v (B false))], []⟩) (.cons (Q_call fun w hw => c_impl_NoSlot w ) (.cons (Eq_eq_Slot (t := 54) s ((⟨-1, 0⟩ : TSlot)) (by kernel_rfl)) (.cons (Q_sub (x := pages) (y := 1) ⟨by omega, by omega⟩) (.cons (Q_call fun w hw => c_impl_within w s.page 0 (pages - 1)) .nil)))) rfl (by kernel_rfl) (by kernel_rfl) (.cons h1 (.cons h2 (.cons h4 .nil))) ?_
        clear S; intro ac w S
        refine id (nx_then (wp_ret ?_))
        refine S.ret (vs := [B false]) (by kernel_rfl) ?_
        exact ⟨retB (show false = f_slotOk s pages by clear S; first | rfl | (simp [f_slotOk, *]; done) | (simp [f_slotOk, *]; omega) | (simp_all [f_slotOk]; done) | (simp_all [f_slotOk]; omega)), S.chg⟩
    · have g7 : ¬ (pages > 0) := of_decide_eq_false h2
      refine S.drawnO [(3, false), (6, false)] (keep := [4]) (m := 0) (σ' := ⟨[(4, .v (B false))], []⟩) (.cons (Q_call fun w hw => c_impl_NoSlot w ) (.cons (Eq_eq_Slot (t := 54) s ((⟨-1, 0⟩ : TSlot)) (by kernel_rfl)) .nil)) rfl (by kernel_rfl) (by kernel_rfl) (.cons h1 (.cons h2 .nil)) ?_
      clear S; intro ac w S
      refine id (nx_then (wp_ret ?_))
      refine S.ret (vs := [B false]) (by kernel_rfl) ?_
      exact ⟨retB (show false = f_slotOk s pages by clear S; first | rfl | (simp [f_slotOk, *]; done) | (simp [f_slotOk, *]; omega) | (simp_all [f_slotOk]; done) | (simp_all [f_slotOk]; omega)), S.chg⟩

set_option maxRecDepth 100000 in
theorem c_impl_TableOk (w0 : World) (t : List TSlot) (pt : LP TSlot) (ht : GT.rd KK (Lt w0.heap.size) w0 t pt) (size : Int) (pages : Int) (pre0 : 0 ≤ pages) (pre1 : pages ≤ 1000) : Calls Try.prog 100 [slv (t).length pt.1, I size, I pages].toArray w0 (fun e w' => e = .returned (B (f_tableOk t size pages)) ∧ Chg NoB w0 w') := by
  refine Calls.walk (args := [slv (t).length pt.1, I size, I pages]) NoB Try.func100 rfl rfl ?_
  intro ac β S
  have hlet : t.length ≤ 4194304 := LRd.le ht
  refine wp_seq (RG.start ?_)
  refine S.quiet (k := 1) (keep := [0, 1, 2]) (m := 0) (σ' := ⟨[(0, .v (slv (t).length pt.1)), (1, .v (I size)), (2, .v (I pages))], []⟩) .nil (by kernel_rfl) ?_
  clear S; intro ac w β S
  refine RG.done rfl (nx_then (wp_seq (wp_seq (RG.start ?_))))
  refine S.quiet (k := 3) (keep := [0, 1, 2, 9, 10, 11]) (m := 0) (σ' := ⟨[(0, .v (slv (t).length pt.1)), (1, .v (I size)), (2, .v (I pages)), (9, .v (slv (t).length pt.1)), (10, .v (I ((t).length : Int))), (11, .v (I 0))], []⟩) .nil (by kernel_rfl) ?_
  clear S; intro ac w β S
  refine RG.done rfl (nx_then (wp_block ?_))
  replace S := S.prune (keep := [0, 1, 2, 9, 10, 11]) (m := 0) (σ' := ⟨[(0, .v (slv (t).length pt.1)), (1, .v (I size)), (2, .v (I pages)), (9, .v (slv (t).length pt.1)), (10, .v (I ((t).length : Int))), (11, .v (I 0))], []⟩) (by kernel_rfl)
  refine wp_loop_down (fun mm ac w => ∃ (k : Nat)  (u : World) (N : Bl) (β : Nat → Nat), mm = (t).length - k ∧ (k ≤ (t).length) ∧ (((t).take k).all (fun s => f_slotOk s pages) = true) ∧ St Try.prog Try.f100.ntmps w0 NoB u N β ⟨[(0, .v (slv (t).length pt.1)), (1, .v (I size)), (2, .v (I pages)), (9, .v (slv (t).length pt.1)), (10, .v (I ((t).length : Int))), (11, .v (I (k : Int)))], []⟩ ac w) _ ⟨0, _, _, _, rfl, (by first | omega | (simp; done) | (simp; omega)), (by simp), S.cast (by kernel_rfl)⟩ ?_
  clear S
  rintro mm ac w ⟨k, u, N, β, rfl, hk, he, S⟩
  refine wp_seq (RG.start ?_)
  refine S.quiet (k := 1) (keep := [0, 1, 2, 9, 10, 11, 12]) (m := 0) (σ' := ⟨[(0, .v (slv (t).length pt.1)), (1, .v (I size)), (2, .v (I pages)), (9, .v (slv (t).length pt.1)), (10, .v (I ((t).length : Int))), (11, .v (I (k : Int))), (12, .v (B (decide ((k : Int) < ((t).length : Int)))))], []⟩) .nil (by kernel_rfl) ?_
  clear S; intro ac w β S
  refine RG.done rfl (nx_then (wp_seq ?_))
  refine S.cond (e := (decide ((k : Int) < ((t).length : Int)))) (by kernel_rfl) (fun h1 => ?_) (fun h1 => ?_)
  · have g2 : (k : Int) < ((t).length : Int) := of_decide_eq_true h1
    refine wp_skip (nx_then (wp_seq (wp_block (wp_seq (RG.start ?_)))))
    refine S.quiet (k := 4) (keep := [0, 1, 2, 8, 9, 10, 11]) (m := 1) (σ' := ⟨[(0, .v (slv (t).length pt.1)), (1, .v (I size)), (2, .v (I pages)), (8, .p 0 0), (9, .v (slv (t).length pt.1)), (10, .v (I ((t).length : Int))), (11, .v (I (k : Int)))], [GT.cells (el t k) ()]⟩) (.cons (Q_idx (S.arg ht) (l := (t).length) (k := k) (i := (k : Int)) rfl rfl (by omega) Try.underlying37 (by kernel_rfl)) (.cons (Q_el (S.arg ht) (t := 54) (k := k) (by omega) rfl (by kernel_rfl) (by kernel_rfl)) .nil)) (by kernel_rfl) ?_
    clear S; intro ac w β S
    refine RG.done rfl (nx_then (wp_seq (RG.start ?_)))
    refine S.quiet (k := 4) (keep := [0, 1, 2, 9, 10, 11, 18]) (m := 0) (σ' := ⟨[(0, .v (slv (t).length pt.1)), (1, .v (I size)), (2, .v (I pages)), (9, .v (slv (t).length pt.1)), (10, .v (I ((t).length : Int))), (11, .v (I (k : Int))), (18, .v (B (!(f_slotOk (el t k) pages))))], []⟩) (.cons (Q_call fun w hw => c_impl_SlotOk w (el t k) pages (by omega) (by omega)) .nil) (by kernel_rfl) ?_
    clear S; intro ac w β S
    refine RG.done rfl (nx_then ?_)
    refine S.cond (e := (!(f_slotOk (el t k) pages))) (by kernel_rfl) (fun h3 => ?_) (fun h3 => ?_)
    · have h4 : (f_slotOk (el t k) pages) = false := not_t h3
      refine wp_seq (RG.start ?_)
      refine S.quiet (k := 1) (keep := [6]) (m := 0) (σ' := ⟨[(6, .v (B false))], []⟩) .nil (by kernel_rfl) ?_
      clear S; intro ac w β S
      refine RG.done rfl (nx_then (wp_ret (rt_block (rt_then (rt_then (rt_block (rt_then ?_)))))))
      refine S.ret (vs := [B false]) (by kernel_rfl) ?_
      exact ⟨retB (show false = f_tableOk t size pages by clear S; (first | rfl | (unfold f_tableOk; rw [all_end (by omega) he]; simp; done) | (unfold f_tableOk; rw [all_bad (k := k) (by omega) (by first | assumption | (simp_all <;> fail))]; simp; done) | (unfold f_tableOk; rw [all_end (by omega) he]; simp [*]; done) | (unfold f_tableOk; rw [all_end (by omega) he]; simp; omega))), S.chg⟩
    · have h5 : (f_slotOk (el t k) pages) = true := not_f h3
      refine wp_skip (nx_block (nx_then (RG.start ?_)))
      refine S.quiet (k := 2) (keep := [0, 1, 2, 9, 10, 11]) (m := 0) (σ' := ⟨[(0, .v (slv (t).length pt.1)), (1, .v (I size)), (2, .v (I pages)), (9, .v (slv (t).length pt.1)), (10, .v (I ((t).length : Int))), (11, .v (I ((k : Int) + 1)))], []⟩) (.cons (Q_add (x := (k : Int)) (y := 1) ⟨by omega, by omega⟩) .nil) (by kernel_rfl) ?_
      clear S; intro ac w β S
      refine RG.done rfl (nx_then ?_)
      replace S := S.prune (keep := [0, 1, 2, 9, 10, 11]) (m := 0) (σ' := ⟨[(0, .v (slv (t).length pt.1)), (1, .v (I size)), (2, .v (I pages)), (9, .v (slv (t).length pt.1)), (10, .v (I ((t).length : Int))), (11, .v (I ((k : Int) + 1)))], []⟩) (by kernel_rfl)
      refine ⟨(t).length - (k + 1), by omega, k + 1, _, _, _, rfl, ?_, ?_, S.cast (by kernel_rfl)⟩
      · clear S; first | omega | (simp [*]; done) | (simp [*]; omega)
      · clear S; exact all_step (by omega) he (by first | assumption | (simp only [f_slotOk, f_within] at *; simp_all; done) | (simp_all; done) | (simp_all; omega))
  · have g6 : ¬ ((k : Int) < ((t).length : Int)) := of_decide_eq_false h1
    refine wp_exit (ex_then (ex_then (ex_hit (nx_then (wp_seq (RG.start ?_))))))
    refine S.quiet (k := 5) (keep := [6]) (m := 0) (σ' := ⟨[(6, .v (B (((t).length : Int) == size)))], []⟩) .nil (by kernel_rfl) ?_
    clear S; intro ac w β S
    refine RG.done rfl (nx_then (wp_ret ?_))
    refine S.ret (vs := [B (((t).length : Int) == size)]) (by kernel_rfl) ?_
    exact ⟨retB (show (((t).length : Int) == size) = f_tableOk t size pages by clear S; (first | rfl | (unfold f_tableOk; rw [all_end (by omega) he]; simp; done) | (unfold f_tableOk; rw [all_bad (k := k) (by omega) (by first | assumption | (simp_all <;> fail))]; simp; done) | (unfold f_tableOk; rw [all_end (by omega) he]; simp [*]; done) | (unfold f_tableOk; rw [all_end (by omega) he]; simp; omega))), S.chg⟩

set_option maxRecDepth 100000 in
theorem c_impl_CtlFaults (w0 : World) (c : TCtl) : Calls Try.prog 161 [GT.val c ()].toArray w0 (Ret1 NoB w0 (f_ctlFaults c : List Int)) := by
  refine Calls.walk (args := [GT.val c ()]) NoB Try.func161 rfl rfl ?_
  intro ac β S
  refine wp_seq (RG.start ?_)
  refine S.quiet (k := 2) (keep := [1]) (m := 1) (σ' := ⟨[(1, .p 0 0)], [GT.cells c ()]⟩) .nil (by kernel_rfl) ?_
  clear S; intro ac w β S
  refine RG.done rfl (nx_then (wp_seq (RG.start ?_)))
  refine RG.op rfl (S.bs0 (α := Int) (d := 4) (by kernel_rfl) ?_)
  clear S; intro ac w N q1 F2 S up o3 d4
  clear up d4
  refine S.quiet (k := 1) (keep := [1, 3]) (m := 1) (σ' := ⟨[(1, .p 0 0), (3, .v (slv 0 q1.1))], [GT.cells c ()]⟩) .nil (by kernel_rfl) ?_
  clear S; intro ac w β S
  refine RG.done rfl (nx_then (wp_seq (wp_seq (RG.start ?_))))
  refine S.quiet (k := 4) (keep := [1, 3, 8]) (m := 1) (σ' := ⟨[(1, .p 0 0), (3, .v (slv 0 q1.1)), (8, .v (B (!(f_within c.traps 0 3))))], [GT.cells c ()]⟩) (.cons (Q_call fun w hw => c_impl_within w c.traps 0 3) .nil) (by kernel_rfl) ?_
  clear S; intro ac w β S
  refine RG.done rfl (nx_then ?_)
  refine wp_region_cut (fun ac w => ∃ (acc1 : List Int) (q5 : GT.Ptr (List Int)) (F6 : Bl) (u : World) (N : Bl) (β : Nat → Nat), (acc1 = (if f_within c.traps 0 3 then [] else [1])) ∧ St Try.prog Try.f161.ntmps w0 NoB u N β ⟨[(1, .p 0 0), (3, .v (slv (acc1).length q5.1))], [GT.cells c ()]⟩ ac w ∧ Ow w0 NoB u N F6 acc1 q5) ?_ ?_
  · refine S.cond (e := (!(f_within c.traps 0 3))) (by kernel_rfl) (fun h8 => ?_) (fun h8 => ?_)
    · have h9 : (f_within c.traps 0 3) = false := not_t h8
      have g10 := within_f h9
      refine RG.start ?_
      refine S.quiet (k := 1) (keep := [1, 9]) (m := 1) (σ' := ⟨[(1, .p 0 0), (9, .v (slv 0 q1.1))], [GT.cells c ()]⟩) .nil (by kernel_rfl) ?_
      clear S; intro ac w β S
      refine RG.op rfl (S.bs1 (α := Int) (x := 1) (p := ()) (F := NoB) (show In64 1 from ⟨by decide, by decide⟩) (fun b h => False.elim h) (fun b h => False.elim h) (d := 10) (by kernel_rfl) ?_)
      clear S; intro ac w N q11 F12 S up o13 d14
      have d15 : Disj F2 F12 := d14 _ (fun b _ h => False.elim h) o3.sub
      replace o3 := o3.up up
      clear up d14
      refine RG.op rfl (S.appFlat (α := Int) o3 (o13.rn) (fun _ _ h => h) (by' := 8) (d := 11) (lx := 0) (ly := 1) rfl rfl (by kernel_rfl) (show _ ≤ 4194304 by simp only [List.length_append, List.length_cons, List.length_nil]; omega) ?_)
      clear S; intro ac w N q16 F17 S up o18 d19
      have d20 : Disj F12 F17 := d19 _ (Disj.symm d15) o13.sub
      replace o13 := o13.upF (Disj.symm d15) up
      clear up d19
      refine S.quiet (k := 1) (keep := [1, 3]) (m := 1) (σ' := ⟨[(1, .p 0 0), (3, .v (slv ((([] : List Int) ++ [1])).length q16.1))], [GT.cells c ()]⟩) .nil (by kernel_rfl) ?_
      clear S; intro ac w β S
      refine RG.done rfl ?_
      replace S := S.prune (keep := [1, 3]) (m := 1) (σ' := ⟨[(1, .p 0 0), (3, .v (slv ((([] : List Int) ++ [1])).length q16.1))], [GT.cells c ()]⟩) (by kernel_rfl)
      exact ⟨rfl, (([] : List Int) ++ [1]), q16, F17, _, _, _, (by clear S; (first | (rw [if_pos (by assumption)]; simp [*]; done) | (rw [if_neg (by simp [*])]; simp [*]; done) | ((repeat' split) <;> first | rfl | (simp; done) | (exfalso; simp_all; done) | (simp_all; done)))), S.cast (by kernel_rfl), o18⟩
    · have h21 : (f_within c.traps 0 3) = true := not_f h8
      have g22 := within_t h21
      refine wp_skip ?_
      replace S := S.prune (keep := [1, 3]) (m := 1) (σ' := ⟨[(1, .p 0 0), (3, .v (slv 0 q1.1))], [GT.cells c ()]⟩) (by kernel_rfl)
      exact ⟨rfl, ([] : List Int), q1, F2, _, _, _, (by clear S; (first | (rw [if_pos (by assumption)]; simp [*]; done) | (rw [if_neg (by simp [*])]; simp [*]; done) | ((repeat' split) <;> first | rfl | (simp; done) | (exfalso; simp_all; done) | (simp_all; done)))), S.cast (by kernel_rfl), o3⟩
  clear S o3
  rintro ac w ⟨acc1, q5, F6, u, N, β, ha1, S, o7⟩
  have hl1 : acc1.length ≤ 1 := by rw [ha1]; (repeat' split) <;> simp
  refine id (nx_then (wp_seq (wp_seq (RG.start ?_))))
  refine S.quiet (k := 4) (keep := [1, 3, 15]) (m := 1) (σ' := ⟨[(1, .p 0 0), (3, .v (slv (acc1).length q5.1)), (15, .v (B (!(f_within c.post 0 255))))], [GT.cells c ()]⟩) (.cons (Q_call fun w hw => c_impl_within w c.post 0 255) .nil) (by kernel_rfl) ?_
  clear S; intro ac w β S
  refine RG.done rfl (nx_then ?_)
  refine wp_region_cut (fun ac w => ∃ (acc2 : List Int) (q23 : GT.Ptr (List Int)) (F24 : Bl) (u : World) (N : Bl) (β : Nat → Nat), (acc2 = (if f_within c.traps 0 3 then [] else [1]) ++ (if f_within c.post 0 255 then [] else [2])) ∧ St Try.prog Try.f161.ntmps w0 NoB u N β ⟨[(1, .p 0 0), (3, .v (slv (acc2).length q23.1))], [GT.cells c ()]⟩ ac w ∧ Ow w0 NoB u N F24 acc2 q23) ?_ ?_
  · refine S.cond (e := (!(f_within c.post 0 255))) (by kernel_rfl) (fun h26 => ?_) (fun h26 => ?_)
    · have h27 : (f_within c.post 0 255) = false := not_t h26
      have g28 := within_f h27
      refine RG.start ?_
      refine S.quiet (k := 1) (keep := [1, 16]) (m := 1) (σ' := ⟨[(1, .p 0 0), (16, .v (slv (acc1).length q5.1))], [GT.cells c ()]⟩) .nil (by kernel_rfl) ?_
      clear S; intro ac w β S
      refine RG.op rfl (S.bs1 (α := Int) (x := 2) (p := ()) (F := NoB) (show In64 2 from ⟨by decide, by decide⟩) (fun b h => False.elim h) (fun b h => False.elim h) (d := 17) (by kernel_rfl) ?_)
      clear S; intro ac w N q29 F30 S up o31 d32
      have d33 : Disj F6 F30 := d32 _ (fun b _ h => False.elim h) o7.sub
      replace o7 := o7.up up
      clear up d32
      refine RG.op rfl (S.appFlat (α := Int) o7 (o31.rn) (fun _ _ h => h) (by' := 8) (d := 18) (lx := (acc1).length) (ly := 1) rfl rfl (by kernel_rfl) (show _ ≤ 4194304 by simp only [List.length_append, List.length_cons, List.length_nil]; omega) ?_)
      clear S; intro ac w N q34 F35 S up o36 d37
      have d38 : Disj F30 F35 := d37 _ (Disj.symm d33) o31.sub
      replace o31 := o31.upF (Disj.symm d33) up
      clear up d37
      refine S.quiet (k := 1) (keep := [1, 3]) (m := 1) (σ' := ⟨[(1, .p 0 0), (3, .v (slv ((acc1 ++ [2])).length q34.1))], [GT.cells c ()]⟩) .nil (by kernel_rfl) ?_
      clear S; intro ac w β S
      refine RG.done rfl ?_
      replace S := S.prune (keep := [1, 3]) (m := 1) (σ' := ⟨[(1, .p 0 0), (3, .v (slv ((acc1 ++ [2])).length q34.1))], [GT.cells c ()]⟩) (by kernel_rfl)
      exact ⟨rfl, (acc1 ++ [2]), q34, F35, _, _, _, (by clear S; (first | (rw [if_pos (by assumption)]; simp [*]; done) | (rw [if_neg (by simp [*])]; simp [*]; done) | (rw [ha1]; (repeat' split) <;> first | rfl | (simp; done) | (exfalso; simp_all; done) | (simp_all; done)))), S.cast (by kernel_rfl), o36⟩
    · have h39 : (f_within c.post 0 255) = true := not_f h26
      have g40 := within_t h39
      refine wp_skip ?_
      replace S := S.prune (keep := [1, 3]) (m := 1) (σ' := ⟨[(1, .p 0 0), (3, .v (slv (acc1).length q5.1))], [GT.cells c ()]⟩) (by kernel_rfl)
      exact ⟨rfl, acc1, q5, F6, _, _, _, (by clear S; (first | (rw [if_pos (by assumption)]; simp [*]; done) | (rw [if_neg (by simp [*])]; simp [*]; done) | (rw [ha1]; (repeat' split) <;> first | rfl | (simp; done) | (exfalso; simp_all; done) | (simp_all; done)))), S.cast (by kernel_rfl), o7⟩
  clear S o7
  rintro ac w ⟨acc2, q23, F24, u, N, β, ha2, S, o25⟩
  have hl2 : acc2.length ≤ 2 := by rw [ha2]; (repeat' split) <;> simp
  refine id (nx_then (wp_seq (wp_seq (RG.start ?_))))
  refine S.quiet (k := 4) (keep := [1, 3, 22]) (m := 1) (σ' := ⟨[(1, .p 0 0), (3, .v (slv (acc2).length q23.1)), (22, .v (B (c.post != 0)))], [GT.cells c ()]⟩) .nil (by kernel_rfl) ?_
  clear S; intro ac w β S
  rcases Bool.eq_false_or_eq_true (c.post != 0) with h41 | h41 <;> rw [h41] at S
  · have g42 : ¬ (c.post = 0) := bne_iff_ne.1 h41
    refine S.quiet (k := 4) (keep := [1, 3, 26]) (m := 1) (σ' := ⟨[(1, .p 0 0), (3, .v (slv (acc2).length q23.1)), (26, .v (B (!c.opn)))], [GT.cells c ()]⟩) .nil (by kernel_rfl) ?_
    clear S; intro ac w β S
    refine RG.done rfl (nx_then ?_)
    refine wp_region_cut (fun ac w => ∃ (acc3 : List Int) (q43 : GT.Ptr (List Int)) (F44 : Bl) (u : World) (N : Bl) (β : Nat → Nat), (acc3 = (if f_within c.traps 0 3 then [] else [1]) ++ (if f_within c.post 0 255 then [] else [2]) ++ (if c.post ≠ 0 ∧ c.opn = false then [3] else [])) ∧ St Try.prog Try.f161.ntmps w0 NoB u N β ⟨[(1, .p 0 0), (3, .v (slv (acc3).length q43.1))], [GT.cells c ()]⟩ ac w ∧ Ow w0 NoB u N F44 acc3 q43) ?_ ?_
    · refine S.cond (e := (!c.opn)) (by kernel_rfl) (fun h46 => ?_) (fun h46 => ?_)
      · have h47 : c.opn = false := not_t h46
        refine RG.start ?_
        refine S.quiet (k := 1) (keep := [1, 27]) (m := 1) (σ' := ⟨[(1, .p 0 0), (27, .v (slv (acc2).length q23.1))], [GT.cells c ()]⟩) .nil (by kernel_rfl) ?_
        clear S; intro ac w β S
        refine RG.op rfl (S.bs1 (α := Int) (x := 3) (p := ()) (F := NoB) (show In64 3 from ⟨by decide, by decide⟩) (fun b h => False.elim h) (fun b h => False.elim h) (d := 28) (by kernel_rfl) ?_)
        clear S; intro ac w N q48 F49 S up o50 d51
        have d52 : Disj F24 F49 := d51 _ (fun b _ h => False.elim h) o25.sub
        replace o25 := o25.up up
        clear up d51
        refine RG.op rfl (S.appFlat (α := Int) o25 (o50.rn) (fun _ _ h => h) (by' := 8) (d := 29) (lx := (acc2).length) (ly := 1) rfl rfl (by kernel_rfl) (show _ ≤ 4194304 by simp only [List.length_append, List.length_cons, List.length_nil]; omega) ?_)
        clear S; intro ac w N q53 F54 S up o55 d56
        have d57 : Disj F49 F54 := d56 _ (Disj.symm d52) o50.sub
        replace o50 := o50.upF (Disj.symm d52) up
        clear up d56
        refine S.quiet (k := 1) (keep := [1, 3]) (m := 1) (σ' := ⟨[(1, .p 0 0), (3, .v (slv ((acc2 ++ [3])).length q53.1))], [GT.cells c ()]⟩) .nil (by kernel_rfl) ?_
        clear S; intro ac w β S
        refine RG.done rfl ?_
        replace S := S.prune (keep := [1, 3]) (m := 1) (σ' := ⟨[(1, .p 0 0), (3, .v (slv ((acc2 ++ [3])).length q53.1))], [GT.cells c ()]⟩) (by kernel_rfl)
        exact ⟨rfl, (acc2 ++ [3]), q53, F54, _, _, _, (by clear S; (first | (rw [if_pos (by assumption)]; simp [*]; done) | (rw [if_neg (by simp [*])]; simp [*]; done) | (rw [ha2]; (repeat' split) <;> first | rfl | (simp; done) | (exfalso; simp_all; done) | (simp_all; done)))), S.cast (by kernel_rfl), o55⟩
      · have h58 : c.opn = true := not_f h46
        refine wp_skip ?_
        replace S := S.prune (keep := [1, 3]) (m := 1) (σ' := ⟨[(1, .p 0 0), (3, .v (slv (acc2).length q23.1))], [GT.cells c ()]⟩) (by kernel_rfl)
        exact ⟨rfl, acc2, q23, F24, _, _, _, (by clear S; (first | (rw [if_pos (by assumption)]; simp [*]; done) | (rw [if_neg (by simp [*])]; simp [*]; done) | (rw [ha2]; (repeat' split) <;> first | rfl | (simp; done) | (exfalso; simp_all; done) | (simp_all; done)))), S.cast (by kernel_rfl), o25⟩
    clear S o25
    rintro ac w ⟨acc3, q43, F44, u, N, β, ha3, S, o45⟩
    have hl3 : acc3.length ≤ 3 := by rw [ha3]; (repeat' split) <;> simp
    refine id (nx_then (wp_seq (wp_seq (RG.start ?_))))
    refine S.quiet (k := 4) (keep := [1, 3, 33]) (m := 1) (σ' := ⟨[(1, .p 0 0), (3, .v (slv (acc3).length q43.1)), (33, .v (B (c.traps == 2)))], [GT.cells c ()]⟩) .nil (by kernel_rfl) ?_
    clear S; intro ac w β S
    rcases Bool.eq_false_or_eq_true (c.traps == 2) with h59 | h59 <;> rw [h59] at S
    · have g60 : c.traps = 2 := eq_of_beq h59
      refine S.quiet (k := 4) (keep := [3, 37]) (m := 0) (σ' := ⟨[(3, .v (slv (acc3).length q43.1)), (37, .v (B (c.post != 0)))], []⟩) .nil (by kernel_rfl) ?_
      clear S; intro ac w β S
      refine RG.done rfl (nx_then ?_)
      refine wp_region_cut (fun ac w => ∃ (acc4 : List Int) (q61 : GT.Ptr (List Int)) (F62 : Bl) (u : World) (N : Bl) (β : Nat → Nat), (acc4 = (if f_within c.traps 0 3 then [] else [1]) ++ (if f_within c.post 0 255 then [] else [2]) ++ (if c.post ≠ 0 ∧ c.opn = false then [3] else []) ++ (if c.traps = 2 ∧ c.post ≠ 0 then [4] else [])) ∧ St Try.prog Try.f161.ntmps w0 NoB u N β ⟨[(3, .v (slv (acc4).length q61.1))], []⟩ ac w ∧ Ow w0 NoB u N F62 acc4 q61) ?_ ?_
      · refine S.cond (e := (c.post != 0)) (by kernel_rfl) (fun h64 => ?_) (fun h64 => ?_)
        · have g65 : ¬ (c.post = 0) := bne_iff_ne.1 h64
          refine RG.start ?_
          refine S.quiet (k := 1) (keep := [38]) (m := 0) (σ' := ⟨[(38, .v (slv (acc3).length q43.1))], []⟩) .nil (by kernel_rfl) ?_
          clear S; intro ac w β S
          refine RG.op rfl (S.bs1 (α := Int) (x := 4) (p := ()) (F := NoB) (show In64 4 from ⟨by decide, by decide⟩) (fun b h => False.elim h) (fun b h => False.elim h) (d := 39) (by kernel_rfl) ?_)
          clear S; intro ac w N q66 F67 S up o68 d69
          have d70 : Disj F44 F67 := d69 _ (fun b _ h => False.elim h) o45.sub
          replace o45 := o45.up up
          clear up d69
          refine RG.op rfl (S.appFlat (α := Int) o45 (o68.rn) (fun _ _ h => h) (by' := 8) (d := 40) (lx := (acc3).length) (ly := 1) rfl rfl (by kernel_rfl) (show _ ≤ 4194304 by simp only [List.length_append, List.length_cons, List.length_nil]; omega) ?_)
          clear S; intro ac w N q71 F72 S up o73 d74
          have d75 : Disj F67 F72 := d74 _ (Disj.symm d70) o68.sub
          replace o68 := o68.upF (Disj.symm d70) up
          clear up d74
          refine S.quiet (k := 1) (keep := [3]) (m := 0) (σ' := ⟨[(3, .v (slv ((acc3 ++ [4])).length q71.1))], []⟩) .nil (by kernel_rfl) ?_
          clear S; intro ac w β S
          refine RG.done rfl ?_
          replace S := S.prune (keep := [3]) (m := 0) (σ' := ⟨[(3, .v (slv ((acc3 ++ [4])).length q71.1))], []⟩) (by kernel_rfl)
          exact ⟨rfl, (acc3 ++ [4]), q71, F72, _, _, _, (by clear S; (first | (rw [if_pos (by assumption)]; simp [*]; done) | (rw [if_neg (by simp [*])]; simp [*]; done) | (rw [ha3]; (repeat' split) <;> first | rfl | (simp; done) | (exfalso; simp_all; done) | (simp_all; done)))), S.cast (by kernel_rfl), o73⟩
        · have g76 : c.post = 0 := ne_f h64
          refine wp_skip ?_
          replace S := S.prune (keep := [3]) (m := 0) (σ' := ⟨[(3, .v (slv (acc3).length q43.1))], []⟩) (by kernel_rfl)
          exact ⟨rfl, acc3, q43, F44, _, _, _, (by clear S; (first | (rw [if_pos (by assumption)]; simp [*]; done) | (rw [if_neg (by simp [*])]; simp [*]; done) | (rw [ha3]; (repeat' split) <;> first | rfl | (simp; done) | (exfalso; simp_all; done) | (simp_all; done)))), S.cast (by kernel_rfl), o45⟩
      clear S o45
      rintro ac w ⟨acc4, q61, F62, u, N, β, ha4, S, o63⟩
      have hl4 : acc4.length ≤ 4 := by rw [ha4]; (repeat' split) <;> simp
      refine id (nx_then (wp_seq (RG.start ?_)))
      refine S.quiet (k := 2) (keep := [2]) (m := 0) (σ' := ⟨[(2, .v (slv (acc4).length q61.1))], []⟩) .nil (by kernel_rfl) ?_
      clear S; intro ac w β S
      refine RG.done rfl (nx_then (wp_ret ?_))
      refine S.ret (vs := [slv (acc4).length q61.1]) (by kernel_rfl) ?_
      exact ret1_of S (show f_ctlFaults c = acc4 by clear S; (rw [ha4]; rfl)) rfl o63
    · have g77 : ¬ (c.traps = 2) := ne_of_beq_false h59
      refine S.quiet (k := 4) (keep := [3, 37]) (m := 0) (σ' := ⟨[(3, .v (slv (acc3).length q43.1)), (37, .v (B false))], []⟩) .nil (by kernel_rfl) ?_
      clear S; intro ac w β S
      refine RG.done rfl (nx_then ?_)
      refine wp_region_cut (fun ac w => ∃ (acc4 : List Int) (q78 : GT.Ptr (List Int)) (F79 : Bl) (u : World) (N : Bl) (β : Nat → Nat), (acc4 = (if f_within c.traps 0 3 then [] else [1]) ++ (if f_within c.post 0 255 then [] else [2]) ++ (if c.post ≠ 0 ∧ c.opn = false then [3] else []) ++ (if c.traps = 2 ∧ c.post ≠ 0 then [4] else [])) ∧ St Try.prog Try.f161.ntmps w0 NoB u N β ⟨[(3, .v (slv (acc4).length q78.1))], []⟩ ac w ∧ Ow w0 NoB u N F79 acc4 q78) ?_ ?_
      · refine S.cond (e := false) (by kernel_rfl) (fun hx => by cases hx) (fun _ => ?_)
        refine wp_skip ?_
        replace S := S.prune (keep := [3]) (m := 0) (σ' := ⟨[(3, .v (slv (acc3).length q43.1))], []⟩) (by kernel_rfl)
        exact ⟨rfl, acc3, q43, F44, _, _, _, (by clear S; (first | (rw [if_pos (by assumption)]; simp [*]; done) | (rw [if_neg (by simp [*])]; simp [*]; done) | (rw [ha3]; (repeat' split) <;> first | rfl | (simp; done) | (exfalso; simp_all; done) | (simp_all; done)))), S.cast (by kernel_rfl), o45⟩
      clear S o45
      rintro ac w ⟨acc4, q78, F79, u, N, β, ha4, S, o80⟩
      have hl4 : acc4.length ≤ 4 := by rw [ha4]; (repeat' split) <;> simp
      refine id (nx_then (wp_seq (RG.start ?_)))
      refine S.quiet (k := 2) (keep := [2]) (m := 0) (σ' := ⟨[(2, .v (slv (acc4).length q78.1))], []⟩) .nil (by kernel_rfl) ?_
      clear S; intro ac w β S
      refine RG.done rfl (nx_then (wp_ret ?_))
      refine S.ret (vs := [slv (acc4).length q78.1]) (by kernel_rfl) ?_
      exact ret1_of S (show f_ctlFaults c = acc4 by clear S; (rw [ha4]; rfl)) rfl o80
  · have g81 : c.post = 0 := ne_f h41
    refine S.quiet (k := 4) (keep := [1, 3, 26]) (m := 1) (σ' := ⟨[(1, .p 0 0), (3, .v (slv (acc2).length q23.1)), (26, .v (B false))], [GT.cells c ()]⟩) .nil (by kernel_rfl) ?_
    clear S; intro ac w β S
    refine RG.done rfl (nx_then ?_)
    refine wp_region_cut (fun ac w => ∃ (acc3 : List Int) (q82 : GT.Ptr (List Int)) (F83 : Bl) (u : World) (N : Bl) (β : Nat → Nat), (acc3 = (if f_within c.traps 0 3 then [] else [1]) ++ (if f_within c.post 0 255 then [] else [2]) ++ (if c.post ≠ 0 ∧ c.opn = false then [3] else [])) ∧ St Try.prog Try.f161.ntmps w0 NoB u N β ⟨[(1, .p 0 0), (3, .v (slv (acc3).length q82.1))], [GT.cells c ()]⟩ ac w ∧ Ow w0 NoB u N F83 acc3 q82) ?_ ?_
    · refine S.cond (e := false) (by kernel_rfl) (fun hx => by cases hx) (fun _ => ?_)
      refine wp_skip ?_
      replace S := S.prune (keep := [1, 3]) (m := 1) (σ' := ⟨[(1, .p 0 0), (3, .v (slv (acc2).length q23.1))], [GT.cells c ()]⟩) (by kernel_rfl)
      exact ⟨rfl, acc2, q23, F24, _, _, _, (by clear S; (first | (rw [if_pos (by assumption)]; simp [*]; done) | (rw [if_neg (by simp [*])]; simp [*]; done) | (rw [ha2]; (repeat' split) <;> first | rfl | (simp; done) | (exfalso; simp_all; done) | (simp_all; done)))), S.cast (by kernel_rfl), o25⟩
    clear S o25
    rintro ac w ⟨acc3, q82, F83, u, N, β, ha3, S, o84⟩
    have hl3 : acc3.length ≤ 3 := by rw [ha3]; (repeat' split) <;> simp
    refine id (nx_then (wp_seq (wp_seq (RG.start ?_))))
    refine S.quiet (k := 4) (keep := [1, 3, 33]) (m := 1) (σ' := ⟨[(1, .p 0 0), (3, .v (slv (acc3).length q82.1)), (33, .v (B (c.traps == 2)))], [GT.cells c ()]⟩) .nil (by kernel_rfl) ?_
    clear S; intro ac w β S
    rcases Bool.eq_false_or_eq_true (c.traps == 2) with h85 | h85 <;> rw [h85] at S
    · have g86 : c.traps = 2 := eq_of_beq h85
      refine S.quiet (k := 4) (keep := [3, 37]) (m := 0) (σ' := ⟨[(3, .v (slv (acc3).length q82.1)), (37, .v (B (c.post != 0)))], []⟩) .nil (by kernel_rfl) ?_
      clear S; intro ac w β S
      refine RG.done rfl (nx_then ?_)
      refine wp_region_cut (fun ac w => ∃ (acc4 : List Int) (q87 : GT.Ptr (List Int)) (F88 : Bl) (u : World) (N : Bl) (β : Nat → Nat), (acc4 = (if f_within c.traps 0 3 then [] else [1]) ++ (if f_within c.post 0 255 then [] else [2]) ++ (if c.post ≠ 0 ∧ c.opn = false then [3] else []) ++ (if c.traps = 2 ∧ c.post ≠ 0 then [4] else [])) ∧ St Try.prog Try.f161.ntmps w0 NoB u N β ⟨[(3, .v (slv (acc4).length q87.1))], []⟩ ac w ∧ Ow w0 NoB u N F88 acc4 q87) ?_ ?_
      · refine S.cond (e := (c.post != 0)) (by kernel_rfl) (fun h90 => ?_) (fun h90 => ?_)
        · have g91 : ¬ (c.post = 0) := bne_iff_ne.1 h90
          refine RG.start ?_
          refine S.quiet (k := 1) (keep := [38]) (m := 0) (σ' := ⟨[(38, .v (slv (acc3).length q82.1))], []⟩) .nil (by kernel_rfl) ?_
          clear S; intro ac w β S
          refine RG.op rfl (S.bs1 (α := Int) (x := 4) (p := ()) (F := NoB) (show In64 4 from ⟨by decide, by decide⟩) (fun b h => False.elim h) (fun b h => False.elim h) (d := 39) (by kernel_rfl) ?_)
          clear S; intro ac w N q92 F93 S up o94 d95
          have d96 : Disj F83 F93 := d95 _ (fun b _ h => False.elim h) o84.sub
          replace o84 := o84.up up
          clear up d95
          refine RG.op rfl (S.appFlat (α := Int) o84 (o94.rn) (fun _ _ h => h) (by' := 8) (d := 40) (lx := (acc3).length) (ly := 1) rfl rfl (by kernel_rfl) (show _ ≤ 4194304 by simp only [List.length_append, List.length_cons, List.length_nil]; omega) ?_)
          clear S; intro ac w N q97 F98 S up o99 d100
          have d101 : Disj F93 F98 := d100 _ (Disj.symm d96) o94.sub
          replace o94 := o94.upF (Disj.symm d96) up
          clear up d100
          refine S.quiet (k := 1) (keep := [3]) (m := 0) (σ' := ⟨[(3, .v (slv ((acc3 ++ [4])).length q97.1))], []⟩) .nil (by kernel_rfl) ?_
          clear S; intro ac w β S
          refine RG.done rfl ?_
          replace S := S.prune (keep := [3]) (m := 0) (σ' := ⟨[(3, .v (slv ((acc3 ++ [4])).length q97.1))], []⟩) (by kernel_rfl)
          exact ⟨rfl, (acc3 ++ [4]), q97, F98, _, _, _, (by clear S; (first | (rw [if_pos (by assumption)]; simp [*]; done) | (rw [if_neg (by simp [*])]; simp [*]; done) | (rw [ha3]; (repeat' split) <;> first | rfl | (simp; done) | (exfalso; simp_all; done) | (simp_all; done)))), S.cast (by kernel_rfl), o99⟩
        · have g102 : c.post = 0 := ne_f h90
          refine wp_skip ?_
          replace S := S.prune (keep := [3]) (m := 0) (σ' := ⟨[(3, .v (slv (acc3).length q82.1))], []⟩) (by kernel_rfl)
          exact ⟨rfl, acc3, q82, F83, _, _, _, (by clear S; (first | (rw [if_pos (by assumption)]; simp [*]; done) | (rw [if_neg (by simp [*])]; simp [*]; done) | (rw [ha3]; (repeat' split) <;> first | rfl | (simp; done) | (exfalso; simp_all; done) | (simp_all; done)))), S.cast (by kernel_rfl), o84⟩
      clear S o84
      rintro ac w ⟨acc4, q87, F88, u, N, β, ha4, S, o89⟩
      have hl4 : acc4.length ≤ 4 := by rw [ha4]; (repeat' split) <;> simp
      refine id (nx_then (wp_seq (RG.start ?_)))
      refine S.quiet (k := 2) (keep := [2]) (m := 0) (σ' := ⟨[(2, .v (slv (acc4).length q87.1))], []⟩) .nil (by kernel_rfl) ?_
      clear S; intro ac w β S
      refine RG.done rfl (nx_then (wp_ret ?_))
      refine S.ret (vs := [slv (acc4).length q87.1]) (by kernel_rfl) ?_
      exact ret1_of S (show f_ctlFaults c = acc4 by clear S; (rw [ha4]; rfl)) rfl o89
    · have g103 : ¬ (c.traps = 2) := ne_of_beq_false h85
      refine S.quiet (k := 4) (keep := [3, 37]) (m := 0) (σ' := ⟨[(3, .v (slv (acc3).length q82.1)), (37, .v (B false))], []⟩) .nil (by kernel_rfl) ?_
      clear S; intro ac w β S
      refine RG.done rfl (nx_then ?_)
      refine wp_region_cut (fun ac w => ∃ (acc4 : List Int) (q104 : GT.Ptr (List Int)) (F105 : Bl) (u : World) (N : Bl) (β : Nat → Nat), (acc4 = (if f_within c.traps 0 3 then [] else [1]) ++ (if f_within c.post 0 255 then [] else [2]) ++ (if c.post ≠ 0 ∧ c.opn = false then [3] else []) ++ (if c.traps = 2 ∧ c.post ≠ 0 then [4] else [])) ∧ St Try.prog Try.f161.ntmps w0 NoB u N β ⟨[(3, .v (slv (acc4).length q104.1))], []⟩ ac w ∧ Ow w0 NoB u N F105 acc4 q104) ?_ ?_
      · refine S.cond (e := false) (by kernel_rfl) (fun hx => by cases hx) (fun _ => ?_)
        refine wp_skip ?_
        replace S := S.prune (keep := [3]) (m := 0) (σ' := ⟨[(3, .v (slv (acc3).length q82.1))], []⟩) (by kernel_rfl)
        exact ⟨rfl, acc3, q82, F83, _, _, _, (by clear S; (first | (rw [if_pos (by assumption)]; simp [*]; done) | (rw [if_neg (by simp [*])]; simp [*]; done) | (rw [ha3]; (repeat' split) <;> first | rfl | (simp; done) | (exfalso; simp_all; done) | (simp_all; done)))), S.cast (by kernel_rfl), o84⟩
      clear S o84
      rintro ac w ⟨acc4, q104, F105, u, N, β, ha4, S, o106⟩
      have hl4 : acc4.length ≤ 4 := by rw [ha4]; (repeat' split) <;> simp
      refine id (nx_then (wp_seq (RG.start ?_)))
      refine S.quiet (k := 2) (keep := [2]) (m := 0) (σ' := ⟨[(2, .v (slv (acc4).length q104.1))], []⟩) .nil (by kernel_rfl) ?_
      clear S; intro ac w β S
      refine RG.done rfl (nx_then (wp_ret ?_))
      refine S.ret (vs := [slv (acc4).length q104.1]) (by kernel_rfl) ?_
      exact ret1_of S (show f_ctlFaults c = acc4 by clear S; (rw [ha4]; rfl)) rfl o106

set_option maxRecDepth 100000 in
theorem c_impl_CtlOk (w0 : World) (c : TCtl) : Calls Try.prog 136 [GT.val c ()].toArray w0 (fun e w' => e = .returned (B (f_ctlOk c)) ∧ Chg NoB w0 w') := by
  refine Calls.walk (args := [GT.val c ()]) NoB Try.func136 rfl rfl ?_
  intro ac β S
  refine wp_seq (RG.start ?_)
  refine S.quiet (k := 2) (keep := [1]) (m := 1) (σ' := ⟨[(1, .p 0 0)], [GT.cells c ()]⟩) .nil (by kernel_rfl) ?_
  clear S; intro ac w β S
  refine RG.done rfl (nx_then (wp_seq (RG.start ?_)))
  refine S.quiet (k := 1) (keep := [3]) (m := 0) (σ' := ⟨[(3, .v (GT.val c ()))], []⟩) .nil (by kernel_rfl) ?_
  clear S; intro ac w β S
  refine RG.op rfl (S.call1 (r := f_ctlFaults c) (d := 4) (c_impl_CtlFaults w c) (by kernel_rfl) rfl ?_)
  clear S; intro ac w N q1 F2 S up o3 d4
  clear up d4
  refine S.quiet (k := 3) (keep := [2]) (m := 0) (σ' := ⟨[(2, .v (B ((((f_ctlFaults c)).length : Int) == 0)))], []⟩) .nil (by kernel_rfl) ?_
  clear S; intro ac w β S
  refine RG.done rfl (nx_then (wp_ret ?_))
  refine S.ret (vs := [B ((((f_ctlFaults c)).length : Int) == 0)]) (by kernel_rfl) ?_
  exact ⟨retB (show ((((f_ctlFaults c)).length : Int) == 0) = f_ctlOk c by clear S; first | rfl | (simp [f_ctlOk, *]; done) | (simp [f_ctlOk, *]; omega) | (simp_all [f_ctlOk]; done) | (simp_all [f_ctlOk]; omega)), S.chg⟩

set_option maxRecDepth 100000 in
theorem c_impl_PendOk (w0 : World) (p : Int) : Calls Try.prog 101 [I p].toArray w0 (fun e w' => e = .returned (B (f_within p 0 255)) ∧ Chg NoB w0 w') := by
  refine Calls.walk (args := [I p]) NoB Try.func101 rfl rfl ?_
  intro ac β S
  refine wp_seq (RG.start ?_)
  refine S.quiet (k := 1) (keep := [0]) (m := 0) (σ' := ⟨[(0, .v (I p))], []⟩) .nil (by kernel_rfl) ?_
  clear S; intro ac w β S
  refine RG.done rfl (nx_then (wp_seq (RG.start ?_)))
  refine S.quiet (k := 3) (keep := [2]) (m := 0) (σ' := ⟨[(2, .v (B (f_within p 0 255)))], []⟩) (.cons (Q_call fun w hw => c_impl_within w p 0 255) .nil) (by kernel_rfl) ?_
  clear S; intro ac w β S
  refine RG.done rfl (nx_then (wp_ret ?_))
  refine S.ret (vs := [B (f_within p 0 255)]) (by kernel_rfl) ?_
  exact ⟨retB (show (f_within p 0 255) = f_within p 0 255 by clear S; first | rfl | (simp [f_within, *]; done) | (simp [f_within, *]; omega) | (simp_all [f_within]; done) | (simp_all [f_within]; omega)), S.chg⟩

set_option maxRecDepth 100000 in
theorem c_impl_ExitOk (w0 : World) (x : TExit) : Calls Try.prog 137 [GT.val x ()].toArray w0 (fun e w' => e = .returned (B (f_exitOk x)) ∧ Chg NoB w0 w') := by
  refine Calls.walk (args := [GT.val x ()]) NoB Try.func137 rfl rfl ?_
  intro ac β S
  refine wp_seq (RG.start ?_)
  refine S.quiet (k := 2) (keep := [1]) (m := 1) (σ' := ⟨[(1, .p 0 0)], [GT.cells x ()]⟩) .nil (by kernel_rfl) ?_
  clear S; intro ac w β S
  refine RG.done rfl (nx_then (wp_seq (wp_seq (RG.start ?_))))
  refine S.quiet (k := 2) (keep := [1, 4]) (m := 1) (σ' := ⟨[(1, .p 0 0), (4, .v (I x.kind))], [GT.cells x ()]⟩) .nil (by kernel_rfl) ?_
  clear S; intro ac w β S
  refine RG.done rfl (nx_then (wp_block (wp_seq (wp_seq (RG.start ?_)))))
  refine S.quiet (k := 2) (keep := [1, 4, 5]) (m := 1) (σ' := ⟨[(1, .p 0 0), (4, .v (I x.kind)), (5, .v (B (x.kind == 0)))], [GT.cells x ()]⟩) .nil (by kernel_rfl) ?_
  clear S; intro ac w β S
  refine RG.done rfl (nx_then ?_)
  refine S.cond (e := (x.kind == 0)) (by kernel_rfl) (fun h1 => ?_) (fun h1 => ?_)
  · rw [h1] at S
    have g2 : x.kind = 0 := eq_of_beq h1
    refine wp_skip (nx_then ?_)
    refine S.cond (e := true) (by kernel_rfl) (fun _ => ?_) (fun hx => by cases hx)
    refine wp_seq (RG.start ?_)
    refine S.quiet (k := 4) (keep := [1, 11]) (m := 1) (σ' := ⟨[(1, .p 0 0), (11, .v (B (x.page == 0)))], [GT.cells x ()]⟩) .nil (by kernel_rfl) ?_
    clear S; intro ac w β S
    rcases Bool.eq_false_or_eq_true (x.page == 0) with h3 | h3 <;> rw [h3] at S
    · have g4 : x.page = 0 := eq_of_beq h3
      refine S.quiet (k := 5) (keep := [1, 16]) (m := 1) (σ' := ⟨[(1, .p 0 0), (16, .v (B (!x.wr)))], [GT.cells x ()]⟩) .nil (by kernel_rfl) ?_
      clear S; intro ac w β S
      rcases Bool.eq_false_or_eq_true (!x.wr) with h5 | h5 <;> rw [h5] at S
      · have h6 : x.wr = false := not_t h5
        refine S.quiet (k := 5) (keep := [2]) (m := 0) (σ' := ⟨[(2, .v (B (x.n == 0)))], []⟩) .nil (by kernel_rfl) ?_
        clear S; intro ac w β S
        refine RG.done rfl (nx_then (wp_ret (rt_block (rt_then ?_))))
        refine S.ret (vs := [B (x.n == 0)]) (by kernel_rfl) ?_
        exact ⟨retB (show (x.n == 0) = f_exitOk x by clear S; (unfold f_exitOk; (repeat' split) <;> first | rfl | (exfalso; simp_all; done) | (exfalso; omega) | (rw [Bool.eq_iff_iff]; simp [TExit.ext_iff, *]; done) | (rw [Bool.eq_iff_iff]; simp_all [TExit.ext_iff, and_assoc]; done) | (rw [Bool.eq_iff_iff]; simp_all [TExit.ext_iff, and_assoc]; omega))), S.chg⟩
      · have h7 : x.wr = true := not_f h5
        refine S.quiet (k := 5) (keep := [2]) (m := 0) (σ' := ⟨[(2, .v (B false))], []⟩) .nil (by kernel_rfl) ?_
        clear S; intro ac w β S
        refine RG.done rfl (nx_then (wp_ret (rt_block (rt_then ?_))))
        refine S.ret (vs := [B false]) (by kernel_rfl) ?_
        exact ⟨retB (show false = f_exitOk x by clear S; (unfold f_exitOk; (repeat' split) <;> first | rfl | (exfalso; simp_all; done) | (exfalso; omega) | (rw [Bool.eq_iff_iff]; simp [TExit.ext_iff, *]; done) | (rw [Bool.eq_iff_iff]; simp_all [TExit.ext_iff, and_assoc]; done) | (rw [Bool.eq_iff_iff]; simp_all [TExit.ext_iff, and_assoc]; omega))), S.chg⟩
    · have g8 : ¬ (x.page = 0) := ne_of_beq_false h3
      refine S.quiet (k := 10) (keep := [2]) (m := 0) (σ' := ⟨[(2, .v (B false))], []⟩) .nil (by kernel_rfl) ?_
      clear S; intro ac w β S
      refine RG.done rfl (nx_then (wp_ret (rt_block (rt_then ?_))))
      refine S.ret (vs := [B false]) (by kernel_rfl) ?_
      exact ⟨retB (show false = f_exitOk x by clear S; (unfold f_exitOk; (repeat' split) <;> first | rfl | (exfalso; simp_all; done) | (exfalso; omega) | (rw [Bool.eq_iff_iff]; simp [TExit.ext_iff, *]; done) | (rw [Bool.eq_iff_iff]; simp_all [TExit.ext_iff, and_assoc]; done) | (rw [Bool.eq_iff_iff]; simp_all [TExit.ext_iff, and_assoc]; omega))), S.chg⟩
  · have g9 : ¬ (x.kind = 0) := ne_of_beq_false h1
    refine RG.start ?_
    refine S.quiet (k := 2) (keep := [1, 4, 5]) (m := 1) (σ' := ⟨[(1, .p 0 0), (4, .v (I x.kind)), (5, .v (B (x.kind == 4)))], [GT.cells x ()]⟩) .nil (by kernel_rfl) ?_
    clear S; intro ac w β S
    refine RG.done rfl (nx_then ?_)
    refine S.cond (e := (x.kind == 4)) (by kernel_rfl) (fun h10 => ?_) (fun h10 => ?_)
    · have g11 : x.kind = 4 := eq_of_beq h10
      refine wp_seq (RG.start ?_)
      refine S.quiet (k := 4) (keep := [1, 11]) (m := 1) (σ' := ⟨[(1, .p 0 0), (11, .v (B (x.page == 0)))], [GT.cells x ()]⟩) .nil (by kernel_rfl) ?_
      clear S; intro ac w β S
      rcases Bool.eq_false_or_eq_true (x.page == 0) with h12 | h12 <;> rw [h12] at S
      · have g13 : x.page = 0 := eq_of_beq h12
        refine S.quiet (k := 5) (keep := [1, 16]) (m := 1) (σ' := ⟨[(1, .p 0 0), (16, .v (B (!x.wr)))], [GT.cells x ()]⟩) .nil (by kernel_rfl) ?_
        clear S; intro ac w β S
        rcases Bool.eq_false_or_eq_true (!x.wr) with h14 | h14 <;> rw [h14] at S
        · have h15 : x.wr = false := not_t h14
          refine S.quiet (k := 5) (keep := [2]) (m := 0) (σ' := ⟨[(2, .v (B (x.n == 0)))], []⟩) .nil (by kernel_rfl) ?_
          clear S; intro ac w β S
          refine RG.done rfl (nx_then (wp_ret (rt_block (rt_then ?_))))
          refine S.ret (vs := [B (x.n == 0)]) (by kernel_rfl) ?_
          exact ⟨retB (show (x.n == 0) = f_exitOk x by clear S; (unfold f_exitOk; (repeat' split) <;> first | rfl | (exfalso; simp_all; done) | (exfalso; omega) | (rw [Bool.eq_iff_iff]; simp [TExit.ext_iff, *]; done) | (rw [Bool.eq_iff_iff]; simp_all [TExit.ext_iff, and_assoc]; done) | (rw [Bool.eq_iff_iff]; simp_all [TExit.ext_iff, and_assoc]; omega))), S.chg⟩
        · have h16 : x.wr = true := not_f h14
          refine S.quiet (k := 5) (keep := [2]) (m := 0) (σ' := ⟨[(2, .v (B false))], []⟩) .nil (by kernel_rfl) ?_
          clear S; intro ac w β S
          refine RG.done rfl (nx_then (wp_ret (rt_block (rt_then ?_))))
          refine S.ret (vs := [B false]) (by kernel_rfl) ?_
          exact ⟨retB (show false = f_exitOk x by clear S; (unfold f_exitOk; (repeat' split) <;> first | rfl | (exfalso; simp_all; done) | (exfalso; omega) | (rw [Bool.eq_iff_iff]; simp [TExit.ext_iff, *]; done) | (rw [Bool.eq_iff_iff]; simp_all [TExit.ext_iff, and_assoc]; done) | (rw [Bool.eq_iff_iff]; simp_all [TExit.ext_iff, and_assoc]; omega))), S.chg⟩
      · have g17 : ¬ (x.page = 0) := ne_of_beq_false h12
        refine S.quiet (k := 10) (keep := [2]) (m := 0) (σ' := ⟨[(2, .v (B false))], []⟩) .nil (by kernel_rfl) ?_
        clear S; intro ac w β S
        refine RG.done rfl (nx_then (wp_ret (rt_block (rt_then ?_))))
        refine S.ret (vs := [B false]) (by kernel_rfl) ?_
        exact ⟨retB (show false = f_exitOk x by clear S; (unfold f_exitOk; (repeat' split) <;> first | rfl | (exfalso; simp_all; done) | (exfalso; omega) | (rw [Bool.eq_iff_iff]; simp [TExit.ext_iff, *]; done) | (rw [Bool.eq_iff_iff]; simp_all [TExit.ext_iff, and_assoc]; done) | (rw [Bool.eq_iff_iff]; simp_all [TExit.ext_iff, and_assoc]; omega))), S.chg⟩
    · have g18 : ¬ (x.kind = 4) := ne_of_beq_false h10
      refine wp_seq (RG.start ?_)
      refine S.quiet (k := 2) (keep := [1, 4, 21]) (m := 1) (σ' := ⟨[(1, .p 0 0), (4, .v (I x.kind)), (21, .v (B (x.kind == 1)))], [GT.cells x ()]⟩) .nil (by kernel_rfl) ?_
      clear S; intro ac w β S
      refine RG.done rfl (nx_then ?_)
      refine S.cond (e := (x.kind == 1)) (by kernel_rfl) (fun h19 => ?_) (fun h19 => ?_)
      · have g20 : x.kind = 1 := eq_of_beq h19
        refine wp_seq (RG.start ?_)
        refine S.quiet (k := 4) (keep := [1, 26]) (m := 1) (σ' := ⟨[(1, .p 0 0), (26, .v (B (f_within x.page 0 3)))], [GT.cells x ()]⟩) (.cons (Q_call fun w hw => c_impl_within w x.page 0 3) .nil) (by kernel_rfl) ?_
        clear S; intro ac w β S
        rcases Bool.eq_false_or_eq_true (f_within x.page 0 3) with h21 | h21 <;> rw [h21] at S
        · have g22 := within_t h21
          refine S.quiet (k := 5) (keep := [2]) (m := 0) (σ' := ⟨[(2, .v (B (x.n == 0)))], []⟩) .nil (by kernel_rfl) ?_
          clear S; intro ac w β S
          refine RG.done rfl (nx_then (wp_ret (rt_block (rt_then ?_))))
          refine S.ret (vs := [B (x.n == 0)]) (by kernel_rfl) ?_
          exact ⟨retB (show (x.n == 0) = f_exitOk x by clear S; (unfold f_exitOk; (repeat' split) <;> first | rfl | (exfalso; simp_all; done) | (exfalso; omega) | (rw [Bool.eq_iff_iff]; simp [TExit.ext_iff, *]; done) | (rw [Bool.eq_iff_iff]; simp_all [TExit.ext_iff, and_assoc]; done) | (rw [Bool.eq_iff_iff]; simp_all [TExit.ext_iff, and_assoc]; omega))), S.chg⟩
        · have g23 := within_f h21
          refine S.quiet (k := 5) (keep := [2]) (m := 0) (σ' := ⟨[(2, .v (B false))], []⟩) .nil (by kernel_rfl) ?_
          clear S; intro ac w β S
          refine RG.done rfl (nx_then (wp_ret (rt_block (rt_then ?_))))
          refine S.ret (vs := [B false]) (by kernel_rfl) ?_
          exact ⟨retB (show false = f_exitOk x by clear S; (unfold f_exitOk; (repeat' split) <;> first | rfl | (exfalso; simp_all; done) | (exfalso; omega) | (rw [Bool.eq_iff_iff]; simp [TExit.ext_iff, *]; done) | (rw [Bool.eq_iff_iff]; simp_all [TExit.ext_iff, and_assoc]; done) | (rw [Bool.eq_iff_iff]; simp_all [TExit.ext_iff, and_assoc]; omega))), S.chg⟩
      · have g24 : ¬ (x.kind = 1) := ne_of_beq_false h19
        refine wp_seq (wp_seq (RG.start ?_))
        refine S.quiet (k := 2) (keep := [1, 4, 31]) (m := 1) (σ' := ⟨[(1, .p 0 0), (4, .v (I x.kind)), (31, .v (B (x.kind == 2)))], [GT.cells x ()]⟩) .nil (by kernel_rfl) ?_
        clear S; intro ac w β S
        refine RG.done rfl (nx_then ?_)
        refine S.cond (e := (x.kind == 2)) (by kernel_rfl) (fun h25 => ?_) (fun h25 => ?_)
        · rw [h25] at S
          have g26 : x.kind = 2 := eq_of_beq h25
          refine wp_skip (nx_then ?_)
          refine S.cond (e := true) (by kernel_rfl) (fun _ => ?_) (fun hx => by cases hx)
          refine wp_seq (RG.start ?_)
          refine S.quiet (k := 4) (keep := [1, 37]) (m := 1) (σ' := ⟨[(1, .p 0 0), (37, .v (B (f_within x.n 0 99)))], [GT.cells x ()]⟩) (.cons (Q_call fun w hw => c_impl_within w x.n 0 99) .nil) (by kernel_rfl) ?_
          clear S; intro ac w β S
          rcases Bool.eq_false_or_eq_true (f_within x.n 0 99) with h27 | h27 <;> rw [h27] at S
          · have g28 := within_t h27
            refine S.quiet (k := 5) (keep := [1, 42]) (m := 1) (σ' := ⟨[(1, .p 0 0), (42, .v (B (x.page == 0)))], [GT.cells x ()]⟩) .nil (by kernel_rfl) ?_
            clear S; intro ac w β S
            rcases Bool.eq_false_or_eq_true (x.page == 0) with h29 | h29 <;> rw [h29] at S
            · have g30 : x.page = 0 := eq_of_beq h29
              refine S.quiet (k := 5) (keep := [2]) (m := 0) (σ' := ⟨[(2, .v (B (!x.wr)))], []⟩) .nil (by kernel_rfl) ?_
              clear S; intro ac w β S
              refine RG.done rfl (nx_then (wp_ret (rt_block (rt_then ?_))))
              refine S.ret (vs := [B (!x.wr)]) (by kernel_rfl) ?_
              exact ⟨retB (show (!x.wr) = f_exitOk x by clear S; (unfold f_exitOk; (repeat' split) <;> first | rfl | (exfalso; simp_all; done) | (exfalso; omega) | (rw [Bool.eq_iff_iff]; simp [TExit.ext_iff, *]; done) | (rw [Bool.eq_iff_iff]; simp_all [TExit.ext_iff, and_assoc]; done) | (rw [Bool.eq_iff_iff]; simp_all [TExit.ext_iff, and_assoc]; omega))), S.chg⟩
            · have g31 : ¬ (x.page = 0) := ne_of_beq_false h29
              refine S.quiet (k := 5) (keep := [2]) (m := 0) (σ' := ⟨[(2, .v (B false))], []⟩) .nil (by kernel_rfl) ?_
              clear S; intro ac w β S
              refine RG.done rfl (nx_then (wp_ret (rt_block (rt_then ?_))))
              refine S.ret (vs := [B false]) (by kernel_rfl) ?_
              exact ⟨retB (show false = f_exitOk x by clear S; (unfold f_exitOk; (repeat' split) <;> first | rfl | (exfalso; simp_all; done) | (exfalso; omega) | (rw [Bool.eq_iff_iff]; simp [TExit.ext_iff, *]; done) | (rw [Bool.eq_iff_iff]; simp_all [TExit.ext_iff, and_assoc]; done) | (rw [Bool.eq_iff_iff]; simp_all [TExit.ext_iff, and_assoc]; omega))), S.chg⟩
          · have g32 := within_f h27
            refine S.quiet (k := 10) (keep := [2]) (m := 0) (σ' := ⟨[(2, .v (B false))], []⟩) .nil (by kernel_rfl) ?_
            clear S; intro ac w β S
            refine RG.done rfl (nx_then (wp_ret (rt_block (rt_then ?_))))
            refine S.ret (vs := [B false]) (by kernel_rfl) ?_
            exact ⟨retB (show false = f_exitOk x by clear S; (unfold f_exitOk; (repeat' split) <;> first | rfl | (exfalso; simp_all; done) | (exfalso; omega) | (rw [Bool.eq_iff_iff]; simp [TExit.ext_iff, *]; done) | (rw [Bool.eq_iff_iff]; simp_all [TExit.ext_iff, and_assoc]; done) | (rw [Bool.eq_iff_iff]; simp_all [TExit.ext_iff, and_assoc]; omega))), S.chg⟩
        · have g33 : ¬ (x.kind = 2) := ne_of_beq_false h25
          refine RG.start ?_
          refine S.quiet (k := 2) (keep := [1, 31]) (m := 1) (σ' := ⟨[(1, .p 0 0), (31, .v (B (x.kind == 3)))], [GT.cells x ()]⟩) .nil (by kernel_rfl) ?_
          clear S; intro ac w β S
          refine RG.done rfl (nx_then ?_)
          refine S.cond (e := (x.kind == 3)) (by kernel_rfl) (fun h34 => ?_) (fun h34 => ?_)
          · have g35 : x.kind = 3 := eq_of_beq h34
            refine wp_seq (RG.start ?_)
            refine S.quiet (k := 4) (keep := [1, 37]) (m := 1) (σ' := ⟨[(1, .p 0 0), (37, .v (B (f_within x.n 0 99)))], [GT.cells x ()]⟩) (.cons (Q_call fun w hw => c_impl_within w x.n 0 99) .nil) (by kernel_rfl) ?_
            clear S; intro ac w β S
            rcases Bool.eq_false_or_eq_true (f_within x.n 0 99) with h36 | h36 <;> rw [h36] at S
            · have g37 := within_t h36
              refine S.quiet (k := 5) (keep := [1, 42]) (m := 1) (σ' := ⟨[(1, .p 0 0), (42, .v (B (x.page == 0)))], [GT.cells x ()]⟩) .nil (by kernel_rfl) ?_
              clear S; intro ac w β S
              rcases Bool.eq_false_or_eq_true (x.page == 0) with h38 | h38 <;> rw [h38] at S
              · have g39 : x.page = 0 := eq_of_beq h38
                refine S.quiet (k := 5) (keep := [2]) (m := 0) (σ' := ⟨[(2, .v (B (!x.wr)))], []⟩) .nil (by kernel_rfl) ?_
                clear S; intro ac w β S
                refine RG.done rfl (nx_then (wp_ret (rt_block (rt_then ?_))))
                refine S.ret (vs := [B (!x.wr)]) (by kernel_rfl) ?_
                exact ⟨retB (show (!x.wr) = f_exitOk x by clear S; (unfold f_exitOk; (repeat' split) <;> first | rfl | (exfalso; simp_all; done) | (exfalso; omega) | (rw [Bool.eq_iff_iff]; simp [TExit.ext_iff, *]; done) | (rw [Bool.eq_iff_iff]; simp_all [TExit.ext_iff, and_assoc]; done) | (rw [Bool.eq_iff_iff]; simp_all [TExit.ext_iff, and_assoc]; omega))), S.chg⟩
              · have g40 : ¬ (x.page = 0) := ne_of_beq_false h38
                refine S.quiet (k := 5) (keep := [2]) (m := 0) (σ' := ⟨[(2, .v (B false))], []⟩) .nil (by kernel_rfl) ?_
                clear S; intro ac w β S
                refine RG.done rfl (nx_then (wp_ret (rt_block (rt_then ?_))))
                refine S.ret (vs := [B false]) (by kernel_rfl) ?_
                exact ⟨retB (show false = f_exitOk x by clear S; (unfold f_exitOk; (repeat' split) <;> first | rfl | (exfalso; simp_all; done) | (exfalso; omega) | (rw [Bool.eq_iff_iff]; simp [TExit.ext_iff, *]; done) | (rw [Bool.eq_iff_iff]; simp_all [TExit.ext_iff, and_assoc]; done) | (rw [Bool.eq_iff_iff]; simp_all [TExit.ext_iff, and_assoc]; omega))), S.chg⟩
            · have g41 := within_f h36
              refine S.quiet (k := 10) (keep := [2]) (m := 0) (σ' := ⟨[(2, .v (B false))], []⟩) .nil (by kernel_rfl) ?_
              clear S; intro ac w β S
              refine RG.done rfl (nx_then (wp_ret (rt_block (rt_then ?_))))
              refine S.ret (vs := [B false]) (by kernel_rfl) ?_
              exact ⟨retB (show false = f_exitOk x by clear S; (unfold f_exitOk; (repeat' split) <;> first | rfl | (exfalso; simp_all; done) | (exfalso; omega) | (rw [Bool.eq_iff_iff]; simp [TExit.ext_iff, *]; done) | (rw [Bool.eq_iff_iff]; simp_all [TExit.ext_iff, and_assoc]; done) | (rw [Bool.eq_iff_iff]; simp_all [TExit.ext_iff, and_assoc]; omega))), S.chg⟩
          · have g42 : ¬ (x.kind = 3) := ne_of_beq_false h34
            refine wp_skip (nx_block (nx_then (wp_seq (RG.start ?_))))
            refine S.quiet (k := 1) (keep := [2]) (m := 0) (σ' := ⟨[(2, .v (B false))], []⟩) .nil (by kernel_rfl) ?_
            clear S; intro ac w β S
            refine RG.done rfl (nx_then (wp_ret ?_))
            refine S.ret (vs := [B false]) (by kernel_rfl) ?_
            exact ⟨retB (show false = f_exitOk x by clear S; (unfold f_exitOk; (repeat' split) <;> first | rfl | (exfalso; simp_all; done) | (exfalso; omega) | (rw [Bool.eq_iff_iff]; simp [TExit.ext_iff, *]; done) | (rw [Bool.eq_iff_iff]; simp_all [TExit.ext_iff, and_assoc]; done) | (rw [Bool.eq_iff_iff]; simp_all [TExit.ext_iff, and_assoc]; omega))), S.chg⟩

set_option maxRecDepth 100000 in
theorem c_impl_GuestOk (w0 : World) (g : TGuest) (pg : PGuest) (hg : GT.rd KK (Lt w0.heap.size) w0 g pg) : Calls Try.prog 102 [GT.val g pg].toArray w0 (fun e w' => e = .returned (B (f_guestOk g)) ∧ Chg NoB w0 w') := by
  refine Calls.walk (args := [GT.val g pg]) NoB Try.func102 rfl rfl ?_
  intro ac β S
  have hleg_prog : g.prog.length ≤ 4194304 := LRd.le (RGuest.prog (d := g) hg)
  have hleg_written : g.written.length ≤ 4194304 := LRd.le (RGuest.written (d := g) hg)
  have hleg_live : g.live.length ≤ 4194304 := LRd.le (RGuest.live (d := g) hg)
  have hleg_seen : g.seen.length ≤ 4194304 := LRd.le (RGuest.seen (d := g) hg)
  refine wp_seq (RG.start ?_)
  refine S.quiet (k := 2) (keep := [1]) (m := 1) (σ' := ⟨[(1, .p 0 0)], [GT.cells g pg]⟩) .nil (by kernel_rfl) ?_
  clear S; intro ac w β S
  refine RG.done rfl (nx_then (wp_seq (RG.start ?_)))
  refine S.quiet (k := 4) (keep := [1, 6]) (m := 1) (σ' := ⟨[(1, .p 0 0), (6, .v (B (f_progOk g.prog)))], [GT.cells g pg]⟩) (.cons (Q_call fun w hw => c_impl_ProgOk w g.prog pg.prog (rd_of (RGuest.prog (d := g) (S.arg hg)) hw)) .nil) (by kernel_rfl) ?_
  clear S; intro ac w β S
  rcases Bool.eq_false_or_eq_true (f_progOk g.prog) with h1 | h1 <;> rw [h1] at S
  · refine S.quiet (k := 5) (keep := [1, 11]) (m := 1) (σ' := ⟨[(1, .p 0 0), (11, .v (B (f_within g.acc 0 99)))], [GT.cells g pg]⟩) (.cons (Q_call fun w hw => c_impl_within w g.acc 0 99) .nil) (by kernel_rfl) ?_
    clear S; intro ac w β S
    rcases Bool.eq_false_or_eq_true (f_within g.acc 0 99) with h2 | h2 <;> rw [h2] at S
    · have g3 := within_t h2
      refine S.quiet (k := 5) (keep := [1, 16]) (m := 1) (σ' := ⟨[(1, .p 0 0), (16, .v (B (f_within g.pc 0 12)))], [GT.cells g pg]⟩) (.cons (Q_call fun w hw => c_impl_within w g.pc 0 12) .nil) (by kernel_rfl) ?_
      clear S; intro ac w β S
      rcases Bool.eq_false_or_eq_true (f_within g.pc 0 12) with h4 | h4 <;> rw [h4] at S
      · have g5 := within_t h4
        refine S.quiet (k := 5) (keep := [1, 21]) (m := 1) (σ' := ⟨[(1, .p 0 0), (21, .v (B (f_tableOk g.written 4 8)))], [GT.cells g pg]⟩) (.cons (Q_call fun w hw => c_impl_TableOk w g.written pg.written (rd_of (RGuest.written (d := g) (S.arg hg)) hw) 4 8 (by omega) (by omega)) .nil) (by kernel_rfl) ?_
        clear S; intro ac w β S
        rcases Bool.eq_false_or_eq_true (f_tableOk g.written 4 8) with h6 | h6 <;> rw [h6] at S
        · have g7 := tableOk_t h6
          refine S.quiet (k := 5) (keep := [1, 26]) (m := 1) (σ' := ⟨[(1, .p 0 0), (26, .v (B (f_tableOk g.live 4 8)))], [GT.cells g pg]⟩) (.cons (Q_call fun w hw => c_impl_TableOk w g.live pg.live (rd_of (RGuest.live (d := g) (S.arg hg)) hw) 4 8 (by omega) (by omega)) .nil) (by kernel_rfl) ?_
          clear S; intro ac w β S
          rcases Bool.eq_false_or_eq_true (f_tableOk g.live 4 8) with h8 | h8 <;> rw [h8] at S
          · have g9 := tableOk_t h8
            refine S.quiet (k := 5) (keep := [1, 31]) (m := 1) (σ' := ⟨[(1, .p 0 0), (31, .v (B (f_ctlOk g.ctl)))], [GT.cells g pg]⟩) (.cons (Q_call fun w hw => c_impl_CtlOk w g.ctl) .nil) (by kernel_rfl) ?_
            clear S; intro ac w β S
            rcases Bool.eq_false_or_eq_true (f_ctlOk g.ctl) with h10 | h10 <;> rw [h10] at S
            · refine S.quiet (k := 5) (keep := [1, 36]) (m := 1) (σ' := ⟨[(1, .p 0 0), (36, .v (B (f_within g.pend 0 255)))], [GT.cells g pg]⟩) (.cons (Q_call fun w hw => c_impl_PendOk w g.pend) .nil) (by kernel_rfl) ?_
              clear S; intro ac w β S
              rcases Bool.eq_false_or_eq_true (f_within g.pend 0 255) with h11 | h11 <;> rw [h11] at S
              · have g12 := within_t h11
                refine S.quiet (k := 5) (keep := [1, 41]) (m := 1) (σ' := ⟨[(1, .p 0 0), (41, .v (B (f_exitOk g.exit)))], [GT.cells g pg]⟩) (.cons (Q_call fun w hw => c_impl_ExitOk w g.exit) .nil) (by kernel_rfl) ?_
                clear S; intro ac w β S
                rcases Bool.eq_false_or_eq_true (f_exitOk g.exit) with h13 | h13 <;> rw [h13] at S
                · refine S.quiet (k := 6) (keep := [2]) (m := 0) (σ' := ⟨[(2, .v (B (decide (((g.seen).length : Int) ≤ 40))))], []⟩) .nil (by kernel_rfl) ?_
                  clear S; intro ac w β S
                  refine RG.done rfl (nx_then (wp_ret ?_))
                  refine S.ret (vs := [B (decide (((g.seen).length : Int) ≤ 40))]) (by kernel_rfl) ?_
                  exact ⟨retB (show (decide (((g.seen).length : Int) ≤ 40)) = f_guestOk g by clear S; first | rfl | (simp [f_guestOk, *]; done) | (simp [f_guestOk, *]; omega) | (simp_all [f_guestOk]; done) | (simp_all [f_guestOk]; omega)), S.chg⟩
                · refine S.quiet (k := 6) (keep := [2]) (m := 0) (σ' := ⟨[(2, .v (B false))], []⟩) .nil (by kernel_rfl) ?_
                  clear S; intro ac w β S
                  refine RG.done rfl (nx_then (wp_ret ?_))
                  refine S.ret (vs := [B false]) (by kernel_rfl) ?_
                  exact ⟨retB (show false = f_guestOk g by clear S; first | rfl | (simp [f_guestOk, *]; done) | (simp [f_guestOk, *]; omega) | (simp_all [f_guestOk]; done) | (simp_all [f_guestOk]; omega)), S.chg⟩
              · have g14 := within_f h11
                refine S.quiet (k := 11) (keep := [2]) (m := 0) (σ' := ⟨[(2, .v (B false))], []⟩) .nil (by kernel_rfl) ?_
                clear S; intro ac w β S
                refine RG.done rfl (nx_then (wp_ret ?_))
                refine S.ret (vs := [B false]) (by kernel_rfl) ?_
                exact ⟨retB (show false = f_guestOk g by clear S; first | rfl | (simp [f_guestOk, *]; done) | (simp [f_guestOk, *]; omega) | (simp_all [f_guestOk]; done) | (simp_all [f_guestOk]; omega)), S.chg⟩
            · refine S.quiet (k := 16) (keep := [2]) (m := 0) (σ' := ⟨[(2, .v (B false))], []⟩) .nil (by kernel_rfl) ?_
              clear S; intro ac w β S
              refine RG.done rfl (nx_then (wp_ret ?_))
              refine S.ret (vs := [B false]) (by kernel_rfl) ?_
              exact ⟨retB (show false = f_guestOk g by clear S; first | rfl | (simp [f_guestOk, *]; done) | (simp [f_guestOk, *]; omega) | (simp_all [f_guestOk]; done) | (simp_all [f_guestOk]; omega)), S.chg⟩
          · refine S.quiet (k := 21) (keep := [2]) (m := 0) (σ' := ⟨[(2, .v (B false))], []⟩) .nil (by kernel_rfl) ?_
            clear S; intro ac w β S
            refine RG.done rfl (nx_then (wp_ret ?_))
            refine S.ret (vs := [B false]) (by kernel_rfl) ?_
            exact ⟨retB (show false = f_guestOk g by clear S; first | rfl | (simp [f_guestOk, *]; done) | (simp [f_guestOk, *]; omega) | (simp_all [f_guestOk]; done) | (simp_all [f_guestOk]; omega)), S.chg⟩
        · refine S.quiet (k := 26) (keep := [2]) (m := 0) (σ' := ⟨[(2, .v (B false))], []⟩) .nil (by kernel_rfl) ?_
          clear S; intro ac w β S
          refine RG.done rfl (nx_then (wp_ret ?_))
          refine S.ret (vs := [B false]) (by kernel_rfl) ?_
          exact ⟨retB (show false = f_guestOk g by clear S; first | rfl | (simp [f_guestOk, *]; done) | (simp [f_guestOk, *]; omega) | (simp_all [f_guestOk]; done) | (simp_all [f_guestOk]; omega)), S.chg⟩
      · have g15 := within_f h4
        refine S.quiet (k := 31) (keep := [2]) (m := 0) (σ' := ⟨[(2, .v (B false))], []⟩) .nil (by kernel_rfl) ?_
        clear S; intro ac w β S
        refine RG.done rfl (nx_then (wp_ret ?_))
        refine S.ret (vs := [B false]) (by kernel_rfl) ?_
        exact ⟨retB (show false = f_guestOk g by clear S; first | rfl | (simp [f_guestOk, *]; done) | (simp [f_guestOk, *]; omega) | (simp_all [f_guestOk]; done) | (simp_all [f_guestOk]; omega)), S.chg⟩
    · have g16 := within_f h2
      refine S.quiet (k := 36) (keep := [2]) (m := 0) (σ' := ⟨[(2, .v (B false))], []⟩) .nil (by kernel_rfl) ?_
      clear S; intro ac w β S
      refine RG.done rfl (nx_then (wp_ret ?_))
      refine S.ret (vs := [B false]) (by kernel_rfl) ?_
      exact ⟨retB (show false = f_guestOk g by clear S; first | rfl | (simp [f_guestOk, *]; done) | (simp [f_guestOk, *]; omega) | (simp_all [f_guestOk]; done) | (simp_all [f_guestOk]; omega)), S.chg⟩
  · refine S.quiet (k := 41) (keep := [2]) (m := 0) (σ' := ⟨[(2, .v (B false))], []⟩) .nil (by kernel_rfl) ?_
    clear S; intro ac w β S
    refine RG.done rfl (nx_then (wp_ret ?_))
    refine S.ret (vs := [B false]) (by kernel_rfl) ?_
    exact ⟨retB (show false = f_guestOk g by clear S; first | rfl | (simp [f_guestOk, *]; done) | (simp [f_guestOk, *]; omega) | (simp_all [f_guestOk]; done) | (simp_all [f_guestOk]; omega)), S.chg⟩

set_option maxRecDepth 100000 in
theorem c_impl_PageOk (w0 : World) (cells : List Int) (pcells : LP Int) (hcells : GT.rd KK (Lt w0.heap.size) w0 cells pcells) : Calls Try.prog 99 [slv (cells).length pcells.1].toArray w0 (fun e w' => e = .returned (B (f_pageOk cells)) ∧ Chg NoB w0 w') := by
  refine Calls.walk (args := [slv (cells).length pcells.1]) NoB Try.func99 rfl rfl ?_
  intro ac β S
  have hlecells : cells.length ≤ 4194304 := LRd.le hcells
  refine wp_seq (RG.start ?_)
  refine S.quiet (k := 1) (keep := [0]) (m := 0) (σ' := ⟨[(0, .v (slv (cells).length pcells.1))], []⟩) .nil (by kernel_rfl) ?_
  clear S; intro ac w β S
  refine RG.done rfl (nx_then (wp_seq (wp_seq (RG.start ?_))))
  refine S.quiet (k := 3) (keep := [0, 5, 6, 7]) (m := 0) (σ' := ⟨[(0, .v (slv (cells).length pcells.1)), (5, .v (slv (cells).length pcells.1)), (6, .v (I ((cells).length : Int))), (7, .v (I 0))], []⟩) .nil (by kernel_rfl) ?_
  clear S; intro ac w β S
  refine RG.done rfl (nx_then (wp_block ?_))
  replace S := S.prune (keep := [0, 5, 6, 7]) (m := 0) (σ' := ⟨[(0, .v (slv (cells).length pcells.1)), (5, .v (slv (cells).length pcells.1)), (6, .v (I ((cells).length : Int))), (7, .v (I 0))], []⟩) (by kernel_rfl)
  refine wp_loop_down (fun mm ac w => ∃ (k : Nat)  (u : World) (N : Bl) (β : Nat → Nat), mm = (cells).length - k ∧ (k ≤ (cells).length) ∧ (((cells).take k).all (fun v => f_within v 0 99) = true) ∧ St Try.prog Try.f99.ntmps w0 NoB u N β ⟨[(0, .v (slv (cells).length pcells.1)), (5, .v (slv (cells).length pcells.1)), (6, .v (I ((cells).length : Int))), (7, .v (I (k : Int)))], []⟩ ac w) _ ⟨0, _, _, _, rfl, (by first | omega | (simp; done) | (simp; omega)), (by simp), S.cast (by kernel_rfl)⟩ ?_
  clear S
  rintro mm ac w ⟨k, u, N, β, rfl, hk, he, S⟩
  refine wp_seq (RG.start ?_)
  refine S.quiet (k := 1) (keep := [0, 5, 6, 7, 8]) (m := 0) (σ' := ⟨[(0, .v (slv (cells).length pcells.1)), (5, .v (slv (cells).length pcells.1)), (6, .v (I ((cells).length : Int))), (7, .v (I (k : Int))), (8, .v (B (decide ((k : Int) < ((cells).length : Int)))))], []⟩) .nil (by kernel_rfl) ?_
  clear S; intro ac w β S
  refine RG.done rfl (nx_then (wp_seq ?_))
  refine S.cond (e := (decide ((k : Int) < ((cells).length : Int)))) (by kernel_rfl) (fun h1 => ?_) (fun h1 => ?_)
  · have g2 : (k : Int) < ((cells).length : Int) := of_decide_eq_true h1
    refine wp_skip (nx_then (wp_seq (wp_block (wp_seq (RG.start ?_)))))
    refine S.quiet (k := 3) (keep := [0, 4, 5, 6, 7]) (m := 0) (σ' := ⟨[(0, .v (slv (cells).length pcells.1)), (4, .v (I (el cells k))), (5, .v (slv (cells).length pcells.1)), (6, .v (I ((cells).length : Int))), (7, .v (I (k : Int)))], []⟩) (.cons (Q_idx (S.arg hcells) (l := (cells).length) (k := k) (i := (k : Int)) rfl rfl (by omega) Try.underlying24 (by kernel_rfl)) (.cons (Q_el1 (S.arg hcells) (t := 3) (k := k) (by omega) rfl (by kernel_rfl)) .nil)) (by kernel_rfl) ?_
    clear S; intro ac w β S
    refine RG.done rfl (nx_then (wp_seq (RG.start ?_)))
    refine S.quiet (k := 3) (keep := [0, 5, 6, 7, 13]) (m := 0) (σ' := ⟨[(0, .v (slv (cells).length pcells.1)), (5, .v (slv (cells).length pcells.1)), (6, .v (I ((cells).length : Int))), (7, .v (I (k : Int))), (13, .v (B (!(f_within (el cells k) 0 99))))], []⟩) (.cons (Q_call fun w hw => c_impl_within w (el cells k) 0 99) .nil) (by kernel_rfl) ?_
    clear S; intro ac w β S
    refine RG.done rfl (nx_then ?_)
    refine S.cond (e := (!(f_within (el cells k) 0 99))) (by kernel_rfl) (fun h3 => ?_) (fun h3 => ?_)
    · have h4 : (f_within (el cells k) 0 99) = false := not_t h3
      have g5 := within_f h4
      refine wp_seq (RG.start ?_)
      refine S.quiet (k := 1) (keep := [2]) (m := 0) (σ' := ⟨[(2, .v (B false))], []⟩) .nil (by kernel_rfl) ?_
      clear S; intro ac w β S
      refine RG.done rfl (nx_then (wp_ret (rt_block (rt_then (rt_then (rt_block (rt_then ?_)))))))
      refine S.ret (vs := [B false]) (by kernel_rfl) ?_
      exact ⟨retB (show false = f_pageOk cells by clear S; (first | rfl | (unfold f_pageOk; rw [all_end (by omega) he]; simp; done) | (unfold f_pageOk; rw [all_bad (k := k) (by omega) (by first | assumption | (simp_all <;> fail))]; simp; done) | (unfold f_pageOk; rw [all_end (by omega) he]; simp [*]; done) | (unfold f_pageOk; rw [all_end (by omega) he]; simp; omega))), S.chg⟩
    · have h6 : (f_within (el cells k) 0 99) = true := not_f h3
      have g7 := within_t h6
      refine wp_skip (nx_block (nx_then (RG.start ?_)))
      refine S.quiet (k := 2) (keep := [0, 5, 6, 7]) (m := 0) (σ' := ⟨[(0, .v (slv (cells).length pcells.1)), (5, .v (slv (cells).length pcells.1)), (6, .v (I ((cells).length : Int))), (7, .v (I ((k : Int) + 1)))], []⟩) (.cons (Q_add (x := (k : Int)) (y := 1) ⟨by omega, by omega⟩) .nil) (by kernel_rfl) ?_
      clear S; intro ac w β S
      refine RG.done rfl (nx_then ?_)
      replace S := S.prune (keep := [0, 5, 6, 7]) (m := 0) (σ' := ⟨[(0, .v (slv (cells).length pcells.1)), (5, .v (slv (cells).length pcells.1)), (6, .v (I ((cells).length : Int))), (7, .v (I ((k : Int) + 1)))], []⟩) (by kernel_rfl)
      refine ⟨(cells).length - (k + 1), by omega, k + 1, _, _, _, rfl, ?_, ?_, S.cast (by kernel_rfl)⟩
      · clear S; first | omega | (simp [*]; done) | (simp [*]; omega)
      · clear S; exact all_step (by omega) he (by first | assumption | (simp only [f_slotOk, f_within] at *; simp_all; done) | (simp_all; done) | (simp_all; omega))
  · have g8 : ¬ ((k : Int) < ((cells).length : Int)) := of_decide_eq_false h1
    refine wp_exit (ex_then (ex_then (ex_hit (nx_then (wp_seq (RG.start ?_))))))
    refine S.quiet (k := 4) (keep := [2]) (m := 0) (σ' := ⟨[(2, .v (B (((cells).length : Int) == 4)))], []⟩) .nil (by kernel_rfl) ?_
    clear S; intro ac w β S
    refine RG.done rfl (nx_then (wp_ret ?_))
    refine S.ret (vs := [B (((cells).length : Int) == 4)]) (by kernel_rfl) ?_
    exact ⟨retB (show (((cells).length : Int) == 4) = f_pageOk cells by clear S; (first | rfl | (unfold f_pageOk; rw [all_end (by omega) he]; simp; done) | (unfold f_pageOk; rw [all_bad (k := k) (by omega) (by first | assumption | (simp_all <;> fail))]; simp; done) | (unfold f_pageOk; rw [all_end (by omega) he]; simp [*]; done) | (unfold f_pageOk; rw [all_end (by omega) he]; simp; omega))), S.chg⟩

set_option maxRecDepth 100000 in
theorem c_impl_MemOk (w0 : World) (m : List (List Int)) (pm : LP (List Int)) (hm : GT.rd KK (Lt w0.heap.size) w0 m pm) (pages : Int) : Calls Try.prog 49 [slv (m).length pm.1, I pages].toArray w0 (fun e w' => e = .returned (B (f_memOk m pages)) ∧ Chg NoB w0 w') := by
  refine Calls.walk (args := [slv (m).length pm.1, I pages]) NoB Try.func49 rfl rfl ?_
  intro ac β S
  have hlem : m.length ≤ 4194304 := LRd.le hm
  refine wp_seq (RG.start ?_)
  refine S.quiet (k := 1) (keep := [0, 1]) (m := 0) (σ' := ⟨[(0, .v (slv (m).length pm.1)), (1, .v (I pages))], []⟩) .nil (by kernel_rfl) ?_
  clear S; intro ac w β S
  refine RG.done rfl (nx_then (wp_seq (wp_seq (RG.start ?_))))
  refine S.quiet (k := 3) (keep := [0, 1, 7, 8, 9]) (m := 0) (σ' := ⟨[(0, .v (slv (m).length pm.1)), (1, .v (I pages)), (7, .v (slv (m).length pm.1)), (8, .v (I ((m).length : Int))), (9, .v (I 0))], []⟩) .nil (by kernel_rfl) ?_
  clear S; intro ac w β S
  refine RG.done rfl (nx_then (wp_block ?_))
  replace S := S.prune (keep := [0, 1, 7, 8, 9]) (m := 0) (σ' := ⟨[(0, .v (slv (m).length pm.1)), (1, .v (I pages)), (7, .v (slv (m).length pm.1)), (8, .v (I ((m).length : Int))), (9, .v (I 0))], []⟩) (by kernel_rfl)
  refine wp_loop_down (fun mm ac w => ∃ (k : Nat)  (u : World) (N : Bl) (β : Nat → Nat), mm = (m).length - k ∧ (k ≤ (m).length) ∧ (((m).take k).all f_pageOk = true) ∧ St Try.prog Try.f49.ntmps w0 NoB u N β ⟨[(0, .v (slv (m).length pm.1)), (1, .v (I pages)), (7, .v (slv (m).length pm.1)), (8, .v (I ((m).length : Int))), (9, .v (I (k : Int)))], []⟩ ac w) _ ⟨0, _, _, _, rfl, (by first | omega | (simp; done) | (simp; omega)), (by simp), S.cast (by kernel_rfl)⟩ ?_
  clear S
  rintro mm ac w ⟨k, u, N, β, rfl, hk, he, S⟩
  refine wp_seq (RG.start ?_)
  refine S.quiet (k := 1) (keep := [0, 1, 7, 8, 9, 10]) (m := 0) (σ' := ⟨[(0, .v (slv (m).length pm.1)), (1, .v (I pages)), (7, .v (slv (m).length pm.1)), (8, .v (I ((m).length : Int))), (9, .v (I (k : Int))), (10, .v (B (decide ((k : Int) < ((m).length : Int)))))], []⟩) .nil (by kernel_rfl) ?_
  clear S; intro ac w β S
  refine RG.done rfl (nx_then (wp_seq ?_))
  refine S.cond (e := (decide ((k : Int) < ((m).length : Int)))) (by kernel_rfl) (fun h1 => ?_) (fun h1 => ?_)
  · have g2 : (k : Int) < ((m).length : Int) := of_decide_eq_true h1
    refine wp_skip (nx_then (wp_seq (wp_block (wp_seq (RG.start ?_)))))
    refine S.quiet (k := 3) (keep := [0, 1, 6, 7, 8, 9]) (m := 0) (σ' := ⟨[(0, .v (slv (m).length pm.1)), (1, .v (I pages)), (6, .v (slv ((el m k)).length (pm.2 k).1)), (7, .v (slv (m).length pm.1)), (8, .v (I ((m).length : Int))), (9, .v (I (k : Int)))], []⟩) (.cons (Q_idx (S.arg hm) (l := (m).length) (k := k) (i := (k : Int)) rfl rfl (by omega) Try.underlying31 (by kernel_rfl)) (.cons (Q_el1 (S.arg hm) (t := 24) (k := k) (by omega) rfl (by kernel_rfl)) .nil)) (by kernel_rfl) ?_
    clear S; intro ac w β S
    refine RG.done rfl (nx_then (wp_seq (RG.start ?_)))
    refine S.quiet (k := 3) (keep := [0, 1, 7, 8, 9, 15]) (m := 0) (σ' := ⟨[(0, .v (slv (m).length pm.1)), (1, .v (I pages)), (7, .v (slv (m).length pm.1)), (8, .v (I ((m).length : Int))), (9, .v (I (k : Int))), (15, .v (B (!(f_pageOk (el m k)))))], []⟩) (.cons (Q_call fun w hw => c_impl_PageOk w (el m k) (pm.2 k) (rd_of (LRd.el (S.arg hm) k (by omega)) hw)) .nil) (by kernel_rfl) ?_
    clear S; intro ac w β S
    refine RG.done rfl (nx_then ?_)
    refine S.cond (e := (!(f_pageOk (el m k)))) (by kernel_rfl) (fun h3 => ?_) (fun h3 => ?_)
    · have h4 : (f_pageOk (el m k)) = false := not_t h3
      refine wp_seq (RG.start ?_)
      refine S.quiet (k := 1) (keep := [4]) (m := 0) (σ' := ⟨[(4, .v (B false))], []⟩) .nil (by kernel_rfl) ?_
      clear S; intro ac w β S
      refine RG.done rfl (nx_then (wp_ret (rt_block (rt_then (rt_then (rt_block (rt_then ?_)))))))
      refine S.ret (vs := [B false]) (by kernel_rfl) ?_
      exact ⟨retB (show false = f_memOk m pages by clear S; (first | rfl | (unfold f_memOk; rw [all_end (by omega) he]; simp; done) | (unfold f_memOk; rw [all_bad (k := k) (by omega) (by first | assumption | (simp_all <;> fail))]; simp; done) | (unfold f_memOk; rw [all_end (by omega) he]; simp [*]; done) | (unfold f_memOk; rw [all_end (by omega) he]; simp; omega))), S.chg⟩
    · have h5 : (f_pageOk (el m k)) = true := not_f h3
      refine wp_skip (nx_block (nx_then (RG.start ?_)))
      refine S.quiet (k := 2) (keep := [0, 1, 7, 8, 9]) (m := 0) (σ' := ⟨[(0, .v (slv (m).length pm.1)), (1, .v (I pages)), (7, .v (slv (m).length pm.1)), (8, .v (I ((m).length : Int))), (9, .v (I ((k : Int) + 1)))], []⟩) (.cons (Q_add (x := (k : Int)) (y := 1) ⟨by omega, by omega⟩) .nil) (by kernel_rfl) ?_
      clear S; intro ac w β S
      refine RG.done rfl (nx_then ?_)
      replace S := S.prune (keep := [0, 1, 7, 8, 9]) (m := 0) (σ' := ⟨[(0, .v (slv (m).length pm.1)), (1, .v (I pages)), (7, .v (slv (m).length pm.1)), (8, .v (I ((m).length : Int))), (9, .v (I ((k : Int) + 1)))], []⟩) (by kernel_rfl)
      refine ⟨(m).length - (k + 1), by omega, k + 1, _, _, _, rfl, ?_, ?_, S.cast (by kernel_rfl)⟩
      · clear S; first | omega | (simp [*]; done) | (simp [*]; omega)
      · clear S; exact all_step (by omega) he (by first | assumption | (simp only [f_slotOk, f_within] at *; simp_all; done) | (simp_all; done) | (simp_all; omega))
  · have g6 : ¬ ((k : Int) < ((m).length : Int)) := of_decide_eq_false h1
    refine wp_exit (ex_then (ex_then (ex_hit (nx_then (wp_seq (RG.start ?_))))))
    refine S.quiet (k := 5) (keep := [4]) (m := 0) (σ' := ⟨[(4, .v (B (((m).length : Int) == pages)))], []⟩) .nil (by kernel_rfl) ?_
    clear S; intro ac w β S
    refine RG.done rfl (nx_then (wp_ret ?_))
    refine S.ret (vs := [B (((m).length : Int) == pages)]) (by kernel_rfl) ?_
    exact ⟨retB (show (((m).length : Int) == pages) = f_memOk m pages by clear S; (first | rfl | (unfold f_memOk; rw [all_end (by omega) he]; simp; done) | (unfold f_memOk; rw [all_bad (k := k) (by omega) (by first | assumption | (simp_all <;> fail))]; simp; done) | (unfold f_memOk; rw [all_end (by omega) he]; simp [*]; done) | (unfold f_memOk; rw [all_end (by omega) he]; simp; omega))), S.chg⟩

set_option maxRecDepth 100000 in
theorem c_impl_BareOk (w0 : World) (b : TBare) (pb : PBare) (hb : GT.rd KK (Lt w0.heap.size) w0 b pb) : Calls Try.prog 83 [GT.val b pb].toArray w0 (fun e w' => e = .returned (B (f_bareOk b)) ∧ Chg NoB w0 w') := by
  refine Calls.walk (args := [GT.val b pb]) NoB Try.func83 rfl rfl ?_
  intro ac β S
  have hleb_mem : b.mem.length ≤ 4194304 := LRd.le (RBare.mem (d := b) hb)
  have hleb_guests : b.guests.length ≤ 4194304 := LRd.le (RBare.guests (d := b) hb)
  have hleb_outs : b.outs.length ≤ 4194304 := LRd.le (RBare.outs (d := b) hb)
  refine wp_seq (RG.start ?_)
  refine S.quiet (k := 2) (keep := [1]) (m := 1) (σ' := ⟨[(1, .p 0 0)], [GT.cells b pb]⟩) .nil (by kernel_rfl) ?_
  clear S; intro ac w β S
  refine RG.done rfl (nx_then (wp_seq (wp_seq (RG.start ?_))))
  refine S.quiet (k := 4) (keep := [1, 6, 7, 8]) (m := 1) (σ' := ⟨[(1, .p 0 0), (6, .v (slv (b.guests).length pb.guests.1)), (7, .v (I ((b.guests).length : Int))), (8, .v (I 0))], [GT.cells b pb]⟩) .nil (by kernel_rfl) ?_
  clear S; intro ac w β S
  refine RG.done rfl (nx_then (wp_block ?_))
  replace S := S.prune (keep := [1, 6, 7, 8]) (m := 1) (σ' := ⟨[(1, .p 0 0), (6, .v (slv (b.guests).length pb.guests.1)), (7, .v (I ((b.guests).length : Int))), (8, .v (I 0))], [GT.cells b pb]⟩) (by kernel_rfl)
  refine wp_loop_down (fun mm ac w => ∃ (k : Nat)  (u : World) (N : Bl) (β : Nat → Nat), mm = b.guests.length - k ∧ (k ≤ b.guests.length) ∧ ((b.guests.take k).all f_guestOk = true) ∧ St Try.prog Try.f83.ntmps w0 NoB u N β ⟨[(1, .p 0 0), (6, .v (slv (b.guests).length pb.guests.1)), (7, .v (I ((b.guests).length : Int))), (8, .v (I (k : Int)))], [GT.cells b pb]⟩ ac w) _ ⟨0, _, _, _, rfl, (by first | omega | (simp; done) | (simp; omega)), (by simp), S.cast (by kernel_rfl)⟩ ?_
  clear S
  rintro mm ac w ⟨k, u, N, β, rfl, hk, he, S⟩
  refine wp_seq (RG.start ?_)
  refine S.quiet (k := 1) (keep := [1, 6, 7, 8, 9]) (m := 1) (σ' := ⟨[(1, .p 0 0), (6, .v (slv (b.guests).length pb.guests.1)), (7, .v (I ((b.guests).length : Int))), (8, .v (I (k : Int))), (9, .v (B (decide ((k : Int) < ((b.guests).length : Int)))))], [GT.cells b pb]⟩) .nil (by kernel_rfl) ?_
  clear S; intro ac w β S
  refine RG.done rfl (nx_then (wp_seq ?_))
  refine S.cond (e := (decide ((k : Int) < ((b.guests).length : Int)))) (by kernel_rfl) (fun h1 => ?_) (fun h1 => ?_)
  · have g2 : (k : Int) < ((b.guests).length : Int) := of_decide_eq_true h1
    refine wp_skip (nx_then (wp_seq (wp_block (wp_seq (RG.start ?_)))))
    refine S.quiet (k := 4) (keep := [1, 4, 6, 7, 8]) (m := 2) (σ' := ⟨[(1, .p 0 0), (4, .p 1 0), (6, .v (slv (b.guests).length pb.guests.1)), (7, .v (I ((b.guests).length : Int))), (8, .v (I (k : Int)))], [GT.cells b pb, GT.cells (el b.guests k) (pb.guests.2 k)]⟩) (.cons (Q_idx (RBare.guests (d := b) (S.arg hb)) (l := (b.guests).length) (k := k) (i := (k : Int)) rfl rfl (by omega) Try.underlying39 (by kernel_rfl)) (.cons (Q_el (RBare.guests (d := b) (S.arg hb)) (t := 117) (k := k) (by omega) rfl (by kernel_rfl) (by kernel_rfl)) .nil)) (by kernel_rfl) ?_
    clear S; intro ac w β S
    refine RG.done rfl (nx_then (wp_seq (RG.start ?_)))
    refine S.quiet (k := 3) (keep := [1, 6, 7, 8, 14]) (m := 1) (σ' := ⟨[(1, .p 0 0), (6, .v (slv (b.guests).length pb.guests.1)), (7, .v (I ((b.guests).length : Int))), (8, .v (I (k : Int))), (14, .v (B (!(f_guestOk (el b.guests k)))))], [GT.cells b pb]⟩) (.cons (Q_call fun w hw => c_impl_GuestOk w (el b.guests k) (pb.guests.2 k) (rd_of (LRd.el (RBare.guests (d := b) (S.arg hb)) k (by omega)) hw)) .nil) (by kernel_rfl) ?_
    clear S; intro ac w β S
    refine RG.done rfl (nx_then ?_)
    refine S.cond (e := (!(f_guestOk (el b.guests k)))) (by kernel_rfl) (fun h3 => ?_) (fun h3 => ?_)
    · have h4 : (f_guestOk (el b.guests k)) = false := not_t h3
      refine wp_seq (RG.start ?_)
      refine S.quiet (k := 1) (keep := [2]) (m := 0) (σ' := ⟨[(2, .v (B false))], []⟩) .nil (by kernel_rfl) ?_
      clear S; intro ac w β S
      refine RG.done rfl (nx_then (wp_ret (rt_block (rt_then (rt_then (rt_block (rt_then ?_)))))))
      refine S.ret (vs := [B false]) (by kernel_rfl) ?_
      exact ⟨retB (show false = f_bareOk b by clear S; (symm; rw [← Bool.not_eq_true]; intro hc; simp only [f_bareOk, Bool.and_eq_true, decide_eq_true_eq, beq_iff_eq] at hc; first | omega | (simp_all; done) | (simp_all; omega) | (have hx := all_el (k := k) hc.1.1.1.1 (by omega); simp_all; done))), S.chg⟩
    · have h5 : (f_guestOk (el b.guests k)) = true := not_f h3
      refine wp_skip (nx_block (nx_then (RG.start ?_)))
      refine S.quiet (k := 2) (keep := [1, 6, 7, 8]) (m := 1) (σ' := ⟨[(1, .p 0 0), (6, .v (slv (b.guests).length pb.guests.1)), (7, .v (I ((b.guests).length : Int))), (8, .v (I ((k : Int) + 1)))], [GT.cells b pb]⟩) (.cons (Q_add (x := (k : Int)) (y := 1) ⟨by omega, by omega⟩) .nil) (by kernel_rfl) ?_
      clear S; intro ac w β S
      refine RG.done rfl (nx_then ?_)
      replace S := S.prune (keep := [1, 6, 7, 8]) (m := 1) (σ' := ⟨[(1, .p 0 0), (6, .v (slv (b.guests).length pb.guests.1)), (7, .v (I ((b.guests).length : Int))), (8, .v (I ((k : Int) + 1)))], [GT.cells b pb]⟩) (by kernel_rfl)
      refine ⟨b.guests.length - (k + 1), by omega, k + 1, _, _, _, rfl, ?_, ?_, S.cast (by kernel_rfl)⟩
      · clear S; first | omega | (simp [*]; done) | (simp [*]; omega)
      · clear S; exact all_step (by omega) he (by first | assumption | simp_all)
  · have g6 : ¬ ((k : Int) < ((b.guests).length : Int)) := of_decide_eq_false h1
    refine wp_exit (ex_then (ex_then (ex_hit (nx_then (wp_seq (RG.start ?_))))))
    refine S.quiet (k := 4) (keep := [1, 19]) (m := 1) (σ' := ⟨[(1, .p 0 0), (19, .v (B (f_memOk b.mem 8)))], [GT.cells b pb]⟩) (.cons (Q_call fun w hw => c_impl_MemOk w b.mem pb.mem (rd_of (RBare.mem (d := b) (S.arg hb)) hw) 8) .nil) (by kernel_rfl) ?_
    clear S; intro ac w β S
    rcases Bool.eq_false_or_eq_true (f_memOk b.mem 8) with h7 | h7 <;> rw [h7] at S
    · refine S.quiet (k := 6) (keep := [1, 25]) (m := 1) (σ' := ⟨[(1, .p 0 0), (25, .v (B (f_within ((b.guests).length : Int) 1 2)))], [GT.cells b pb]⟩) (.cons (Q_call fun w hw => c_impl_within w ((b.guests).length : Int) 1 2) .nil) (by kernel_rfl) ?_
      clear S; intro ac w β S
      rcases Bool.eq_false_or_eq_true (f_within ((b.guests).length : Int) 1 2) with h8 | h8 <;> rw [h8] at S
      · have g9 := within_t h8
        refine S.quiet (k := 6) (keep := [1, 31]) (m := 1) (σ' := ⟨[(1, .p 0 0), (31, .v (B (decide (((b.outs).length : Int) ≤ 40))))], [GT.cells b pb]⟩) .nil (by kernel_rfl) ?_
        clear S; intro ac w β S
        rcases Bool.eq_false_or_eq_true (decide (((b.outs).length : Int) ≤ 40)) with h10 | h10 <;> rw [h10] at S
        · have g11 : ((b.outs).length : Int) ≤ 40 := of_decide_eq_true h10
          refine S.quiet (k := 5) (keep := [2]) (m := 0) (σ' := ⟨[(2, .v (B (f_within b.pend 0 255)))], []⟩) (.cons (Q_call fun w hw => c_impl_PendOk w b.pend) .nil) (by kernel_rfl) ?_
          clear S; intro ac w β S
          refine RG.done rfl (nx_then (wp_ret ?_))
          refine S.ret (vs := [B (f_within b.pend 0 255)]) (by kernel_rfl) ?_
          exact ⟨retB (show (f_within b.pend 0 255) = f_bareOk b by clear S; (first | rfl | (symm; rw [← Bool.not_eq_true]; intro hc; simp only [f_bareOk, Bool.and_eq_true, decide_eq_true_eq, beq_iff_eq] at hc; first | omega | (simp_all; done) | (simp_all; omega) | (have hx := all_el (k := k) hc.1.1.1.1 (by omega); simp_all; done)) | (symm; simp only [f_bareOk, Bool.and_eq_true, decide_eq_true_eq, beq_iff_eq]; (repeat' apply And.intro); all_goals first | assumption | omega | (simp_all; done) | (simp_all; omega) | (exact all_end (by omega) he)) | (rw [Bool.eq_iff_iff]; simp only [f_bareOk, Bool.and_eq_true, decide_eq_true_eq, beq_iff_eq]; refine ⟨fun hr => ?_, fun hc => ?_⟩ <;> ((repeat' apply And.intro); all_goals first | assumption | omega | (simp_all; done) | (simp_all; omega) | (exact all_end (by omega) he))))), S.chg⟩
        · have g12 : ¬ (((b.outs).length : Int) ≤ 40) := of_decide_eq_false h10
          refine S.quiet (k := 5) (keep := [2]) (m := 0) (σ' := ⟨[(2, .v (B false))], []⟩) .nil (by kernel_rfl) ?_
          clear S; intro ac w β S
          refine RG.done rfl (nx_then (wp_ret ?_))
          refine S.ret (vs := [B false]) (by kernel_rfl) ?_
          exact ⟨retB (show false = f_bareOk b by clear S; (symm; rw [← Bool.not_eq_true]; intro hc; simp only [f_bareOk, Bool.and_eq_true, decide_eq_true_eq, beq_iff_eq] at hc; first | omega | (simp_all; done) | (simp_all; omega) | (have hx := all_el (k := k) hc.1.1.1.1 (by omega); simp_all; done))), S.chg⟩
      · have g13 := within_f h8
        refine S.quiet (k := 11) (keep := [2]) (m := 0) (σ' := ⟨[(2, .v (B false))], []⟩) .nil (by kernel_rfl) ?_
        clear S; intro ac w β S
        refine RG.done rfl (nx_then (wp_ret ?_))
        refine S.ret (vs := [B false]) (by kernel_rfl) ?_
        exact ⟨retB (show false = f_bareOk b by clear S; (symm; rw [← Bool.not_eq_true]; intro hc; simp only [f_bareOk, Bool.and_eq_true, decide_eq_true_eq, beq_iff_eq] at hc; first | omega | (simp_all; done) | (simp_all; omega) | (have hx := all_el (k := k) hc.1.1.1.1 (by omega); simp_all; done))), S.chg⟩
    · refine S.quiet (k := 17) (keep := [2]) (m := 0) (σ' := ⟨[(2, .v (B false))], []⟩) .nil (by kernel_rfl) ?_
      clear S; intro ac w β S
      refine RG.done rfl (nx_then (wp_ret ?_))
      refine S.ret (vs := [B false]) (by kernel_rfl) ?_
      exact ⟨retB (show false = f_bareOk b by clear S; (symm; rw [← Bool.not_eq_true]; intro hc; simp only [f_bareOk, Bool.and_eq_true, decide_eq_true_eq, beq_iff_eq] at hc; first | omega | (simp_all; done) | (simp_all; omega) | (have hx := all_el (k := k) hc.1.1.1.1 (by omega); simp_all; done))), S.chg⟩

set_option maxRecDepth 100000 in
theorem c_impl_Posts (w0 : World) (c : TCtl) (n : Int) : Calls Try.prog 125 [GT.val c (), I n].toArray w0 (fun e w' => e = .returned (B (f_posts c n)) ∧ Chg NoB w0 w') := by
  refine Calls.walk (args := [GT.val c (), I n]) NoB Try.func125 rfl rfl ?_
  intro ac β S
  refine wp_seq (RG.start ?_)
  refine S.quiet (k := 2) (keep := [1, 2]) (m := 1) (σ' := ⟨[(1, .v (I n)), (2, .p 0 0)], [GT.cells c ()]⟩) .nil (by kernel_rfl) ?_
  clear S; intro ac w β S
  refine RG.done rfl (nx_then (wp_seq (RG.start ?_)))
  refine S.quiet (k := 3) (keep := [1, 2, 7]) (m := 1) (σ' := ⟨[(1, .v (I n)), (2, .p 0 0), (7, .v (B (f_ctlOk c)))], [GT.cells c ()]⟩) (.cons (Q_call fun w hw => c_impl_CtlOk w c) .nil) (by kernel_rfl) ?_
  clear S; intro ac w β S
  rcases Bool.eq_false_or_eq_true (f_ctlOk c) with h1 | h1 <;> rw [h1] at S
  · refine S.quiet (k := 4) (keep := [1, 2, 11]) (m := 1) (σ' := ⟨[(1, .v (I n)), (2, .p 0 0), (11, .v (B (f_within n 0 7)))], [GT.cells c ()]⟩) (.cons (Q_call fun w hw => c_impl_within w n 0 7) .nil) (by kernel_rfl) ?_
    clear S; intro ac w β S
    rcases Bool.eq_false_or_eq_true (f_within n 0 7) with h2 | h2 <;> rw [h2] at S
    · have g3 := within_t h2
      refine S.quiet (k := 8) (keep := [4]) (m := 0) (σ' := ⟨[(4, .v (B ((land64 (shr64 c.post n) 1) == 1)))], []⟩) (.cons (Q_shr (yk := .i64) (x := c.post) (y := n) (by omega)) (.cons (Q_land64 (x := (shr64 c.post n)) (y := 1)) .nil)) (by kernel_rfl) ?_
      clear S; intro ac w β S
      refine RG.done rfl (nx_then (wp_ret ?_))
      refine S.ret (vs := [B ((land64 (shr64 c.post n) 1) == 1)]) (by kernel_rfl) ?_
      exact ⟨retB (show ((land64 (shr64 c.post n) 1) == 1) = f_posts c n by clear S; first | rfl | (simp [f_posts, *]; done) | (simp [f_posts, *]; omega) | (simp_all [f_posts]; done) | (simp_all [f_posts]; omega)), S.chg⟩
    · have g4 := within_f h2
      refine S.quiet (k := 8) (keep := [4]) (m := 0) (σ' := ⟨[(4, .v (B false))], []⟩) .nil (by kernel_rfl) ?_
      clear S; intro ac w β S
      refine RG.done rfl (nx_then (wp_ret ?_))
      refine S.ret (vs := [B false]) (by kernel_rfl) ?_
      exact ⟨retB (show false = f_posts c n by clear S; first | rfl | (simp [f_posts, *]; done) | (simp [f_posts, *]; omega) | (simp_all [f_posts]; done) | (simp_all [f_posts]; omega)), S.chg⟩
  · refine S.quiet (k := 12) (keep := [4]) (m := 0) (σ' := ⟨[(4, .v (B false))], []⟩) .nil (by kernel_rfl) ?_
    clear S; intro ac w β S
    refine RG.done rfl (nx_then (wp_ret ?_))
    refine S.ret (vs := [B false]) (by kernel_rfl) ?_
    exact ⟨retB (show false = f_posts c n by clear S; first | rfl | (simp [f_posts, *]; done) | (simp [f_posts, *]; omega) | (simp_all [f_posts]; done) | (simp_all [f_posts]; omega)), S.chg⟩

set_option maxRecDepth 100000 in
theorem c_impl_PostedTo (w0 : World) (b : TBare) (pb : PBare) (hb : GT.rd KK (Lt w0.heap.size) w0 b pb) (n : Int) : Calls Try.prog 84 [GT.val b pb, I n].toArray w0 (Ret1 NoB w0 (f_postedTo b n : List Int)) := by
  refine Calls.walk (args := [GT.val b pb, I n]) NoB Try.func84 rfl rfl ?_
  intro ac β S
  have hleb_mem : b.mem.length ≤ 4194304 := LRd.le (RBare.mem (d := b) hb)
  have hleb_guests : b.guests.length ≤ 4194304 := LRd.le (RBare.guests (d := b) hb)
  have hleb_outs : b.outs.length ≤ 4194304 := LRd.le (RBare.outs (d := b) hb)
  refine wp_seq (RG.start ?_)
  refine S.quiet (k := 2) (keep := [1, 2]) (m := 1) (σ' := ⟨[(1, .v (I n)), (2, .p 0 0)], [GT.cells b pb]⟩) .nil (by kernel_rfl) ?_
  clear S; intro ac w β S
  refine RG.done rfl (nx_then (wp_seq (RG.start ?_)))
  refine RG.op rfl (S.bs0 (α := Int) (d := 8) (by kernel_rfl) ?_)
  clear S; intro ac w N q1 F2 S up o3 d4
  clear up d4
  refine S.quiet (k := 1) (keep := [1, 2, 5]) (m := 1) (σ' := ⟨[(1, .v (I n)), (2, .p 0 0), (5, .v (slv 0 q1.1))], [GT.cells b pb]⟩) .nil (by kernel_rfl) ?_
  clear S; intro ac w β S
  refine RG.done rfl (nx_then (wp_seq (wp_seq (RG.start ?_))))
  refine S.quiet (k := 4) (keep := [1, 5, 10, 11, 12]) (m := 0) (σ' := ⟨[(1, .v (I n)), (5, .v (slv 0 q1.1)), (10, .v (slv (b.guests).length pb.guests.1)), (11, .v (I ((b.guests).length : Int))), (12, .v (I 0))], []⟩) .nil (by kernel_rfl) ?_
  clear S; intro ac w β S
  refine RG.done rfl (nx_then (wp_block ?_))
  replace S := S.prune (keep := [1, 5, 10, 11, 12]) (m := 0) (σ' := ⟨[(1, .v (I n)), (5, .v (slv 0 q1.1)), (10, .v (slv (b.guests).length pb.guests.1)), (11, .v (I ((b.guests).length : Int))), (12, .v (I 0))], []⟩) (by kernel_rfl)
  refine wp_loop_down (fun mm ac w => ∃ (k : Nat) (acc : List Int) (q5 : GT.Ptr (List Int)) (F6 : Bl) (u : World) (N : Bl) (β : Nat → Nat), mm = (b.guests).length - k ∧ (k ≤ (b.guests).length) ∧ (acc = f_idx k (fun i => f_posts (el b.guests i).ctl n)) ∧ St Try.prog Try.f84.ntmps w0 NoB u N β ⟨[(1, .v (I n)), (5, .v (slv (acc).length q5.1)), (10, .v (slv (b.guests).length pb.guests.1)), (11, .v (I ((b.guests).length : Int))), (12, .v (I (k : Int)))], []⟩ ac w ∧ Ow w0 NoB u N F6 acc q5) _ ⟨0, ([] : List Int), q1, F2, _, _, _, rfl, (by first | omega | (simp; done) | (simp; omega)), (by rfl), S.cast (by kernel_rfl), o3⟩ ?_
  clear S o3
  rintro mm ac w ⟨k, acc, q5, F6, u, N, β, rfl, hk, hacc, S, o7⟩
  have hlacc : acc.length ≤ k := by rw [hacc]; exact idx_len _ _
  refine wp_seq (RG.start ?_)
  refine S.quiet (k := 1) (keep := [1, 5, 10, 11, 12, 13]) (m := 0) (σ' := ⟨[(1, .v (I n)), (5, .v (slv (acc).length q5.1)), (10, .v (slv (b.guests).length pb.guests.1)), (11, .v (I ((b.guests).length : Int))), (12, .v (I (k : Int))), (13, .v (B (decide ((k : Int) < ((b.guests).length : Int)))))], []⟩) .nil (by kernel_rfl) ?_
  clear S; intro ac w β S
  refine RG.done rfl (nx_then (wp_seq ?_))
  refine S.cond (e := (decide ((k : Int) < ((b.guests).length : Int)))) (by kernel_rfl) (fun h8 => ?_) (fun h8 => ?_)
  · have g9 : (k : Int) < ((b.guests).length : Int) := of_decide_eq_true h8
    refine wp_skip (nx_then (wp_seq (wp_block (wp_seq (RG.start ?_)))))
    refine S.quiet (k := 6) (keep := [1, 5, 6, 7, 10, 11, 12]) (m := 1) (σ' := ⟨[(1, .v (I n)), (5, .v (slv (acc).length q5.1)), (6, .v (I (k : Int))), (7, .p 0 0), (10, .v (slv (b.guests).length pb.guests.1)), (11, .v (I ((b.guests).length : Int))), (12, .v (I (k : Int)))], [GT.cells (el b.guests k) (pb.guests.2 k)]⟩) (.cons (Q_idx (RBare.guests (d := b) (S.arg hb)) (l := (b.guests).length) (k := k) (i := (k : Int)) rfl rfl (by omega) Try.underlying39 (by kernel_rfl)) (.cons (Q_el (RBare.guests (d := b) (S.arg hb)) (t := 117) (k := k) (by omega) rfl (by kernel_rfl) (by kernel_rfl)) .nil)) (by kernel_rfl) ?_
    clear S; intro ac w β S
    refine RG.done rfl (nx_then (wp_seq (RG.start ?_)))
    refine S.quiet (k := 4) (keep := [1, 5, 6, 10, 11, 12, 20]) (m := 0) (σ' := ⟨[(1, .v (I n)), (5, .v (slv (acc).length q5.1)), (6, .v (I (k : Int))), (10, .v (slv (b.guests).length pb.guests.1)), (11, .v (I ((b.guests).length : Int))), (12, .v (I (k : Int))), (20, .v (B (f_posts ((el b.guests k).ctl) n)))], []⟩) (.cons (Q_call fun w hw => c_impl_Posts w ((el b.guests k).ctl) n) .nil) (by kernel_rfl) ?_
    clear S; intro ac w β S
    refine RG.done rfl (nx_then ?_)
    refine S.cond (e := (f_posts ((el b.guests k).ctl) n)) (by kernel_rfl) (fun h10 => ?_) (fun h10 => ?_)
    · refine RG.start ?_
      refine S.quiet (k := 2) (keep := [1, 10, 11, 12, 21, 22]) (m := 0) (σ' := ⟨[(1, .v (I n)), (10, .v (slv (b.guests).length pb.guests.1)), (11, .v (I ((b.guests).length : Int))), (12, .v (I (k : Int))), (21, .v (slv (acc).length q5.1)), (22, .v (I (k : Int)))], []⟩) .nil (by kernel_rfl) ?_
      clear S; intro ac w β S
      refine RG.op rfl (S.bs1 (α := Int) (x := (k : Int)) (p := ()) (F := NoB) ⟨by omega, by omega⟩ (fun b h => False.elim h) (fun b h => False.elim h) (d := 23) (by kernel_rfl) ?_)
      clear S; intro ac w N q11 F12 S up o13 d14
      have d15 : Disj F6 F12 := d14 _ (fun b _ h => False.elim h) o7.sub
      replace o7 := o7.up up
      clear up d14
      refine RG.op rfl (S.appFlat (α := Int) o7 (o13.rn) (fun _ _ h => h) (by' := 8) (d := 24) (lx := (acc).length) (ly := 1) rfl rfl (by kernel_rfl) (show _ ≤ 4194304 by simp only [List.length_append, List.length_cons, List.length_nil]; omega) ?_)
      clear S; intro ac w N q16 F17 S up o18 d19
      have d20 : Disj F12 F17 := d19 _ (Disj.symm d15) o13.sub
      replace o13 := o13.upF (Disj.symm d15) up
      clear up d19
      refine S.quiet (k := 1) (keep := [1, 5, 10, 11, 12]) (m := 0) (σ' := ⟨[(1, .v (I n)), (5, .v (slv ((acc ++ [(k : Int)])).length q16.1)), (10, .v (slv (b.guests).length pb.guests.1)), (11, .v (I ((b.guests).length : Int))), (12, .v (I (k : Int)))], []⟩) .nil (by kernel_rfl) ?_
      clear S; intro ac w β S
      refine RG.done rfl (nx_block (nx_then (RG.start ?_)))
      refine S.quiet (k := 2) (keep := [1, 5, 10, 11, 12]) (m := 0) (σ' := ⟨[(1, .v (I n)), (5, .v (slv ((acc ++ [(k : Int)])).length q16.1)), (10, .v (slv (b.guests).length pb.guests.1)), (11, .v (I ((b.guests).length : Int))), (12, .v (I ((k : Int) + 1)))], []⟩) (.cons (Q_add (x := (k : Int)) (y := 1) ⟨by omega, by omega⟩) .nil) (by kernel_rfl) ?_
      clear S; intro ac w β S
      refine RG.done rfl (nx_then ?_)
      replace S := S.prune (keep := [1, 5, 10, 11, 12]) (m := 0) (σ' := ⟨[(1, .v (I n)), (5, .v (slv ((acc ++ [(k : Int)])).length q16.1)), (10, .v (slv (b.guests).length pb.guests.1)), (11, .v (I ((b.guests).length : Int))), (12, .v (I ((k : Int) + 1)))], []⟩) (by kernel_rfl)
      refine ⟨(b.guests).length - (k + 1), by omega, k + 1, (acc ++ [(k : Int)]), q16, F17, _, _, _, rfl, ?_, ?_, S.cast (by kernel_rfl), o18⟩
      · clear S; first | omega | (simp [*]; done) | (simp [*]; omega)
      · clear S; (first | (rw [idx_step_t (by first | assumption | (simp [*]; done) | (simp; omega)), hacc]; done) | (rw [idx_step_f (by first | assumption | (simp [*]; done) | (simp; omega)), hacc]; done) | (rw [idx_step_t (by simp_all <;> fail), hacc]; done) | (rw [idx_step_f (by simp_all <;> fail), hacc]; done))
    · refine wp_skip (nx_block (nx_then (RG.start ?_)))
      refine S.quiet (k := 2) (keep := [1, 5, 10, 11, 12]) (m := 0) (σ' := ⟨[(1, .v (I n)), (5, .v (slv (acc).length q5.1)), (10, .v (slv (b.guests).length pb.guests.1)), (11, .v (I ((b.guests).length : Int))), (12, .v (I ((k : Int) + 1)))], []⟩) (.cons (Q_add (x := (k : Int)) (y := 1) ⟨by omega, by omega⟩) .nil) (by kernel_rfl) ?_
      clear S; intro ac w β S
      refine RG.done rfl (nx_then ?_)
      replace S := S.prune (keep := [1, 5, 10, 11, 12]) (m := 0) (σ' := ⟨[(1, .v (I n)), (5, .v (slv (acc).length q5.1)), (10, .v (slv (b.guests).length pb.guests.1)), (11, .v (I ((b.guests).length : Int))), (12, .v (I ((k : Int) + 1)))], []⟩) (by kernel_rfl)
      refine ⟨(b.guests).length - (k + 1), by omega, k + 1, acc, q5, F6, _, _, _, rfl, ?_, ?_, S.cast (by kernel_rfl), o7⟩
      · clear S; first | omega | (simp [*]; done) | (simp [*]; omega)
      · clear S; (first | (rw [idx_step_t (by first | assumption | (simp [*]; done) | (simp; omega)), hacc]; done) | (rw [idx_step_f (by first | assumption | (simp [*]; done) | (simp; omega)), hacc]; done) | (rw [idx_step_t (by simp_all <;> fail), hacc]; done) | (rw [idx_step_f (by simp_all <;> fail), hacc]; done))
  · have g21 : ¬ ((k : Int) < ((b.guests).length : Int)) := of_decide_eq_false h8
    refine wp_exit (ex_then (ex_then (ex_hit (nx_then (wp_seq (RG.start ?_))))))
    refine S.quiet (k := 2) (keep := [4]) (m := 0) (σ' := ⟨[(4, .v (slv (acc).length q5.1))], []⟩) .nil (by kernel_rfl) ?_
    clear S; intro ac w β S
    refine RG.done rfl (nx_then (wp_ret ?_))
    refine S.ret (vs := [slv (acc).length q5.1]) (by kernel_rfl) ?_
    exact ret1_of S (show f_postedTo b n = acc by clear S; (unfold f_postedTo; rw [hacc, show b.guests.length = k by omega])) rfl o7

set_option maxRecDepth 100000 in
theorem c_impl_PostIrq (w0 : World) (p : Int) (hp : In64 p) (n : Int) : Calls Try.prog 85 [I p, I n].toArray w0 (fun e w' => e = .returned (.tuple #[I ((f_postIrq p n).1), B ((f_postIrq p n).2)]) ∧ Chg NoB w0 w') := by
  refine Calls.walk (args := [I p, I n]) NoB Try.func85 rfl rfl ?_
  intro ac β S
  have hlop := hp.lo; have hhip := hp.hi
  refine wp_seq (RG.start ?_)
  refine S.quiet (k := 2) (keep := [0, 1]) (m := 0) (σ' := ⟨[(0, .v (I p)), (1, .v (I n))], []⟩) .nil (by kernel_rfl) ?_
  clear S; intro ac w β S
  refine RG.done rfl (nx_then (wp_seq (wp_seq (RG.start ?_))))
  refine S.quiet (k := 4) (keep := [0, 1, 9]) (m := 0) (σ' := ⟨[(0, .v (I p)), (1, .v (I n)), (9, .v (B (!(f_within p 0 255))))], []⟩) (.cons (Q_call fun w hw => c_impl_PendOk w p) .nil) (by kernel_rfl) ?_
  clear S; intro ac w β S
  rcases Bool.eq_false_or_eq_true (!(f_within p 0 255)) with h1 | h1 <;> rw [h1] at S
  · have h2 : (f_within p 0 255) = false := not_t h1
    have g3 := within_f h2
    refine S.quiet (k := 4) (keep := [0, 1, 13]) (m := 0) (σ' := ⟨[(0, .v (I p)), (1, .v (I n)), (13, .v (B true))], []⟩) .nil (by kernel_rfl) ?_
    clear S; intro ac w β S
    refine RG.done rfl (nx_then ?_)
    refine S.cond (e := true) (by kernel_rfl) (fun _ => ?_) (fun hx => by cases hx)
    refine wp_seq (RG.start ?_)
    refine S.quiet (k := 3) (keep := [4, 5]) (m := 0) (σ' := ⟨[(4, .v (I p)), (5, .v (B false))], []⟩) .nil (by kernel_rfl) ?_
    clear S; intro ac w β S
    refine RG.done rfl (nx_then (wp_ret (rt_then ?_)))
    refine S.ret (vs := [I p, B false]) (by kernel_rfl) ?_
    exact ⟨ret2v (eqI (show p = (f_postIrq p n).1 by clear S; (unfold f_postIrq; (repeat' split) <;> first | rfl | (exfalso; omega) | (exfalso; simp_all; done) | (exfalso; simp_all; omega)))) (eqB (show false = (f_postIrq p n).2 by clear S; (unfold f_postIrq; (repeat' split) <;> first | rfl | (exfalso; omega) | (exfalso; simp_all; done) | (exfalso; simp_all; omega)))), S.chg⟩
  · have h4 : (f_within p 0 255) = true := not_f h1
    have g5 := within_t h4
    refine S.quiet (k := 4) (keep := [0, 1, 13]) (m := 0) (σ' := ⟨[(0, .v (I p)), (1, .v (I n)), (13, .v (B (!(f_within n 0 7))))], []⟩) (.cons (Q_call fun w hw => c_impl_within w n 0 7) .nil) (by kernel_rfl) ?_
    clear S; intro ac w β S
    refine RG.done rfl (nx_then ?_)
    refine S.cond (e := (!(f_within n 0 7))) (by kernel_rfl) (fun h6 => ?_) (fun h6 => ?_)
    · have h7 : (f_within n 0 7) = false := not_t h6
      have g8 := within_f h7
      refine wp_seq (RG.start ?_)
      refine S.quiet (k := 3) (keep := [4, 5]) (m := 0) (σ' := ⟨[(4, .v (I p)), (5, .v (B false))], []⟩) .nil (by kernel_rfl) ?_
      clear S; intro ac w β S
      refine RG.done rfl (nx_then (wp_ret (rt_then ?_)))
      refine S.ret (vs := [I p, B false]) (by kernel_rfl) ?_
      exact ⟨ret2v (eqI (show p = (f_postIrq p n).1 by clear S; (unfold f_postIrq; (repeat' split) <;> first | rfl | (exfalso; omega) | (exfalso; simp_all; done) | (exfalso; simp_all; omega)))) (eqB (show false = (f_postIrq p n).2 by clear S; (unfold f_postIrq; (repeat' split) <;> first | rfl | (exfalso; omega) | (exfalso; simp_all; done) | (exfalso; simp_all; omega)))), S.chg⟩
    · have h9 : (f_within n 0 7) = true := not_f h6
      have g10 := within_t h9
      refine wp_skip (nx_then (wp_seq (RG.start ?_)))
      refine S.quiet (k := 6) (keep := [4, 5]) (m := 0) (σ' := ⟨[(4, .v (I (lor64 p (shl64 1 n)))), (5, .v (B true))], []⟩) (.cons (Q_shl (yk := .i64) (x := 1) (y := n) (by omega)) (.cons (Q_lor64 (x := p) (y := (shl64 1 n))) .nil)) (by kernel_rfl) ?_
      clear S; intro ac w β S
      refine RG.done rfl (nx_then (wp_ret ?_))
      refine S.ret (vs := [I (lor64 p (shl64 1 n)), B true]) (by kernel_rfl) ?_
      exact ⟨ret2v (eqI (show (lor64 p (shl64 1 n)) = (f_postIrq p n).1 by clear S; (unfold f_postIrq; (repeat' split) <;> first | rfl | (exfalso; omega) | (exfalso; simp_all; done) | (exfalso; simp_all; omega)))) (eqB (show true = (f_postIrq p n).2 by clear S; (unfold f_postIrq; (repeat' split) <;> first | rfl | (exfalso; omega) | (exfalso; simp_all; done) | (exfalso; simp_all; omega)))), S.chg⟩

end Go.Proofs.Ytpjhamcanhnfjaa
